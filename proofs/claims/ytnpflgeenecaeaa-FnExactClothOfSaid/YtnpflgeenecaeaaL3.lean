/- Contracts of what the laws do with cloths: marks written over a result, and looked at again.
Conditions: none. -/
import Derived.Test.YtnpflgeenecaeaaL2
namespace Go.Proofs.Ytnpflgeenecaeaa
set_option linter.all false
open Go Go.Awp
set_option maxRecDepth 100000
set_option maxHeartbeats 4000000
set_option pp.deepTerms false
set_option pp.deepTerms.threshold 8

theorem ford_refl {k : FloatKind} {x : Nat} (h : nanB k x = false) : ford k x x = some .eq := by
  unfold ford Ieee.Format.order
  unfold nanB FloatKind.decode at h
  cases hd : k.format.read x with
  | number s m e => simp [Ieee.Datum.order]
  | infinity s => simp [Ieee.Datum.order]
  | nan s t => rw [hd] at h; cases h
@[simp] theorem ford_fint (k : FloatKind) (n : Int) : ford k (fint k n) (fint k n) = some .eq := ford_refl (fint_num k n)
theorem c0_markVectorS (l : List V) (n : Nat) (k : Nat) (hn : n = l.length) (h : l.length ≤ 1048576) (hk : k ≤ 1000000000) : Fun Try.prog 39 [.slc 0 0 n 3, .int .i64 k] [.blk false false 57 (cVs l)] (.int .i64 (k + 3 * n : Nat)) [.blk false false 57 (cVs (markV k n))] := by
  subst hn
  have hl : (markV k l.length).length = l.length := by simp
  refine FnSpec.walk dr_ok Try.func39 rfl (by kernel_rfl) rfl rfl rfl (by simp) ?_
  simp
  refine loopG_of (α := Nat × Nat) (fun x => x.1 ≤ l.length ∧ x.2 = k + 3 * x.1) (fun x => l.length - x.1) (fun x => [(0, .slc 0 0 l.length 3), (1, .int .i64 x.2), (5, .int .i64 x.1)])
    (fun x => [.blk false false 57 (cVs (mixN (markV k l.length) l x.1))]) (0, k) ⟨by simp, by simp⟩ (weak_UH (by simp) (by simp)) fun x ⟨hx, hx2⟩ => ?_
  obtain ⟨i, m⟩ := x
  simp only at hx hx2
  have hw := nat_wrap (k := i) (by omega)
  have hw1 : IntKind.i64.wrap ((m : Int) + 1) = (m : Int) + 1 := wrap64 (by omega) (by omega)
  have hw2 : IntKind.i64.wrap ((m : Int) + 1 + 1) = (m : Int) + 1 + 1 := wrap64 (by omega) (by omega)
  have hw3 : IntKind.i64.wrap ((m : Int) + 1 + 1 + 1) = (m : Int) + 1 + 1 + 1 := wrap64 (by omega) (by omega)
  have hm := mixN_length i hl
  by_cases c : i < l.length
  · simp [c, hw, hw1, hw2, hw3, hm]
    refine ⟨by omega, by omega, by omega, loopK_next (i + 1, m + 3) ?_ ?_ (weak_UH ?_ ?_)⟩
    · simp; omega
    · simp; omega
    · rw [mixN_set (by simpa using c) hl (by subst hx2; simp [markV, Int.add_assoc])]
    · simp; omega
  · obtain rfl : i = l.length := by omega
    subst hx2
    simp
    rw [mixN_all (by omega) (by omega)]
    (refine endG_keepT [] ?_ ?_ ?_ ?_ ?_ ?_ ?_ ⟨rfl, rfl⟩ ?_ <;> simp)
theorem c0_markThreadS (l : List Th) (n : Nat) (k : Nat) (hn : n = l.length) (h : l.length ≤ 1048576) (hk : k ≤ 1000000000) : Fun Try.prog 40 [.slc 0 0 n 3, .int .i64 k] [.blk false false 77 (cTs l)] (.int .i64 (k + 3 * n : Nat)) [.blk false false 77 (cTs (markT k n))] := by
  subst hn
  have hl : (markT k l.length).length = l.length := by simp
  refine FnSpec.walk dr_ok Try.func40 rfl (by kernel_rfl) rfl rfl rfl (by simp) ?_
  simp
  refine loopG_of (α := Nat × Nat) (fun x => x.1 ≤ l.length ∧ x.2 = k + 3 * x.1) (fun x => l.length - x.1) (fun x => [(0, .slc 0 0 l.length 3), (1, .int .i64 x.2), (5, .int .i64 x.1)])
    (fun x => [.blk false false 77 (cTs (mixN (markT k l.length) l x.1))]) (0, k) ⟨by simp, by simp⟩ (weak_UH (by simp) (by simp)) fun x ⟨hx, hx2⟩ => ?_
  obtain ⟨i, m⟩ := x
  simp only at hx hx2
  have hw := nat_wrap (k := i) (by omega)
  have hw0 : IntKind.i64.wrap (m : Int) = (m : Int) := wrap64 (by omega) (by omega)
  have hw1 : IntKind.i64.wrap ((m : Int) + 1) = (m : Int) + 1 := wrap64 (by omega) (by omega)
  have hw2 : IntKind.i64.wrap ((m : Int) + 1 + 1) = (m : Int) + 1 + 1 := wrap64 (by omega) (by omega)
  have hw3 : IntKind.i64.wrap ((m : Int) + 1 + 1 + 1) = (m : Int) + 1 + 1 + 1 := wrap64 (by omega) (by omega)
  have hm := mixN_length i hl
  by_cases c : i < l.length
  · simp [c, hw, hw0, hw1, hw2, hw3, hm]
    refine ⟨by omega, by omega, by omega, loopK_next (i + 1, m + 3) ?_ ?_ (weak_UH ?_ ?_)⟩
    · simp; omega
    · simp; omega
    · rw [mixN_set (by simpa using c) hl (by subst hx2; simp [markT, Int.add_assoc])]
    · simp; omega
  · obtain rfl : i = l.length := by omega
    subst hx2
    simp
    rw [mixN_all (by omega) (by omega)]
    (refine endG_keepT [] ?_ ?_ ?_ ?_ ?_ ?_ ?_ ⟨rfl, rfl⟩ ?_ <;> simp)
theorem c0_markInt64S (l : List Int) (n : Nat) (k : Nat) (hn : n = l.length) (h : l.length ≤ 1048576) (hk : k ≤ 1000000000) : Fun Try.prog 13 [.slc 0 0 n 1, .int .i64 k] [.blk false false 2 (cIs l)] (.int .i64 (k + n : Nat)) [.blk false false 2 (cIs (markI k n))] := by
  subst hn
  have hl : (markI k l.length).length = l.length := by simp
  refine FnSpec.walk dr_ok Try.func13 rfl (by kernel_rfl) rfl rfl rfl (by simp) ?_
  simp
  refine loopG_of (α := Nat × Nat) (fun x => x.1 ≤ l.length ∧ x.2 = k + x.1) (fun x => l.length - x.1) (fun x => [(0, .slc 0 0 l.length 1), (1, .int .i64 x.2), (5, .int .i64 x.1)])
    (fun x => [.blk false false 2 (cIs (mixN (markI k l.length) l x.1))]) (0, k) ⟨by simp, by simp⟩ (weak_UH (by simp) (by simp)) fun x ⟨hx, hx2⟩ => ?_
  obtain ⟨i, m⟩ := x
  simp only at hx hx2
  have hw := nat_wrap (k := i) (by omega)
  have hw0 : IntKind.i64.wrap (m : Int) = (m : Int) := wrap64 (by omega) (by omega)
  have hw1 : IntKind.i64.wrap ((m : Int) + 1) = (m : Int) + 1 := wrap64 (by omega) (by omega)
  have hm := mixN_length i hl
  by_cases c : i < l.length
  · simp [c, hw, hw0, hw1, hm]
    refine ⟨by omega, loopK_next (i + 1, m + 1) ?_ ?_ (weak_UH ?_ ?_)⟩
    · simp; omega
    · simp; omega
    · rw [mixN_set (by simpa using c) hl (by subst hx2; simp [markI])]
    · simp
  · obtain rfl : i = l.length := by omega
    subst hx2
    simp
    rw [mixN_all (by omega) (by omega)]
    (refine endG_keepT [] ?_ ?_ ?_ ?_ ?_ ?_ ?_ ⟨rfl, rfl⟩ ?_ <;> simp)
-- what is marked is looked at again
theorem c0_heldVectorS (n : Nat) (k : Nat) (h : n ≤ 1048576) (hk : k ≤ 1000000000) : Fun Try.prog 57 [.view false (cVs (markV k n)) n, .int .i64 k] [] (.int .i64 (k + 3 * n : Nat)) [] := by
  have hl : (markV k n).length = n := by simp
  refine FnSpec.walkF dr_ok Try.func57 rfl (by kernel_rfl) rfl rfl rfl (by simp) ?_
  simp
  refine loopG_of (α := Nat × Nat) (fun x => x.1 ≤ n ∧ x.2 = k + 3 * x.1) (fun x => n - x.1) (fun x => [(0, .view false (cVs (markV k n)) n), (1, .int .i64 x.2), (5, .int .i64 x.1)]) (fun x => []) (0, k) ⟨by simp, by simp⟩ (weak_UH (by simp) (by simp)) fun x ⟨hx, hx2⟩ => ?_
  obtain ⟨i, m⟩ := x
  simp only at hx hx2
  have hw := nat_wrap (k := i) (by omega)
  have hw1 : IntKind.i64.wrap ((m : Int) + 1) = (m : Int) + 1 := wrap64 (by omega) (by omega)
  have hw2 : IntKind.i64.wrap ((m : Int) + 1 + 1) = (m : Int) + 1 + 1 := wrap64 (by omega) (by omega)
  have hw3 : IntKind.i64.wrap ((m : Int) + 1 + 1 + 1) = (m : Int) + 1 + 1 + 1 := wrap64 (by omega) (by omega)
  by_cases c : i < n
  · have c' : i < (markV k n).length := by simpa using c
    have e : (markV k n)[i] = (fint .f32 m, fint .f32 (m + 1 : Int), fint .f32 (m + 1 + 1 : Int)) := by subst hx2; simp [markV, Int.add_assoc]
    simp [c, c', hw, hw1, hw2, hw3, e]
    refine loopK_next (i + 1, m + 3) ?_ ?_ (weak_UH ?_ ?_)
    · simp; omega
    · simp; omega
    · rfl
    · simp; omega
  · obtain rfl : i = n := by omega
    subst hx2
    simp
theorem c0_heldThreadS (n : Nat) (k : Nat) (h : n ≤ 1048576) (hk : k ≤ 1000000000) : Fun Try.prog 58 [.view false (cTs (markT k n)) n, .int .i64 k] [] (.int .i64 (k + 3 * n : Nat)) [] := by
  have hl : (markT k n).length = n := by simp
  refine FnSpec.walkF dr_ok Try.func58 rfl (by kernel_rfl) rfl rfl rfl (by simp) ?_
  simp
  refine loopG_of (α := Nat × Nat) (fun x => x.1 ≤ n ∧ x.2 = k + 3 * x.1) (fun x => n - x.1) (fun x => [(0, .view false (cTs (markT k n)) n), (1, .int .i64 x.2), (5, .int .i64 x.1)]) (fun x => []) (0, k) ⟨by simp, by simp⟩ (weak_UH (by simp) (by simp)) fun x ⟨hx, hx2⟩ => ?_
  obtain ⟨i, m⟩ := x
  simp only at hx hx2
  have hw := nat_wrap (k := i) (by omega)
  have hw0 : IntKind.i64.wrap (m : Int) = (m : Int) := wrap64 (by omega) (by omega)
  have hw1 : IntKind.i64.wrap ((m : Int) + 1) = (m : Int) + 1 := wrap64 (by omega) (by omega)
  have hw2 : IntKind.i64.wrap ((m : Int) + 1 + 1) = (m : Int) + 1 + 1 := wrap64 (by omega) (by omega)
  have hw3 : IntKind.i64.wrap ((m : Int) + 1 + 1 + 1) = (m : Int) + 1 + 1 + 1 := wrap64 (by omega) (by omega)
  by_cases c : i < n
  · have c' : i < (markT k n).length := by simpa using c
    have e : (markT k n)[i] = ((m : Int), (m + 1 : Int), fint .f32 (m + 1 + 1 : Int)) := by subst hx2; simp [markT, Int.add_assoc]
    simp [c, c', hw, hw0, hw1, hw2, hw3, e]
    refine loopK_next (i + 1, m + 3) ?_ ?_ (weak_UH ?_ ?_)
    · simp; omega
    · simp; omega
    · rfl
    · simp; omega
  · obtain rfl : i = n := by omega
    subst hx2
    simp
theorem c0_heldInt64S (n : Nat) (k : Nat) (h : n ≤ 1048576) (hk : k ≤ 1000000000) : Fun Try.prog 14 [.view false (cIs (markI k n)) n, .int .i64 k] [] (.int .i64 (k + n : Nat)) [] := by
  have hl : (markI k n).length = n := by simp
  refine FnSpec.walkF dr_ok Try.func14 rfl (by kernel_rfl) rfl rfl rfl (by simp) ?_
  simp
  refine loopG_of (α := Nat × Nat) (fun x => x.1 ≤ n ∧ x.2 = k + x.1) (fun x => n - x.1) (fun x => [(0, .view false (cIs (markI k n)) n), (1, .int .i64 x.2), (5, .int .i64 x.1)]) (fun x => []) (0, k) ⟨by simp, by simp⟩ (weak_UH (by simp) (by simp)) fun x ⟨hx, hx2⟩ => ?_
  obtain ⟨i, m⟩ := x
  simp only at hx hx2
  have hw := nat_wrap (k := i) (by omega)
  have hw0 : IntKind.i64.wrap (m : Int) = (m : Int) := wrap64 (by omega) (by omega)
  have hw1 : IntKind.i64.wrap ((m : Int) + 1) = (m : Int) + 1 := wrap64 (by omega) (by omega)
  by_cases c : i < n
  · have c' : i < (markI k n).length := by simpa using c
    have e : (markI k n)[i] = (m : Int) := by subst hx2; simp [markI]
    simp [c, c', hw, hw0, hw1, e]
    refine loopK_next (i + 1, m + 1) ?_ ?_ (weak_UH ?_ ?_)
    · simp; omega
    · simp; omega
    · rfl
    · simp
  · obtain rfl : i = n := by omega
    subst hx2
    simp
theorem c_markVectorS (l : List V) (n : Nat) (k : Nat) (z : Int) (hz : z = k) (hn : n = l.length) (h : l.length ≤ 1048576) (hk : k ≤ 1000000000) : Fun Try.prog 39 [.slc 0 0 n 3, .int .i64 z] [.blk false false 57 (cVs l)] (.int .i64 (k + 3 * n : Nat)) [.blk false false 57 (cVs (markV k n))] := by
  subst hz; exact c0_markVectorS l n k hn h hk
theorem c_heldVectorS (n : Nat) (k : Nat) (z : Int) (hz : z = k) (h : n ≤ 1048576) (hk : k ≤ 1000000000) : Fun Try.prog 57 [.view false (cVs (markV k n)) n, .int .i64 z] [] (.int .i64 (k + 3 * n : Nat)) [] := by
  subst hz; exact c0_heldVectorS n k h hk
theorem c_markThreadS (l : List Th) (n : Nat) (k : Nat) (z : Int) (hz : z = k) (hn : n = l.length) (h : l.length ≤ 1048576) (hk : k ≤ 1000000000) : Fun Try.prog 40 [.slc 0 0 n 3, .int .i64 z] [.blk false false 77 (cTs l)] (.int .i64 (k + 3 * n : Nat)) [.blk false false 77 (cTs (markT k n))] := by
  subst hz; exact c0_markThreadS l n k hn h hk
theorem c_heldThreadS (n : Nat) (k : Nat) (z : Int) (hz : z = k) (h : n ≤ 1048576) (hk : k ≤ 1000000000) : Fun Try.prog 58 [.view false (cTs (markT k n)) n, .int .i64 z] [] (.int .i64 (k + 3 * n : Nat)) [] := by
  subst hz; exact c0_heldThreadS n k h hk
theorem c_markInt64S (l : List Int) (n : Nat) (k : Nat) (z : Int) (hz : z = k) (hn : n = l.length) (h : l.length ≤ 1048576) (hk : k ≤ 1000000000) : Fun Try.prog 13 [.slc 0 0 n 1, .int .i64 z] [.blk false false 2 (cIs l)] (.int .i64 (k + n : Nat)) [.blk false false 2 (cIs (markI k n))] := by
  subst hz; exact c0_markInt64S l n k hn h hk
theorem c_heldInt64S (n : Nat) (k : Nat) (z : Int) (hz : z = k) (h : n ≤ 1048576) (hk : k ≤ 1000000000) : Fun Try.prog 14 [.view false (cIs (markI k n)) n, .int .i64 z] [] (.int .i64 (k + n : Nat)) [] := by
  subst hz; exact c0_heldInt64S n k h hk
/-- A cloth's memory, marked. -/
def markC (a b c d : Nat) : Clo := ⟨markV 1 a, markV (1 + 3 * a) b, markT (1 + 3 * a + 3 * b) c, markI (1 + 3 * a + 3 * b + 3 * c) d⟩
theorem c_markCloth (x : Clo) (hs : x.Small) (a b c d : Nat) (ha : a = x.pl.length) (hb : b = x.ol.length) (hc : c = x.th.length) (hd : d = x.pin.length) :
    Fun Try.prog 12 [.agg [.slc 0 0 a 3, .slc 1 0 b 3, .slc 2 0 c 3, .slc 3 0 d 1], .int .i64 1]
      [.blk false false 57 (cVs x.pl), .blk false false 57 (cVs x.ol), .blk false false 77 (cTs x.th), .blk false false 2 (cIs x.pin)] (.int .i64 (1 + 3 * a + 3 * b + 3 * c + d : Nat))
      [.blk false false 57 (cVs (markC a b c d).pl), .blk false false 57 (cVs (markC a b c d).ol), .blk false false 77 (cTs (markC a b c d).th), .blk false false 2 (cIs (markC a b c d).pin)] := by
  obtain ⟨h1, h2, h3, h4⟩ := hs
  refine FnSpec.walk dr_ok Try.func12 rfl (by kernel_rfl) rfl rfl rfl (by simp) ?_
  simp [markC]
  (first | refine callG_on true [0] ?_ | refine callD_on true [0] ?_); simp; (first | refine callN_fun (by with_reducible exact c_markVectorS _ _ 1 _ (by simp) ha h1 (by omega)) (by simp) ?_ | refine callMD_fun (by with_reducible exact c_markVectorS _ _ 1 _ (by simp) ha h1 (by omega)) (by simp) ?_)
  simp
  (first | refine callG_on true [1] ?_ | refine callD_on true [1] ?_); simp; (first | refine callN_fun (by with_reducible exact c_markVectorS _ _ (1 + 3 * a) _ (by simp) hb h2 (by omega)) (by simp) ?_ | refine callMD_fun (by with_reducible exact c_markVectorS _ _ (1 + 3 * a) _ (by simp) hb h2 (by omega)) (by simp) ?_)
  simp
  (first | refine callG_on true [2] ?_ | refine callD_on true [2] ?_); simp; (first | refine callN_fun (by with_reducible exact c_markThreadS _ _ (1 + 3 * a + 3 * b) _ (by simp) hc h3 (by omega)) (by simp) ?_ | refine callMD_fun (by with_reducible exact c_markThreadS _ _ (1 + 3 * a + 3 * b) _ (by simp) hc h3 (by omega)) (by simp) ?_)
  simp
  (first | refine callG_on true [3] ?_ | refine callD_on true [3] ?_); simp; (first | refine callN_fun (by with_reducible exact c_markInt64S _ _ (1 + 3 * a + 3 * b + 3 * c) _ (by simp) hd h4 (by omega)) (by simp) ?_ | refine callMD_fun (by with_reducible exact c_markInt64S _ _ (1 + 3 * a + 3 * b + 3 * c) _ (by simp) hd h4 (by omega)) (by simp) ?_)
  simp
  (refine endG_keepT [] ?_ ?_ ?_ ?_ ?_ ?_ ?_ ⟨rfl, rfl⟩ ?_ <;> simp [markC])
theorem c_heldCloth (a b c d : Nat) (h1 : a ≤ 1048576) (h2 : b ≤ 1048576) (h3 : c ≤ 1048576) (h4 : d ≤ 1048576) :
    Fun Try.prog 26 [.agg [.view false (cVs (markC a b c d).pl) a, .view false (cVs (markC a b c d).ol) b, .view false (cTs (markC a b c d).th) c, .view false (cIs (markC a b c d).pin) d], .int .i64 1] [] (.int .i64 (1 + 3 * a + 3 * b + 3 * c + d : Nat)) [] := by
  refine FnSpec.walkF dr_ok Try.func26 rfl (by kernel_rfl) rfl rfl rfl (by simp) ?_
  simp [markC]
  (first | refine callG_r ?_ | refine callD_r ?_); simp; (first | refine callN_flat (by with_reducible first | exact c_heldVectorS _ 1 _ (by simp) h1 (by omega)) rfl ?_ | refine callN_new (by with_reducible first | exact c_heldVectorS _ 1 _ (by simp) h1 (by omega)) ?_ | refine callM_flat (by with_reducible first | exact c_heldVectorS _ 1 _ (by simp) h1 (by omega)) rfl ?_ | refine callM_new (by with_reducible first | exact c_heldVectorS _ 1 _ (by simp) h1 (by omega)) ?_)
  simp
  refine ⟨by omega, fun _ => ?_⟩
  (first | refine callG_r ?_ | refine callD_r ?_); simp; (first | refine callN_flat (by with_reducible first | exact c_heldVectorS _ (1 + 3 * a) _ (by simp) h2 (by omega)) rfl ?_ | refine callN_new (by with_reducible first | exact c_heldVectorS _ (1 + 3 * a) _ (by simp) h2 (by omega)) ?_ | refine callM_flat (by with_reducible first | exact c_heldVectorS _ (1 + 3 * a) _ (by simp) h2 (by omega)) rfl ?_ | refine callM_new (by with_reducible first | exact c_heldVectorS _ (1 + 3 * a) _ (by simp) h2 (by omega)) ?_)
  simp
  refine ⟨by omega, fun _ => ?_⟩
  (first | refine callG_r ?_ | refine callD_r ?_); simp; (first | refine callN_flat (by with_reducible first | exact c_heldThreadS _ (1 + 3 * a + 3 * b) _ (by simp) h3 (by omega)) rfl ?_ | refine callN_new (by with_reducible first | exact c_heldThreadS _ (1 + 3 * a + 3 * b) _ (by simp) h3 (by omega)) ?_ | refine callM_flat (by with_reducible first | exact c_heldThreadS _ (1 + 3 * a + 3 * b) _ (by simp) h3 (by omega)) rfl ?_ | refine callM_new (by with_reducible first | exact c_heldThreadS _ (1 + 3 * a + 3 * b) _ (by simp) h3 (by omega)) ?_)
  simp
  refine ⟨by omega, fun _ => ?_⟩
  (first | refine callG_r ?_ | refine callD_r ?_); simp; (first | refine callN_flat (by with_reducible first | exact c_heldInt64S _ (1 + 3 * a + 3 * b + 3 * c) _ (by simp) h4 (by omega)) rfl ?_ | refine callN_new (by with_reducible first | exact c_heldInt64S _ (1 + 3 * a + 3 * b + 3 * c) _ (by simp) h4 (by omega)) ?_ | refine callM_flat (by with_reducible first | exact c_heldInt64S _ (1 + 3 * a + 3 * b + 3 * c) _ (by simp) h4 (by omega)) rfl ?_ | refine callM_new (by with_reducible first | exact c_heldInt64S _ (1 + 3 * a + 3 * b + 3 * c) _ (by simp) h4 (by omega)) ?_)
  simp
  omega
end Go.Proofs.Ytnpflgeenecaeaa
