/- Contracts: lists of texts (marks, copies), texts that are cut at a byte.
Conditions: none. -/
import Derived.Test.YthgfopohlhejdaaDoorX1
namespace Go.Proofs.YthgfopohlhejdaaDoor
set_option linter.all false
open Go Go.Awp
set_option maxRecDepth 100000
set_option maxHeartbeats 8000000
set_option pp.deepTerms true

def mkTs (k n : Nat) : List (List UInt8) := (List.range n).map fun i => mkT (k + i : Nat)
@[simp] theorem mkTs_length (k n : Nat) : (mkTs k n).length = n := by simp [mkTs]
@[simp] theorem mkTs_take (k n : Nat) : (mkTs k n).take n = mkTs k n := List.take_of_length_le (by simp)
theorem c_markStringS (l : List (List UInt8)) (n : Nat) (k : Nat) (hn : n = l.length) (h : l.length ≤ 1048576) (hk : k ≤ 1000000000) : Fun Tryd.prog 15 [.slc 0 0 n 1, .int .i64 k] [.blk false false 9 (cT l)] (.int .i64 (k + n : Nat)) [.blk false false 9 (cT (mkTs k n))] := by
  subst hn
  have hl : (mkTs k l.length).length = l.length := by simp
  refine FnSpec.walk dr_ok Tryd.func15 rfl (by kernel_rfl) rfl rfl rfl (by simp) ?_
  simp
  refine loopG_of (α := Nat × Nat) (fun x => x.1 ≤ l.length ∧ x.2 = k + x.1) (fun x => l.length - x.1) (fun x => [(0, .slc 0 0 l.length 1), (1, .int .i64 x.2), (5, .int .i64 x.1)])
    (fun x => [.blk false false 9 (cT (mixN (mkTs k l.length) l x.1))]) (0, k) ⟨by simp, by simp⟩ (weak_UH (by simp) (by simp)) fun x ⟨hx, hx2⟩ => ?_
  obtain ⟨i, m⟩ := x
  simp only at hx hx2
  have hw := nat_wrap (k := i) (by omega)
  have hw1 : IntKind.i64.wrap ((m : Int) + 1) = (m : Int) + 1 := wrap64 (by omega) (by omega)
  have hm := mixN_length i hl
  by_cases c : i < l.length
  · simp [c, hw, hw1, hm]
    (first | refine callG_r ?_ | refine callD_r ?_); simp; (first | refine callN_flat (by with_reducible first | exact c_markText _ (by omega)) rfl ?_ | refine callN_new (by with_reducible first | exact c_markText _ (by omega)) ?_ | refine callM_flat (by with_reducible first | exact c_markText _ (by omega)) rfl ?_ | refine callM_new (by with_reducible first | exact c_markText _ (by omega)) ?_)
    simp [c, hw, hw1, hm]
    refine ⟨by omega, ?_⟩
    refine loopK_next (i + 1, m + 1) ?_ ?_ (weak_UH ?_ ?_)
    · simp; omega
    · simp; omega
    · rw [mixN_set (by simpa using c) hl (by subst hx2; simp [mkTs])]
    · simp
  · obtain rfl : i = l.length := by omega
    subst hx2
    simp
    rw [mixN_all (by omega) (by omega)]
    (refine endG_keepT [] ?_ ?_ ?_ ?_ ?_ ?_ ?_ ⟨rfl, rfl⟩ ?_ <;> simp)
theorem c_heldStringS (n : Nat) (k : Nat) (h : n ≤ 1048576) (hk : k ≤ 1000000000) : Fun Tryd.prog 16 [.view false (cT (mkTs k n)) n, .int .i64 k] [] (.int .i64 (k + n : Nat)) [] := by
  have hl : (mkTs k n).length = n := by simp
  refine FnSpec.walkF dr_ok Tryd.func16 rfl (by kernel_rfl) rfl rfl rfl (by simp) ?_
  simp
  refine loopG_of (α := Nat × Nat) (fun x => x.1 ≤ n ∧ x.2 = k + x.1) (fun x => n - x.1) (fun x => [(0, .view false (cT (mkTs k n)) n), (1, .int .i64 x.2), (5, .int .i64 x.1)]) (fun x => []) (0, k) ⟨by simp, by simp⟩ (weak_UH (by simp) (by simp)) fun x ⟨hx, hx2⟩ => ?_
  obtain ⟨i, m⟩ := x
  simp only at hx hx2
  have hw := nat_wrap (k := i) (by omega)
  have hw1 : IntKind.i64.wrap ((m : Int) + 1) = (m : Int) + 1 := wrap64 (by omega) (by omega)
  by_cases c : i < n
  · have c' : i < (mkTs k n).length := by simpa using c
    have e : (mkTs k n)[i] = mkT (m : Int) := by subst hx2; simp [mkTs]
    simp [c, c', hw, hw1, e]
    (first | refine callG_r ?_ | refine callD_r ?_); simp; (first | refine callN_flat (by with_reducible first | exact c_markText _ (by omega)) rfl ?_ | refine callN_new (by with_reducible first | exact c_markText _ (by omega)) ?_ | refine callM_flat (by with_reducible first | exact c_markText _ (by omega)) rfl ?_ | refine callM_new (by with_reducible first | exact c_markText _ (by omega)) ?_)
    simp [c, c', hw, hw1, e]
    refine loopK_next (i + 1, m + 1) ?_ ?_ (weak_UH ?_ ?_)
    · simp; omega
    · simp; omega
    · simp
    · simp
  · obtain rfl : i = n := by omega
    subst hx2
    simp
theorem c_markStringS0 : Fun Tryd.prog 15 [.view false [] 0, .int .i64 1] [] (.int .i64 1) [] := by
  refine FnSpec.walkF dr_ok Tryd.func15 rfl (by kernel_rfl) rfl rfl rfl (by simp) ?_
  simp
  refine loopG_of (α := Unit) (fun _ => True) (fun _ => 0) (fun x => [(0, .view false [] 0), (1, .int .i64 1), (5, .int .i64 0)]) (fun x => []) () trivial (weak_UH (by simp) (by simp)) fun x hx => ?_
  simp

/-- The pieces of a text's first k bytes that are shut (the text's end shuts too), and where the open one begins. -/
def cutS (m : UInt8) (s : List UInt8) : Nat → List (List UInt8) × Nat
  | 0 => ([], 0)
  | k + 1 => if k = s.length ∨ s[k]? = some m then ((cutS m s k).1 ++ [(s.drop (cutS m s k).2).take (k - (cutS m s k).2)], k + 1) else cutS m s k
theorem cutS_le (m : UInt8) (s : List UInt8) : ∀ k, (cutS m s k).2 ≤ k ∧ (cutS m s k).1.length ≤ k
  | 0 => by simp [cutS]
  | k + 1 => by
    have := cutS_le m s k
    unfold cutS
    split <;> (try simp) <;> omega
/-- All pieces. -/
def cutA (m : UInt8) (s : List UInt8) : List (List UInt8) := (cutS m s (s.length + 1)).1
theorem cutS_shut {m : UInt8} {s : List UInt8} {k : Nat} (h : k = s.length ∨ s[k]? = some m) : cutS m s (k + 1) = ((cutS m s k).1 ++ [(s.drop (cutS m s k).2).take (k - (cutS m s k).2)], k + 1) := by rw [cutS, if_pos h]
theorem cutS_open {m : UInt8} {s : List UInt8} {k : Nat} (h : ¬ (k = s.length ∨ s[k]? = some m)) : cutS m s (k + 1) = cutS m s k := by rw [cutS, if_neg h]
@[simp] theorem cutS_zero (m : UInt8) (s : List UInt8) : cutS m s 0 = ([], 0) := rfl
theorem c_l01Cut (s : List UInt8) (m : UInt8) (hs : s.length ≤ 1048576) : Fun Tryd.prog 84 [.str (bs s), .int .u8 m.toNat] [] (.slc 0 0 (cutA m s).length 1) [.blk true false 9 (cT (cutA m s))] := by
  refine FnSpec.walk dr_ok Tryd.func84 rfl (by kernel_rfl) rfl rfl rfl (by simp) ?_
  simp
  refine loopG_of (α := Nat) (fun k => k ≤ s.length + 1) (fun k => s.length + 1 - k) (fun k => [(0, .str (bs s)), (1, .int .u8 m.toNat), (5, .slc 0 0 (cutS m s k).1.length 1), (6, .int .i64 (cutS m s k).2), (7, .int .i64 k)])
    (fun k => [.blk true false 9 (cT (cutS m s k).1)]) 0 (by simp) ?_ fun k hk => ?_
  · (refine weak_gc [(none, 9)] ?_ ?_ ?_ ?_ ?_ <;> simp)
  · have hw := nat_wrap (k := k) (by omega)
    obtain ⟨q1, q2⟩ := cutS_le m s k
    have z1 : (cutS m s k).1.length ≤ 9223372036854775806 := by omega
    have z2 : ((cutS m s k).1.length + 1) * 16 ≤ 140737488355328 := by omega
    by_cases h0 : k ≤ s.length
    · have h0' : ¬ s.length < k := by omega
      by_cases h : k < s.length
      · have h' : ¬ (k : Int) = s.length := by omega
        by_cases c : s[k] = m
        · have e := cutS_shut (m := m) (s := s) (k := k) (.inr (by rw [List.getElem?_eq_getElem h, c]))
          simp [h, h', h0, h0', hw, c, q1, z1, z2]
          refine loopK_next (k + 1) (by omega) (by omega) ?_
          (refine weak_gc [(some 2, 0)] ?_ ?_ ?_ ?_ ?_ <;> simp [e])
        · have e := cutS_open (m := m) (s := s) (k := k) (by
            rw [List.getElem?_eq_getElem h]
            rintro (e | e)
            · omega
            · exact c (Option.some.inj e))
          have c' : ¬ (s[k].toNat : Int) = m.toNat := fun e => c (UInt8.toNat.inj (by omega))
          simp [h, h', h0, h0', hw, c', q1, z1, z2]
          refine loopK_next (k + 1) (by omega) (by omega) ?_
          (refine weak_gc [(some 0, 0)] ?_ ?_ ?_ ?_ ?_ <;> simp [e])
      · obtain rfl : k = s.length := by omega
        have e := cutS_shut (m := m) (s := s) (k := s.length) (.inl rfl)
        simp [h, hw, q1, z1, z2]
        refine loopK_next (s.length + 1) (by omega) (by omega) ?_
        (refine weak_gc [(some 2, 0)] ?_ ?_ ?_ ?_ ?_ <;> simp [e])
    · obtain rfl : k = s.length + 1 := by omega
      have h1 : ¬ s.length + 1 ≤ s.length := by omega
      have h2 : s.length < s.length + 1 := by omega
      have h3 : ¬ ((s.length : Int) + 1 ≤ s.length) := by omega
      have h4 : ((s.length : Int) < s.length + 1) := by omega
      simp [h1, h2, h3, h4]
      (refine endG_keepT [(some 0, 0)] ?_ ?_ ?_ ?_ ?_ ?_ ?_ ⟨rfl, rfl⟩ ?_ <;> simp [cutA])
end Go.Proofs.YthgfopohlhejdaaDoor
