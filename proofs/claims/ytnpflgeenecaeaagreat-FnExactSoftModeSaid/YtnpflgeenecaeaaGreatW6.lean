/- Contracts: the reference's word on what a cloth must be; the law of it. Contracts: copies of cloths. Contracts: cloths moved. Contracts of what the laws do with cloths: marks written over a result, and looked at again. Contracts: cloths that are handed on when they are valid; roots of which less is told. Rows of rows in memory of the call's own. Rows of rows that a law marks. Rows of rows that are handed on to be marked.
Conditions: none. -/
import Derived.Test.YtnpflgeenecaeaaGreatW0
import Derived.Test.YtnpflgeenecaeaaGreatW1
import Derived.Test.YtnpflgeenecaeaaGreatW2
namespace Go.Proofs.YtnpflgeenecaeaaGreat
set_option linter.all false
open Go Go.Awp
set_option maxRecDepth 100000
set_option maxHeartbeats 4000000
set_option pp.deepTerms false
set_option pp.deepTerms.threshold 8

/-- A pointer to a cloth that is only read. -/
abbrev Clo.pv (c : Clo) : AV := .vptr false [.view false (cVs c.pl) c.pl.length, .view false (cVs c.ol) c.ol.length, .view false (cTs c.th) c.th.length, .view false (cIs c.pin) c.pin.length]
attribute [simp] Clo.pv
theorem small_of {c : Clo} (h : 0 ≤ szC c.pl.length c.ol.length c.th.length c.pin.length) : c.Small := by
  obtain ⟨h1, h2, h3, h4⟩ := szC_ok (Int.not_lt.2 h)
  exact ⟨h1, h2, h3, h4⟩
end Go.Proofs.YtnpflgeenecaeaaGreat
namespace Go.Proofs.YtnpflgeenecaeaaGreat
set_option linter.all false
open Go Go.Awp
set_option maxRecDepth 100000
set_option maxHeartbeats 4000000
set_option pp.deepTerms false
set_option pp.deepTerms.threshold 8

theorem c_l00Own (l : List Int) (h : l.length ≤ 1048576) : Fun Tryz.prog 135 [.view false (cIs l) l.length] [] (.slc 0 0 l.length 1) [.blk true false 2 (cIs l)] := by
  refine FnSpec.walk dr_ok Tryz.func135 rfl (by kernel_rfl) rfl rfl rfl (by simp) ?_
  simp
  refine ⟨by omega, by omega, ?_⟩
  (refine endG_keepT [(some 0, 0)] ?_ ?_ ?_ ?_ ?_ ?_ ?_ ⟨rfl, rfl⟩ ?_ <;> simp)
end Go.Proofs.YtnpflgeenecaeaaGreat
namespace Go.Proofs.YtnpflgeenecaeaaGreat
set_option linter.all false
open Go Go.Awp
set_option maxRecDepth 100000
set_option maxHeartbeats 4000000
set_option pp.deepTerms false
set_option pp.deepTerms.threshold 8

theorem vld_len {c : Clo} (h : vldC c = true) : c.pl.length ≤ 64 ∧ c.ol.length = c.pl.length ∧ c.th.length ≤ 256 := by
  unfold vldC at h
  simp at h
  omega
def moveC (c : Clo) (d : V) : Clo := { c with pl := c.pl.map (vadd · d), ol := c.ol.map (vadd · d) }
def noC : AV := .agg [.nils, .nils, .nils, .nils]
end Go.Proofs.YtnpflgeenecaeaaGreat
namespace Go.Proofs.YtnpflgeenecaeaaGreat
set_option linter.all false
open Go Go.Awp
set_option maxRecDepth 100000
set_option maxHeartbeats 4000000
set_option pp.deepTerms false
set_option pp.deepTerms.threshold 8

theorem ford_refl {k : FloatKind} {x : Nat} (h : nanB k x = false) : ford k x x = some .eq := by
  unfold ford Ieee.Format.order
  unfold nanB FloatKind.decode at h
  cases hd : k.format.read x with
  | number s m e => simp [Ieee.Datum.order]
  | infinity s => simp [Ieee.Datum.order]
  | nan s t => rw [hd] at h; cases h
@[simp] theorem ford_fint (k : FloatKind) (n : Int) : ford k (fint k n) (fint k n) = some .eq := ford_refl (fint_num k n)
theorem c0_markVectorS (l : List V) (n : Nat) (k : Nat) (hn : n = l.length) (h : l.length ≤ 1048576) (hk : k ≤ 1000000000) : Fun Tryz.prog 20 [.slc 0 0 n 3, .int .i64 k] [.blk false false 41 (cVs l)] (.int .i64 (k + 3 * n : Nat)) [.blk false false 41 (cVs (markV k n))] := by
  subst hn
  have hl : (markV k l.length).length = l.length := by simp
  refine FnSpec.walk dr_ok Tryz.func20 rfl (by kernel_rfl) rfl rfl rfl (by simp) ?_
  simp
  refine loopG_of (α := Nat × Nat) (fun x => x.1 ≤ l.length ∧ x.2 = k + 3 * x.1) (fun x => l.length - x.1) (fun x => [(0, .slc 0 0 l.length 3), (1, .int .i64 x.2), (5, .int .i64 x.1)])
    (fun x => [.blk false false 41 (cVs (mixN (markV k l.length) l x.1))]) (0, k) ⟨by simp, by simp⟩ (weak_UH (by simp) (by simp)) fun x ⟨hx, hx2⟩ => ?_
  obtain ⟨i, m⟩ := x
  simp only at hx hx2
  have hw := nat_wrap (k := i) (by omega)
  have hw1 : IntKind.i64.wrap ((m : Int) + 1) = (m : Int) + 1 := wrap64 (by omega) (by omega)
  have hw2 : IntKind.i64.wrap ((m : Int) + 1 + 1) = (m : Int) + 1 + 1 := wrap64 (by omega) (by omega)
  have hw3 : IntKind.i64.wrap ((m : Int) + 1 + 1 + 1) = (m : Int) + 1 + 1 + 1 := wrap64 (by omega) (by omega)
  have hm := mixN_length i hl
  by_cases c : i < l.length
  · simp [c, hw, hw1, hw2, hw3, hm]
    refine ⟨by omega, by omega, by omega, loopK_next (i + 1, m + 3) ?_ ?_ (weak_UH ?_ ?_)⟩
    · simp; omega
    · simp; omega
    · rw [mixN_set (by simpa using c) hl (by subst hx2; simp [markV, Int.add_assoc])]
    · simp; omega
  · obtain rfl : i = l.length := by omega
    subst hx2
    simp
    rw [mixN_all (by omega) (by omega)]
    (refine endG_keepT [] ?_ ?_ ?_ ?_ ?_ ?_ ?_ ⟨rfl, rfl⟩ ?_ <;> simp)
theorem c0_markInt64S (l : List Int) (n : Nat) (k : Nat) (hn : n = l.length) (h : l.length ≤ 1048576) (hk : k ≤ 1000000000) : Fun Tryz.prog 30 [.slc 0 0 n 1, .int .i64 k] [.blk false false 2 (cIs l)] (.int .i64 (k + n : Nat)) [.blk false false 2 (cIs (markI k n))] := by
  subst hn
  have hl : (markI k l.length).length = l.length := by simp
  refine FnSpec.walk dr_ok Tryz.func30 rfl (by kernel_rfl) rfl rfl rfl (by simp) ?_
  simp
  refine loopG_of (α := Nat × Nat) (fun x => x.1 ≤ l.length ∧ x.2 = k + x.1) (fun x => l.length - x.1) (fun x => [(0, .slc 0 0 l.length 1), (1, .int .i64 x.2), (5, .int .i64 x.1)])
    (fun x => [.blk false false 2 (cIs (mixN (markI k l.length) l x.1))]) (0, k) ⟨by simp, by simp⟩ (weak_UH (by simp) (by simp)) fun x ⟨hx, hx2⟩ => ?_
  obtain ⟨i, m⟩ := x
  simp only at hx hx2
  have hw := nat_wrap (k := i) (by omega)
  have hw0 : IntKind.i64.wrap (m : Int) = (m : Int) := wrap64 (by omega) (by omega)
  have hw1 : IntKind.i64.wrap ((m : Int) + 1) = (m : Int) + 1 := wrap64 (by omega) (by omega)
  have hm := mixN_length i hl
  by_cases c : i < l.length
  · simp [c, hw, hw0, hw1, hm]
    refine ⟨by omega, loopK_next (i + 1, m + 1) ?_ ?_ (weak_UH ?_ ?_)⟩
    · simp; omega
    · simp; omega
    · rw [mixN_set (by simpa using c) hl (by subst hx2; simp [markI])]
    · simp
  · obtain rfl : i = l.length := by omega
    subst hx2
    simp
    rw [mixN_all (by omega) (by omega)]
    (refine endG_keepT [] ?_ ?_ ?_ ?_ ?_ ?_ ?_ ⟨rfl, rfl⟩ ?_ <;> simp)
-- what is marked is looked at again
theorem c0_heldVectorS (n : Nat) (k : Nat) (h : n ≤ 1048576) (hk : k ≤ 1000000000) : Fun Tryz.prog 31 [.view false (cVs (markV k n)) n, .int .i64 k] [] (.int .i64 (k + 3 * n : Nat)) [] := by
  have hl : (markV k n).length = n := by simp
  refine FnSpec.walkF dr_ok Tryz.func31 rfl (by kernel_rfl) rfl rfl rfl (by simp) ?_
  simp
  refine loopG_of (α := Nat × Nat) (fun x => x.1 ≤ n ∧ x.2 = k + 3 * x.1) (fun x => n - x.1) (fun x => [(0, .view false (cVs (markV k n)) n), (1, .int .i64 x.2), (5, .int .i64 x.1)]) (fun x => []) (0, k) ⟨by simp, by simp⟩ (weak_UH (by simp) (by simp)) fun x ⟨hx, hx2⟩ => ?_
  obtain ⟨i, m⟩ := x
  simp only at hx hx2
  have hw := nat_wrap (k := i) (by omega)
  have hw1 : IntKind.i64.wrap ((m : Int) + 1) = (m : Int) + 1 := wrap64 (by omega) (by omega)
  have hw2 : IntKind.i64.wrap ((m : Int) + 1 + 1) = (m : Int) + 1 + 1 := wrap64 (by omega) (by omega)
  have hw3 : IntKind.i64.wrap ((m : Int) + 1 + 1 + 1) = (m : Int) + 1 + 1 + 1 := wrap64 (by omega) (by omega)
  by_cases c : i < n
  · have c' : i < (markV k n).length := by simpa using c
    have e : (markV k n)[i] = (fint .f32 m, fint .f32 (m + 1 : Int), fint .f32 (m + 1 + 1 : Int)) := by subst hx2; simp [markV, Int.add_assoc]
    simp [c, c', hw, hw1, hw2, hw3, e]
    refine loopK_next (i + 1, m + 3) ?_ ?_ (weak_UH ?_ ?_)
    · simp; omega
    · simp; omega
    · rfl
    · simp; omega
  · obtain rfl : i = n := by omega
    subst hx2
    simp
theorem c0_heldInt64S (n : Nat) (k : Nat) (h : n ≤ 1048576) (hk : k ≤ 1000000000) : Fun Tryz.prog 129 [.view false (cIs (markI k n)) n, .int .i64 k] [] (.int .i64 (k + n : Nat)) [] := by
  have hl : (markI k n).length = n := by simp
  refine FnSpec.walkF dr_ok Tryz.func129 rfl (by kernel_rfl) rfl rfl rfl (by simp) ?_
  simp
  refine loopG_of (α := Nat × Nat) (fun x => x.1 ≤ n ∧ x.2 = k + x.1) (fun x => n - x.1) (fun x => [(0, .view false (cIs (markI k n)) n), (1, .int .i64 x.2), (5, .int .i64 x.1)]) (fun x => []) (0, k) ⟨by simp, by simp⟩ (weak_UH (by simp) (by simp)) fun x ⟨hx, hx2⟩ => ?_
  obtain ⟨i, m⟩ := x
  simp only at hx hx2
  have hw := nat_wrap (k := i) (by omega)
  have hw0 : IntKind.i64.wrap (m : Int) = (m : Int) := wrap64 (by omega) (by omega)
  have hw1 : IntKind.i64.wrap ((m : Int) + 1) = (m : Int) + 1 := wrap64 (by omega) (by omega)
  by_cases c : i < n
  · have c' : i < (markI k n).length := by simpa using c
    have e : (markI k n)[i] = (m : Int) := by subst hx2; simp [markI]
    simp [c, c', hw, hw0, hw1, e]
    refine loopK_next (i + 1, m + 1) ?_ ?_ (weak_UH ?_ ?_)
    · simp; omega
    · simp; omega
    · rfl
    · simp
  · obtain rfl : i = n := by omega
    subst hx2
    simp
theorem c_markVectorS (l : List V) (n : Nat) (k : Nat) (z : Int) (hz : z = k) (hn : n = l.length) (h : l.length ≤ 1048576) (hk : k ≤ 1000000000) : Fun Tryz.prog 20 [.slc 0 0 n 3, .int .i64 z] [.blk false false 41 (cVs l)] (.int .i64 (k + 3 * n : Nat)) [.blk false false 41 (cVs (markV k n))] := by
  subst hz; exact c0_markVectorS l n k hn h hk
theorem c_heldVectorS (n : Nat) (k : Nat) (z : Int) (hz : z = k) (h : n ≤ 1048576) (hk : k ≤ 1000000000) : Fun Tryz.prog 31 [.view false (cVs (markV k n)) n, .int .i64 z] [] (.int .i64 (k + 3 * n : Nat)) [] := by
  subst hz; exact c0_heldVectorS n k h hk
theorem c_markInt64S (l : List Int) (n : Nat) (k : Nat) (z : Int) (hz : z = k) (hn : n = l.length) (h : l.length ≤ 1048576) (hk : k ≤ 1000000000) : Fun Tryz.prog 30 [.slc 0 0 n 1, .int .i64 z] [.blk false false 2 (cIs l)] (.int .i64 (k + n : Nat)) [.blk false false 2 (cIs (markI k n))] := by
  subst hz; exact c0_markInt64S l n k hn h hk
theorem c_heldInt64S (n : Nat) (k : Nat) (z : Int) (hz : z = k) (h : n ≤ 1048576) (hk : k ≤ 1000000000) : Fun Tryz.prog 129 [.view false (cIs (markI k n)) n, .int .i64 z] [] (.int .i64 (k + n : Nat)) [] := by
  subst hz; exact c0_heldInt64S n k h hk
/-- A cloth's memory, marked. -/
def markC (a b c d : Nat) : Clo := ⟨markV 1 a, markV (1 + 3 * a) b, markT (1 + 3 * a + 3 * b) c, markI (1 + 3 * a + 3 * b + 3 * c) d⟩
end Go.Proofs.YtnpflgeenecaeaaGreat
namespace Go.Proofs.YtnpflgeenecaeaaGreat
set_option linter.all false
open Go Go.Awp
set_option maxRecDepth 100000
set_option maxHeartbeats 4000000
set_option pp.deepTerms true

section
variable {P : Program}
/-- Roots of which less is told. -/
def Cut (H H' : Heap) : Prop := H'.length = H.length ∧ ∀ (r : Nat), (∀ new box e cells, H'[r]? = some (.blk new box e cells) → ∃ c0, H[r]? = some (.blk new box e c0) ∧ cells <+: c0 ∧ (box = true → cells = c0)) ∧
  (∀ new box e c0, H[r]? = some (.blk new box e c0) → ∃ cells, H'[r]? = some (.blk new box e cells))
theorem cut_one {n : Bool} {e : TypeId} {c t : List AV} : Cut [.blk n false e (c ++ t)] [.blk n false e c] := by
  refine ⟨rfl, fun r => ?_⟩
  cases r with
  | zero =>
    refine ⟨fun new box e' cells h => ?_, fun new box e' c0 h => ?_⟩
    · simp at h; obtain ⟨rfl, rfl, rfl, rfl⟩ := h
      exact ⟨_, rfl, List.prefix_append _ _, fun h => by cases h⟩
    · simp at h; obtain ⟨rfl, rfl, rfl, rfl⟩ := h
      exact ⟨_, rfl⟩
  | succ r => exact ⟨fun _ _ _ _ h => by simp at h, fun _ _ _ _ h => by simp at h⟩
theorem mut_cut {map : Nat → Option (Option (Nat × Nat))} {H H' : Heap} (h : Cut H H') : mutOf map H' = mutOf map H := by
  funext b
  refine propext ⟨?_, ?_⟩
  · rintro ⟨r, N, nw, bx, e, cells, h1, h2⟩
    obtain ⟨c0, h3, _⟩ := (h.2 r).1 _ _ _ _ h1
    exact ⟨r, N, nw, bx, e, c0, h3, h2⟩
  · rintro ⟨r, N, nw, bx, e, c0, h1, h2⟩
    obtain ⟨cells, h3⟩ := (h.2 r).2 _ _ _ _ h1
    exact ⟨r, N, nw, bx, e, cells, h3, h2⟩
theorem env_cut {map : Nat → Option (Option (Nat × Nat))} {H H' : Heap} {X : Nat → Prop} {B : Nat} (h : Cut H H') : env map H' X B = env map H X B := by
  unfold env; rw [mut_cut h]
theorem root_cut {w : World} {E : Env} {r : Nat} {nw bx : Bool} {e : TypeId} {c0 c : List AV} (hp : c <+: c0) (hb : bx = true → c = c0) (h : RootRel w E r nw bx e c0) : RootRel w E r nw bx e c := by
  cases bx with
  | true => rw [hb rfl]; exact h
  | false =>
  rcases h with ⟨h1, h2, h3⟩ | ⟨b, N, arr, h1, h2, h3, h4, h5, h6⟩
  · subst h2
    exact .inl ⟨h1, List.prefix_nil.1 hp, h3⟩
  · refine .inr ⟨b, N, arr, h1, h2, ?_, Nat.le_trans hp.length_le h4, h5, fun i a ha => h6 i a ?_⟩
    · cases N with
      | zero => exact absurd h3.1 (by simp)
      | succ N => exact h3
    obtain ⟨t, rfl⟩ := hp
    rw [List.getElem?_append_left (List.getElem?_eq_some_iff.1 ha).1]; exact ha
theorem FnSpec.cut {f : FuncId} {args : List AV} {Hin Hout : Heap} {r : AV} {R : AV → Heap → Prop} (h : FnSpec P f args Hin R) (hr : ∀ av H', R av H' → av = r ∧ Cut H' Hout) : Fun P f args Hin r Hout := by
  intro map w vs X h1 h2 h3 h4
  refine (h map w vs X h1 h2 h3 h4).mono ?_
  rintro v w' ⟨m, av, H', g, g1, g2, g3, g4, g5⟩
  obtain ⟨rfl, hc⟩ := hr _ _ g
  refine ⟨m, av, Hout, ⟨rfl, rfl⟩, by rw [env_cut hc]; exact g1, ?_, fun q nw bx e cells hq hx => ?_, fun q hq => ?_, ?_⟩
  · rw [env_cut hc]
    refine ⟨fun q nw bx e cells hx => ?_, fun q q' b N N' nw nw' bx bx' e e' cells cells' hx hx' => ?_⟩
    · obtain ⟨c0, h5, h6, h7⟩ := (hc.2 q).1 _ _ _ _ hx
      exact root_cut h6 h7 (g2.root _ _ _ _ _ h5)
    · obtain ⟨c0, h5, _⟩ := (hc.2 q).1 _ _ _ _ hx
      obtain ⟨c0', h5', _⟩ := (hc.2 q').1 _ _ _ _ hx'
      exact g2.inj _ _ _ _ _ _ _ _ _ _ _ _ _ h5 h5'
  · obtain ⟨c0, h5, h6, h7⟩ := (hc.2 q).1 _ _ _ _ hx
    obtain ⟨k1, k2⟩ := g3 q nw bx e c0 hq h5
    rw [env_cut hc]
    exact ⟨root_cut h6 h7 k1, k2⟩
  · obtain ⟨nw, bx, e, c0, hx⟩ := g4 q hq
    obtain ⟨cells, hx'⟩ := (hc.2 q).2 _ _ _ _ hx
    exact ⟨_, _, _, _, hx'⟩
  · exact { g5 with
      out := by rw [hc.1]; exact g5.out
      len := by rw [hc.1]; exact g5.len
      old := by rw [mut_cut hc]; exact g5.old }
end

theorem one_splice (x y : Int) (z : Nat) : splice (cTs [(0, 0, 0)]) 0 [.int .i64 x, .int .i64 y, .flt .f32 z] = cTs [(x, y, z)] := rfl
theorem one_take (t : Th) : (cTs [t]).take 3 = cTs [t] := rfl

end Go.Proofs.YtnpflgeenecaeaaGreat
namespace Go.Proofs.YtnpflgeenecaeaaGreat
set_option linter.all false
open Go Go.Awp
set_option maxRecDepth 100000
set_option maxHeartbeats 4000000
set_option pp.deepTerms true

theorem newB_num {l : List AV} (h : l.all AV.num = true) : ∀ x ∈ l, x.newB = true := by
  intro x hx
  have := List.all_eq_true.1 h x hx
  cases x <;> first | (cases this; done) | rfl
/-- Rows whose roots are numbered from b on. -/
def nestC : Nat → List (List Int) → List AV
  | _, [] => []
  | b, t :: T => .slc b 0 t.length 1 :: nestC (b + 1) T
def nestR (T : List (List Int)) : Heap := T.map fun t => .blk true false 2 (cIs t)
@[simp] theorem nestR_length (T : List (List Int)) : (nestR T).length = T.length := by simp [nestR]
@[simp] theorem nestC_length : ∀ (b : Nat) (T : List (List Int)), (nestC b T).length = T.length
  | _, [] => rfl
  | b, _ :: T => by simp [nestC, nestC_length (b + 1) T]
theorem nestC_append : ∀ (b : Nat) (T T' : List (List Int)), nestC b (T ++ T') = nestC b T ++ nestC (b + T.length) T'
  | b, [], T' => by simp [nestC]
  | b, t :: T, T' => by
    simp only [List.cons_append, nestC, nestC_append (b + 1) T T', List.length_cons]
    rw [show b + 1 + T.length = b + (T.length + 1) by omega]
theorem nestC_ren {f : Nat → Nat} : ∀ {T : List (List Int)} {b b' : Nat}, (∀ i, i < T.length → f (b + i) = b' + i) → (nestC b T).map (AV.ren f) = nestC b' T
  | [], _, _, _ => rfl
  | t :: T, b, b', h => by
    have h0 := h 0 (by simp)
    have := nestC_ren (f := f) (T := T) (b := b + 1) (b' := b' + 1) fun i hi => by
      have := h (i + 1) (by simpa using hi)
      rw [show b + (i + 1) = b + 1 + i by omega] at this
      omega
    simp only [nestC, List.map_cons, this, AV.ren]
    rw [show f b = b' by simpa using h0]
theorem nestC_get : ∀ {T : List (List Int)} {b i : Nat} (h : i < T.length), (nestC b T)[i]? = some (.slc (b + i) 0 T[i].length 1)
  | t :: T, b, 0, _ => by simp [nestC]
  | t :: T, b, i + 1, h => by
    have := nestC_get (T := T) (b := b + 1) (i := i) (by simpa using h)
    simp only [nestC, List.getElem?_cons_succ, this, List.getElem_cons_succ]
    rw [show b + 1 + i = b + (i + 1) by omega]
theorem nestR_ren (f : Nat → Nat) (T : List (List Int)) : (nestR T).map (Root.ren f) = nestR T := by
  unfold nestR
  rw [List.map_map]
  exact List.map_congr_left fun t _ => rfl
theorem nestC_new : ∀ (b : Nat) (T : List (List Int)), ∀ a ∈ nestC b T, a.newB = true
  | _, [], a, h => by simp [nestC] at h
  | b, t :: T, a, h => by
    rcases List.mem_cons.1 h with rfl | h
    · rfl
    · exact nestC_new (b + 1) T a h
theorem nestR_new (T : List (List Int)) : ∀ r ∈ nestR T, Root.newB r = true := by
  intro r hr
  obtain ⟨t, _, rfl⟩ := List.mem_map.1 hr
  simp only [newB_blk, Bool.true_and, List.all_eq_true]
  intro a ha
  obtain ⟨n, _, rfl⟩ := List.mem_map.1 ha
  rfl
theorem nestH_new (b : Nat) (T : List (List Int)) : ∀ r ∈ (Root.blk true true 53 (nestC b T) :: nestR T), Root.newB r = true := by
  intro r hr
  rcases List.mem_cons.1 hr with rfl | hr
  · simp only [newB_blk, Bool.true_and, List.all_eq_true]
    exact nestC_new b T
  · exact nestR_new T r hr
/-- An end at which the first d roots are forgotten. -/
theorem endG_drop {P : Program} {rs : List ResultVar} {R : AV → Heap → Prop} {s : List AV} {H pre H0 : Heap} {av : AV} (N : Nat) (hN : H0.length = N) (hH : H = pre ++ H0.map (Root.ren fun r => pre.length + min r N))
    (hr : resL P s H rs fun l => resOne l = av.ren fun r => pre.length + min r N) (h1 : av.newB = true) (h2 : ∀ r ∈ H0, Root.newB r = true) (h3 : R av H0) : endG P rs [] R s H := by
  subst hN
  unfold endG
  refine resL_mono rs (fun l hl => ?_) hr
  have hlen : H.length = pre.length + H0.length := by rw [hH]; simp
  have hf : oldN ([] : Heap).length H.length ((List.range H0.length).map fun i => some (pre.length + i)) = fun r => pre.length + min r H0.length := by
    funext r
    unfold oldN
    rw [if_neg (by simp), List.length_nil, Nat.sub_zero, List.getElem?_map]
    by_cases c : r < H0.length
    · rw [List.getElem?_range c]; simp; omega
    · rw [List.getElem?_eq_none (by simpa using c)]; simp; omega
  refine ⟨(List.range H0.length).map fun i => some (pre.length + i), av, H0, ⟨by simp, Nat.zero_le _, ?_, fun k r hk => ?_, ?_, fun r new box e cells hr0 => .inr ?_⟩, new_newB av h1, fun k new box e cells _ hx => ?_, fun r hr => by simp at hr, h3⟩
  · rw [List.filterMap_map]
    have : (List.range H0.length).filterMap (id ∘ fun i => some (pre.length + i)) = (List.range H0.length).map fun i => pre.length + i := by
      rw [← List.filterMap_eq_map]; rfl
    rw [this]
    unfold List.Nodup
    rw [List.pairwise_map]
    exact (List.nodup_range (n := H0.length)).imp fun h e => h (by omega)
  · rw [List.getElem?_map] at hk
    by_cases c : k < H0.length
    · rw [List.getElem?_range c] at hk
      simp at hk
      exact ⟨Nat.zero_le _, by omega⟩
    · rw [List.getElem?_eq_none (by simpa using c)] at hk; cases hk
  · rw [hf]; exact ⟨.inr (.inl hl), trivial⟩
  · have hlt := (List.getElem?_eq_some_iff.1 hr0).1
    rw [hf]
    have e1 : H[pre.length + min r H0.length]? = some (Root.ren (fun r => pre.length + min r H0.length) (.blk new box e cells)) := by
      rw [Nat.min_eq_left (by omega), hH, List.getElem?_append_right (by omega), Nat.add_sub_cancel_left, List.getElem?_map, hr0]; rfl
    cases box with
    | false => exact ⟨cells, e1, fun _ => rfl, fun h => by cases h⟩
    | true =>
      refine ⟨cells.map (AV.ren fun r => pre.length + min r H0.length), e1, (fun h => by cases h), fun _ => ?_⟩
      clear e1 hr0
      induction cells with
      | nil => trivial
      | cons a l ih => exact ⟨.inr (.inl rfl), ih⟩
  · have := h2 _ (List.mem_of_getElem? hx)
    simp only [newB_blk, Bool.and_eq_true, List.all_eq_true] at this
    exact ⟨this.1, fun a ha => new_newB a (this.2 a ha)⟩
theorem endG_drop3 {P : Program} {rs : List ResultVar} {R : AV → Heap → Prop} {s : List AV} {x y z : Root} {H1 H0 : Heap} {av : AV} (N : Nat) (hN : H0.length = N) (hH : H1 = H0.map (Root.ren fun r => 3 + min r N))
    (hr : resL P s (x :: y :: z :: H1) rs fun l => resOne l = av.ren fun r => 3 + min r N) (h1 : av.newB = true) (h2 : ∀ r ∈ H0, Root.newB r = true) (h3 : R av H0) : endG P rs [] R s (x :: y :: z :: H1) :=
  endG_drop (pre := [x, y, z]) N hN (by rw [hH]; rfl) hr h1 h2 h3
/-- Rows that are copied one by one. -/
def mixC (T : List (List Int)) (k : Nat) : List AV := nestC 1 (T.take k) ++ List.replicate (T.length - k) .nils
theorem mixC_length (T : List (List Int)) {k : Nat} (h : k ≤ T.length) : (mixC T k).length = T.length := by simp [mixC]; omega
theorem mixC_zero (T : List (List Int)) : mixC T 0 = List.replicate T.length .nils := by simp [mixC, nestC]
theorem mixC_all (T : List (List Int)) : mixC T T.length = nestC 1 T := by simp [mixC]
theorem mixC_set {T : List (List Int)} {k : Nat} (h : k < T.length) : (mixC T k).set k (.slc (k + 1) 0 T[k].length 1) = mixC T (k + 1) := by
  have e2 : (nestC 1 (T.take k)).length = k := by simp; omega
  unfold mixC
  rw [List.set_append, if_neg (by omega), e2, Nat.sub_self]
  obtain ⟨m, hm⟩ : ∃ m, T.length - k = m + 1 := ⟨T.length - k - 1, by omega⟩
  have e3 : (T.take k).length = k := by simp; omega
  rw [hm, List.replicate_succ, List.set_cons_zero, show T.length - (k + 1) = m by omega, List.take_succ_eq_append_getElem h, nestC_append, List.append_assoc, e3, Nat.add_comm 1 k]
  rfl
theorem c_toSSo (T : List (List Int)) (h : RsOk T) : Fun Tryz.prog 85 [.view false (cRs false T) T.length] [] (.slc 0 0 T.length 1) (.blk true true 53 (nestC 1 T) :: nestR T) := by
  have h1 := h.len
  refine FnSpec.walk dr_ok Tryz.func85 rfl (by kernel_rfl) rfl rfl rfl (by simp) ?_
  simp
  refine ⟨by omega, by omega, ?_⟩
  refine loopG_of (α := Nat) (fun k => k ≤ T.length) (fun k => T.length - k) (fun k => [(0, .view false (cRs false T) T.length), (3, .slc 0 0 T.length 1), (4, .int .i64 k)]) (fun k => .blk true true 53 (mixC T k) :: nestR (T.take k)) 0 (by simp) (weak_UH (by rw [mixC_zero]; rfl) (by simp)) fun k hk => ?_
  have hw := nat_wrap (k := k) (by omega)
  by_cases c : k < T.length
  · have hm := mixC_length T (k := k) (by omega)
    have hR : (nestR (T.take k)).length = k := by simp; omega
    have hnx : nestR (T.take (k + 1)) = nestR (T.take k) ++ [.blk true false 2 (cIs T[k])] := by
      unfold nestR
      rw [List.take_succ_eq_append_getElem c, List.map_append]; rfl
    have hset := mixC_set c
    generalize nestR (T.take k) = RR at *
    simp [c, hw, hm]
    (first | refine callG_r ?_ | refine callD_r ?_); simp; (first | refine callN_flat (by with_reducible first | exact c_toInt64S _ (h.all _ (List.getElem_mem c))) rfl ?_ | refine callN_new (by with_reducible first | exact c_toInt64S _ (h.all _ (List.getElem_mem c))) ?_ | refine callM_flat (by with_reducible first | exact c_toInt64S _ (h.all _ (List.getElem_mem c))) rfl ?_ | refine callM_new (by with_reducible first | exact c_toInt64S _ (h.all _ (List.getElem_mem c))) ?_)
    simp [c, hw, hm]
    refine ⟨by omega, ?_⟩
    rw [splice_one (by omega), hR, hset, ← hnx]
    exact loopK_next (k + 1) (by omega) (by omega) (weak_UH rfl (by simp [hw]))
  · obtain rfl : k = T.length := by omega
    simp [mixC_all]
    refine endG_drop (pre := []) (T.length + 1) (by simp) ?_ ?_ ?_ ?_ ⟨rfl, rfl⟩
    · show _ = Root.blk true true 53 ((nestC 1 T).map _) :: (nestR T).map _
      rw [nestR_ren, nestC_ren (b' := 1) fun i hi => by simp; omega]
    · simp [AV.ren]
    · rfl
    · exact nestH_new 1 T
/-- A mesh in memory of the call's own, its triangles too. -/
abbrev Msh.own2 (m : Msh) (r : Nat) : AV := .agg [.slc r 0 m.pl.length 3, .slc (r + 1) 0 m.tr.length 1]
abbrev Msh.mem2 (m : Msh) (r : Nat) : Heap := .blk true false 41 (cVs m.pl) :: .blk true true 53 (nestC (r + 2) m.tr) :: nestR m.tr
theorem c_toMesh2 (m : Msh) (h : m.Small) : Fun Tryz.prog 48 [m.av] [] (m.own2 0) (m.mem2 0) := by
  obtain ⟨h1, h2⟩ := h
  refine FnSpec.walk dr_ok Tryz.func48 rfl (by kernel_rfl) rfl rfl rfl (by simp) ?_
  simp
  (first | refine callG_r ?_ | refine callD_r ?_); simp; (first | refine callN_flat (by with_reducible first | exact c_toVectorS _ h1) rfl ?_ | refine callN_new (by with_reducible first | exact c_toVectorS _ h1) ?_ | refine callM_flat (by with_reducible first | exact c_toVectorS _ h1) rfl ?_ | refine callM_new (by with_reducible first | exact c_toVectorS _ h1) ?_)
  simp
  (first | refine callG_r ?_ | refine callD_r ?_); simp; (first | refine callN_flat (by with_reducible first | exact c_toSSo _ h2) rfl ?_ | refine callN_new (by with_reducible first | exact c_toSSo _ h2) ?_ | refine callM_flat (by with_reducible first | exact c_toSSo _ h2) rfl ?_ | refine callM_new (by with_reducible first | exact c_toSSo _ h2) ?_)
  simp
  refine endG_drop3 (m.tr.length + 2) (by simp) ?_ ?_ ?_ ?_ ⟨rfl, rfl⟩
  · show _ = Root.blk true false 41 (cVs m.pl) :: Root.blk true true 53 ((nestC 2 m.tr).map _) :: (nestR m.tr).map _
    rw [nestR_ren, nestR_ren, nestC_ren (b' := 5) fun i hi => by omega, nestC_ren (b' := 5) fun i hi => by omega]
  · simp [AV.ren]
  · rfl
  · intro r hr
    rcases List.mem_cons.1 hr with rfl | hr
    · simp only [newB_blk, Bool.true_and, List.all_eq_true]
      exact newB_num (cVs_num m.pl)
    · exact nestH_new _ m.tr r hr
end Go.Proofs.YtnpflgeenecaeaaGreat
namespace Go.Proofs.YtnpflgeenecaeaaGreat
set_option linter.all false
open Go Go.Awp
set_option maxRecDepth 100000
set_option maxHeartbeats 4000000
set_option pp.deepTerms true

def sumL : List (List Int) → Nat
  | [] => 0
  | t :: T => t.length + sumL T
theorem sumL_drop {T : List (List Int)} {i : Nat} (h : i < T.length) : sumL (T.drop i) = T[i].length + sumL (T.drop (i + 1)) := by
  rw [List.drop_eq_getElem_cons h]; rfl
theorem szRs_sum : ∀ {T : List (List Int)} {left : Int}, left ≤ 1048576 → 0 ≤ left → 0 ≤ szRs T left → (sumL T : Int) ≤ left
  | [], left, _, h0, _ => by simpa [sumL] using h0
  | t :: T, left, h, h0, hz => by
    unfold szRs at hz
    split at hz
    · omega
    · rename_i h1
      have h5 : szL t.length left = left - t.length := by unfold szL; rw [if_neg (by have := szL_ok h1; omega)]
      have := szRs_sum (T := T) (left := szL t.length left) (by omega) (by omega) hz
      simp only [sumL]
      omega
theorem szSS_sum {T : List (List Int)} {left : Int} (h : left ≤ 1048576) (h0 : 0 ≤ left) (hz : 0 ≤ szSS T left) : (sumL T : Int) ≤ left := by
  unfold szSS at hz
  split at hz
  · omega
  · have := szRs_sum (T := T) (left := left - T.length) (by omega) (by omega) hz
    omega
theorem c_markRow (l : List Int) (k : Nat) (z : Int) (hz : z = k) (h : l.length ≤ 1048576) (hk : k ≤ 1000000000) : Fun Tryz.prog 30 [.slc 0 0 l.length 1, .int .i64 z] [.blk false false 2 (cIs l)] (.int .i64 ((k : Int) + l.length)) [.blk false false 2 []] := by
  have h1 := c_markInt64S l l.length k z hz rfl h hk
  refine FnSpec.cut h1 fun av H' ⟨e1, e2⟩ => ⟨by rw [e1]; simp, ?_⟩
  rw [e2]
  exact cut_one (c := [])
/-- Rows that are handed on; rows of which nothing is known. -/
def nestF (T : List (List Int)) : Heap := T.map fun t => .blk false false 2 (cIs t)
def deadF (n : Nat) : Heap := List.replicate n (.blk false false 2 [])
/-- An end at which all roots are kept, none is new. -/
theorem endG_same {P : Program} {rs : List ResultVar} {R : AV → Heap → Prop} {s : List AV} {Hin H : Heap} {av : AV} (hl : H.length = Hin.length) (hb : ∀ r ∈ H, ∃ n b e c, r = Root.blk n b e c)
    (hH : ∀ r ∈ H, Root.ren (fun r => if r < H.length then r else H.length) r = r) (hr : resL P s H rs fun l => resOne l = av.ren fun r => if r < H.length then r else H.length) (h1 : av.newB = true) (h3 : R av H) : endG P rs Hin R s H := by
  unfold endG
  refine resL_mono rs (fun l hl' => ?_) hr
  have hf : oldN Hin.length H.length [] = fun r => if r < H.length then r else H.length := by
    funext r
    unfold oldN
    rw [hl]; simp
  refine ⟨[], av, H, ⟨by simp [hl], by omega, by simp, fun k r hk => by simp at hk, ?_, fun r new box e cells hr0 => .inr ?_⟩, new_newB av h1, fun k new box e cells hk hx => ?_, fun r hr0 => ?_, h3⟩
  · rw [hf]; exact ⟨.inr (.inl hl'), trivial⟩
  · have hlt := (List.getElem?_eq_some_iff.1 hr0).1
    have hm := hH _ (List.mem_of_getElem? hr0)
    rw [hf]
    refine ⟨cells, by show H[if r < H.length then r else H.length]? = _; rw [if_pos hlt]; exact hr0, fun _ => rfl, fun hbx => ?_⟩
    subst hbx
    have hm' : cells.map (AV.ren fun r => if r < H.length then r else H.length) = cells := by
      have := congrArg (fun r => match r with | Root.blk _ _ _ c => c | .gone => []) hm
      exact this
    have key : ∀ (f : Nat → Nat) (Z : Nat → Prop) (c : List AV), leL f Z (c.map (AV.ren f)) c := by
      intro f Z c
      induction c with
      | nil => trivial
      | cons a l ih => exact ⟨.inr (.inl rfl), ih⟩
    have := key (fun r => if r < H.length then r else H.length) (fun r => Hin.length ≤ r ∧ ([] : List (Option Nat))[r - Hin.length]? = some none) cells
    rw [hm'] at this
    exact this
  · have := (List.getElem?_eq_some_iff.1 hx).1
    omega
  · obtain ⟨n, b, e, c, h⟩ := hb _ (List.getElem_mem (show r < H.length by omega))
    exact ⟨n, b, e, c, by rw [List.getElem?_eq_getElem (show r < H.length by omega), h]⟩
theorem c_markSS (T : List (List Int)) (h : RsOk T) (k0 : Nat) (z : Int) (hz : z = k0) (hk : k0 + sumL T ≤ 1000000000) :
    Fun Tryz.prog 94 [.slc 0 0 T.length 1, .int .i64 z] (.blk false true 53 (nestC 1 T) :: nestF T) (.int .i64 ((k0 : Int) + sumL T)) (.blk false true 53 (nestC 1 T) :: deadF T.length) := by
  subst hz
  have h1 := h.len
  refine FnSpec.walk dr_ok Tryz.func94 rfl (by kernel_rfl) rfl rfl rfl (by simp) ?_
  simp
  refine loopG_of (α := Nat × Nat) (fun x => x.1 ≤ T.length ∧ x.2 + sumL (T.drop x.1) = k0 + sumL T) (fun x => T.length - x.1) (fun x => [(0, .slc 0 0 T.length 1), (1, .int .i64 x.2), (5, .int .i64 x.1)])
    (fun x => .blk false true 53 (nestC 1 T) :: (deadF x.1 ++ nestF (T.drop x.1))) (0, k0) ⟨by simp, by simp⟩ (weak_UH (by simp [deadF]) (by simp)) fun x ⟨hx, hs⟩ => ?_
  obtain ⟨i, k⟩ := x
  simp only at hx hs ⊢
  have hw := nat_wrap (k := i) (by omega)
  by_cases c : i < T.length
  · have hd := sumL_drop c
    have hal := h.all _ (List.getElem_mem c)
    have hg := nestC_get (b := 1) c
    have hRl : (deadF i ++ nestF (T.drop i)).length = T.length := by simp [deadF, nestF]; omega
    have hRg : (deadF i ++ nestF (T.drop i))[i]? = some (.blk false false 2 (cIs T[i])) := by
      rw [List.getElem?_append_right (by simp [deadF]), List.drop_eq_getElem_cons c, show i - (deadF i).length = 0 by simp [deadF]]; rfl
    have hnx : (deadF i ++ nestF (T.drop i)).set i (.blk false false 2 []) = deadF (i + 1) ++ nestF (T.drop (i + 1)) := by
      rw [List.set_append, if_neg (by simp [deadF]), List.drop_eq_getElem_cons c, show i - (deadF i).length = 0 by simp [deadF]]
      show deadF i ++ (.blk false false 2 [] :: nestF (T.drop (i + 1))) = _
      unfold deadF
      rw [List.replicate_succ', List.append_assoc]; rfl
    generalize deadF i ++ nestF (T.drop i) = RR at *
    have hx1 : (Root.blk false true 53 (nestC 1 T) :: RR)[1 + i]? = some (.blk false false 2 (cIs T[i])) := by
      rw [Nat.add_comm]; exact hRg
    have hg2 : (nestC 1 T)[i]'(by simpa using c) = .slc (1 + i) 0 T[i].length 1 := (List.getElem?_eq_some_iff.1 hg).2
    simp [c, hw, hg2]
    refine callG_on true [1 + i] ?_
    simp [hx1, liveB, restr, pasH]
    refine callN_fun (c_markRow _ k _ rfl hal (by omega)) (by simp) ?_
    simp [hx1, mergeH]
    have hst : (Root.blk false true 53 (nestC 1 T) :: RR).set (1 + i) (.blk false false 2 []) = .blk false true 53 (nestC 1 T) :: (deadF (i + 1) ++ nestF (T.drop (i + 1))) := by
      rw [← hnx, Nat.add_comm 1 i]; rfl
    rw [hst]
    exact loopK_next (i + 1, k + T[i].length) (by simp; omega) ⟨by simp; omega, by simp; omega⟩ (weak_UH rfl (by simp [hw]))
  · obtain rfl : i = T.length := by omega
    simp
    have e0 : nestF [] = [] := rfl
    have es : sumL [] = 0 := rfl
    rw [List.drop_length, es] at hs
    rw [e0, List.append_nil]
    refine endG_same (av := .int .i64 k) (by simp [deadF, nestF]) (fun r hr => ?_) (fun r hr => ?_) ?_ rfl ⟨by rw [show k = k0 + sumL T by omega]; simp, rfl⟩
    · rcases List.mem_cons.1 hr with rfl | hr
      · exact ⟨_, _, _, _, rfl⟩
      · exact ⟨_, _, _, _, List.eq_of_mem_replicate hr⟩
    · rcases List.mem_cons.1 hr with rfl | hr
      · show Root.blk false true 53 ((nestC 1 T).map _) = _
        rw [nestC_ren (b' := 1) fun i hi => by simp [deadF]; omega]
      · rw [List.eq_of_mem_replicate hr]; rfl
    · simp [AV.ren]
end Go.Proofs.YtnpflgeenecaeaaGreat
namespace Go.Proofs.YtnpflgeenecaeaaGreat
set_option linter.all false
open Go Go.Awp
set_option maxRecDepth 100000
set_option maxHeartbeats 4000000
set_option pp.deepTerms true

theorem posN_app : ∀ {ps : List Nat} {σ : List Nat} {i r : Nat}, r ∉ ps → posN (ps ++ σ) i r = posN σ (i + ps.length) r
  | [], σ, i, r, _ => by simp
  | p :: ps, σ, i, r, h => by
    have h1 : p ≠ r := fun e => h (by rw [e]; exact List.mem_cons_self ..)
    show (if p = r then some i else posN (ps ++ σ) (i + 1) r) = _
    rw [if_neg h1, posN_app (fun e => h (List.mem_cons_of_mem _ e)), List.length_cons, show i + 1 + ps.length = i + (ps.length + 1) by omega]
theorem posN_range : ∀ {m b i j : Nat}, i < m → posN (List.range' b m) j (b + i) = some (j + i)
  | m + 1, b, 0, j, _ => by
    rw [List.range'_succ]
    show (if b = b + 0 then some j else _) = _
    rw [if_pos (by omega)]; rfl
  | m + 1, b, i + 1, j, h => by
    rw [List.range'_succ]
    show (if b = b + (i + 1) then some j else posN (List.range' (b + 1) m) (j + 1) (b + (i + 1))) = _
    rw [if_neg (by omega), show b + (i + 1) = b + 1 + i by omega, posN_range (by omega), show j + 1 + i = j + (i + 1) by omega]
theorem nest_pass {σ : List Nat} {H : Heap} : ∀ {T : List (List Int)} {b b' : Nat}, (∀ i, i < T.length → posN σ 0 (b + i) = some (b' + i)) → (nestC b T).map (pass0 false false σ H) = nestC b' T
  | [], _, _, _ => rfl
  | t :: T, b, b', h => by
    have h0 : posN σ 0 b = some b' := by simpa using h 0 (by simp)
    have := nest_pass (σ := σ) (H := H) (T := T) (b := b + 1) (b' := b' + 1) fun i hi => by
      have := h (i + 1) (by simpa using hi)
      rw [show b + (i + 1) = b + 1 + i by omega, show b' + (i + 1) = b' + 1 + i by omega] at this
      exact this
    simp only [nestC, List.map_cons, this, pass0, h0, pasR]
theorem call_nest {P : Program} {f : FuncId} {args a' : List AV} {H : Heap} {K : AV → Heap → Prop} {ps : List Nat} {q b : Nat} {T : List (List Int)} {nw : Bool} {n : Int} {psr psr' : Heap}
    (hnd : (ps ++ q :: List.range' b T.length).Nodup) (hbox : H[q]? = some (.blk nw true 53 (nestC b T)))
    (hrow : ∀ (i : Nat) (h : i < T.length), ∃ w, H[b + i]? = some (.blk w false 2 (cIs T[i]))) (hlive : ∀ p ∈ ps, liveB H[p]? = true)
    (hps : ps.map (fun r => pasH (ps ++ q :: List.range' b T.length) H H[r]?) = psr) (hargs : args.map (passA true (ps ++ q :: List.range' b T.length) H) = a')
    (hc : Fun P f a' (psr ++ .blk false true 53 (nestC (ps.length + 1) T) :: nestF T) (.int .i64 n) (psr' ++ .blk false true 53 (nestC (ps.length + 1) T) :: deadF T.length))
    (hl : psr'.length = ps.length) (hv : psr'.all Root.noView = true)
    (hk : ∀ M : Heap, M.length = H.length → (∀ j, j ∉ ps ++ q :: List.range' b T.length → M[j]? = H[j]?) →
      (∀ (i r : Nat) x, (ps ++ q :: List.range' b T.length)[i]? = some r → (psr' ++ .blk false true 53 (nestC (ps.length + 1) T) :: deadF T.length)[i]? = some x → M[r]? = some (withNew (H.getD r .gone) (x.ren (backN (ps ++ q :: List.range' b T.length) H.length)))) → K (.int .i64 n) M) :
    @callS P f args H ⟨K⟩ trivial := by
  have hqr : ∀ i, i < T.length → b + i ∉ ps ∧ b + i ≠ q := fun i hi => by
    have hm : b + i ∈ List.range' b T.length := by rw [List.mem_range'_1]; omega
    obtain ⟨_, h2, h3⟩ := List.nodup_append.1 hnd
    exact ⟨fun e => h3 _ e _ (List.mem_cons_of_mem _ hm) rfl, fun e => (List.nodup_cons.1 h2).1 (e ▸ hm)⟩
  have hlv : (ps ++ q :: List.range' b T.length).all (fun r => liveB H[r]?) = true := by
    rw [List.all_eq_true]
    intro r hr
    rcases List.mem_append.1 hr with h | h
    · exact hlive r h
    · rcases List.mem_cons.1 h with rfl | h
      · rw [hbox]; rfl
      · rw [List.mem_range'_1] at h
        obtain ⟨w, hw⟩ := hrow (r - b) (by omega)
        rw [show b + (r - b) = r by omega] at hw
        rw [hw]; rfl
  have hpos : ∀ i, i < T.length → posN (ps ++ q :: List.range' b T.length) 0 (b + i) = some (ps.length + 1 + i) := fun i hi => by
    obtain ⟨h1, h2⟩ := hqr i hi
    rw [posN_app h1, Nat.zero_add]
    show (if q = b + i then _ else posN (List.range' b T.length) (ps.length + 1) (b + i)) = _
    rw [if_neg (fun e => h2 e.symm), posN_range hi]
  have hrs : restr (ps ++ q :: List.range' b T.length) H = psr ++ .blk false true 53 (nestC (ps.length + 1) T) :: nestF T := by
    unfold restr
    rw [List.map_append, hps, List.map_cons]
    congr 1
    congr 1
    · rw [hbox]
      show Root.blk false true 53 ((nestC b T).map _) = _
      rw [nest_pass hpos]
    · apply List.ext_getElem
      · simp [nestF]
      · intro i h1 h2
        have hi : i < T.length := by simpa using h1
        obtain ⟨w, hw⟩ := hrow i hi
        rw [List.getElem_map, List.getElem_range', Nat.one_mul, hw]
        simp only [nestF, List.getElem_map]
        show Root.blk false false 2 ((cIs T[i]).map _) = _
        rw [map_pass0_num (cIs_num _)]
  refine callG_of true (ps ++ q :: List.range' b T.length) hnd hlv ?_
  rw [hrs, hargs]
  have hlen : (psr' ++ .blk false true 53 (nestC (ps.length + 1) T) :: deadF T.length).length = (ps ++ q :: List.range' b T.length).length := by
    simp [hl, deadF]
  refine callN_fun hc (fun _ => ?_) ?_
  · rw [List.take_of_length_le (by omega), List.all_append, hv, Bool.true_and, List.all_cons, Bool.and_eq_true]
    refine ⟨?_, ?_⟩
    · show (nestC (ps.length + 1) T).all AV.noView = true
      have : ∀ (T : List (List Int)) (b : Nat), (nestC b T).all AV.noView = true := by
        intro T
        induction T with
        | nil => intro b; rfl
        | cons t T ih => intro b; simp only [nestC, List.all_cons, ih]; rfl
      exact this T _
    · rw [List.all_eq_true]
      intro r hr
      rw [List.eq_of_mem_replicate hr]; rfl
  · have e1 : mergeH (ps ++ q :: List.range' b T.length) H (psr' ++ .blk false true 53 (nestC (ps.length + 1) T) :: deadF T.length) = mergeSet (backN (ps ++ q :: List.range' b T.length) H.length) (ps ++ q :: List.range' b T.length) (psr' ++ .blk false true 53 (nestC (ps.length + 1) T) :: deadF T.length) H := by
      unfold mergeH
      rw [List.drop_of_length_le (by omega)]
      simp
    rw [e1]
    simp only [AV.ren]
    refine hk _ (mergeSet_length ..) (fun j hj => mergeSet_other _ _ _ _ _ hj) fun i r x h1 h2 => mergeSet_at _ _ _ _ _ _ _ hnd h1 h2 ?_
    have := List.all_eq_true.1 hlv r (List.mem_of_getElem? h1)
    cases hx : H[r]? with
    | none => rw [hx] at this; cases this
    | some y => exact (List.getElem?_eq_some_iff.1 hx).1
/-- An end at which new roots are forgotten. -/
theorem endG_take {P : Program} {rs : List ResultVar} {R : AV → Heap → Prop} {s : List AV} {Hin H H0 : Heap} {av : AV} (hl : H0.length = Hin.length) (hle : Hin.length ≤ H.length) (h0 : ∀ r, r < H0.length → H[r]? = H0[r]?) (hb : ∀ r ∈ H0, ∃ n b e c, r = Root.blk n b e c)
    (hH : ∀ r ∈ H0, Root.ren (fun r => if r < H0.length then r else H.length) r = r) (hr : resL P s H rs fun l => resOne l = av.ren fun r => if r < H0.length then r else H.length) (h1 : av.newB = true) (h3 : R av H0) : endG P rs Hin R s H := by
  unfold endG
  refine resL_mono rs (fun l hl' => ?_) hr
  have hf : oldN Hin.length H.length [] = fun r => if r < H0.length then r else H.length := by
    funext r
    unfold oldN
    rw [hl]; simp
  refine ⟨[], av, H0, ⟨by simp [hl], hle, by simp, fun k r hk => by simp at hk, ?_, fun r new box e cells hr0 => .inr ?_⟩, new_newB av h1, fun k new box e cells hk hx => ?_, fun r hr0 => ?_, h3⟩
  · rw [hf]; exact ⟨.inr (.inl hl'), trivial⟩
  · have hlt := (List.getElem?_eq_some_iff.1 hr0).1
    have hm := hH _ (List.mem_of_getElem? hr0)
    rw [hf]
    refine ⟨cells, by show H[if r < H0.length then r else H.length]? = _; rw [if_pos hlt, h0 r hlt]; exact hr0, fun _ => rfl, fun hbx => ?_⟩
    subst hbx
    have hm' : cells.map (AV.ren fun r => if r < H0.length then r else H.length) = cells := by
      have := congrArg (fun r => match r with | Root.blk _ _ _ c => c | .gone => []) hm
      exact this
    have key : ∀ (f : Nat → Nat) (Z : Nat → Prop) (c : List AV), leL f Z (c.map (AV.ren f)) c := by
      intro f Z c
      induction c with
      | nil => trivial
      | cons a l ih => exact ⟨.inr (.inl rfl), ih⟩
    have := key (fun r => if r < H0.length then r else H.length) (fun r => Hin.length ≤ r ∧ ([] : List (Option Nat))[r - Hin.length]? = some none) cells
    rw [hm'] at this
    exact this
  · have := (List.getElem?_eq_some_iff.1 hx).1
    omega
  · obtain ⟨n, b, e, c, h⟩ := hb _ (List.getElem_mem (show r < H0.length by omega))
    exact ⟨n, b, e, c, by rw [List.getElem?_eq_getElem (show r < H0.length by omega), h]⟩
theorem c_markMesh (m : Msh) (h : m.Small) (hs : sumL m.tr ≤ 1048576) : Fun Tryz.prog 59 [.agg [.slc 0 0 m.pl.length 3, .slc 1 0 m.tr.length 1], .int .i64 1] (.blk false false 41 (cVs m.pl) :: .blk false true 53 (nestC 2 m.tr) :: nestF m.tr)
    (.int .i64 ((1 + 3 * m.pl.length : Nat) + (sumL m.tr : Int))) (.blk false false 41 (cVs (markV 1 m.pl.length)) :: .blk false true 53 (nestC 2 m.tr) :: deadF m.tr.length) := by
  obtain ⟨h1, h2⟩ := h
  refine FnSpec.walk dr_ok Tryz.func59 rfl (by kernel_rfl) rfl rfl rfl (by simp) ?_
  have hRl : (nestF m.tr).length = m.tr.length := by simp [nestF]
  have hRg : ∀ (i : Nat) (h : i < m.tr.length), (nestF m.tr)[i]? = some (.blk false false 2 (cIs m.tr[i])) := fun i h => by simp [nestF, h]
  generalize nestF m.tr = RR at *
  simp
  (first | refine callG_on true [0] ?_ | refine callD_on true [0] ?_); simp; (first | refine callN_fun (by with_reducible exact c_markVectorS m.pl _ 1 _ (by simp) rfl h1 (by omega)) (by simp) ?_ | refine callMD_fun (by with_reducible exact c_markVectorS m.pl _ 1 _ (by simp) rfl h1 (by omega)) (by simp) ?_)
  simp
  have kS := c_markSS m.tr h2 (1 + 3 * m.pl.length) (1 + 3 * (m.pl.length : Int)) (by simp) (by omega)
  refine call_nest (ps := []) (q := 1) (b := 2) (T := m.tr) (nw := false) (psr := []) (psr' := []) ?_ rfl (fun i hi => ⟨false, ?_⟩) (by simp) rfl ?_ kS rfl rfl fun M hM1 hM2 hM3 => ?_
  · rw [List.nil_append, List.nodup_cons]
    exact ⟨by rw [List.mem_range'_1]; omega, List.nodup_range'⟩
  · rw [show 2 + i = i + 1 + 1 by omega, List.getElem?_cons_succ, List.getElem?_cons_succ, List.getElem?_append_left (by omega)]
    exact hRg i hi
  · simp [passA, pass0, pasR, posN]
  simp
  have hback : ∀ i, i < m.tr.length → backN ([] ++ 1 :: List.range' 2 m.tr.length) (RR.length + 3) (1 + i) = 2 + i := fun i hi => by
    unfold backN
    rw [if_pos (by simp; omega), List.nil_append, Nat.add_comm 1 i, List.getD_cons_succ, List.getD_eq_getElem?_getD, List.getElem?_range' hi]; simp
  have hlen : M.length = RR.length + 3 := by rw [hM1]; simp
  refine endG_take (av := .int .i64 (1 + 3 * m.pl.length + sumL m.tr)) (H0 := Root.blk false false 41 (cVs (markV 1 m.pl.length)) :: Root.blk false true 53 (nestC 2 m.tr) :: deadF m.tr.length) (by simp [deadF, hRl]) (by rw [hlen]; simp) (fun r hr => ?_) (fun r hr => ?_) (fun r hr => ?_) ?_ rfl ⟨rfl, rfl⟩
  · match r, hr with
    | 0, _ => rw [hM2 0 (by simp)]; rfl
    | 1, _ =>
      rw [hM3 0 1 _ rfl rfl]
      show some (Root.blk false true 53 ((nestC (0 + 1) m.tr).map _)) = _
      rw [nestC_ren (b' := 2) fun i hi => ?_]
      · rfl
      · have := hback i hi
        simp only [List.length_cons, List.length_append, List.length_nil] at this ⊢
        simpa using this
    | r + 2, hr =>
      have hr' : r < m.tr.length := by simpa [deadF] using hr
      have hd : (deadF m.tr.length)[r]? = some (.blk false false 2 []) := by simp [deadF, hr']
      rw [hM3 (r + 1) (r + 2) (.blk false false 2 []) (by rw [List.nil_append, List.getElem?_cons_succ, List.getElem?_range' hr']; simp; omega) (by rw [List.nil_append, List.getElem?_cons_succ]; exact hd)]
      rw [List.getElem?_cons_succ, List.getElem?_cons_succ, hd, List.getD_eq_getElem?_getD, List.getElem?_cons_succ, List.getElem?_cons_succ, List.getElem?_append_left (by omega), hRg r hr']
      rfl
  · rcases List.mem_cons.1 hr with rfl | hr
    · exact ⟨_, _, _, _, rfl⟩
    · rcases List.mem_cons.1 hr with rfl | hr
      · exact ⟨_, _, _, _, rfl⟩
      · exact ⟨_, _, _, _, List.eq_of_mem_replicate hr⟩
  · rcases List.mem_cons.1 hr with rfl | hr
    · rfl
    · rcases List.mem_cons.1 hr with rfl | hr
      · show Root.blk false true 53 ((nestC 2 m.tr).map _) = _
        rw [nestC_ren (b' := 2) fun i hi => by simp [deadF]; omega]
      · rw [List.eq_of_mem_replicate hr]; rfl
  · simp [AV.ren]
end Go.Proofs.YtnpflgeenecaeaaGreat
