/- Contracts: pins; cloths over a floor.
Conditions: none. -/
import Derived.Test.YtafbecgidhoekaaM2
namespace Go.Proofs.Ytafbecgidhoekaa
set_option linter.all false
open Go Go.Awp
set_option maxRecDepth 100000
set_option maxHeartbeats 4000000
set_option pp.deepTerms true

theorem mixN_skip {α : Type} {l' l : List α} {k : Nat} (hl : l'.length = l.length) (h : k < l.length) (he : l'[k] = l[k]) : mixN l' l k = mixN l' l (k + 1) := by
  rw [← mixN_set (v := l'[k]) (by omega) hl rfl, he]
  have : (mixN l' l k)[k]'(by rw [mixN_length k hl]; exact h) = l[k] := mixN_get hl h
  rw [← this, List.set_getElem_self]
/-- For each of n places, whether it is listed. -/
def pinT (n : Nat) (l : List Int) : List Bool := (List.range n).map fun (i : Nat) => decide ((i : Int) ∈ l)
@[simp] theorem pinT_length (n : Nat) (l : List Int) : (pinT n l).length = n := by simp [pinT]
@[simp] theorem pinT_take (n : Nat) (l : List Int) : (pinT n l).take n = pinT n l := List.take_of_length_le (by simp)
theorem pinT_get {n : Nat} {l : List Int} {i : Nat} (h : i < n) : (pinT n l)[i]'(by simpa using h) = decide ((i : Int) ∈ l) := by simp [pinT]
theorem pinT_nil (n : Nat) : pinT n [] = List.replicate n false := by
  apply List.ext_getElem
  · simp
  · intro i h1 h2; simp [pinT]
theorem pinT_set {n : Nat} {l : List Int} {p : Int} (h0 : 0 ≤ p) (h1 : p < n) : (pinT n l).set p.toNat true = pinT n (l ++ [p]) := by
  apply List.ext_getElem
  · simp
  · intro i g1 g2
    rw [List.getElem_set]
    simp only [pinT, List.getElem_map, List.getElem_range, List.mem_append, List.mem_singleton]
    split
    · rename_i e; subst e
      simp; right; omega
    · rename_i e
      congr 1
      apply propext
      constructor
      · exact .inl
      · rintro (h | h)
        · exact h
        · omega
theorem pinsF_mem {n : Int} : ∀ {l : List Int} {a : Int}, -1 ≤ a → pinsF n a l = true → ∀ p ∈ l, 0 ≤ p ∧ p < n
  | [], _, _, _, p, hp => by cases hp
  | q :: l, a, h0, h, p, hp => by
    simp [pinsF, inB] at h
    rcases List.mem_cons.1 hp with rfl | hp
    · omega
    · exact pinsF_mem (a := q) (by omega) h.2 p hp
theorem vld_pins {c : Clo} (h : vldC c = true) : ∀ p ∈ c.pin, 0 ≤ p ∧ p < c.pl.length := by
  unfold vldC at h
  simp only [Bool.and_eq_true] at h
  exact pinsF_mem (Int.le_refl _) h.2
theorem c_pins (c : Clo) (hs : c.Small) (hn : c.pl.length ≤ 64) (hp : ∀ p ∈ c.pin, 0 ≤ p ∧ p < c.pl.length) : Fun Try.prog 98 [c.av] [] (.slc 0 0 c.pl.length 1) [.blk true false 4 (cBs (pinT c.pl.length c.pin))] := by
  obtain ⟨h1, h2, h3, h4⟩ := hs
  refine FnSpec.walk dr_ok Try.func98 rfl (by kernel_rfl) rfl rfl rfl (by simp) ?_
  simp
  refine ⟨by omega, by omega, ?_⟩
  refine loopG_of (α := Nat) (fun k => k ≤ c.pin.length) (fun k => c.pin.length - k) (fun k => [(13, .int .i64 k), (12, .int .i64 c.pin.length), (11, .view false (cIs c.pin) c.pin.length), (3, .slc 1 0 c.pl.length 1)])
    (fun k => [.gone, .blk true false 4 (cBs (pinT c.pl.length (c.pin.take k)))]) 0 (by simp) ?_ fun k hk => ?_
  · rw [List.take_zero, pinT_nil]; (refine weak_gc [(some 0, 0), (some 1, 0)] ?_ ?_ ?_ ?_ ?_ <;> simp)
  have hw := nat_wrap (k := k) (by omega)
  by_cases b : k < c.pin.length
  · obtain ⟨q1, q2⟩ := hp _ (List.getElem_mem b)
    simp [b, hw, q1, q2]
    refine ⟨by omega, loopK_next (k + 1) (by omega) (by omega) ?_⟩
    rw [pinT_set q1 q2, List.take_append_getElem b]
    (refine weak_gc [(some 0, 0), (some 1, 0)] ?_ ?_ ?_ ?_ ?_ <;> simp)
  · obtain rfl : k = c.pin.length := by omega
    simp
    (refine endG_keepT [(some 1, 0)] ?_ ?_ ?_ ?_ ?_ ?_ ?_ ⟨rfl, rfl⟩ ?_ <;> simp)
theorem c_l00Has (l : List Int) (n : Int) (h : l.length ≤ 1048576) : Fun Try.prog 97 [.view false (cIs l) l.length, .int .i64 n] [] (.bool (decide (n ∈ l))) [] := by
  refine FnSpec.walkF dr_ok Try.func97 rfl (by kernel_rfl) rfl rfl rfl (by simp) ?_
  simp
  refine loopG_of (α := Nat) (fun k => k ≤ l.length ∧ n ∉ l.take k) (fun k => l.length - k) (fun k => [(0, .view false (cIs l) l.length), (1, .int .i64 n), (5, .int .i64 k)]) (fun k => []) 0 (by simp) (weak_UH (by simp) (by simp)) fun k ⟨hk, hi⟩ => ?_
  have hw := nat_wrap (k := k) (by omega)
  by_cases b : k < l.length
  · simp [b, hw]
    refine ⟨fun e => by rw [← e]; exact List.getElem_mem b, fun e => ?_⟩
    refine loopK_next (k + 1) (by omega) ⟨by omega, ?_⟩ ?_
    · rw [← List.take_append_getElem b]
      simp only [List.mem_append, List.mem_singleton, not_or]
      exact ⟨hi, fun h => e h.symm⟩
    · (refine weak_gc [] ?_ ?_ ?_ ?_ ?_ <;> simp)
  · obtain rfl : k = l.length := by omega
    simp at hi ⊢
    exact hi
/-- A cloth over a floor. -/
def floorC (c : Clo) (h : Nat) : Clo := { c with pl := c.pl.mapIdx fun i p => if decide ((i : Int) ∈ c.pin) = false ∧ ford .f32 p.2.2 h = some .lt then (p.1, p.2.1, h) else p }
theorem c_FloorCloth (c : Clo) (h : Nat) (hs : c.Small) (hv : vldC c = true) : Fun Try.prog 45 [c.av, .flt .f32 h] [] (.tup [(floorC c h).own 0, .bool true]) (floorC c h).mem := by
  have hvl := vld_len hv
  refine FnSpec.walk dr_ok Try.func45 rfl (by kernel_rfl) rfl rfl rfl (by simp) ?_
  simp
  (first | refine callG_r ?_ | refine callD_r ?_); simp; (first | refine callN_flat (by with_reducible first | exact c_ValidCloth c hs) rfl ?_ | refine callN_new (by with_reducible first | exact c_ValidCloth c hs) ?_ | refine callM_flat (by with_reducible first | exact c_ValidCloth c hs) rfl ?_ | refine callM_new (by with_reducible first | exact c_ValidCloth c hs) ?_)
  simp [hv]
  (first | refine callG_r ?_ | refine callD_r ?_); simp; (first | refine callN_flat (by with_reducible first | exact c_copyCloth c hs) rfl ?_ | refine callN_new (by with_reducible first | exact c_copyCloth c hs) ?_ | refine callM_flat (by with_reducible first | exact c_copyCloth c hs) rfl ?_ | refine callM_new (by with_reducible first | exact c_copyCloth c hs) ?_)
  simp
  (first | refine callG_r ?_ | refine callD_r ?_); simp; (first | refine callN_flat (by with_reducible first | exact c_pins c hs hvl.1 (vld_pins hv)) rfl ?_ | refine callN_new (by with_reducible first | exact c_pins c hs hvl.1 (vld_pins hv)) ?_ | refine callM_flat (by with_reducible first | exact c_pins c hs hvl.1 (vld_pins hv)) rfl ?_ | refine callM_new (by with_reducible first | exact c_pins c hs hvl.1 (vld_pins hv)) ?_)
  simp
  have hlp : (floorC c h).pl.length = c.pl.length := by simp [floorC]
  refine loopG_of (α := Nat) (fun k => k ≤ c.pl.length) (fun k => c.pl.length - k) (fun k => [(18, .int .i64 k), (17, .int .i64 c.pl.length), (16, .slc 7 0 c.pl.length 1), (6, .ptr 6 0), (1, .flt .f32 h), (4, .ptr 1 0)])
    (fun k => [.gone, .blk true true 32 [.nils, .nils, .nils, .nils], .blk true false 56 (cVs (mixN (floorC c h).pl c.pl k)), .blk true false 56 (cVs c.ol), .blk true false 80 (cTs c.th), .blk true false 2 (cIs c.pin),
      .blk true true 32 [.slc 2 0 c.pl.length 3, .slc 3 0 c.ol.length 3, .slc 4 0 c.th.length 3, .slc 5 0 c.pin.length 1], .blk true false 4 (cBs (pinT c.pl.length c.pin))]) 0 (by simp) ?_ fun k hk => ?_
  · (refine weak_gc [(some 0, 0), (some 1, 0), (some 2, 0), (some 3, 0), (some 4, 0), (some 5, 0), (some 6, 0), (some 7, 0)] ?_ ?_ ?_ ?_ ?_ <;> simp)
  have hw := nat_wrap (k := k) (by omega)
  have hm := mixN_length k hlp
  by_cases b : k < c.pl.length
  · simp [b, hw, hm, pinT_get, mixN_get hlp b]
    refine ⟨fun e1 => ⟨fun e2 => ⟨by omega, loopK_next (k + 1) (by omega) (by omega) ?_⟩, fun e2 => loopK_next (k + 1) (by omega) (by omega) ?_⟩, fun e1 => loopK_next (k + 1) (by omega) (by omega) ?_⟩
    · rw [mixN_set (by omega) hlp (by simp [floorC, e1, e2])]
      (refine weak_gc [(some 0, 0), (some 1, 0), (some 2, 0), (some 3, 0), (some 4, 0), (some 5, 0), (some 6, 0), (some 7, 0)] ?_ ?_ ?_ ?_ ?_ <;> simp)
    · rw [← mixN_skip hlp b (by simp [floorC, e1, e2])]
      (refine weak_gc [(some 0, 0), (some 1, 0), (some 2, 0), (some 3, 0), (some 4, 0), (some 5, 0), (some 6, 0), (some 7, 0)] ?_ ?_ ?_ ?_ ?_ <;> simp)
    · rw [← mixN_skip hlp b (by simp [floorC, e1])]
      (refine weak_gc [(some 0, 0), (some 1, 0), (some 2, 0), (some 3, 0), (some 4, 0), (some 5, 0), (some 6, 0), (some 7, 0)] ?_ ?_ ?_ ?_ ?_ <;> simp)
  · obtain rfl : k = c.pl.length := by omega
    rw [mixN_all (by omega) (by omega)]
    simp
    (refine endG_keepT [(some 2, 0), (some 3, 0), (some 4, 0), (some 5, 0)] ?_ ?_ ?_ ?_ ?_ ?_ ?_ ⟨rfl, rfl⟩ ?_ <;> simp [floorC])
theorem c_specFloorCloth (c : Clo) (h : Nat) (hs : c.Small) (hv : vldC c = true) : Fun Try.prog 44 [c.av, .flt .f32 h] [] (.tup [(floorC c h).own 0, .bool true]) (floorC c h).mem := by
  have hvl := vld_len hv
  refine FnSpec.walk dr_ok Try.func44 rfl (by kernel_rfl) rfl rfl rfl (by simp) ?_
  simp
  (first | refine callG_r ?_ | refine callD_r ?_); simp; (first | refine callN_flat (by with_reducible first | exact c_l10Is c hs) rfl ?_ | refine callN_new (by with_reducible first | exact c_l10Is c hs) ?_ | refine callM_flat (by with_reducible first | exact c_l10Is c hs) rfl ?_ | refine callM_new (by with_reducible first | exact c_l10Is c hs) ?_)
  simp [hv]
  (first | refine callG_r ?_ | refine callD_r ?_); simp; (first | refine callN_flat (by with_reducible first | exact c_l10Own c hs) rfl ?_ | refine callN_new (by with_reducible first | exact c_l10Own c hs) ?_ | refine callM_flat (by with_reducible first | exact c_l10Own c hs) rfl ?_ | refine callM_new (by with_reducible first | exact c_l10Own c hs) ?_)
  simp
  have hlp : (floorC c h).pl.length = c.pl.length := by simp [floorC]
  refine loopG_of (α := Nat) (fun k => k ≤ c.pl.length) (fun k => c.pl.length - k) (fun k => [(7, .int .i64 k), (2, .ptr 0 0), (6, .ptr 6 0), (1, .flt .f32 h), (4, .ptr 1 0)])
    (fun k => [.blk true true 32 [.view false (cVs c.pl) c.pl.length, .view false (cVs c.ol) c.ol.length, .view false (cTs c.th) c.th.length, .view false (cIs c.pin) c.pin.length], .blk true true 32 [.nils, .nils, .nils, .nils], .blk true false 56 (cVs (mixN (floorC c h).pl c.pl k)), .blk true false 56 (cVs c.ol), .blk true false 80 (cTs c.th), .blk true false 2 (cIs c.pin),
      .blk true true 32 [.slc 2 0 c.pl.length 3, .slc 3 0 c.ol.length 3, .slc 4 0 c.th.length 3, .slc 5 0 c.pin.length 1]]) 0 (by simp) ?_ fun k hk => ?_
  · (refine weak_gc [(some 0, 0), (some 1, 0), (some 2, 0), (some 3, 0), (some 4, 0), (some 5, 0), (some 6, 0)] ?_ ?_ ?_ ?_ ?_ <;> simp)
  have hw := nat_wrap (k := k) (by omega)
  have hm := mixN_length k hlp
  by_cases b : k < c.pl.length
  · simp [b, hw, hm, mixN_get hlp b]
    (first | refine callG_r ?_ | refine callD_r ?_); simp; (first | refine callN_flat (by with_reducible first | exact c_l00Has _ _ hs.pin) rfl ?_ | refine callN_new (by with_reducible first | exact c_l00Has _ _ hs.pin) ?_ | refine callM_flat (by with_reducible first | exact c_l00Has _ _ hs.pin) rfl ?_ | refine callM_new (by with_reducible first | exact c_l00Has _ _ hs.pin) ?_)
    simp [b, hw, hm, mixN_get hlp b]
    refine ⟨fun e1 => ⟨fun e2 => ⟨by omega, loopK_next (k + 1) (by omega) (by omega) ?_⟩, fun e2 => loopK_next (k + 1) (by omega) (by omega) ?_⟩, fun e1 => loopK_next (k + 1) (by omega) (by omega) ?_⟩
    · rw [mixN_set (by omega) hlp (by simp [floorC, e1, e2])]
      (refine weak_gc [(some 0, 0), (some 1, 0), (some 2, 0), (some 3, 0), (some 4, 0), (some 5, 0), (some 6, 0)] ?_ ?_ ?_ ?_ ?_ <;> simp)
    · rw [← mixN_skip hlp b (by simp [floorC, e1, e2])]
      (refine weak_gc [(some 0, 0), (some 1, 0), (some 2, 0), (some 3, 0), (some 4, 0), (some 5, 0), (some 6, 0)] ?_ ?_ ?_ ?_ ?_ <;> simp)
    · rw [← mixN_skip hlp b (by simp [floorC, e1])]
      (refine weak_gc [(some 0, 0), (some 1, 0), (some 2, 0), (some 3, 0), (some 4, 0), (some 5, 0), (some 6, 0)] ?_ ?_ ?_ ?_ ?_ <;> simp)
  · obtain rfl : k = c.pl.length := by omega
    rw [mixN_all (by omega) (by omega)]
    simp
    (refine endG_keepT [(some 2, 0), (some 3, 0), (some 4, 0), (some 5, 0)] ?_ ?_ ?_ ?_ ?_ ?_ ?_ ⟨rfl, rfl⟩ ?_ <;> simp [floorC])
theorem c_FloorCloth0 (c : Clo) (h : Nat) (hs : c.Small) (hv : vldC c = false) : Fun Try.prog 45 [c.av, .flt .f32 h] [] (.tup [noC, .bool false]) [] := by
  refine FnSpec.walk dr_ok Try.func45 rfl (by kernel_rfl) rfl rfl rfl (by simp) ?_
  simp
  (first | refine callG_r ?_ | refine callD_r ?_); simp; (first | refine callN_flat (by with_reducible first | exact c_ValidCloth c hs) rfl ?_ | refine callN_new (by with_reducible first | exact c_ValidCloth c hs) ?_ | refine callM_flat (by with_reducible first | exact c_ValidCloth c hs) rfl ?_ | refine callM_new (by with_reducible first | exact c_ValidCloth c hs) ?_)
  simp [hv]
  (refine endG_keepT [] ?_ ?_ ?_ ?_ ?_ ?_ ?_ ⟨rfl, rfl⟩ ?_ <;> simp [noC])
theorem c_specFloorCloth0 (c : Clo) (h : Nat) (hs : c.Small) (hv : vldC c = false) : Fun Try.prog 44 [c.av, .flt .f32 h] [] (.tup [noC, .bool false]) [] := by
  refine FnSpec.walk dr_ok Try.func44 rfl (by kernel_rfl) rfl rfl rfl (by simp) ?_
  simp
  (first | refine callG_r ?_ | refine callD_r ?_); simp; (first | refine callN_flat (by with_reducible first | exact c_l10Is c hs) rfl ?_ | refine callN_new (by with_reducible first | exact c_l10Is c hs) ?_ | refine callM_flat (by with_reducible first | exact c_l10Is c hs) rfl ?_ | refine callM_new (by with_reducible first | exact c_l10Is c hs) ?_)
  simp [hv]
  (refine endG_keepT [] ?_ ?_ ?_ ?_ ?_ ?_ ?_ ⟨rfl, rfl⟩ ?_ <;> simp [noC])
theorem floorC_small {c : Clo} {h : Nat} (hs : c.Small) : (floorC c h).Small := by
  obtain ⟨h1, h2, h3, h4⟩ := hs
  exact ⟨by simpa [floorC] using h1, h2, h3, h4⟩
end Go.Proofs.Ytafbecgidhoekaa
