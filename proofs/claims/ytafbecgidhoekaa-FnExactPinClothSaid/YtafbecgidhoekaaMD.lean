/- Contracts: cloths with other pins.
Conditions: none. -/
import Derived.Test.YtafbecgidhoekaaM8
namespace Go.Proofs.Ytafbecgidhoekaa
set_option linter.all false
open Go Go.Awp
set_option maxRecDepth 100000
set_option maxHeartbeats 4000000
set_option pp.deepTerms true

/-- The four rows of a cloth. -/
abbrev Clo.rows (c : Clo) : Heap := [.blk false false 56 (cVs c.pl), .blk false false 56 (cVs c.ol), .blk false false 80 (cTs c.th), .blk false false 2 (cIs c.pin)]
attribute [simp] Clo.rows
theorem c_validCloth (c : Clo) (hs : c.Small) (hv : vldC c = true) : Fun Try.prog 88 [c.own 0] c.rows (.tup [c.own 0, .bool true]) c.rows := by
  refine FnSpec.walk dr_ok Try.func88 rfl (by kernel_rfl) rfl rfl rfl (by simp) ?_
  simp
  (first | refine callG_r ?_ | refine callD_r ?_); simp; (first | refine callN_flat (by with_reducible first | exact c_ValidCloth c hs) rfl ?_ | refine callN_new (by with_reducible first | exact c_ValidCloth c hs) ?_ | refine callM_flat (by with_reducible first | exact c_ValidCloth c hs) rfl ?_ | refine callM_new (by with_reducible first | exact c_ValidCloth c hs) ?_)
  simp [hv]
  (refine endG_keepT [] ?_ ?_ ?_ ?_ ?_ ?_ ?_ ⟨rfl, rfl⟩ ?_ <;> simp)
theorem c_validCloth0 (c : Clo) (hs : c.Small) (hv : vldC c = false) : Fun Try.prog 88 [c.own 0] c.rows (.tup [noC, .bool false]) c.rows := by
  refine FnSpec.walk dr_ok Try.func88 rfl (by kernel_rfl) rfl rfl rfl (by simp) ?_
  simp
  (first | refine callG_r ?_ | refine callD_r ?_); simp; (first | refine callN_flat (by with_reducible first | exact c_ValidCloth c hs) rfl ?_ | refine callN_new (by with_reducible first | exact c_ValidCloth c hs) ?_ | refine callM_flat (by with_reducible first | exact c_ValidCloth c hs) rfl ?_ | refine callM_new (by with_reducible first | exact c_ValidCloth c hs) ?_)
  simp [hv]
  (refine endG_keepT [] ?_ ?_ ?_ ?_ ?_ ?_ ?_ ⟨rfl, rfl⟩ ?_ <;> simp [noC])
abbrev pinC (c : Clo) (l : List Int) : Clo := { c with pin := l }
theorem pinC_small {c : Clo} {l : List Int} (hs : c.Small) (hl : l.length ≤ 1048576) : (pinC c l).Small := ⟨hs.pl, hs.ol, hs.th, hl⟩
theorem vld_pin {c : Clo} {l : List Int} (hv : vldC c = true) : vldC (pinC c l) = pinsF c.pl.length (-1) l := by
  unfold vldC at hv
  simp only [Bool.and_eq_true] at hv
  unfold vldC pinC
  dsimp only
  rw [hv.1.1.1.1, hv.1.1.1.2, hv.1.1.2, hv.1.2]; simp
theorem c_PinCloth (c : Clo) (l : List Int) (hl : l.length ≤ 1048576) (hs : c.Small) (hv : (vldC c && pinsF c.pl.length (-1) l) = true) : Fun Try.prog 40 [c.av, .view false (cIs l) l.length] [] (.tup [(pinC c l).own 0, .bool true]) (pinC c l).mem := by
  simp only [Bool.and_eq_true] at hv
  obtain ⟨hv, hp⟩ := hv
  refine FnSpec.walk dr_ok Try.func40 rfl (by kernel_rfl) rfl rfl rfl (by simp) ?_
  simp
  (first | refine callG_r ?_ | refine callD_r ?_); simp; (first | refine callN_flat (by with_reducible first | exact c_ValidCloth c hs) rfl ?_ | refine callN_new (by with_reducible first | exact c_ValidCloth c hs) ?_ | refine callM_flat (by with_reducible first | exact c_ValidCloth c hs) rfl ?_ | refine callM_new (by with_reducible first | exact c_ValidCloth c hs) ?_)
  simp [hv]
  (first | refine callG_r ?_ | refine callD_r ?_); simp; (first | refine callN_flat (by with_reducible first | exact c_copyCloth c hs) rfl ?_ | refine callN_new (by with_reducible first | exact c_copyCloth c hs) ?_ | refine callM_flat (by with_reducible first | exact c_copyCloth c hs) rfl ?_ | refine callM_new (by with_reducible first | exact c_copyCloth c hs) ?_)
  simp
  refine ⟨by omega, by omega, ?_⟩
  (first | refine callG_on true [2, 3, 4, 7] ?_ | refine callD_on true [2, 3, 4, 7] ?_); simp; (first | refine callN_fun (by with_reducible exact c_validCloth (pinC c l) (pinC_small hs hl) (by rw [vld_pin hv]; exact hp)) (by simp) ?_ | refine callMD_fun (by with_reducible exact c_validCloth (pinC c l) (pinC_small hs hl) (by rw [vld_pin hv]; exact hp)) (by simp) ?_)
  simp
  (refine endG_keepT [(some 2, 0), (some 3, 0), (some 4, 0), (some 7, 0)] ?_ ?_ ?_ ?_ ?_ ?_ ?_ ⟨rfl, rfl⟩ ?_ <;> simp)
theorem c_specPinCloth (c : Clo) (l : List Int) (hl : l.length ≤ 1048576) (hs : c.Small) (hv : (vldC c && pinsF c.pl.length (-1) l) = true) : Fun Try.prog 38 [c.av, .view false (cIs l) l.length] [] (.tup [(pinC c l).own 0, .bool true]) (pinC c l).mem := by
  simp only [Bool.and_eq_true] at hv
  obtain ⟨hv, hp⟩ := hv
  have hvl := vld_len hv
  refine FnSpec.walk dr_ok Try.func38 rfl (by kernel_rfl) rfl rfl rfl (by simp) ?_
  simp
  (first | refine callG_r ?_ | refine callD_r ?_); simp; (first | refine callN_flat (by with_reducible first | exact c_l10Is c hs) rfl ?_ | refine callN_new (by with_reducible first | exact c_l10Is c hs) ?_ | refine callM_flat (by with_reducible first | exact c_l10Is c hs) rfl ?_ | refine callM_new (by with_reducible first | exact c_l10Is c hs) ?_)
  simp [hv]
  (first | refine callG_r ?_ | refine callD_r ?_); simp; (first | refine callN_flat (by with_reducible first | exact c_l10Pins _ _ hvl.1 hl) rfl ?_ | refine callN_new (by with_reducible first | exact c_l10Pins _ _ hvl.1 hl) ?_ | refine callM_flat (by with_reducible first | exact c_l10Pins _ _ hvl.1 hl) rfl ?_ | refine callM_new (by with_reducible first | exact c_l10Pins _ _ hvl.1 hl) ?_)
  simp [hp]
  (first | refine callG_r ?_ | refine callD_r ?_); simp; (first | refine callN_flat (by with_reducible first | exact c_l10Own c hs) rfl ?_ | refine callN_new (by with_reducible first | exact c_l10Own c hs) ?_ | refine callM_flat (by with_reducible first | exact c_l10Own c hs) rfl ?_ | refine callM_new (by with_reducible first | exact c_l10Own c hs) ?_)
  simp
  (first | refine callG_r ?_ | refine callD_r ?_); simp; (first | refine callN_flat (by with_reducible first | exact c_l00Own _ hl) rfl ?_ | refine callN_new (by with_reducible first | exact c_l00Own _ hl) ?_ | refine callM_flat (by with_reducible first | exact c_l00Own _ hl) rfl ?_ | refine callM_new (by with_reducible first | exact c_l00Own _ hl) ?_)
  simp
  (refine endG_keepT [(some 2, 0), (some 3, 0), (some 4, 0), (some 7, 0)] ?_ ?_ ?_ ?_ ?_ ?_ ?_ ⟨rfl, rfl⟩ ?_ <;> simp [pinC])
theorem c_PinCloth0 (c : Clo) (l : List Int) (hl : l.length ≤ 1048576) (hs : c.Small) (hv : (vldC c && pinsF c.pl.length (-1) l) = false) : Fun Try.prog 40 [c.av, .view false (cIs l) l.length] [] (.tup [noC, .bool false]) [] := by
  refine FnSpec.walk dr_ok Try.func40 rfl (by kernel_rfl) rfl rfl rfl (by simp) ?_
  simp
  (first | refine callG_r ?_ | refine callD_r ?_); simp; (first | refine callN_flat (by with_reducible first | exact c_ValidCloth c hs) rfl ?_ | refine callN_new (by with_reducible first | exact c_ValidCloth c hs) ?_ | refine callM_flat (by with_reducible first | exact c_ValidCloth c hs) rfl ?_ | refine callM_new (by with_reducible first | exact c_ValidCloth c hs) ?_)
  cases h : vldC c with
  | false => simp; (refine endG_keepT [] ?_ ?_ ?_ ?_ ?_ ?_ ?_ ⟨rfl, rfl⟩ ?_ <;> simp [noC])
  | true =>
    rw [h] at hv
    simp at hv
    simp
    (first | refine callG_r ?_ | refine callD_r ?_); simp; (first | refine callN_flat (by with_reducible first | exact c_copyCloth c hs) rfl ?_ | refine callN_new (by with_reducible first | exact c_copyCloth c hs) ?_ | refine callM_flat (by with_reducible first | exact c_copyCloth c hs) rfl ?_ | refine callM_new (by with_reducible first | exact c_copyCloth c hs) ?_)
    simp
    refine ⟨by omega, by omega, ?_⟩
    (first | refine callG_on true [2, 3, 4, 7] ?_ | refine callD_on true [2, 3, 4, 7] ?_); simp; (first | refine callN_fun (by with_reducible exact c_validCloth0 (pinC c l) (pinC_small hs hl) (by rw [vld_pin h]; exact hv)) (by simp) ?_ | refine callMD_fun (by with_reducible exact c_validCloth0 (pinC c l) (pinC_small hs hl) (by rw [vld_pin h]; exact hv)) (by simp) ?_)
    simp [noC]
    (refine endG_keepT [] ?_ ?_ ?_ ?_ ?_ ?_ ?_ ⟨rfl, rfl⟩ ?_ <;> simp)
theorem c_specPinCloth0 (c : Clo) (l : List Int) (hl : l.length ≤ 1048576) (hs : c.Small) (hv : (vldC c && pinsF c.pl.length (-1) l) = false) : Fun Try.prog 38 [c.av, .view false (cIs l) l.length] [] (.tup [noC, .bool false]) [] := by
  refine FnSpec.walk dr_ok Try.func38 rfl (by kernel_rfl) rfl rfl rfl (by simp) ?_
  simp
  (first | refine callG_r ?_ | refine callD_r ?_); simp; (first | refine callN_flat (by with_reducible first | exact c_l10Is c hs) rfl ?_ | refine callN_new (by with_reducible first | exact c_l10Is c hs) ?_ | refine callM_flat (by with_reducible first | exact c_l10Is c hs) rfl ?_ | refine callM_new (by with_reducible first | exact c_l10Is c hs) ?_)
  cases h : vldC c with
  | false => simp; (refine endG_keepT [] ?_ ?_ ?_ ?_ ?_ ?_ ?_ ⟨rfl, rfl⟩ ?_ <;> simp [noC])
  | true =>
    rw [h] at hv
    simp at hv
    simp
    (first | refine callG_r ?_ | refine callD_r ?_); simp; (first | refine callN_flat (by with_reducible first | exact c_l10Pins _ _ (vld_len h).1 hl) rfl ?_ | refine callN_new (by with_reducible first | exact c_l10Pins _ _ (vld_len h).1 hl) ?_ | refine callM_flat (by with_reducible first | exact c_l10Pins _ _ (vld_len h).1 hl) rfl ?_ | refine callM_new (by with_reducible first | exact c_l10Pins _ _ (vld_len h).1 hl) ?_)
    simp [hv]
    (refine endG_keepT [] ?_ ?_ ?_ ?_ ?_ ?_ ?_ ⟨rfl, rfl⟩ ?_ <;> simp [noC])
end Go.Proofs.Ytafbecgidhoekaa
