/- Contracts: what the program and the reference do with cloths.
Conditions: none. -/
import Derived.Test.YtafbecgidhoekaaM7
namespace Go.Proofs.Ytafbecgidhoekaa
set_option linter.all false
open Go Go.Awp
set_option maxRecDepth 100000
set_option maxHeartbeats 4000000
set_option pp.deepTerms true

theorem Clo.Small.of_len {c d : Clo} (hs : c.Small) (h1 : d.pl.length = c.pl.length) (h2 : d.ol.length = c.ol.length) (h3 : d.th.length = c.th.length) (h4 : d.pin.length = c.pin.length) : d.Small :=
  ⟨by rw [h1]; exact hs.pl, by rw [h2]; exact hs.ol, by rw [h3]; exact hs.th, by rw [h4]; exact hs.pin⟩
-- fall
theorem c_FallCloth (c : Clo) (f : V) (q : Nat) (hs : c.Small) (hv : vldC c = true) : Fun Try.prog 49 [c.av, aV f, .flt .f32 q] [] (.tup [(fallC c f q).own 0, .bool true]) (fallC c f q).mem := by
  have hvl := vld_len hv
  refine FnSpec.walk dr_ok Try.func49 rfl (by kernel_rfl) rfl rfl rfl (by simp) ?_
  simp
  (first | refine callG_r ?_ | refine callD_r ?_); simp; (first | refine callN_flat (by with_reducible first | exact c_ValidCloth c hs) rfl ?_ | refine callN_new (by with_reducible first | exact c_ValidCloth c hs) ?_ | refine callM_flat (by with_reducible first | exact c_ValidCloth c hs) rfl ?_ | refine callM_new (by with_reducible first | exact c_ValidCloth c hs) ?_)
  simp [hv]
  (first | refine callG_r ?_ | refine callD_r ?_); simp; (first | refine callN_flat (by with_reducible first | exact c_copyCloth c hs) rfl ?_ | refine callN_new (by with_reducible first | exact c_copyCloth c hs) ?_ | refine callM_flat (by with_reducible first | exact c_copyCloth c hs) rfl ?_ | refine callM_new (by with_reducible first | exact c_copyCloth c hs) ?_)
  simp
  (first | refine callG_on true [7, 3, 4, 5, 6] ?_ | refine callD_on true [7, 3, 4, 5, 6] ?_); simp; (first | refine callN_fun (by with_reducible exact c_fall c f q hs hvl.1 hvl.2.1 (vld_pins hv)) (by simp) ?_ | refine callMD_fun (by with_reducible exact c_fall c f q hs hvl.1 hvl.2.1 (vld_pins hv)) (by simp) ?_)
  simp
  (refine endG_keepT [(some 3, 0), (some 4, 0), (some 5, 0), (some 6, 0)] ?_ ?_ ?_ ?_ ?_ ?_ ?_ ⟨rfl, rfl⟩ ?_ <;> simp)
theorem c_specFallCloth (c : Clo) (f : V) (q : Nat) (hs : c.Small) (hv : vldC c = true) : Fun Try.prog 48 [c.av, aV f, .flt .f32 q] [] (.tup [(fallC c f q).own 0, .bool true]) (fallC c f q).mem := by
  have hvl := vld_len hv
  refine FnSpec.walk dr_ok Try.func48 rfl (by kernel_rfl) rfl rfl rfl (by simp) ?_
  simp
  (first | refine callG_r ?_ | refine callD_r ?_); simp; (first | refine callN_flat (by with_reducible first | exact c_l10Is c hs) rfl ?_ | refine callN_new (by with_reducible first | exact c_l10Is c hs) ?_ | refine callM_flat (by with_reducible first | exact c_l10Is c hs) rfl ?_ | refine callM_new (by with_reducible first | exact c_l10Is c hs) ?_)
  simp [hv]
  (first | refine callG_r ?_ | refine callD_r ?_); simp; (first | refine callN_flat (by with_reducible first | exact c_l10Own c hs) rfl ?_ | refine callN_new (by with_reducible first | exact c_l10Own c hs) ?_ | refine callM_flat (by with_reducible first | exact c_l10Own c hs) rfl ?_ | refine callM_new (by with_reducible first | exact c_l10Own c hs) ?_)
  simp
  (first | refine callG_on true [7, 3, 4, 5, 6] ?_ | refine callD_on true [7, 3, 4, 5, 6] ?_); simp; (first | refine callN_fun (by with_reducible exact c_l10Fall c f q hs hvl.1 hvl.2.1) (by simp) ?_ | refine callMD_fun (by with_reducible exact c_l10Fall c f q hs hvl.1 hvl.2.1) (by simp) ?_)
  simp
  (refine endG_keepT [(some 3, 0), (some 4, 0), (some 5, 0), (some 6, 0)] ?_ ?_ ?_ ?_ ?_ ?_ ?_ ⟨rfl, rfl⟩ ?_ <;> simp)
theorem c_FallCloth0 (c : Clo) (f : V) (q : Nat) (hs : c.Small) (hv : vldC c = false) : Fun Try.prog 49 [c.av, aV f, .flt .f32 q] [] (.tup [noC, .bool false]) [] := by
  refine FnSpec.walk dr_ok Try.func49 rfl (by kernel_rfl) rfl rfl rfl (by simp) ?_
  simp
  (first | refine callG_r ?_ | refine callD_r ?_); simp; (first | refine callN_flat (by with_reducible first | exact c_ValidCloth c hs) rfl ?_ | refine callN_new (by with_reducible first | exact c_ValidCloth c hs) ?_ | refine callM_flat (by with_reducible first | exact c_ValidCloth c hs) rfl ?_ | refine callM_new (by with_reducible first | exact c_ValidCloth c hs) ?_)
  simp [hv]
  (refine endG_keepT [] ?_ ?_ ?_ ?_ ?_ ?_ ?_ ⟨rfl, rfl⟩ ?_ <;> simp [noC])
theorem c_specFallCloth0 (c : Clo) (f : V) (q : Nat) (hs : c.Small) (hv : vldC c = false) : Fun Try.prog 48 [c.av, aV f, .flt .f32 q] [] (.tup [noC, .bool false]) [] := by
  refine FnSpec.walk dr_ok Try.func48 rfl (by kernel_rfl) rfl rfl rfl (by simp) ?_
  simp
  (first | refine callG_r ?_ | refine callD_r ?_); simp; (first | refine callN_flat (by with_reducible first | exact c_l10Is c hs) rfl ?_ | refine callN_new (by with_reducible first | exact c_l10Is c hs) ?_ | refine callM_flat (by with_reducible first | exact c_l10Is c hs) rfl ?_ | refine callM_new (by with_reducible first | exact c_l10Is c hs) ?_)
  simp [hv]
  (refine endG_keepT [] ?_ ?_ ?_ ?_ ?_ ?_ ?_ ⟨rfl, rfl⟩ ?_ <;> simp [noC])
theorem fallC_small {c : Clo} {f : V} {q : Nat} (hs : c.Small) : (fallC c f q).Small := hs.of_len (fallC_pl _ _ _) (fallC_ol _ _ _) rfl rfl
-- drape
theorem c_DrapeCloth (c : Clo) (o : V) (r : Nat) (hs : c.Small) (hv : (vldC c && overB r) = true) : Fun Try.prog 53 [c.av, aV o, .flt .f32 r] [] (.tup [(drapeC c o r).own 0, .bool true]) (drapeC c o r).mem := by
  simp only [Bool.and_eq_true] at hv
  obtain ⟨hv, hr⟩ := hv
  have hvl := vld_len hv
  refine FnSpec.walk dr_ok Try.func53 rfl (by kernel_rfl) rfl rfl rfl (by simp) ?_
  simp
  (first | refine callG_r ?_ | refine callD_r ?_); simp; (first | refine callN_flat (by with_reducible first | exact c_ValidCloth c hs) rfl ?_ | refine callN_new (by with_reducible first | exact c_ValidCloth c hs) ?_ | refine callM_flat (by with_reducible first | exact c_ValidCloth c hs) rfl ?_ | refine callM_new (by with_reducible first | exact c_ValidCloth c hs) ?_)
  simp [hv]
  (first | refine callG_r ?_ | refine callD_r ?_); simp; (first | refine callN_flat (by with_reducible first | exact c_isOver _) rfl ?_ | refine callN_new (by with_reducible first | exact c_isOver _) ?_ | refine callM_flat (by with_reducible first | exact c_isOver _) rfl ?_ | refine callM_new (by with_reducible first | exact c_isOver _) ?_)
  simp [hr]
  (first | refine callG_r ?_ | refine callD_r ?_); simp; (first | refine callN_flat (by with_reducible first | exact c_copyCloth c hs) rfl ?_ | refine callN_new (by with_reducible first | exact c_copyCloth c hs) ?_ | refine callM_flat (by with_reducible first | exact c_copyCloth c hs) rfl ?_ | refine callM_new (by with_reducible first | exact c_copyCloth c hs) ?_)
  simp
  (first | refine callG_on true [7, 3, 4, 5, 6] ?_ | refine callD_on true [7, 3, 4, 5, 6] ?_); simp; (first | refine callN_fun (by with_reducible exact c_drape c o r hs hvl.1 (vld_pins hv)) (by simp) ?_ | refine callMD_fun (by with_reducible exact c_drape c o r hs hvl.1 (vld_pins hv)) (by simp) ?_)
  simp
  (refine endG_keepT [(some 3, 0), (some 4, 0), (some 5, 0), (some 6, 0)] ?_ ?_ ?_ ?_ ?_ ?_ ?_ ⟨rfl, rfl⟩ ?_ <;> simp)
theorem c_specDrapeCloth (c : Clo) (o : V) (r : Nat) (hs : c.Small) (hv : (vldC c && overB r) = true) : Fun Try.prog 52 [c.av, aV o, .flt .f32 r] [] (.tup [(drapeC c o r).own 0, .bool true]) (drapeC c o r).mem := by
  simp only [Bool.and_eq_true] at hv
  obtain ⟨hv, hr⟩ := hv
  have hvl := vld_len hv
  refine FnSpec.walk dr_ok Try.func52 rfl (by kernel_rfl) rfl rfl rfl (by simp) ?_
  simp
  (first | refine callG_r ?_ | refine callD_r ?_); simp; (first | refine callN_flat (by with_reducible first | exact c_l10Is c hs) rfl ?_ | refine callN_new (by with_reducible first | exact c_l10Is c hs) ?_ | refine callM_flat (by with_reducible first | exact c_l10Is c hs) rfl ?_ | refine callM_new (by with_reducible first | exact c_l10Is c hs) ?_)
  simp [hv]
  (first | refine callG_r ?_ | refine callD_r ?_); simp; (first | refine callN_flat (by with_reducible first | exact c_l02Size _) rfl ?_ | refine callN_new (by with_reducible first | exact c_l02Size _) ?_ | refine callM_flat (by with_reducible first | exact c_l02Size _) rfl ?_ | refine callM_new (by with_reducible first | exact c_l02Size _) ?_)
  simp [hr]
  (first | refine callG_r ?_ | refine callD_r ?_); simp; (first | refine callN_flat (by with_reducible first | exact c_l10Own c hs) rfl ?_ | refine callN_new (by with_reducible first | exact c_l10Own c hs) ?_ | refine callM_flat (by with_reducible first | exact c_l10Own c hs) rfl ?_ | refine callM_new (by with_reducible first | exact c_l10Own c hs) ?_)
  simp
  (first | refine callG_on true [7, 3, 4, 5, 6] ?_ | refine callD_on true [7, 3, 4, 5, 6] ?_); simp; (first | refine callN_fun (by with_reducible exact c_l10Drape c o r hs hvl.1) (by simp) ?_ | refine callMD_fun (by with_reducible exact c_l10Drape c o r hs hvl.1) (by simp) ?_)
  simp
  (refine endG_keepT [(some 3, 0), (some 4, 0), (some 5, 0), (some 6, 0)] ?_ ?_ ?_ ?_ ?_ ?_ ?_ ⟨rfl, rfl⟩ ?_ <;> simp)
theorem c_DrapeCloth0 (c : Clo) (o : V) (r : Nat) (hs : c.Small) (hv : (vldC c && overB r) = false) : Fun Try.prog 53 [c.av, aV o, .flt .f32 r] [] (.tup [noC, .bool false]) [] := by
  refine FnSpec.walk dr_ok Try.func53 rfl (by kernel_rfl) rfl rfl rfl (by simp) ?_
  simp
  (first | refine callG_r ?_ | refine callD_r ?_); simp; (first | refine callN_flat (by with_reducible first | exact c_ValidCloth c hs) rfl ?_ | refine callN_new (by with_reducible first | exact c_ValidCloth c hs) ?_ | refine callM_flat (by with_reducible first | exact c_ValidCloth c hs) rfl ?_ | refine callM_new (by with_reducible first | exact c_ValidCloth c hs) ?_)
  cases h : vldC c with
  | false => simp; (refine endG_keepT [] ?_ ?_ ?_ ?_ ?_ ?_ ?_ ⟨rfl, rfl⟩ ?_ <;> simp [noC])
  | true =>
    rw [h] at hv
    simp at hv
    simp
    (first | refine callG_r ?_ | refine callD_r ?_); simp; (first | refine callN_flat (by with_reducible first | exact c_isOver _) rfl ?_ | refine callN_new (by with_reducible first | exact c_isOver _) ?_ | refine callM_flat (by with_reducible first | exact c_isOver _) rfl ?_ | refine callM_new (by with_reducible first | exact c_isOver _) ?_)
    simp [hv]
    (refine endG_keepT [] ?_ ?_ ?_ ?_ ?_ ?_ ?_ ⟨rfl, rfl⟩ ?_ <;> simp [noC])
theorem c_specDrapeCloth0 (c : Clo) (o : V) (r : Nat) (hs : c.Small) (hv : (vldC c && overB r) = false) : Fun Try.prog 52 [c.av, aV o, .flt .f32 r] [] (.tup [noC, .bool false]) [] := by
  refine FnSpec.walk dr_ok Try.func52 rfl (by kernel_rfl) rfl rfl rfl (by simp) ?_
  simp
  (first | refine callG_r ?_ | refine callD_r ?_); simp; (first | refine callN_flat (by with_reducible first | exact c_l10Is c hs) rfl ?_ | refine callN_new (by with_reducible first | exact c_l10Is c hs) ?_ | refine callM_flat (by with_reducible first | exact c_l10Is c hs) rfl ?_ | refine callM_new (by with_reducible first | exact c_l10Is c hs) ?_)
  cases h : vldC c with
  | false => simp; (refine endG_keepT [] ?_ ?_ ?_ ?_ ?_ ?_ ?_ ⟨rfl, rfl⟩ ?_ <;> simp [noC])
  | true =>
    rw [h] at hv
    simp at hv
    simp
    (first | refine callG_r ?_ | refine callD_r ?_); simp; (first | refine callN_flat (by with_reducible first | exact c_l02Size _) rfl ?_ | refine callN_new (by with_reducible first | exact c_l02Size _) ?_ | refine callM_flat (by with_reducible first | exact c_l02Size _) rfl ?_ | refine callM_new (by with_reducible first | exact c_l02Size _) ?_)
    simp [hv]
    (refine endG_keepT [] ?_ ?_ ?_ ?_ ?_ ?_ ?_ ⟨rfl, rfl⟩ ?_ <;> simp [noC])
theorem drapeC_small {c : Clo} {o : V} {r : Nat} (hs : c.Small) : (drapeC c o r).Small := hs.of_len (drapeC_pl _ _ _) rfl rfl rfl
end Go.Proofs.Ytafbecgidhoekaa
