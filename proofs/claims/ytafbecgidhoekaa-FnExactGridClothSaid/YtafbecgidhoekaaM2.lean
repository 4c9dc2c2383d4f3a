/- Contracts: cloths moved.
Conditions: none. -/
import Derived.Test.YtafbecgidhoekaaM1
namespace Go.Proofs.Ytafbecgidhoekaa
set_option linter.all false
open Go Go.Awp
set_option maxRecDepth 100000
set_option maxHeartbeats 4000000
set_option pp.deepTerms false
set_option pp.deepTerms.threshold 8

theorem vld_len {c : Clo} (h : vldC c = true) : c.pl.length ≤ 64 ∧ c.ol.length = c.pl.length ∧ c.th.length ≤ 256 := by
  unfold vldC at h
  simp at h
  omega
def moveC (c : Clo) (d : V) : Clo := { c with pl := c.pl.map (vadd · d), ol := c.ol.map (vadd · d) }
theorem c_MoveCloth (c : Clo) (d : V) (hs : c.Small) (hv : vldC c = true) : Fun Try.prog 43 [c.av, aV d] [] (.tup [(moveC c d).own 0, .bool true]) (moveC c d).mem := by
  have hvl := vld_len hv
  refine FnSpec.walk dr_ok Try.func43 rfl (by kernel_rfl) rfl rfl rfl (by simp) ?_
  simp
  (first | refine callG_r ?_ | refine callD_r ?_); simp; (first | refine callN_flat (by with_reducible first | exact c_ValidCloth c hs) rfl ?_ | refine callN_new (by with_reducible first | exact c_ValidCloth c hs) ?_ | refine callM_flat (by with_reducible first | exact c_ValidCloth c hs) rfl ?_ | refine callM_new (by with_reducible first | exact c_ValidCloth c hs) ?_)
  simp [hv]
  (first | refine callG_r ?_ | refine callD_r ?_); simp; (first | refine callN_flat (by with_reducible first | exact c_copyCloth c hs) rfl ?_ | refine callN_new (by with_reducible first | exact c_copyCloth c hs) ?_ | refine callM_flat (by with_reducible first | exact c_copyCloth c hs) rfl ?_ | refine callM_new (by with_reducible first | exact c_copyCloth c hs) ?_)
  simp
  refine loopG_of (α := Nat) (fun k => k ≤ c.pl.length) (fun k => c.pl.length - k) (fun k => [(18, .int .i64 k), (17, .int .i64 c.pl.length), (16, .slc 3 0 c.pl.length 3), (6, .ptr 7 0), (3, .ptr 1 0), (4, .ptr 2 0)])
    (fun k => [.gone, .blk true true 56 [.flt .f32 d.1, .flt .f32 d.2.1, .flt .f32 d.2.2], .blk true true 32 [.nils, .nils, .nils, .nils], .blk true false 56 (cVs (mixN (moveC c d).pl c.pl k)), .blk true false 56 (cVs (mixN (moveC c d).ol c.ol k)), .blk true false 80 (cTs c.th), .blk true false 2 (cIs c.pin),
      .blk true true 32 [.slc 3 0 c.pl.length 3, .slc 4 0 c.ol.length 3, .slc 5 0 c.th.length 3, .slc 6 0 c.pin.length 1]]) 0 (by simp) ?_ fun k hk => ?_
  · (refine weak_gc [(some 0, 0), (some 1, 0), (some 2, 0), (some 3, 0), (some 4, 0), (some 5, 0), (some 6, 0), (some 7, 0)] ?_ ?_ ?_ ?_ ?_ <;> simp)
  have hw := nat_wrap (k := k) (by omega)
  have hlp : (moveC c d).pl.length = c.pl.length := by simp [moveC]
  have hlo : (moveC c d).ol.length = c.ol.length := by simp [moveC]
  have hm := mixN_length k hlp
  have hm2 := mixN_length k hlo
  by_cases b : k < c.pl.length
  · simp [b, hw, hm, hm2, hvl]
    (first | refine callG_r ?_ | refine callD_r ?_); simp; (first | refine callN_flat (by with_reducible first | exact c_add _ _ _ _ _ _) rfl ?_ | refine callN_new (by with_reducible first | exact c_add _ _ _ _ _ _) ?_ | refine callM_flat (by with_reducible first | exact c_add _ _ _ _ _ _) rfl ?_ | refine callM_new (by with_reducible first | exact c_add _ _ _ _ _ _) ?_)
    simp [b, hw, hm, hm2, hvl]
    (first | refine callG_r ?_ | refine callD_r ?_); simp; (first | refine callN_flat (by with_reducible first | exact c_add _ _ _ _ _ _) rfl ?_ | refine callN_new (by with_reducible first | exact c_add _ _ _ _ _ _) ?_ | refine callM_flat (by with_reducible first | exact c_add _ _ _ _ _ _) rfl ?_ | refine callM_new (by with_reducible first | exact c_add _ _ _ _ _ _) ?_)
    simp [b, hw, hm, hm2, hvl]
    refine ⟨by omega, loopK_next (k + 1) (by omega) (by omega) ?_⟩
    rw [mixN_set (by omega) hlp (by rw [mixN_get hlp b]; simp [moveC]), mixN_set (by omega) hlo (by rw [mixN_get hlo (by omega)]; simp [moveC])]
    (refine weak_gc [(some 0, 0), (some 1, 0), (some 2, 0), (some 3, 0), (some 4, 0), (some 5, 0), (some 6, 0), (some 7, 0)] ?_ ?_ ?_ ?_ ?_ <;> simp [hvl])
  · obtain rfl : k = c.pl.length := by omega
    rw [mixN_all (by omega) (by omega), mixN_all (by omega) (by omega)]
    simp
    (refine endG_keepT [(some 3, 0), (some 4, 0), (some 5, 0), (some 6, 0)] ?_ ?_ ?_ ?_ ?_ ?_ ?_ ⟨rfl, rfl⟩ ?_ <;> simp [moveC])
theorem c_specMoveCloth (c : Clo) (d : V) (hs : c.Small) (hv : vldC c = true) : Fun Try.prog 41 [c.av, aV d] [] (.tup [(moveC c d).own 0, .bool true]) (moveC c d).mem := by
  have hvl := vld_len hv
  refine FnSpec.walk dr_ok Try.func41 rfl (by kernel_rfl) rfl rfl rfl (by simp) ?_
  simp
  (first | refine callG_r ?_ | refine callD_r ?_); simp; (first | refine callN_flat (by with_reducible first | exact c_l10Is c hs) rfl ?_ | refine callN_new (by with_reducible first | exact c_l10Is c hs) ?_ | refine callM_flat (by with_reducible first | exact c_l10Is c hs) rfl ?_ | refine callM_new (by with_reducible first | exact c_l10Is c hs) ?_)
  simp [hv]
  (first | refine callG_r ?_ | refine callD_r ?_); simp; (first | refine callN_flat (by with_reducible first | exact c_l10Own c hs) rfl ?_ | refine callN_new (by with_reducible first | exact c_l10Own c hs) ?_ | refine callM_flat (by with_reducible first | exact c_l10Own c hs) rfl ?_ | refine callM_new (by with_reducible first | exact c_l10Own c hs) ?_)
  simp
  refine loopG_of (α := Nat) (fun k => k ≤ c.pl.length) (fun k => c.pl.length - k) (fun k => [(7, .int .i64 k), (6, .ptr 7 0), (3, .ptr 1 0), (4, .ptr 2 0)])
    (fun k => [.gone, .blk true true 56 [.flt .f32 d.1, .flt .f32 d.2.1, .flt .f32 d.2.2], .blk true true 32 [.nils, .nils, .nils, .nils], .blk true false 56 (cVs (mixN (moveC c d).pl c.pl k)), .blk true false 56 (cVs (mixN (moveC c d).ol c.ol k)), .blk true false 80 (cTs c.th), .blk true false 2 (cIs c.pin),
      .blk true true 32 [.slc 3 0 c.pl.length 3, .slc 4 0 c.ol.length 3, .slc 5 0 c.th.length 3, .slc 6 0 c.pin.length 1]]) 0 (by simp) ?_ fun k hk => ?_
  · (refine weak_gc [(some 0, 0), (some 1, 0), (some 2, 0), (some 3, 0), (some 4, 0), (some 5, 0), (some 6, 0), (some 7, 0)] ?_ ?_ ?_ ?_ ?_ <;> simp)
  have hw := nat_wrap (k := k) (by omega)
  have hlp : (moveC c d).pl.length = c.pl.length := by simp [moveC]
  have hlo : (moveC c d).ol.length = c.ol.length := by simp [moveC]
  have hm := mixN_length k hlp
  have hm2 := mixN_length k hlo
  by_cases b : k < c.pl.length
  · simp [b, hw, hm, hm2, hvl]
    (first | refine callG_r ?_ | refine callD_r ?_); simp; (first | refine callN_flat (by with_reducible first | exact c_l01Add _ _ _ _ _ _) rfl ?_ | refine callN_new (by with_reducible first | exact c_l01Add _ _ _ _ _ _) ?_ | refine callM_flat (by with_reducible first | exact c_l01Add _ _ _ _ _ _) rfl ?_ | refine callM_new (by with_reducible first | exact c_l01Add _ _ _ _ _ _) ?_)
    simp [b, hw, hm, hm2, hvl]
    refine ⟨by omega, ?_⟩
    (first | refine callG_r ?_ | refine callD_r ?_); simp; (first | refine callN_flat (by with_reducible first | exact c_l01Add _ _ _ _ _ _) rfl ?_ | refine callN_new (by with_reducible first | exact c_l01Add _ _ _ _ _ _) ?_ | refine callM_flat (by with_reducible first | exact c_l01Add _ _ _ _ _ _) rfl ?_ | refine callM_new (by with_reducible first | exact c_l01Add _ _ _ _ _ _) ?_)
    simp [b, hw, hm, hm2, hvl]
    refine ⟨by omega, loopK_next (k + 1) (by omega) (by omega) ?_⟩
    rw [mixN_set (by omega) hlp (by rw [mixN_get hlp b]; simp [moveC]), mixN_set (by omega) hlo (by rw [mixN_get hlo (by omega)]; simp [moveC])]
    (refine weak_gc [(some 0, 0), (some 1, 0), (some 2, 0), (some 3, 0), (some 4, 0), (some 5, 0), (some 6, 0), (some 7, 0)] ?_ ?_ ?_ ?_ ?_ <;> simp [hvl])
  · obtain rfl : k = c.pl.length := by omega
    rw [mixN_all (by omega) (by omega), mixN_all (by omega) (by omega)]
    simp
    (refine endG_keepT [(some 3, 0), (some 4, 0), (some 5, 0), (some 6, 0)] ?_ ?_ ?_ ?_ ?_ ?_ ?_ ⟨rfl, rfl⟩ ?_ <;> simp [moveC])
-- a cloth that is not one
def noC : AV := .agg [.nils, .nils, .nils, .nils]
theorem c_MoveCloth0 (c : Clo) (d : V) (hs : c.Small) (hv : vldC c = false) : Fun Try.prog 43 [c.av, aV d] [] (.tup [noC, .bool false]) [] := by
  refine FnSpec.walk dr_ok Try.func43 rfl (by kernel_rfl) rfl rfl rfl (by simp) ?_
  simp
  (first | refine callG_r ?_ | refine callD_r ?_); simp; (first | refine callN_flat (by with_reducible first | exact c_ValidCloth c hs) rfl ?_ | refine callN_new (by with_reducible first | exact c_ValidCloth c hs) ?_ | refine callM_flat (by with_reducible first | exact c_ValidCloth c hs) rfl ?_ | refine callM_new (by with_reducible first | exact c_ValidCloth c hs) ?_)
  simp [hv]
  (refine endG_keepT [] ?_ ?_ ?_ ?_ ?_ ?_ ?_ ⟨rfl, rfl⟩ ?_ <;> simp [noC])
theorem c_specMoveCloth0 (c : Clo) (d : V) (hs : c.Small) (hv : vldC c = false) : Fun Try.prog 41 [c.av, aV d] [] (.tup [noC, .bool false]) [] := by
  refine FnSpec.walk dr_ok Try.func41 rfl (by kernel_rfl) rfl rfl rfl (by simp) ?_
  simp
  (first | refine callG_r ?_ | refine callD_r ?_); simp; (first | refine callN_flat (by with_reducible first | exact c_l10Is c hs) rfl ?_ | refine callN_new (by with_reducible first | exact c_l10Is c hs) ?_ | refine callM_flat (by with_reducible first | exact c_l10Is c hs) rfl ?_ | refine callM_new (by with_reducible first | exact c_l10Is c hs) ?_)
  simp [hv]
  (refine endG_keepT [] ?_ ?_ ?_ ?_ ?_ ?_ ?_ ⟨rfl, rfl⟩ ?_ <;> simp [noC])
end Go.Proofs.Ytafbecgidhoekaa
