/- Contracts: cloths over a ball.
Conditions: none. -/
import Derived.Test.YtafbecgidhoekaaM6
namespace Go.Proofs.Ytafbecgidhoekaa
set_option linter.all false
open Go Go.Awp
set_option maxRecDepth 100000
set_option maxHeartbeats 4000000
set_option pp.deepTerms true

def drapeV (o : V) (r : Nat) (p : V) : V := if ford .f32 (vlong (vsub p o)) r = some .lt then (if ford .f32 (vlong (vsub p o)) 0 = some .eq then vadd o (0, 0, r) else vadd o (vscale (vsub p o) (fop .quo .f32 r (vlong (vsub p o))))) else p
def drapeC (c : Clo) (o : V) (r : Nat) : Clo := { c with pl := c.pl.mapIdx fun i p => if decide ((i : Int) ∈ c.pin) = false then drapeV o r p else p }
theorem drapeC_pl (c : Clo) (o : V) (r : Nat) : (drapeC c o r).pl.length = c.pl.length := by simp [drapeC]
theorem c_drape (c : Clo) (o : V) (r : Nat) (hs : c.Small) (hn : c.pl.length ≤ 64) (hp : ∀ p ∈ c.pin, 0 ≤ p ∧ p < c.pl.length) :
    Fun Try.prog 109 [.ptr 0 0, aV o, .flt .f32 r] (c.at false) (.tup []) ((drapeC c o r).at false) := by
  refine FnSpec.walk dr_ok Try.func109 rfl (by kernel_rfl) rfl rfl rfl (by simp) ?_
  simp
  (first | refine callG_r ?_ | refine callD_r ?_); simp; (first | refine callN_flat (by with_reducible first | exact c_pins c hs hn hp) rfl ?_ | refine callN_new (by with_reducible first | exact c_pins c hs hn hp) ?_ | refine callM_flat (by with_reducible first | exact c_pins c hs hn hp) rfl ?_ | refine callM_new (by with_reducible first | exact c_pins c hs hn hp) ?_)
  simp
  have hlp := drapeC_pl c o r
  refine loopG_of (α := Nat) (fun k => k ≤ c.pl.length) (fun k => c.pl.length - k) (fun k => [(15, .int .i64 k), (14, .int .i64 c.pl.length), (13, .slc 6 0 c.pl.length 1), (0, .ptr 0 0), (2, .flt .f32 r), (4, .ptr 5 0)])
    (fun k => [.blk false true 32 [.slc 1 0 c.pl.length 3, .slc 2 0 c.ol.length 3, .slc 3 0 c.th.length 3, .slc 4 0 c.pin.length 1],
      .blk false false 56 (cVs (mixN (drapeC c o r).pl c.pl k)), .blk false false 56 (cVs c.ol), .blk false false 80 (cTs c.th), .blk false false 2 (cIs c.pin),
      .blk true true 56 [.flt .f32 o.1, .flt .f32 o.2.1, .flt .f32 o.2.2], .blk true false 4 (cBs (pinT c.pl.length c.pin))]) 0 (by simp) ?_ fun k hk => ?_
  · (refine weak_gc [(some 5, 0), (some 6, 0)] ?_ ?_ ?_ ?_ ?_ <;> simp)
  have hw := nat_wrap (k := k) (by omega)
  have hm := mixN_length k hlp
  by_cases b : k < c.pl.length
  · simp [b, hw, hm, pinT_get, mixN_get hlp b]
    (first | refine callG_r ?_ | refine callD_r ?_); simp; (first | refine callN_flat (by with_reducible first | exact c_less _ _ _ _ _ _) rfl ?_ | refine callN_new (by with_reducible first | exact c_less _ _ _ _ _ _) ?_ | refine callM_flat (by with_reducible first | exact c_less _ _ _ _ _ _) rfl ?_ | refine callM_new (by with_reducible first | exact c_less _ _ _ _ _ _) ?_)
    simp [b, hw, hm, pinT_get, mixN_get hlp b]
    (first | refine callG_r ?_ | refine callD_r ?_); simp; (first | refine callN_flat (by with_reducible first | exact c_long _ _ _) rfl ?_ | refine callN_new (by with_reducible first | exact c_long _ _ _) ?_ | refine callM_flat (by with_reducible first | exact c_long _ _ _) rfl ?_ | refine callM_new (by with_reducible first | exact c_long _ _ _) ?_)
    simp [b, hw, hm, pinT_get, mixN_get hlp b]
    by_cases e1 : (k : Int) ∈ c.pin
    · simp [e1, hw]
      refine loopK_next (k + 1) (by omega) (by omega) ?_
      rw [← mixN_skip hlp b (by simp [drapeC, e1])]
      (refine weak_gc [(some 5, 0), (some 6, 0)] ?_ ?_ ?_ ?_ ?_ <;> simp)
    · by_cases e2 : ford .f32 (vlong (vsub c.pl[k] o)) r = some .lt
      · by_cases e3 : ford .f32 (vlong (vsub c.pl[k] o)) 0 = some .eq
        · simp [e1, e2, e3, b, hw, hm]
          (first | refine callG_r ?_ | refine callD_r ?_); simp; (first | refine callN_flat (by with_reducible first | exact c_add _ _ _ _ _ _) rfl ?_ | refine callN_new (by with_reducible first | exact c_add _ _ _ _ _ _) ?_ | refine callM_flat (by with_reducible first | exact c_add _ _ _ _ _ _) rfl ?_ | refine callM_new (by with_reducible first | exact c_add _ _ _ _ _ _) ?_)
          simp [b, hw, hm]
          refine ⟨by omega, loopK_next (k + 1) (by omega) (by omega) ?_⟩
          rw [mixN_set (by omega) hlp (by simp [drapeC, drapeV, e1, e2, e3])]
          (refine weak_gc [(some 5, 0), (some 6, 0)] ?_ ?_ ?_ ?_ ?_ <;> simp)
        · simp [e1, e2, e3, b, hw, hm]
          (first | refine callG_r ?_ | refine callD_r ?_); simp; (first | refine callN_flat (by with_reducible first | exact c_scale _ _ _ _) rfl ?_ | refine callN_new (by with_reducible first | exact c_scale _ _ _ _) ?_ | refine callM_flat (by with_reducible first | exact c_scale _ _ _ _) rfl ?_ | refine callM_new (by with_reducible first | exact c_scale _ _ _ _) ?_)
          simp [b, hw, hm]
          (first | refine callG_r ?_ | refine callD_r ?_); simp; (first | refine callN_flat (by with_reducible first | exact c_add _ _ _ _ _ _) rfl ?_ | refine callN_new (by with_reducible first | exact c_add _ _ _ _ _ _) ?_ | refine callM_flat (by with_reducible first | exact c_add _ _ _ _ _ _) rfl ?_ | refine callM_new (by with_reducible first | exact c_add _ _ _ _ _ _) ?_)
          simp [b, hw, hm]
          refine ⟨by omega, loopK_next (k + 1) (by omega) (by omega) ?_⟩
          rw [mixN_set (by omega) hlp (by simp [drapeC, drapeV, e1, e2, e3])]
          (refine weak_gc [(some 5, 0), (some 6, 0)] ?_ ?_ ?_ ?_ ?_ <;> simp)
      · simp [e1, e2, hw]
        refine loopK_next (k + 1) (by omega) (by omega) ?_
        rw [← mixN_skip hlp b (by simp [drapeC, drapeV, e1, e2])]
        (refine weak_gc [(some 5, 0), (some 6, 0)] ?_ ?_ ?_ ?_ ?_ <;> simp)
  · obtain rfl : k = c.pl.length := by omega
    rw [mixN_all (by omega) (by omega)]
    simp
    (refine endG_keepT [] ?_ ?_ ?_ ?_ ?_ ?_ ?_ ⟨rfl, rfl⟩ ?_ <;> simp [drapeC])
theorem c_l10Drape (c : Clo) (o : V) (r : Nat) (hs : c.Small) (hn : c.pl.length ≤ 64) :
    Fun Try.prog 108 [.ptr 0 0, aV o, .flt .f32 r] (c.at false) (.tup []) ((drapeC c o r).at false) := by
  refine FnSpec.walk dr_ok Try.func108 rfl (by kernel_rfl) rfl rfl rfl (by simp) ?_
  simp
  have hlp := drapeC_pl c o r
  refine loopG_of (α := Nat) (fun k => k ≤ c.pl.length) (fun k => c.pl.length - k) (fun k => [(6, .int .i64 k), (0, .ptr 0 0), (2, .flt .f32 r), (4, .ptr 5 0)])
    (fun k => [.blk false true 32 [.slc 1 0 c.pl.length 3, .slc 2 0 c.ol.length 3, .slc 3 0 c.th.length 3, .slc 4 0 c.pin.length 1],
      .blk false false 56 (cVs (mixN (drapeC c o r).pl c.pl k)), .blk false false 56 (cVs c.ol), .blk false false 80 (cTs c.th), .blk false false 2 (cIs c.pin),
      .blk true true 56 [.flt .f32 o.1, .flt .f32 o.2.1, .flt .f32 o.2.2]]) 0 (by simp) ?_ fun k hk => ?_
  · (refine weak_gc [(some 5, 0)] ?_ ?_ ?_ ?_ ?_ <;> simp)
  have hw := nat_wrap (k := k) (by omega)
  have hm := mixN_length k hlp
  by_cases b : k < c.pl.length
  · simp [b, hw, hm, mixN_get hlp b]
    (first | refine callG_r ?_ | refine callD_r ?_); simp; (first | refine callN_flat (by with_reducible first | exact c_l01Less _ _ _ _ _ _) rfl ?_ | refine callN_new (by with_reducible first | exact c_l01Less _ _ _ _ _ _) ?_ | refine callM_flat (by with_reducible first | exact c_l01Less _ _ _ _ _ _) rfl ?_ | refine callM_new (by with_reducible first | exact c_l01Less _ _ _ _ _ _) ?_)
    simp [b, hw, hm, mixN_get hlp b]
    (first | refine callG_r ?_ | refine callD_r ?_); simp; (first | refine callN_flat (by with_reducible first | exact c_l01Long _ _ _) rfl ?_ | refine callN_new (by with_reducible first | exact c_l01Long _ _ _) ?_ | refine callM_flat (by with_reducible first | exact c_l01Long _ _ _) rfl ?_ | refine callM_new (by with_reducible first | exact c_l01Long _ _ _) ?_)
    simp [b, hw, hm, mixN_get hlp b]
    (first | refine callG_r ?_ | refine callD_r ?_); simp; (first | refine callN_flat (by with_reducible first | exact c_l00Has _ _ hs.pin) rfl ?_ | refine callN_new (by with_reducible first | exact c_l00Has _ _ hs.pin) ?_ | refine callM_flat (by with_reducible first | exact c_l00Has _ _ hs.pin) rfl ?_ | refine callM_new (by with_reducible first | exact c_l00Has _ _ hs.pin) ?_)
    by_cases e1 : (k : Int) ∈ c.pin
    · simp [e1, hw]
      refine loopK_next (k + 1) (by omega) (by omega) ?_
      rw [← mixN_skip hlp b (by simp [drapeC, e1])]
      (refine weak_gc [(some 5, 0)] ?_ ?_ ?_ ?_ ?_ <;> simp)
    · by_cases e2 : ford .f32 (vlong (vsub c.pl[k] o)) r = some .lt
      · by_cases e3 : ford .f32 (vlong (vsub c.pl[k] o)) 0 = some .eq
        · simp [e1, e2, e3, b, hw, hm]
          (first | refine callG_r ?_ | refine callD_r ?_); simp; (first | refine callN_flat (by with_reducible first | exact c_l01Add _ _ _ _ _ _) rfl ?_ | refine callN_new (by with_reducible first | exact c_l01Add _ _ _ _ _ _) ?_ | refine callM_flat (by with_reducible first | exact c_l01Add _ _ _ _ _ _) rfl ?_ | refine callM_new (by with_reducible first | exact c_l01Add _ _ _ _ _ _) ?_)
          simp [b, hw, hm]
          refine ⟨by omega, loopK_next (k + 1) (by omega) (by omega) ?_⟩
          rw [mixN_set (by omega) hlp (by simp [drapeC, drapeV, e1, e2, e3])]
          (refine weak_gc [(some 5, 0)] ?_ ?_ ?_ ?_ ?_ <;> simp)
        · simp [e1, e2, e3, b, hw, hm]
          (first | refine callG_r ?_ | refine callD_r ?_); simp; (first | refine callN_flat (by with_reducible first | exact c_l01Scale _ _ _ _) rfl ?_ | refine callN_new (by with_reducible first | exact c_l01Scale _ _ _ _) ?_ | refine callM_flat (by with_reducible first | exact c_l01Scale _ _ _ _) rfl ?_ | refine callM_new (by with_reducible first | exact c_l01Scale _ _ _ _) ?_)
          simp [b, hw, hm]
          (first | refine callG_r ?_ | refine callD_r ?_); simp; (first | refine callN_flat (by with_reducible first | exact c_l01Add _ _ _ _ _ _) rfl ?_ | refine callN_new (by with_reducible first | exact c_l01Add _ _ _ _ _ _) ?_ | refine callM_flat (by with_reducible first | exact c_l01Add _ _ _ _ _ _) rfl ?_ | refine callM_new (by with_reducible first | exact c_l01Add _ _ _ _ _ _) ?_)
          simp [b, hw, hm]
          refine ⟨by omega, loopK_next (k + 1) (by omega) (by omega) ?_⟩
          rw [mixN_set (by omega) hlp (by simp [drapeC, drapeV, e1, e2, e3])]
          (refine weak_gc [(some 5, 0)] ?_ ?_ ?_ ?_ ?_ <;> simp)
      · simp [e1, e2, hw]
        refine loopK_next (k + 1) (by omega) (by omega) ?_
        rw [← mixN_skip hlp b (by simp [drapeC, drapeV, e1, e2])]
        (refine weak_gc [(some 5, 0)] ?_ ?_ ?_ ?_ ?_ <;> simp)
  · obtain rfl : k = c.pl.length := by omega
    rw [mixN_all (by omega) (by omega)]
    simp
    (refine endG_keepT [] ?_ ?_ ?_ ?_ ?_ ?_ ?_ ⟨rfl, rfl⟩ ?_ <;> simp [drapeC])
end Go.Proofs.Ytafbecgidhoekaa
