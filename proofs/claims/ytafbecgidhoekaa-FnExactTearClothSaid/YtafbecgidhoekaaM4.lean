/- Contracts: cloths that fall.
Conditions: none. -/
import Derived.Test.YtafbecgidhoekaaM3
namespace Go.Proofs.Ytafbecgidhoekaa
set_option linter.all false
open Go Go.Awp
set_option maxRecDepth 100000
set_option maxHeartbeats 4000000
set_option pp.deepTerms true

/-- A cloth behind a pointer: the cloth's words and its four rows. -/
abbrev Clo.at (nw : Bool) (c : Clo) : Heap := [.blk nw true 32 [.slc 1 0 c.pl.length 3, .slc 2 0 c.ol.length 3, .slc 3 0 c.th.length 3, .slc 4 0 c.pin.length 1],
  .blk nw false 56 (cVs c.pl), .blk nw false 56 (cVs c.ol), .blk nw false 80 (cTs c.th), .blk nw false 2 (cIs c.pin)]
attribute [simp] Clo.at
def v000 : V := (0, 0, 0)
def fallV (c : Clo) (f : V) (k : Nat) (i : Nat) (p : V) : V := vadd (vadd p (vscale (vsub p (c.ol.getD i v000)) k)) f
def fallC (c : Clo) (f : V) (k : Nat) : Clo := { c with
  pl := c.pl.mapIdx fun i p => if decide ((i : Int) ∈ c.pin) = false then fallV c f k i p else p
  ol := c.ol.mapIdx fun i o => if decide ((i : Int) ∈ c.pin) = false then c.pl.getD i v000 else o }
theorem fallC_pl (c : Clo) (f : V) (k : Nat) : (fallC c f k).pl.length = c.pl.length := by simp [fallC]
theorem fallC_ol (c : Clo) (f : V) (k : Nat) : (fallC c f k).ol.length = c.ol.length := by simp [fallC]
theorem c_fall (c : Clo) (f : V) (q : Nat) (hs : c.Small) (hn : c.pl.length ≤ 64) (ho : c.ol.length = c.pl.length) (hp : ∀ p ∈ c.pin, 0 ≤ p ∧ p < c.pl.length) :
    Fun Try.prog 105 [.ptr 0 0, aV f, .flt .f32 q] (c.at false) (.tup []) ((fallC c f q).at false) := by
  refine FnSpec.walk dr_ok Try.func105 rfl (by kernel_rfl) rfl rfl rfl (by simp) ?_
  simp
  (first | refine callG_r ?_ | refine callD_r ?_); simp; (first | refine callN_flat (by with_reducible first | exact c_pins c hs hn hp) rfl ?_ | refine callN_new (by with_reducible first | exact c_pins c hs hn hp) ?_ | refine callM_flat (by with_reducible first | exact c_pins c hs hn hp) rfl ?_ | refine callM_new (by with_reducible first | exact c_pins c hs hn hp) ?_)
  simp
  have hlp := fallC_pl c f q
  have hlo := fallC_ol c f q
  refine loopG_of (α := Nat) (fun k => k ≤ c.pl.length) (fun k => c.pl.length - k) (fun k => [(14, .int .i64 k), (13, .int .i64 c.pl.length), (12, .slc 6 0 c.pl.length 1), (0, .ptr 0 0), (2, .flt .f32 q), (4, .ptr 5 0)])
    (fun k => [.blk false true 32 [.slc 1 0 c.pl.length 3, .slc 2 0 c.ol.length 3, .slc 3 0 c.th.length 3, .slc 4 0 c.pin.length 1],
      .blk false false 56 (cVs (mixN (fallC c f q).pl c.pl k)), .blk false false 56 (cVs (mixN (fallC c f q).ol c.ol k)), .blk false false 80 (cTs c.th), .blk false false 2 (cIs c.pin),
      .blk true true 56 [.flt .f32 f.1, .flt .f32 f.2.1, .flt .f32 f.2.2], .blk true false 4 (cBs (pinT c.pl.length c.pin))]) 0 (by simp) ?_ fun k hk => ?_
  · (refine weak_gc [(some 5, 0), (some 6, 0)] ?_ ?_ ?_ ?_ ?_ <;> simp)
  have hw := nat_wrap (k := k) (by omega)
  have hm := mixN_length k hlp
  have hm2 := mixN_length k hlo
  by_cases b : k < c.pl.length
  · have b2 : k < c.ol.length := by omega
    simp [b, b2, hw, hm, hm2, pinT_get, mixN_get hlp b, mixN_get hlo b2]
    refine ⟨fun e1 => ?_, fun e1 => loopK_next (k + 1) (by omega) (by omega) ?_⟩
    · (first | refine callG_r ?_ | refine callD_r ?_); simp; (first | refine callN_flat (by with_reducible first | exact c_less _ _ _ _ _ _) rfl ?_ | refine callN_new (by with_reducible first | exact c_less _ _ _ _ _ _) ?_ | refine callM_flat (by with_reducible first | exact c_less _ _ _ _ _ _) rfl ?_ | refine callM_new (by with_reducible first | exact c_less _ _ _ _ _ _) ?_)
      simp [b, b2, hw, hm, hm2, mixN_get hlp b, mixN_get hlo b2]
      (first | refine callG_r ?_ | refine callD_r ?_); simp; (first | refine callN_flat (by with_reducible first | exact c_scale _ _ _ _) rfl ?_ | refine callN_new (by with_reducible first | exact c_scale _ _ _ _) ?_ | refine callM_flat (by with_reducible first | exact c_scale _ _ _ _) rfl ?_ | refine callM_new (by with_reducible first | exact c_scale _ _ _ _) ?_)
      simp [b, b2, hw, hm, hm2, mixN_get hlp b, mixN_get hlo b2]
      (first | refine callG_r ?_ | refine callD_r ?_); simp; (first | refine callN_flat (by with_reducible first | exact c_add _ _ _ _ _ _) rfl ?_ | refine callN_new (by with_reducible first | exact c_add _ _ _ _ _ _) ?_ | refine callM_flat (by with_reducible first | exact c_add _ _ _ _ _ _) rfl ?_ | refine callM_new (by with_reducible first | exact c_add _ _ _ _ _ _) ?_)
      simp [b, b2, hw, hm, hm2, mixN_get hlp b, mixN_get hlo b2]
      (first | refine callG_r ?_ | refine callD_r ?_); simp; (first | refine callN_flat (by with_reducible first | exact c_add _ _ _ _ _ _) rfl ?_ | refine callN_new (by with_reducible first | exact c_add _ _ _ _ _ _) ?_ | refine callM_flat (by with_reducible first | exact c_add _ _ _ _ _ _) rfl ?_ | refine callM_new (by with_reducible first | exact c_add _ _ _ _ _ _) ?_)
      simp [b, b2, hw, hm, hm2, mixN_get hlp b, mixN_get hlo b2]
      refine ⟨by omega, by omega, loopK_next (k + 1) (by omega) (by omega) ?_⟩
      rw [mixN_set (by omega) hlp (by simp [fallC, fallV, e1, b2]), mixN_set (by omega) hlo (by simp [fallC, e1, b])]
      (refine weak_gc [(some 5, 0), (some 6, 0)] ?_ ?_ ?_ ?_ ?_ <;> simp)
    · rw [← mixN_skip hlp b (by simp [fallC, e1]), ← mixN_skip hlo b2 (by simp [fallC, e1])]
      (refine weak_gc [(some 5, 0), (some 6, 0)] ?_ ?_ ?_ ?_ ?_ <;> simp)
  · obtain rfl : k = c.pl.length := by omega
    rw [mixN_all (by omega) (by omega), mixN_all (by omega) (by omega)]
    simp
    (refine endG_keepT [] ?_ ?_ ?_ ?_ ?_ ?_ ?_ ⟨rfl, rfl⟩ ?_ <;> simp [fallC])
theorem c_l10Fall (c : Clo) (f : V) (q : Nat) (hs : c.Small) (hn : c.pl.length ≤ 64) (ho : c.ol.length = c.pl.length) :
    Fun Try.prog 104 [.ptr 0 0, aV f, .flt .f32 q] (c.at false) (.tup []) ((fallC c f q).at false) := by
  refine FnSpec.walk dr_ok Try.func104 rfl (by kernel_rfl) rfl rfl rfl (by simp) ?_
  simp
  have hlp := fallC_pl c f q
  have hlo := fallC_ol c f q
  refine loopG_of (α := Nat) (fun k => k ≤ c.pl.length) (fun k => c.pl.length - k) (fun k => [(6, .int .i64 k), (0, .ptr 0 0), (2, .flt .f32 q), (4, .ptr 5 0)])
    (fun k => [.blk false true 32 [.slc 1 0 c.pl.length 3, .slc 2 0 c.ol.length 3, .slc 3 0 c.th.length 3, .slc 4 0 c.pin.length 1],
      .blk false false 56 (cVs (mixN (fallC c f q).pl c.pl k)), .blk false false 56 (cVs (mixN (fallC c f q).ol c.ol k)), .blk false false 80 (cTs c.th), .blk false false 2 (cIs c.pin),
      .blk true true 56 [.flt .f32 f.1, .flt .f32 f.2.1, .flt .f32 f.2.2]]) 0 (by simp) ?_ fun k hk => ?_
  · (refine weak_gc [(some 5, 0)] ?_ ?_ ?_ ?_ ?_ <;> simp)
  have hw := nat_wrap (k := k) (by omega)
  have hm := mixN_length k hlp
  have hm2 := mixN_length k hlo
  by_cases b : k < c.pl.length
  · have b2 : k < c.ol.length := by omega
    simp [b, b2, hw, hm, hm2, mixN_get hlp b, mixN_get hlo b2]
    (first | refine callG_r ?_ | refine callD_r ?_); simp; (first | refine callN_flat (by with_reducible first | exact c_l00Has _ _ hs.pin) rfl ?_ | refine callN_new (by with_reducible first | exact c_l00Has _ _ hs.pin) ?_ | refine callM_flat (by with_reducible first | exact c_l00Has _ _ hs.pin) rfl ?_ | refine callM_new (by with_reducible first | exact c_l00Has _ _ hs.pin) ?_)
    simp [b, b2, hw, hm, hm2, mixN_get hlp b, mixN_get hlo b2]
    refine ⟨fun e1 => loopK_next (k + 1) (by omega) (by omega) ?_, fun e1 => ?_⟩
    · rw [← mixN_skip hlp b (by simp [fallC, e1]), ← mixN_skip hlo b2 (by simp [fallC, e1])]
      (refine weak_gc [(some 5, 0)] ?_ ?_ ?_ ?_ ?_ <;> simp)
    · (first | refine callG_r ?_ | refine callD_r ?_); simp; (first | refine callN_flat (by with_reducible first | exact c_l01Less _ _ _ _ _ _) rfl ?_ | refine callN_new (by with_reducible first | exact c_l01Less _ _ _ _ _ _) ?_ | refine callM_flat (by with_reducible first | exact c_l01Less _ _ _ _ _ _) rfl ?_ | refine callM_new (by with_reducible first | exact c_l01Less _ _ _ _ _ _) ?_)
      simp [b, b2, hw, hm, hm2, mixN_get hlp b, mixN_get hlo b2]
      (first | refine callG_r ?_ | refine callD_r ?_); simp; (first | refine callN_flat (by with_reducible first | exact c_l01Scale _ _ _ _) rfl ?_ | refine callN_new (by with_reducible first | exact c_l01Scale _ _ _ _) ?_ | refine callM_flat (by with_reducible first | exact c_l01Scale _ _ _ _) rfl ?_ | refine callM_new (by with_reducible first | exact c_l01Scale _ _ _ _) ?_)
      simp [b, b2, hw, hm, hm2, mixN_get hlp b, mixN_get hlo b2]
      (first | refine callG_r ?_ | refine callD_r ?_); simp; (first | refine callN_flat (by with_reducible first | exact c_l01Add _ _ _ _ _ _) rfl ?_ | refine callN_new (by with_reducible first | exact c_l01Add _ _ _ _ _ _) ?_ | refine callM_flat (by with_reducible first | exact c_l01Add _ _ _ _ _ _) rfl ?_ | refine callM_new (by with_reducible first | exact c_l01Add _ _ _ _ _ _) ?_)
      simp [b, b2, hw, hm, hm2, mixN_get hlp b, mixN_get hlo b2]
      (first | refine callG_r ?_ | refine callD_r ?_); simp; (first | refine callN_flat (by with_reducible first | exact c_l01Add _ _ _ _ _ _) rfl ?_ | refine callN_new (by with_reducible first | exact c_l01Add _ _ _ _ _ _) ?_ | refine callM_flat (by with_reducible first | exact c_l01Add _ _ _ _ _ _) rfl ?_ | refine callM_new (by with_reducible first | exact c_l01Add _ _ _ _ _ _) ?_)
      simp [b, b2, hw, hm, hm2, mixN_get hlp b, mixN_get hlo b2]
      refine ⟨by omega, by omega, loopK_next (k + 1) (by omega) (by omega) ?_⟩
      rw [mixN_set (by omega) hlp (by simp [fallC, fallV, e1, b2]), mixN_set (by omega) hlo (by simp [fallC, e1, b])]
      (refine weak_gc [(some 5, 0)] ?_ ?_ ?_ ?_ ?_ <;> simp)
  · obtain rfl : k = c.pl.length := by omega
    rw [mixN_all (by omega) (by omega), mixN_all (by omega) (by omega)]
    simp
    (refine endG_keepT [] ?_ ?_ ?_ ?_ ?_ ?_ ?_ ⟨rfl, rfl⟩ ?_ <;> simp [fallC])
end Go.Proofs.Ytafbecgidhoekaa
