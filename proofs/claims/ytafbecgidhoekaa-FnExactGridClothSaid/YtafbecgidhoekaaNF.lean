/- The law of grids of cloth.
Conditions: none. -/
import Derived.Test.YtafbecgidhoekaaMI
import Derived.Test.YtafbecgidhoekaaL4
namespace Go.Proofs.Ytafbecgidhoekaa
set_option linter.all false
open Go Go.Awp
set_option maxRecDepth 100000
set_option maxHeartbeats 4000000
set_option pp.deepTerms true

theorem law_GridCloth (w h : Int) (s : Nat) : FnSpec Try.prog 7 [.int .i64 w, .int .i64 h, .flt .f32 s] [] fun av _ => av = .bool true := by
  refine FnSpec.walkF dr_ok Try.func7 rfl (by kernel_rfl) rfl rfl rfl (by simp) ?_
  simp
  cases hv : gridB w h s with
  | true =>
    obtain ⟨w, h, rfl, rfl, g⟩ := gridB_ok hv
    have kS := c_specGridCloth w h s g
    have kI := c_GridCloth w h s g
    have hr : (gridC w h s).Small := gridC_small g
    generalize gridC w h s = r at hr kS kI
    obtain ⟨g1, g2, g3, g4⟩ := hr
    (first | refine callG_r ?_ | refine callD_r ?_); simp; (first | refine callN_flat (by with_reducible first | exact kS) rfl ?_ | refine callN_new (by with_reducible first | exact kS) ?_ | refine callM_flat (by with_reducible first | exact kS) rfl ?_ | refine callM_new (by with_reducible first | exact kS) ?_)
    simp
    (first | refine callG_r ?_ | refine callD_r ?_); simp; (first | refine callN_flat (by with_reducible first | exact kI) rfl ?_ | refine callN_new (by with_reducible first | exact kI) ?_ | refine callM_flat (by with_reducible first | exact kI) rfl ?_ | refine callM_new (by with_reducible first | exact kI) ?_)
    simp
    (first | refine callG_r ?_ | refine callD_r ?_); simp; (first | refine callN_flat (by with_reducible first | exact c_eqCloth _ _ _ _ _ _ _ _ _ _ _ _ rfl rfl rfl rfl rfl rfl rfl rfl g1 g2 g3 g4) rfl ?_ | refine callN_new (by with_reducible first | exact c_eqCloth _ _ _ _ _ _ _ _ _ _ _ _ rfl rfl rfl rfl rfl rfl rfl rfl g1 g2 g3 g4) ?_ | refine callM_flat (by with_reducible first | exact c_eqCloth _ _ _ _ _ _ _ _ _ _ _ _ rfl rfl rfl rfl rfl rfl rfl rfl g1 g2 g3 g4) rfl ?_ | refine callM_new (by with_reducible first | exact c_eqCloth _ _ _ _ _ _ _ _ _ _ _ _ rfl rfl rfl rfl rfl rfl rfl rfl g1 g2 g3 g4) ?_)
    simp
    (first | refine callG_on true [5, 6, 7, 8] ?_ | refine callD_on true [5, 6, 7, 8] ?_); simp; (first | refine callN_fun (by with_reducible exact c_markCloth r ⟨g1, g2, g3, g4⟩ _ _ _ _ rfl rfl rfl rfl) (by simp) ?_ | refine callMD_fun (by with_reducible exact c_markCloth r ⟨g1, g2, g3, g4⟩ _ _ _ _ rfl rfl rfl rfl) (by simp) ?_)
    simp
    (first | refine callG_r ?_ | refine callD_r ?_); simp; (first | refine callN_flat (by with_reducible first | exact c_heldCloth _ _ _ _ g1 g2 g3 g4) rfl ?_ | refine callN_new (by with_reducible first | exact c_heldCloth _ _ _ _ g1 g2 g3 g4) ?_ | refine callM_flat (by with_reducible first | exact c_heldCloth _ _ _ _ g1 g2 g3 g4) rfl ?_ | refine callM_new (by with_reducible first | exact c_heldCloth _ _ _ _ g1 g2 g3 g4) ?_)
    simp
    refine ⟨by omega, fun _ => ?_⟩
    (first | refine callG_r ?_ | refine callD_r ?_); simp; (first | refine callN_flat (by with_reducible first | exact kI) rfl ?_ | refine callN_new (by with_reducible first | exact kI) ?_ | refine callM_flat (by with_reducible first | exact kI) rfl ?_ | refine callM_new (by with_reducible first | exact kI) ?_)
    simp
    (first | refine callG_r ?_ | refine callD_r ?_); simp; (first | refine callN_flat (by with_reducible first | exact c_eqCloth _ _ _ _ _ _ _ _ _ _ _ _ rfl rfl rfl rfl rfl rfl rfl rfl g1 g2 g3 g4) rfl ?_ | refine callN_new (by with_reducible first | exact c_eqCloth _ _ _ _ _ _ _ _ _ _ _ _ rfl rfl rfl rfl rfl rfl rfl rfl g1 g2 g3 g4) ?_ | refine callM_flat (by with_reducible first | exact c_eqCloth _ _ _ _ _ _ _ _ _ _ _ _ rfl rfl rfl rfl rfl rfl rfl rfl g1 g2 g3 g4) rfl ?_ | refine callM_new (by with_reducible first | exact c_eqCloth _ _ _ _ _ _ _ _ _ _ _ _ rfl rfl rfl rfl rfl rfl rfl rfl g1 g2 g3 g4) ?_)
    simp
    (first | refine callG_r ?_ | refine callD_r ?_); simp; (first | refine callN_flat (by with_reducible first | exact c_heldCloth _ _ _ _ g1 g2 g3 g4) rfl ?_ | refine callN_new (by with_reducible first | exact c_heldCloth _ _ _ _ g1 g2 g3 g4) ?_ | refine callM_flat (by with_reducible first | exact c_heldCloth _ _ _ _ g1 g2 g3 g4) rfl ?_ | refine callM_new (by with_reducible first | exact c_heldCloth _ _ _ _ g1 g2 g3 g4) ?_)
    simp
    omega
  | false =>
    have kS := c_specGridCloth0 w h s hv
    have kI := c_GridCloth0 w h s hv
    (first | refine callG_r ?_ | refine callD_r ?_); simp; (first | refine callN_flat (by with_reducible first | exact kS) rfl ?_ | refine callN_new (by with_reducible first | exact kS) ?_ | refine callM_flat (by with_reducible first | exact kS) rfl ?_ | refine callM_new (by with_reducible first | exact kS) ?_)
    simp [noC]
    (first | refine callG_r ?_ | refine callD_r ?_); simp; (first | refine callN_flat (by with_reducible first | exact kI) rfl ?_ | refine callN_new (by with_reducible first | exact kI) ?_ | refine callM_flat (by with_reducible first | exact kI) rfl ?_ | refine callM_new (by with_reducible first | exact kI) ?_)
    simp [noC]
    (first | refine callG_r ?_ | refine callD_r ?_); simp; (first | refine callN_flat (by with_reducible first | exact c_eqCloth0) rfl ?_ | refine callN_new (by with_reducible first | exact c_eqCloth0) ?_ | refine callM_flat (by with_reducible first | exact c_eqCloth0) rfl ?_ | refine callM_new (by with_reducible first | exact c_eqCloth0) ?_)
    simp
    (first | refine callG_r ?_ | refine callD_r ?_); simp; (first | refine callN_flat (by with_reducible first | exact c_markCloth0) rfl ?_ | refine callN_new (by with_reducible first | exact c_markCloth0) ?_ | refine callM_flat (by with_reducible first | exact c_markCloth0) rfl ?_ | refine callM_new (by with_reducible first | exact c_markCloth0) ?_)
    simp
    (first | refine callG_r ?_ | refine callD_r ?_); simp; (first | refine callN_flat (by with_reducible first | exact c_heldCloth0) rfl ?_ | refine callN_new (by with_reducible first | exact c_heldCloth0) ?_ | refine callM_flat (by with_reducible first | exact c_heldCloth0) rfl ?_ | refine callM_new (by with_reducible first | exact c_heldCloth0) ?_)
    simp
    (first | refine callG_r ?_ | refine callD_r ?_); simp; (first | refine callN_flat (by with_reducible first | exact kI) rfl ?_ | refine callN_new (by with_reducible first | exact kI) ?_ | refine callM_flat (by with_reducible first | exact kI) rfl ?_ | refine callM_new (by with_reducible first | exact kI) ?_)
    simp [noC]
    (first | refine callG_r ?_ | refine callD_r ?_); simp; (first | refine callN_flat (by with_reducible first | exact c_eqCloth0) rfl ?_ | refine callN_new (by with_reducible first | exact c_eqCloth0) ?_ | refine callM_flat (by with_reducible first | exact c_eqCloth0) rfl ?_ | refine callM_new (by with_reducible first | exact c_eqCloth0) ?_)
    simp
    (first | refine callG_r ?_ | refine callD_r ?_); simp; (first | refine callN_flat (by with_reducible first | exact c_heldCloth0) rfl ?_ | refine callN_new (by with_reducible first | exact c_heldCloth0) ?_ | refine callM_flat (by with_reducible first | exact c_heldCloth0) rfl ?_ | refine callM_new (by with_reducible first | exact c_heldCloth0) ?_)
    simp
end Go.Proofs.Ytafbecgidhoekaa
