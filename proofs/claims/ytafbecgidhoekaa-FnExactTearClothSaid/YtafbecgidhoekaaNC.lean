/- The law of cloths that tear.
Conditions: none. -/
import Derived.Test.YtafbecgidhoekaaMF
import Derived.Test.YtafbecgidhoekaaL4
namespace Go.Proofs.Ytafbecgidhoekaa
set_option linter.all false
open Go Go.Awp
set_option maxRecDepth 100000
set_option maxHeartbeats 4000000
set_option pp.deepTerms true

theorem law_TearCloth (c : Clo) (q : Nat) (h : c.Len) : FnSpec Try.prog 13 [c.av, .flt .f32 q] [] fun av _ => av = .bool true := by
  refine FnSpec.walkF dr_ok Try.func13 rfl (by kernel_rfl) rfl rfl rfl (by simp) ?_
  simp
  (first | refine callG_r ?_ | refine callD_r ?_); simp; (first | refine callN_flat (by with_reducible first | exact c_szCloth _ _ _ _ _ _ _ _ h.1 h.2 h.3 h.4) rfl ?_ | refine callN_new (by with_reducible first | exact c_szCloth _ _ _ _ _ _ _ _ h.1 h.2 h.3 h.4) ?_ | refine callM_flat (by with_reducible first | exact c_szCloth _ _ _ _ _ _ _ _ h.1 h.2 h.3 h.4) rfl ?_ | refine callM_new (by with_reducible first | exact c_szCloth _ _ _ _ _ _ _ _ h.1 h.2 h.3 h.4) ?_)
  simp
  intro h0
  have hs := small_of h0
  (first | refine callG_r ?_ | refine callD_r ?_); simp; (first | refine callN_flat (by with_reducible first | exact c_toCloth c hs) rfl ?_ | refine callN_new (by with_reducible first | exact c_toCloth c hs) ?_ | refine callM_flat (by with_reducible first | exact c_toCloth c hs) rfl ?_ | refine callM_new (by with_reducible first | exact c_toCloth c hs) ?_)
  simp
  cases hv : vldC c with
  | true =>
    have kS := c_specTearCloth c q hs hv
    have kI := c_TearCloth c q hs hv
    have hr : (tearC c q).Small := tearC_small hs
    generalize tearC c q = r at hr kS kI
    obtain ⟨g1, g2, g3, g4⟩ := hr
    obtain ⟨e1, e2, e3, e4⟩ := hs
    (first | refine callG_r ?_ | refine callD_r ?_); simp; (first | refine callN_flat (by with_reducible first | exact kS) rfl ?_ | refine callN_new (by with_reducible first | exact kS) ?_ | refine callM_flat (by with_reducible first | exact kS) rfl ?_ | refine callM_new (by with_reducible first | exact kS) ?_)
    simp
    (first | refine callG_r ?_ | refine callD_r ?_); simp; (first | refine callN_flat (by with_reducible first | exact c_toCloth c ⟨e1, e2, e3, e4⟩) rfl ?_ | refine callN_new (by with_reducible first | exact c_toCloth c ⟨e1, e2, e3, e4⟩) ?_ | refine callM_flat (by with_reducible first | exact c_toCloth c ⟨e1, e2, e3, e4⟩) rfl ?_ | refine callM_new (by with_reducible first | exact c_toCloth c ⟨e1, e2, e3, e4⟩) ?_)
    simp
    (first | refine callG_r ?_ | refine callD_r ?_); simp; (first | refine callN_flat (by with_reducible first | exact kI) rfl ?_ | refine callN_new (by with_reducible first | exact kI) ?_ | refine callM_flat (by with_reducible first | exact kI) rfl ?_ | refine callM_new (by with_reducible first | exact kI) ?_)
    simp
    (first | refine callG_r ?_ | refine callD_r ?_); simp; (first | refine callN_flat (by with_reducible first | exact c_eqCloth _ _ _ _ _ _ _ _ _ _ _ _ rfl rfl rfl rfl rfl rfl rfl rfl g1 g2 g3 g4) rfl ?_ | refine callN_new (by with_reducible first | exact c_eqCloth _ _ _ _ _ _ _ _ _ _ _ _ rfl rfl rfl rfl rfl rfl rfl rfl g1 g2 g3 g4) ?_ | refine callM_flat (by with_reducible first | exact c_eqCloth _ _ _ _ _ _ _ _ _ _ _ _ rfl rfl rfl rfl rfl rfl rfl rfl g1 g2 g3 g4) rfl ?_ | refine callM_new (by with_reducible first | exact c_eqCloth _ _ _ _ _ _ _ _ _ _ _ _ rfl rfl rfl rfl rfl rfl rfl rfl g1 g2 g3 g4) ?_)
    simp
    (first | refine callG_r ?_ | refine callD_r ?_); simp; (first | refine callN_flat (by with_reducible first | exact c_toCloth c ⟨e1, e2, e3, e4⟩) rfl ?_ | refine callN_new (by with_reducible first | exact c_toCloth c ⟨e1, e2, e3, e4⟩) ?_ | refine callM_flat (by with_reducible first | exact c_toCloth c ⟨e1, e2, e3, e4⟩) rfl ?_ | refine callM_new (by with_reducible first | exact c_toCloth c ⟨e1, e2, e3, e4⟩) ?_)
    simp
    (first | refine callG_r ?_ | refine callD_r ?_); simp; (first | refine callN_flat (by with_reducible first | exact c_eqCloth _ _ _ _ _ _ _ _ _ _ _ _ rfl rfl rfl rfl rfl rfl rfl rfl e1 e2 e3 e4) rfl ?_ | refine callN_new (by with_reducible first | exact c_eqCloth _ _ _ _ _ _ _ _ _ _ _ _ rfl rfl rfl rfl rfl rfl rfl rfl e1 e2 e3 e4) ?_ | refine callM_flat (by with_reducible first | exact c_eqCloth _ _ _ _ _ _ _ _ _ _ _ _ rfl rfl rfl rfl rfl rfl rfl rfl e1 e2 e3 e4) rfl ?_ | refine callM_new (by with_reducible first | exact c_eqCloth _ _ _ _ _ _ _ _ _ _ _ _ rfl rfl rfl rfl rfl rfl rfl rfl e1 e2 e3 e4) ?_)
    simp
    (first | refine callG_on true [10, 11, 12, 13] ?_ | refine callD_on true [10, 11, 12, 13] ?_); simp; (first | refine callN_fun (by with_reducible exact c_markCloth c ⟨e1, e2, e3, e4⟩ _ _ _ _ rfl rfl rfl rfl) (by simp) ?_ | refine callMD_fun (by with_reducible exact c_markCloth c ⟨e1, e2, e3, e4⟩ _ _ _ _ rfl rfl rfl rfl) (by simp) ?_)
    simp
    refine ⟨fun _ => ?_, by omega⟩
    (first | refine callG_r ?_ | refine callD_r ?_); simp; (first | refine callN_flat (by with_reducible first | exact c_eqCloth _ _ _ _ _ _ _ _ _ _ _ _ rfl rfl rfl rfl rfl rfl rfl rfl g1 g2 g3 g4) rfl ?_ | refine callN_new (by with_reducible first | exact c_eqCloth _ _ _ _ _ _ _ _ _ _ _ _ rfl rfl rfl rfl rfl rfl rfl rfl g1 g2 g3 g4) ?_ | refine callM_flat (by with_reducible first | exact c_eqCloth _ _ _ _ _ _ _ _ _ _ _ _ rfl rfl rfl rfl rfl rfl rfl rfl g1 g2 g3 g4) rfl ?_ | refine callM_new (by with_reducible first | exact c_eqCloth _ _ _ _ _ _ _ _ _ _ _ _ rfl rfl rfl rfl rfl rfl rfl rfl g1 g2 g3 g4) ?_)
    simp
    (first | refine callG_on true [15, 16, 17, 18] ?_ | refine callD_on true [15, 16, 17, 18] ?_); simp; (first | refine callN_fun (by with_reducible exact c_markCloth r ⟨g1, g2, g3, g4⟩ _ _ _ _ rfl rfl rfl rfl) (by simp) ?_ | refine callMD_fun (by with_reducible exact c_markCloth r ⟨g1, g2, g3, g4⟩ _ _ _ _ rfl rfl rfl rfl) (by simp) ?_)
    simp
    (first | refine callG_r ?_ | refine callD_r ?_); simp; (first | refine callN_flat (by with_reducible first | exact c_heldCloth _ _ _ _ g1 g2 g3 g4) rfl ?_ | refine callN_new (by with_reducible first | exact c_heldCloth _ _ _ _ g1 g2 g3 g4) ?_ | refine callM_flat (by with_reducible first | exact c_heldCloth _ _ _ _ g1 g2 g3 g4) rfl ?_ | refine callM_new (by with_reducible first | exact c_heldCloth _ _ _ _ g1 g2 g3 g4) ?_)
    simp
    refine ⟨by omega, fun _ => ?_⟩
    (first | refine callG_r ?_ | refine callD_r ?_); simp; (first | refine callN_flat (by with_reducible first | exact c_toCloth c ⟨e1, e2, e3, e4⟩) rfl ?_ | refine callN_new (by with_reducible first | exact c_toCloth c ⟨e1, e2, e3, e4⟩) ?_ | refine callM_flat (by with_reducible first | exact c_toCloth c ⟨e1, e2, e3, e4⟩) rfl ?_ | refine callM_new (by with_reducible first | exact c_toCloth c ⟨e1, e2, e3, e4⟩) ?_)
    simp
    (first | refine callG_r ?_ | refine callD_r ?_); simp; (first | refine callN_flat (by with_reducible first | exact kI) rfl ?_ | refine callN_new (by with_reducible first | exact kI) ?_ | refine callM_flat (by with_reducible first | exact kI) rfl ?_ | refine callM_new (by with_reducible first | exact kI) ?_)
    simp
    (first | refine callG_r ?_ | refine callD_r ?_); simp; (first | refine callN_flat (by with_reducible first | exact c_eqCloth _ _ _ _ _ _ _ _ _ _ _ _ rfl rfl rfl rfl rfl rfl rfl rfl g1 g2 g3 g4) rfl ?_ | refine callN_new (by with_reducible first | exact c_eqCloth _ _ _ _ _ _ _ _ _ _ _ _ rfl rfl rfl rfl rfl rfl rfl rfl g1 g2 g3 g4) ?_ | refine callM_flat (by with_reducible first | exact c_eqCloth _ _ _ _ _ _ _ _ _ _ _ _ rfl rfl rfl rfl rfl rfl rfl rfl g1 g2 g3 g4) rfl ?_ | refine callM_new (by with_reducible first | exact c_eqCloth _ _ _ _ _ _ _ _ _ _ _ _ rfl rfl rfl rfl rfl rfl rfl rfl g1 g2 g3 g4) ?_)
    simp
    (first | refine callG_r ?_ | refine callD_r ?_); simp; (first | refine callN_flat (by with_reducible first | exact c_heldCloth _ _ _ _ g1 g2 g3 g4) rfl ?_ | refine callN_new (by with_reducible first | exact c_heldCloth _ _ _ _ g1 g2 g3 g4) ?_ | refine callM_flat (by with_reducible first | exact c_heldCloth _ _ _ _ g1 g2 g3 g4) rfl ?_ | refine callM_new (by with_reducible first | exact c_heldCloth _ _ _ _ g1 g2 g3 g4) ?_)
    simp
    omega
  | false =>
    have kS := c_specTearCloth0 c q hs hv
    have kI := c_TearCloth0 c q hs hv
    obtain ⟨e1, e2, e3, e4⟩ := hs
    (first | refine callG_r ?_ | refine callD_r ?_); simp; (first | refine callN_flat (by with_reducible first | exact kS) rfl ?_ | refine callN_new (by with_reducible first | exact kS) ?_ | refine callM_flat (by with_reducible first | exact kS) rfl ?_ | refine callM_new (by with_reducible first | exact kS) ?_)
    simp [noC]
    (first | refine callG_r ?_ | refine callD_r ?_); simp; (first | refine callN_flat (by with_reducible first | exact c_toCloth c ⟨e1, e2, e3, e4⟩) rfl ?_ | refine callN_new (by with_reducible first | exact c_toCloth c ⟨e1, e2, e3, e4⟩) ?_ | refine callM_flat (by with_reducible first | exact c_toCloth c ⟨e1, e2, e3, e4⟩) rfl ?_ | refine callM_new (by with_reducible first | exact c_toCloth c ⟨e1, e2, e3, e4⟩) ?_)
    simp
    (first | refine callG_r ?_ | refine callD_r ?_); simp; (first | refine callN_flat (by with_reducible first | exact kI) rfl ?_ | refine callN_new (by with_reducible first | exact kI) ?_ | refine callM_flat (by with_reducible first | exact kI) rfl ?_ | refine callM_new (by with_reducible first | exact kI) ?_)
    simp [noC]
    (first | refine callG_r ?_ | refine callD_r ?_); simp; (first | refine callN_flat (by with_reducible first | exact c_eqCloth0) rfl ?_ | refine callN_new (by with_reducible first | exact c_eqCloth0) ?_ | refine callM_flat (by with_reducible first | exact c_eqCloth0) rfl ?_ | refine callM_new (by with_reducible first | exact c_eqCloth0) ?_)
    simp
    (first | refine callG_r ?_ | refine callD_r ?_); simp; (first | refine callN_flat (by with_reducible first | exact c_toCloth c ⟨e1, e2, e3, e4⟩) rfl ?_ | refine callN_new (by with_reducible first | exact c_toCloth c ⟨e1, e2, e3, e4⟩) ?_ | refine callM_flat (by with_reducible first | exact c_toCloth c ⟨e1, e2, e3, e4⟩) rfl ?_ | refine callM_new (by with_reducible first | exact c_toCloth c ⟨e1, e2, e3, e4⟩) ?_)
    simp
    (first | refine callG_r ?_ | refine callD_r ?_); simp; (first | refine callN_flat (by with_reducible first | exact c_eqCloth _ _ _ _ _ _ _ _ _ _ _ _ rfl rfl rfl rfl rfl rfl rfl rfl e1 e2 e3 e4) rfl ?_ | refine callN_new (by with_reducible first | exact c_eqCloth _ _ _ _ _ _ _ _ _ _ _ _ rfl rfl rfl rfl rfl rfl rfl rfl e1 e2 e3 e4) ?_ | refine callM_flat (by with_reducible first | exact c_eqCloth _ _ _ _ _ _ _ _ _ _ _ _ rfl rfl rfl rfl rfl rfl rfl rfl e1 e2 e3 e4) rfl ?_ | refine callM_new (by with_reducible first | exact c_eqCloth _ _ _ _ _ _ _ _ _ _ _ _ rfl rfl rfl rfl rfl rfl rfl rfl e1 e2 e3 e4) ?_)
    simp
    (first | refine callG_on true [6, 7, 8, 9] ?_ | refine callD_on true [6, 7, 8, 9] ?_); simp; (first | refine callN_fun (by with_reducible exact c_markCloth c ⟨e1, e2, e3, e4⟩ _ _ _ _ rfl rfl rfl rfl) (by simp) ?_ | refine callMD_fun (by with_reducible exact c_markCloth c ⟨e1, e2, e3, e4⟩ _ _ _ _ rfl rfl rfl rfl) (by simp) ?_)
    simp
    refine ⟨fun _ => ?_, by omega⟩
    (first | refine callG_r ?_ | refine callD_r ?_); simp; (first | refine callN_flat (by with_reducible first | exact c_eqCloth0) rfl ?_ | refine callN_new (by with_reducible first | exact c_eqCloth0) ?_ | refine callM_flat (by with_reducible first | exact c_eqCloth0) rfl ?_ | refine callM_new (by with_reducible first | exact c_eqCloth0) ?_)
    simp
    (first | refine callG_r ?_ | refine callD_r ?_); simp; (first | refine callN_flat (by with_reducible first | exact c_markCloth0) rfl ?_ | refine callN_new (by with_reducible first | exact c_markCloth0) ?_ | refine callM_flat (by with_reducible first | exact c_markCloth0) rfl ?_ | refine callM_new (by with_reducible first | exact c_markCloth0) ?_)
    simp
    (first | refine callG_r ?_ | refine callD_r ?_); simp; (first | refine callN_flat (by with_reducible first | exact c_heldCloth0) rfl ?_ | refine callN_new (by with_reducible first | exact c_heldCloth0) ?_ | refine callM_flat (by with_reducible first | exact c_heldCloth0) rfl ?_ | refine callM_new (by with_reducible first | exact c_heldCloth0) ?_)
    simp
    (first | refine callG_r ?_ | refine callD_r ?_); simp; (first | refine callN_flat (by with_reducible first | exact c_toCloth c ⟨e1, e2, e3, e4⟩) rfl ?_ | refine callN_new (by with_reducible first | exact c_toCloth c ⟨e1, e2, e3, e4⟩) ?_ | refine callM_flat (by with_reducible first | exact c_toCloth c ⟨e1, e2, e3, e4⟩) rfl ?_ | refine callM_new (by with_reducible first | exact c_toCloth c ⟨e1, e2, e3, e4⟩) ?_)
    simp
    (first | refine callG_r ?_ | refine callD_r ?_); simp; (first | refine callN_flat (by with_reducible first | exact kI) rfl ?_ | refine callN_new (by with_reducible first | exact kI) ?_ | refine callM_flat (by with_reducible first | exact kI) rfl ?_ | refine callM_new (by with_reducible first | exact kI) ?_)
    simp [noC]
    (first | refine callG_r ?_ | refine callD_r ?_); simp; (first | refine callN_flat (by with_reducible first | exact c_eqCloth0) rfl ?_ | refine callN_new (by with_reducible first | exact c_eqCloth0) ?_ | refine callM_flat (by with_reducible first | exact c_eqCloth0) rfl ?_ | refine callM_new (by with_reducible first | exact c_eqCloth0) ?_)
    simp
    (first | refine callG_r ?_ | refine callD_r ?_); simp; (first | refine callN_flat (by with_reducible first | exact c_heldCloth0) rfl ?_ | refine callN_new (by with_reducible first | exact c_heldCloth0) ?_ | refine callM_flat (by with_reducible first | exact c_heldCloth0) rfl ?_ | refine callM_new (by with_reducible first | exact c_heldCloth0) ?_)
    simp
end Go.Proofs.Ytafbecgidhoekaa
