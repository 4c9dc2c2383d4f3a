/- The law of stretches.
Conditions: none. -/
import Derived.Test.YtafbecgidhoekaaMB
import Derived.Test.YtafbecgidhoekaaL4
namespace Go.Proofs.Ytafbecgidhoekaa
set_option linter.all false
open Go Go.Awp
set_option maxRecDepth 100000
set_option maxHeartbeats 4000000
set_option pp.deepTerms true

theorem law_StretchOf (c : Clo) (h : c.Len) : FnSpec Try.prog 6 [c.av] [] fun av _ => av = .bool true := by
  refine FnSpec.walkF dr_ok Try.func6 rfl (by kernel_rfl) rfl rfl rfl (by simp) ?_
  simp
  (first | refine callG_r ?_ | refine callD_r ?_); simp; (first | refine callN_flat (by with_reducible first | exact c_szCloth _ _ _ _ _ _ _ _ h.1 h.2 h.3 h.4) rfl ?_ | refine callN_new (by with_reducible first | exact c_szCloth _ _ _ _ _ _ _ _ h.1 h.2 h.3 h.4) ?_ | refine callM_flat (by with_reducible first | exact c_szCloth _ _ _ _ _ _ _ _ h.1 h.2 h.3 h.4) rfl ?_ | refine callM_new (by with_reducible first | exact c_szCloth _ _ _ _ _ _ _ _ h.1 h.2 h.3 h.4) ?_)
  simp
  intro h0
  have hs := small_of h0
  (first | refine callG_r ?_ | refine callD_r ?_); simp; (first | refine callN_flat (by with_reducible first | exact c_toCloth c hs) rfl ?_ | refine callN_new (by with_reducible first | exact c_toCloth c hs) ?_ | refine callM_flat (by with_reducible first | exact c_toCloth c hs) rfl ?_ | refine callM_new (by with_reducible first | exact c_toCloth c hs) ?_)
  simp
  obtain ⟨m, z, kS, kI⟩ : ∃ (m : Nat) (z : Bool), Fun Try.prog 32 [c.av] [] (.tup [.flt .f32 m, .bool z]) [] ∧ Fun Try.prog 33 [c.av] [] (.tup [.flt .f32 m, .bool z]) [] := by
    cases hv : vldC c with
    | true => exact ⟨_, _, c_specStretchOf c hs hv, c_StretchOf c hs hv⟩
    | false => exact ⟨_, _, c_specStretchOf0 c hs hv, c_StretchOf0 c hs hv⟩
  obtain ⟨e1, e2, e3, e4⟩ := hs
  (first | refine callG_r ?_ | refine callD_r ?_); simp; (first | refine callN_flat (by with_reducible first | exact kS) rfl ?_ | refine callN_new (by with_reducible first | exact kS) ?_ | refine callM_flat (by with_reducible first | exact kS) rfl ?_ | refine callM_new (by with_reducible first | exact kS) ?_)
  simp
  (first | refine callG_r ?_ | refine callD_r ?_); simp; (first | refine callN_flat (by with_reducible first | exact c_toCloth c ⟨e1, e2, e3, e4⟩) rfl ?_ | refine callN_new (by with_reducible first | exact c_toCloth c ⟨e1, e2, e3, e4⟩) ?_ | refine callM_flat (by with_reducible first | exact c_toCloth c ⟨e1, e2, e3, e4⟩) rfl ?_ | refine callM_new (by with_reducible first | exact c_toCloth c ⟨e1, e2, e3, e4⟩) ?_)
  simp
  (first | refine callG_r ?_ | refine callD_r ?_); simp; (first | refine callN_flat (by with_reducible first | exact kI) rfl ?_ | refine callN_new (by with_reducible first | exact kI) ?_ | refine callM_flat (by with_reducible first | exact kI) rfl ?_ | refine callM_new (by with_reducible first | exact kI) ?_)
  simp
  (first | refine callG_r ?_ | refine callD_r ?_); simp; (first | refine callN_flat (by with_reducible first | exact c_sameFloat _) rfl ?_ | refine callN_new (by with_reducible first | exact c_sameFloat _) ?_ | refine callM_flat (by with_reducible first | exact c_sameFloat _) rfl ?_ | refine callM_new (by with_reducible first | exact c_sameFloat _) ?_)
  simp
  (first | refine callG_r ?_ | refine callD_r ?_); simp; (first | refine callN_flat (by with_reducible first | exact c_toCloth c ⟨e1, e2, e3, e4⟩) rfl ?_ | refine callN_new (by with_reducible first | exact c_toCloth c ⟨e1, e2, e3, e4⟩) ?_ | refine callM_flat (by with_reducible first | exact c_toCloth c ⟨e1, e2, e3, e4⟩) rfl ?_ | refine callM_new (by with_reducible first | exact c_toCloth c ⟨e1, e2, e3, e4⟩) ?_)
  simp
  (first | refine callG_r ?_ | refine callD_r ?_); simp; (first | refine callN_flat (by with_reducible first | exact c_eqCloth _ _ _ _ _ _ _ _ _ _ _ _ rfl rfl rfl rfl rfl rfl rfl rfl e1 e2 e3 e4) rfl ?_ | refine callN_new (by with_reducible first | exact c_eqCloth _ _ _ _ _ _ _ _ _ _ _ _ rfl rfl rfl rfl rfl rfl rfl rfl e1 e2 e3 e4) ?_ | refine callM_flat (by with_reducible first | exact c_eqCloth _ _ _ _ _ _ _ _ _ _ _ _ rfl rfl rfl rfl rfl rfl rfl rfl e1 e2 e3 e4) rfl ?_ | refine callM_new (by with_reducible first | exact c_eqCloth _ _ _ _ _ _ _ _ _ _ _ _ rfl rfl rfl rfl rfl rfl rfl rfl e1 e2 e3 e4) ?_)
  simp
end Go.Proofs.Ytafbecgidhoekaa
