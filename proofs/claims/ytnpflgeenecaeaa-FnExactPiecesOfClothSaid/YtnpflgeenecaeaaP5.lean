/- The law of pieces of cloths.
Conditions: none. -/
import Derived.Test.YtnpflgeenecaeaaP4
import Derived.Test.YtnpflgeenecaeaaL3
import Derived.Test.YtnpflgeenecaeaaL4
namespace Go.Proofs.Ytnpflgeenecaeaa
set_option linter.all false
open Go Go.Awp
set_option maxRecDepth 100000
set_option maxHeartbeats 4000000
set_option pp.deepTerms true

theorem c_Pieces0 (c : Clo) (hs : c.Small) (hv : vldC c = false) : Fun Try.prog 9 [c.av] [] (.tup [.nils, .int .i64 0, .bool false]) [] := by
  refine FnSpec.walkF dr_ok Try.func9 rfl (by kernel_rfl) rfl rfl rfl (by simp) ?_
  simp
  (first | refine callG_r ?_ | refine callD_r ?_); simp; (first | refine callN_flat (by with_reducible first | exact c_ValidCloth c hs) rfl ?_ | refine callN_new (by with_reducible first | exact c_ValidCloth c hs) ?_ | refine callM_flat (by with_reducible first | exact c_ValidCloth c hs) rfl ?_ | refine callM_new (by with_reducible first | exact c_ValidCloth c hs) ?_)
  simp [hv]
theorem c_specPieces0 (c : Clo) (hs : c.Small) (hv : vldC c = false) : Fun Try.prog 7 [c.av] [] (.tup [.nils, .int .i64 0, .bool false]) [] := by
  refine FnSpec.walkF dr_ok Try.func7 rfl (by kernel_rfl) rfl rfl rfl (by simp) ?_
  simp
  (first | refine callG_r ?_ | refine callD_r ?_); simp; (first | refine callN_flat (by with_reducible first | exact c_l10Is c hs) rfl ?_ | refine callN_new (by with_reducible first | exact c_l10Is c hs) ?_ | refine callM_flat (by with_reducible first | exact c_l10Is c hs) rfl ?_ | refine callM_new (by with_reducible first | exact c_l10Is c hs) ?_)
  simp [hv]
theorem law_PiecesOfCloth (c : Clo) (h : c.Len) : FnSpec Try.prog 3 [c.av] [] fun av _ => av = .bool true := by
  refine FnSpec.walkF dr_ok Try.func3 rfl (by kernel_rfl) rfl rfl rfl (by simp) ?_
  simp
  (first | refine callG_r ?_ | refine callD_r ?_); simp; (first | refine callN_flat (by with_reducible first | exact c_szCloth _ _ _ _ _ _ _ _ h.1 h.2 h.3 h.4) rfl ?_ | refine callN_new (by with_reducible first | exact c_szCloth _ _ _ _ _ _ _ _ h.1 h.2 h.3 h.4) ?_ | refine callM_flat (by with_reducible first | exact c_szCloth _ _ _ _ _ _ _ _ h.1 h.2 h.3 h.4) rfl ?_ | refine callM_new (by with_reducible first | exact c_szCloth _ _ _ _ _ _ _ _ h.1 h.2 h.3 h.4) ?_)
  simp
  intro h0
  have hs := small_of h0
  (first | refine callG_r ?_ | refine callD_r ?_); simp; (first | refine callN_flat (by with_reducible first | exact c_toCloth c hs) rfl ?_ | refine callN_new (by with_reducible first | exact c_toCloth c hs) ?_ | refine callM_flat (by with_reducible first | exact c_toCloth c hs) rfl ?_ | refine callM_new (by with_reducible first | exact c_toCloth c hs) ?_)
  simp
  cases hv : vldC c with
  | true =>
    have hV := vld_of hv
    have hch := fin_char (gi_groups c.th.length (Nat.le_refl _) hV.ok)
    rw [List.take_length] at hch
    have kS := c_specPieces c hs hv
    have kI := c_Pieces c hs hv hch
    have hl := hch.len
    generalize (fin (groups c.pl.length c.th) c.pl.length).1 = r at hl kS kI
    generalize (fin (groups c.pl.length c.th) c.pl.length).2 = q at kS kI
    rw [← hl] at kS kI
    obtain ⟨e1, e2, e3, e4⟩ := hs
    have hr : r.length ≤ 1048576 := by omega
    (first | refine callG_r ?_ | refine callD_r ?_); simp; (first | refine callN_flat (by with_reducible first | exact kS) rfl ?_ | refine callN_new (by with_reducible first | exact kS) ?_ | refine callM_flat (by with_reducible first | exact kS) rfl ?_ | refine callM_new (by with_reducible first | exact kS) ?_)
    simp
    (first | refine callG_r ?_ | refine callD_r ?_); simp; (first | refine callN_flat (by with_reducible first | exact c_toCloth c ⟨e1, e2, e3, e4⟩) rfl ?_ | refine callN_new (by with_reducible first | exact c_toCloth c ⟨e1, e2, e3, e4⟩) ?_ | refine callM_flat (by with_reducible first | exact c_toCloth c ⟨e1, e2, e3, e4⟩) rfl ?_ | refine callM_new (by with_reducible first | exact c_toCloth c ⟨e1, e2, e3, e4⟩) ?_)
    simp
    (first | refine callG_r ?_ | refine callD_r ?_); simp; (first | refine callN_flat (by with_reducible first | exact kI) rfl ?_ | refine callN_new (by with_reducible first | exact kI) ?_ | refine callM_flat (by with_reducible first | exact kI) rfl ?_ | refine callM_new (by with_reducible first | exact kI) ?_)
    simp
    (first | refine callG_r ?_ | refine callD_r ?_); simp; (first | refine callN_flat (by with_reducible first | exact c_eqInt64S _ _ _ rfl rfl (by omega)) rfl ?_ | refine callN_new (by with_reducible first | exact c_eqInt64S _ _ _ rfl rfl (by omega)) ?_ | refine callM_flat (by with_reducible first | exact c_eqInt64S _ _ _ rfl rfl (by omega)) rfl ?_ | refine callM_new (by with_reducible first | exact c_eqInt64S _ _ _ rfl rfl (by omega)) ?_)
    simp
    (first | refine callG_r ?_ | refine callD_r ?_); simp; (first | refine callN_flat (by with_reducible first | exact c_toCloth c ⟨e1, e2, e3, e4⟩) rfl ?_ | refine callN_new (by with_reducible first | exact c_toCloth c ⟨e1, e2, e3, e4⟩) ?_ | refine callM_flat (by with_reducible first | exact c_toCloth c ⟨e1, e2, e3, e4⟩) rfl ?_ | refine callM_new (by with_reducible first | exact c_toCloth c ⟨e1, e2, e3, e4⟩) ?_)
    simp
    (first | refine callG_r ?_ | refine callD_r ?_); simp; (first | refine callN_flat (by with_reducible first | exact c_eqCloth _ _ _ _ _ _ _ _ _ _ _ _ rfl rfl rfl rfl rfl rfl rfl rfl e1 e2 e3 e4) rfl ?_ | refine callN_new (by with_reducible first | exact c_eqCloth _ _ _ _ _ _ _ _ _ _ _ _ rfl rfl rfl rfl rfl rfl rfl rfl e1 e2 e3 e4) ?_ | refine callM_flat (by with_reducible first | exact c_eqCloth _ _ _ _ _ _ _ _ _ _ _ _ rfl rfl rfl rfl rfl rfl rfl rfl e1 e2 e3 e4) rfl ?_ | refine callM_new (by with_reducible first | exact c_eqCloth _ _ _ _ _ _ _ _ _ _ _ _ rfl rfl rfl rfl rfl rfl rfl rfl e1 e2 e3 e4) ?_)
    simp
    (first | refine callG_on true [6, 7, 8, 9] ?_ | refine callD_on true [6, 7, 8, 9] ?_); simp; (first | refine callN_fun (by with_reducible exact c_markCloth c ⟨e1, e2, e3, e4⟩ _ _ _ _ rfl rfl rfl rfl) (by simp) ?_ | refine callMD_fun (by with_reducible exact c_markCloth c ⟨e1, e2, e3, e4⟩ _ _ _ _ rfl rfl rfl rfl) (by simp) ?_)
    simp
    refine ⟨fun _ => ?_, by omega⟩
    (first | refine callG_r ?_ | refine callD_r ?_); simp; (first | refine callN_flat (by with_reducible first | exact c_eqInt64S _ _ _ rfl rfl (by omega)) rfl ?_ | refine callN_new (by with_reducible first | exact c_eqInt64S _ _ _ rfl rfl (by omega)) ?_ | refine callM_flat (by with_reducible first | exact c_eqInt64S _ _ _ rfl rfl (by omega)) rfl ?_ | refine callM_new (by with_reducible first | exact c_eqInt64S _ _ _ rfl rfl (by omega)) ?_)
    simp
    (first | refine callG_on true [11] ?_ | refine callD_on true [11] ?_); simp; (first | refine callN_fun (by with_reducible exact c_markInt64S r _ 1 1 rfl rfl hr (by omega)) (by simp) ?_ | refine callMD_fun (by with_reducible exact c_markInt64S r _ 1 1 rfl rfl hr (by omega)) (by simp) ?_)
    simp
    (first | refine callG_r ?_ | refine callD_r ?_); simp; (first | refine callN_flat (by with_reducible first | exact c_heldInt64S _ 1 1 rfl hr (by omega)) rfl ?_ | refine callN_new (by with_reducible first | exact c_heldInt64S _ 1 1 rfl hr (by omega)) ?_ | refine callM_flat (by with_reducible first | exact c_heldInt64S _ 1 1 rfl hr (by omega)) rfl ?_ | refine callM_new (by with_reducible first | exact c_heldInt64S _ 1 1 rfl hr (by omega)) ?_)
    simp
    refine ⟨by omega, fun _ => ?_⟩
    (first | refine callG_r ?_ | refine callD_r ?_); simp; (first | refine callN_flat (by with_reducible first | exact c_toCloth c ⟨e1, e2, e3, e4⟩) rfl ?_ | refine callN_new (by with_reducible first | exact c_toCloth c ⟨e1, e2, e3, e4⟩) ?_ | refine callM_flat (by with_reducible first | exact c_toCloth c ⟨e1, e2, e3, e4⟩) rfl ?_ | refine callM_new (by with_reducible first | exact c_toCloth c ⟨e1, e2, e3, e4⟩) ?_)
    simp
    (first | refine callG_r ?_ | refine callD_r ?_); simp; (first | refine callN_flat (by with_reducible first | exact kI) rfl ?_ | refine callN_new (by with_reducible first | exact kI) ?_ | refine callM_flat (by with_reducible first | exact kI) rfl ?_ | refine callM_new (by with_reducible first | exact kI) ?_)
    simp
    (first | refine callG_r ?_ | refine callD_r ?_); simp; (first | refine callN_flat (by with_reducible first | exact c_eqInt64S _ _ _ rfl rfl (by omega)) rfl ?_ | refine callN_new (by with_reducible first | exact c_eqInt64S _ _ _ rfl rfl (by omega)) ?_ | refine callM_flat (by with_reducible first | exact c_eqInt64S _ _ _ rfl rfl (by omega)) rfl ?_ | refine callM_new (by with_reducible first | exact c_eqInt64S _ _ _ rfl rfl (by omega)) ?_)
    simp
    (first | refine callG_r ?_ | refine callD_r ?_); simp; (first | refine callN_flat (by with_reducible first | exact c_heldInt64S _ 1 1 rfl hr (by omega)) rfl ?_ | refine callN_new (by with_reducible first | exact c_heldInt64S _ 1 1 rfl hr (by omega)) ?_ | refine callM_flat (by with_reducible first | exact c_heldInt64S _ 1 1 rfl hr (by omega)) rfl ?_ | refine callM_new (by with_reducible first | exact c_heldInt64S _ 1 1 rfl hr (by omega)) ?_)
    simp
    omega
  | false =>
    have kS := c_specPieces0 c hs hv
    have kI := c_Pieces0 c hs hv
    obtain ⟨e1, e2, e3, e4⟩ := hs
    (first | refine callG_r ?_ | refine callD_r ?_); simp; (first | refine callN_flat (by with_reducible first | exact kS) rfl ?_ | refine callN_new (by with_reducible first | exact kS) ?_ | refine callM_flat (by with_reducible first | exact kS) rfl ?_ | refine callM_new (by with_reducible first | exact kS) ?_)
    simp
    (first | refine callG_r ?_ | refine callD_r ?_); simp; (first | refine callN_flat (by with_reducible first | exact c_toCloth c ⟨e1, e2, e3, e4⟩) rfl ?_ | refine callN_new (by with_reducible first | exact c_toCloth c ⟨e1, e2, e3, e4⟩) ?_ | refine callM_flat (by with_reducible first | exact c_toCloth c ⟨e1, e2, e3, e4⟩) rfl ?_ | refine callM_new (by with_reducible first | exact c_toCloth c ⟨e1, e2, e3, e4⟩) ?_)
    simp
    (first | refine callG_r ?_ | refine callD_r ?_); simp; (first | refine callN_flat (by with_reducible first | exact kI) rfl ?_ | refine callN_new (by with_reducible first | exact kI) ?_ | refine callM_flat (by with_reducible first | exact kI) rfl ?_ | refine callM_new (by with_reducible first | exact kI) ?_)
    simp
    (first | refine callG_r ?_ | refine callD_r ?_); simp; (first | refine callN_flat (by with_reducible first | exact c_eqInt64S0) rfl ?_ | refine callN_new (by with_reducible first | exact c_eqInt64S0) ?_ | refine callM_flat (by with_reducible first | exact c_eqInt64S0) rfl ?_ | refine callM_new (by with_reducible first | exact c_eqInt64S0) ?_)
    simp
    (first | refine callG_r ?_ | refine callD_r ?_); simp; (first | refine callN_flat (by with_reducible first | exact c_toCloth c ⟨e1, e2, e3, e4⟩) rfl ?_ | refine callN_new (by with_reducible first | exact c_toCloth c ⟨e1, e2, e3, e4⟩) ?_ | refine callM_flat (by with_reducible first | exact c_toCloth c ⟨e1, e2, e3, e4⟩) rfl ?_ | refine callM_new (by with_reducible first | exact c_toCloth c ⟨e1, e2, e3, e4⟩) ?_)
    simp
    (first | refine callG_r ?_ | refine callD_r ?_); simp; (first | refine callN_flat (by with_reducible first | exact c_eqCloth _ _ _ _ _ _ _ _ _ _ _ _ rfl rfl rfl rfl rfl rfl rfl rfl e1 e2 e3 e4) rfl ?_ | refine callN_new (by with_reducible first | exact c_eqCloth _ _ _ _ _ _ _ _ _ _ _ _ rfl rfl rfl rfl rfl rfl rfl rfl e1 e2 e3 e4) ?_ | refine callM_flat (by with_reducible first | exact c_eqCloth _ _ _ _ _ _ _ _ _ _ _ _ rfl rfl rfl rfl rfl rfl rfl rfl e1 e2 e3 e4) rfl ?_ | refine callM_new (by with_reducible first | exact c_eqCloth _ _ _ _ _ _ _ _ _ _ _ _ rfl rfl rfl rfl rfl rfl rfl rfl e1 e2 e3 e4) ?_)
    simp
    (first | refine callG_on true [5, 6, 7, 8] ?_ | refine callD_on true [5, 6, 7, 8] ?_); simp; (first | refine callN_fun (by with_reducible exact c_markCloth c ⟨e1, e2, e3, e4⟩ _ _ _ _ rfl rfl rfl rfl) (by simp) ?_ | refine callMD_fun (by with_reducible exact c_markCloth c ⟨e1, e2, e3, e4⟩ _ _ _ _ rfl rfl rfl rfl) (by simp) ?_)
    simp
    refine ⟨fun _ => ?_, by omega⟩
    (first | refine callG_r ?_ | refine callD_r ?_); simp; (first | refine callN_flat (by with_reducible first | exact c_eqInt64S0) rfl ?_ | refine callN_new (by with_reducible first | exact c_eqInt64S0) ?_ | refine callM_flat (by with_reducible first | exact c_eqInt64S0) rfl ?_ | refine callM_new (by with_reducible first | exact c_eqInt64S0) ?_)
    simp
    (first | refine callG_r ?_ | refine callD_r ?_); simp; (first | refine callN_flat (by with_reducible first | exact c_markInt64S0 _) rfl ?_ | refine callN_new (by with_reducible first | exact c_markInt64S0 _) ?_ | refine callM_flat (by with_reducible first | exact c_markInt64S0 _) rfl ?_ | refine callM_new (by with_reducible first | exact c_markInt64S0 _) ?_)
    simp
    (first | refine callG_r ?_ | refine callD_r ?_); simp; (first | refine callN_flat (by with_reducible first | exact c_heldInt64S0) rfl ?_ | refine callN_new (by with_reducible first | exact c_heldInt64S0) ?_ | refine callM_flat (by with_reducible first | exact c_heldInt64S0) rfl ?_ | refine callM_new (by with_reducible first | exact c_heldInt64S0) ?_)
    simp
    (first | refine callG_r ?_ | refine callD_r ?_); simp; (first | refine callN_flat (by with_reducible first | exact c_toCloth c ⟨e1, e2, e3, e4⟩) rfl ?_ | refine callN_new (by with_reducible first | exact c_toCloth c ⟨e1, e2, e3, e4⟩) ?_ | refine callM_flat (by with_reducible first | exact c_toCloth c ⟨e1, e2, e3, e4⟩) rfl ?_ | refine callM_new (by with_reducible first | exact c_toCloth c ⟨e1, e2, e3, e4⟩) ?_)
    simp
    (first | refine callG_r ?_ | refine callD_r ?_); simp; (first | refine callN_flat (by with_reducible first | exact kI) rfl ?_ | refine callN_new (by with_reducible first | exact kI) ?_ | refine callM_flat (by with_reducible first | exact kI) rfl ?_ | refine callM_new (by with_reducible first | exact kI) ?_)
    simp
    (first | refine callG_r ?_ | refine callD_r ?_); simp; (first | refine callN_flat (by with_reducible first | exact c_eqInt64S0) rfl ?_ | refine callN_new (by with_reducible first | exact c_eqInt64S0) ?_ | refine callM_flat (by with_reducible first | exact c_eqInt64S0) rfl ?_ | refine callM_new (by with_reducible first | exact c_eqInt64S0) ?_)
    simp
    (first | refine callG_r ?_ | refine callD_r ?_); simp; (first | refine callN_flat (by with_reducible first | exact c_heldInt64S0) rfl ?_ | refine callN_new (by with_reducible first | exact c_heldInt64S0) ?_ | refine callM_flat (by with_reducible first | exact c_heldInt64S0) rfl ?_ | refine callM_new (by with_reducible first | exact c_heldInt64S0) ?_)
    simp
end Go.Proofs.Ytnpflgeenecaeaa
