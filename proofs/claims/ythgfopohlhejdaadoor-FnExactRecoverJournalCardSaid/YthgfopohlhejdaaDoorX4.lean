/- The law FnExactRecoverJournal.
Conditions: none. -/
import Derived.Test.YthgfopohlhejdaaDoorX3
import Derived.Test.YthgfopohlhejdaaDoorEnt
namespace Go.Proofs.YthgfopohlhejdaaDoor
set_option linter.all false
open Go Go.Awp
set_option maxRecDepth 100000
set_option maxHeartbeats 8000000
set_option pp.deepTerms true

theorem c_markStringS1 (l : List (List UInt8)) (h : l.length ≤ 1048576) : Fun Tryd.prog 15 [.slc 0 0 l.length 1, .int .i64 1] [.blk false false 9 (cT l)] (.int .i64 (1 + l.length : Nat)) [.blk false false 9 (cT (mkTs 1 l.length))] := c_markStringS l _ 1 rfl h (by omega)
theorem c_heldStringS1 (n : Nat) (h : n ≤ 1048576) : Fun Tryd.prog 16 [.view false (cT (mkTs 1 n)) n, .int .i64 1] [] (.int .i64 (1 + n : Nat)) [] := c_heldStringS n 1 h (by omega)
theorem c_eqStringS0 : Fun Tryd.prog 12 [.view false [] 0, .view false [] 0] [] (.bool true) [] := c_eqStringS [] [] (by simp) (by simp)
theorem c_heldStringS0 : Fun Tryd.prog 16 [.view false [] 0, .int .i64 1] [] (.int .i64 1) [] := c_heldStringS 0 1 (by omega) (by omega)
theorem law_FnExactRecoverJournal (t : List UInt8) : FnSpec Tryd.prog 4 [.str (bs t)] [] fun av _ => av = .bool true := by
  refine FnSpec.walkF dr_ok Tryd.func4 rfl (by kernel_rfl) rfl rfl rfl (by simp) ?_
  by_cases h0 : t.length ≤ 1048576
  · have n1 : ¬ (1048576 : Int) < t.length := by omega
    have n2 : ¬ 1048576 < t.length := by omega
    simp [h0, n1, n2]
    by_cases h : t.length ≤ 12000
    · have hl : (recov 0 (lns t)).1.length ≤ 12000 := Nat.le_trans (recov_len _ _) (Nat.le_trans (lns_len t) h)
      (first | refine callG_r ?_ | refine callD_r ?_); simp; (first | refine callN_flat (by with_reducible first | exact c_specRecoverJournal t h) rfl ?_ | refine callN_new (by with_reducible first | exact c_specRecoverJournal t h) ?_ | refine callM_flat (by with_reducible first | exact c_specRecoverJournal t h) rfl ?_ | refine callM_new (by with_reducible first | exact c_specRecoverJournal t h) ?_)
      obtain ⟨R, hR⟩ : ∃ R, R = recov 0 (lns t) := ⟨_, rfl⟩
      have ci := c_RecoverJournal t h
      rw [← hR] at hl ci ⊢
      simp
      (first | refine callG_r ?_ | refine callD_r ?_); simp; (first | refine callN_flat (by with_reducible first | exact ci) rfl ?_ | refine callN_new (by with_reducible first | exact ci) ?_ | refine callM_flat (by with_reducible first | exact ci) rfl ?_ | refine callM_new (by with_reducible first | exact ci) ?_)
      simp
      (first | refine callG_r ?_ | refine callD_r ?_); simp; (first | refine callN_flat (by with_reducible first | exact c_eqStringS R.1 R.1 (by omega) (by omega)) rfl ?_ | refine callN_new (by with_reducible first | exact c_eqStringS R.1 R.1 (by omega) (by omega)) ?_ | refine callM_flat (by with_reducible first | exact c_eqStringS R.1 R.1 (by omega) (by omega)) rfl ?_ | refine callM_new (by with_reducible first | exact c_eqStringS R.1 R.1 (by omega) (by omega)) ?_)
      simp
      (first | refine callG_on true [1] ?_ | refine callD_on true [1] ?_); simp; (first | refine callN_fun (by with_reducible exact c_markStringS1 R.1 (by omega)) (by simp) ?_ | refine callMD_fun (by with_reducible exact c_markStringS1 R.1 (by omega)) (by simp) ?_)
      simp
      (first | refine callG_r ?_ | refine callD_r ?_); simp; (first | refine callN_flat (by with_reducible first | exact c_heldStringS1 R.1.length (by omega)) rfl ?_ | refine callN_new (by with_reducible first | exact c_heldStringS1 R.1.length (by omega)) ?_ | refine callM_flat (by with_reducible first | exact c_heldStringS1 R.1.length (by omega)) rfl ?_ | refine callM_new (by with_reducible first | exact c_heldStringS1 R.1.length (by omega)) ?_)
      simp
      refine ⟨by omega, fun _ => ?_⟩
      (first | refine callG_r ?_ | refine callD_r ?_); simp; (first | refine callN_flat (by with_reducible first | exact ci) rfl ?_ | refine callN_new (by with_reducible first | exact ci) ?_ | refine callM_flat (by with_reducible first | exact ci) rfl ?_ | refine callM_new (by with_reducible first | exact ci) ?_)
      simp
      (first | refine callG_r ?_ | refine callD_r ?_); simp; (first | refine callN_flat (by with_reducible first | exact c_eqStringS R.1 R.1 (by omega) (by omega)) rfl ?_ | refine callN_new (by with_reducible first | exact c_eqStringS R.1 R.1 (by omega) (by omega)) ?_ | refine callM_flat (by with_reducible first | exact c_eqStringS R.1 R.1 (by omega) (by omega)) rfl ?_ | refine callM_new (by with_reducible first | exact c_eqStringS R.1 R.1 (by omega) (by omega)) ?_)
      simp
      (first | refine callG_r ?_ | refine callD_r ?_); simp; (first | refine callN_flat (by with_reducible first | exact c_heldStringS1 R.1.length (by omega)) rfl ?_ | refine callN_new (by with_reducible first | exact c_heldStringS1 R.1.length (by omega)) ?_ | refine callM_flat (by with_reducible first | exact c_heldStringS1 R.1.length (by omega)) rfl ?_ | refine callM_new (by with_reducible first | exact c_heldStringS1 R.1.length (by omega)) ?_)
      simp
      omega
    · (first | refine callG_r ?_ | refine callD_r ?_); simp; (first | refine callN_flat (by with_reducible first | exact c_specRecoverJournal0 t h) rfl ?_ | refine callN_new (by with_reducible first | exact c_specRecoverJournal0 t h) ?_ | refine callM_flat (by with_reducible first | exact c_specRecoverJournal0 t h) rfl ?_ | refine callM_new (by with_reducible first | exact c_specRecoverJournal0 t h) ?_)
      simp
      (first | refine callG_r ?_ | refine callD_r ?_); simp; (first | refine callN_flat (by with_reducible first | exact c_RecoverJournal0 t h) rfl ?_ | refine callN_new (by with_reducible first | exact c_RecoverJournal0 t h) ?_ | refine callM_flat (by with_reducible first | exact c_RecoverJournal0 t h) rfl ?_ | refine callM_new (by with_reducible first | exact c_RecoverJournal0 t h) ?_)
      simp
      (first | refine callG_r ?_ | refine callD_r ?_); simp; (first | refine callN_flat (by with_reducible first | exact c_eqStringS0) rfl ?_ | refine callN_new (by with_reducible first | exact c_eqStringS0) ?_ | refine callM_flat (by with_reducible first | exact c_eqStringS0) rfl ?_ | refine callM_new (by with_reducible first | exact c_eqStringS0) ?_)
      simp
      (first | refine callG_r ?_ | refine callD_r ?_); simp; (first | refine callN_flat (by with_reducible first | exact c_markStringS0) rfl ?_ | refine callN_new (by with_reducible first | exact c_markStringS0) ?_ | refine callM_flat (by with_reducible first | exact c_markStringS0) rfl ?_ | refine callM_new (by with_reducible first | exact c_markStringS0) ?_)
      simp
      (first | refine callG_r ?_ | refine callD_r ?_); simp; (first | refine callN_flat (by with_reducible first | exact c_heldStringS0) rfl ?_ | refine callN_new (by with_reducible first | exact c_heldStringS0) ?_ | refine callM_flat (by with_reducible first | exact c_heldStringS0) rfl ?_ | refine callM_new (by with_reducible first | exact c_heldStringS0) ?_)
      simp
      (first | refine callG_r ?_ | refine callD_r ?_); simp; (first | refine callN_flat (by with_reducible first | exact c_RecoverJournal0 t h) rfl ?_ | refine callN_new (by with_reducible first | exact c_RecoverJournal0 t h) ?_ | refine callM_flat (by with_reducible first | exact c_RecoverJournal0 t h) rfl ?_ | refine callM_new (by with_reducible first | exact c_RecoverJournal0 t h) ?_)
      simp
      (first | refine callG_r ?_ | refine callD_r ?_); simp; (first | refine callN_flat (by with_reducible first | exact c_eqStringS0) rfl ?_ | refine callN_new (by with_reducible first | exact c_eqStringS0) ?_ | refine callM_flat (by with_reducible first | exact c_eqStringS0) rfl ?_ | refine callM_new (by with_reducible first | exact c_eqStringS0) ?_)
      simp
      (first | refine callG_r ?_ | refine callD_r ?_); simp; (first | refine callN_flat (by with_reducible first | exact c_heldStringS0) rfl ?_ | refine callN_new (by with_reducible first | exact c_heldStringS0) ?_ | refine callM_flat (by with_reducible first | exact c_heldStringS0) rfl ?_ | refine callM_new (by with_reducible first | exact c_heldStringS0) ?_)
      simp
  · have n1 : (1048576 : Int) < t.length := by omega
    have n2 : 1048576 < t.length := by omega
    simp [h0, n1, n2]
end Go.Proofs.YthgfopohlhejdaaDoor
