/- Contracts of what the laws do with cloths that hold nothing.
Conditions: none. -/
import Derived.Test.YtnpflgeenecaeaaL3
namespace Go.Proofs.Ytnpflgeenecaeaa
set_option linter.all false
open Go Go.Awp
set_option maxRecDepth 100000
set_option maxHeartbeats 4000000
set_option pp.deepTerms false
set_option pp.deepTerms.threshold 8

@[simp] theorem markC_pl (a b c d : Nat) : (markC a b c d).pl.take a = (markC a b c d).pl := List.take_of_length_le (by simp [markC])
@[simp] theorem markC_ol (a b c d : Nat) : (markC a b c d).ol.take b = (markC a b c d).ol := List.take_of_length_le (by simp [markC])
@[simp] theorem markC_th (a b c d : Nat) : (markC a b c d).th.take c = (markC a b c d).th := List.take_of_length_le (by simp [markC])
@[simp] theorem markC_pin (a b c d : Nat) : (markC a b c d).pin.take d = (markC a b c d).pin := List.take_of_length_le (by simp [markC])
abbrev v0C : AV := .agg [.view false [] 0, .view false [] 0, .view false [] 0, .view false [] 0]
theorem c_eqCloth0 : Fun Try.prog 11 [v0C, v0C] [] (.bool true) [] :=
  c_eqCloth [] [] [] [] 0 0 0 0 0 0 0 0 rfl rfl rfl rfl rfl rfl rfl rfl (by simp) (by simp) (by simp) (by simp)
theorem c_markVectorS0 (z : Int) : Fun Try.prog 39 [.view false [] 0, .int .i64 z] [] (.int .i64 z) [] := by
  refine FnSpec.walkF dr_ok Try.func39 rfl (by kernel_rfl) rfl rfl rfl (by simp) ?_
  simp
  refine loopG_of (α := Unit) (fun _ => True) (fun _ => 0) (fun _ => [(0, .view false [] 0), (1, .int .i64 z), (5, .int .i64 0)]) (fun _ => []) () trivial (weak_UH (by simp) (by simp)) fun x _ => ?_
  simp
theorem c_markThreadS0 (z : Int) : Fun Try.prog 40 [.view false [] 0, .int .i64 z] [] (.int .i64 z) [] := by
  refine FnSpec.walkF dr_ok Try.func40 rfl (by kernel_rfl) rfl rfl rfl (by simp) ?_
  simp
  refine loopG_of (α := Unit) (fun _ => True) (fun _ => 0) (fun _ => [(0, .view false [] 0), (1, .int .i64 z), (5, .int .i64 0)]) (fun _ => []) () trivial (weak_UH (by simp) (by simp)) fun x _ => ?_
  simp
theorem c_markInt64S0 (z : Int) : Fun Try.prog 13 [.view false [] 0, .int .i64 z] [] (.int .i64 z) [] := by
  refine FnSpec.walkF dr_ok Try.func13 rfl (by kernel_rfl) rfl rfl rfl (by simp) ?_
  simp
  refine loopG_of (α := Unit) (fun _ => True) (fun _ => 0) (fun _ => [(0, .view false [] 0), (1, .int .i64 z), (5, .int .i64 0)]) (fun _ => []) () trivial (weak_UH (by simp) (by simp)) fun x _ => ?_
  simp
theorem c_markCloth0 : Fun Try.prog 12 [v0C, .int .i64 1] [] (.int .i64 1) [] := by
  refine FnSpec.walkF dr_ok Try.func12 rfl (by kernel_rfl) rfl rfl rfl (by simp) ?_
  simp
  (first | refine callG_r ?_ | refine callD_r ?_); simp; (first | refine callN_flat (by with_reducible first | exact c_markVectorS0 _) rfl ?_ | refine callN_new (by with_reducible first | exact c_markVectorS0 _) ?_ | refine callM_flat (by with_reducible first | exact c_markVectorS0 _) rfl ?_ | refine callM_new (by with_reducible first | exact c_markVectorS0 _) ?_)
  simp
  (first | refine callG_r ?_ | refine callD_r ?_); simp; (first | refine callN_flat (by with_reducible first | exact c_markVectorS0 _) rfl ?_ | refine callN_new (by with_reducible first | exact c_markVectorS0 _) ?_ | refine callM_flat (by with_reducible first | exact c_markVectorS0 _) rfl ?_ | refine callM_new (by with_reducible first | exact c_markVectorS0 _) ?_)
  simp
  (first | refine callG_r ?_ | refine callD_r ?_); simp; (first | refine callN_flat (by with_reducible first | exact c_markThreadS0 _) rfl ?_ | refine callN_new (by with_reducible first | exact c_markThreadS0 _) ?_ | refine callM_flat (by with_reducible first | exact c_markThreadS0 _) rfl ?_ | refine callM_new (by with_reducible first | exact c_markThreadS0 _) ?_)
  simp
  (first | refine callG_r ?_ | refine callD_r ?_); simp; (first | refine callN_flat (by with_reducible first | exact c_markInt64S0 _) rfl ?_ | refine callN_new (by with_reducible first | exact c_markInt64S0 _) ?_ | refine callM_flat (by with_reducible first | exact c_markInt64S0 _) rfl ?_ | refine callM_new (by with_reducible first | exact c_markInt64S0 _) ?_)
  simp
theorem c_heldCloth0 : Fun Try.prog 26 [v0C, .int .i64 1] [] (.int .i64 1) [] := by
  have h := c_heldCloth 0 0 0 0 (by simp) (by simp) (by simp) (by simp)
  have e1 : cVs (markC 0 0 0 0).pl = [] := rfl
  have e2 : cVs (markC 0 0 0 0).ol = [] := rfl
  have e3 : cTs (markC 0 0 0 0).th = [] := rfl
  have e4 : cIs (markC 0 0 0 0).pin = [] := rfl
  rw [e1, e2, e3, e4] at h
  exact h
theorem c_eqInt64S0 : Fun Try.prog 10 [.view false [] 0, .view false [] 0] [] (.bool true) [] := c_eqInt64S [] 0 0 rfl rfl (by simp)
theorem c_heldInt64S0 : Fun Try.prog 14 [.view false [] 0, .int .i64 1] [] (.int .i64 1) [] := c0_heldInt64S 0 1 (by simp) (by simp)
@[simp] theorem markI_take (k n : Nat) : (markI k n).take n = markI k n := List.take_of_length_le (by simp)
end Go.Proofs.Ytnpflgeenecaeaa
