/- Contracts of small functions on numbers.
Conditions: none. -/
import Derived.Test.YthgfopohlhejdaaDoorTyp
import Derived.Test.YthgfopohlhejdaaDoorDat
namespace Go.Proofs.YthgfopohlhejdaaDoor
set_option linter.all false
open Go Go.Awp
set_option maxRecDepth 100000
set_option maxHeartbeats 4000000

/-- Finite, as the program asks it. -/
def finB (x : Nat) : Bool := ford .f32 (fop .sub .f32 x x) 0 == some .eq
def overB (x : Nat) : Bool := finB x && (ford .f32 x 0 == some .gt)
def inB (n a b : Int) : Bool := decide (a ≤ n) && decide (n ≤ b)
def vadd (a b : V) : V := (fop .add .f32 a.1 b.1, fop .add .f32 a.2.1 b.2.1, fop .add .f32 a.2.2 b.2.2)
def vsub (a b : V) : V := (fop .sub .f32 a.1 b.1, fop .sub .f32 a.2.1 b.2.1, fop .sub .f32 a.2.2 b.2.2)
def vscale (a : V) (k : Nat) : V := (fop .mul .f32 a.1 k, fop .mul .f32 a.2.1 k, fop .mul .f32 a.2.2 k)
def vinner (a b : V) : Nat := fop .add .f32 (fop .add .f32 (fop .mul .f32 a.1 b.1) (fop .mul .f32 a.2.1 b.2.1)) (fop .mul .f32 a.2.2 b.2.2)
abbrev aV (v : V) : AV := .agg [.flt .f32 v.1, .flt .f32 v.2.1, .flt .f32 v.2.2]
abbrev aT (v : Th) : AV := .agg [.int .i64 v.1, .int .i64 v.2.1, .flt .f32 v.2.2]
attribute [simp] aV aT
theorem c_within (n a b : Int) : Fun Tryd.prog 81 [.int .i64 n, .int .i64 a, .int .i64 b] [] (.bool (inB n a b)) [] := by
  refine FnSpec.walkF dr_ok Tryd.func81 rfl (by kernel_rfl) rfl rfl rfl (by simp) ?_
  simp [inB]
  grind
theorem c_l00In (n a b : Int) : Fun Tryd.prog 139 [.int .i64 n, .int .i64 a, .int .i64 b] [] (.bool (inB n a b)) [] := by
  refine FnSpec.walkF dr_ok Tryd.func139 rfl (by kernel_rfl) rfl rfl rfl (by simp) ?_
  simp [inB]
  grind
theorem c_l01Finite (x : Nat) : Fun Tryd.prog 201 [.flt .f32 x] [] (.bool (finB x)) [] := by
  refine FnSpec.walkF dr_ok Tryd.func201 rfl (by kernel_rfl) rfl rfl rfl (by simp) ?_
  simp [finB]
theorem c_l02Size (x : Nat) : Fun Tryd.prog 189 [.flt .f32 x] [] (.bool (overB x)) [] := by
  refine FnSpec.walkF dr_ok Tryd.func189 rfl (by kernel_rfl) rfl rfl rfl (by simp) ?_
  simp
  (first | refine callG_r ?_ | refine callD_r ?_); simp; (first | refine callN_flat (by with_reducible first | exact c_l01Finite _) rfl ?_ | refine callN_new (by with_reducible first | exact c_l01Finite _) ?_ | refine callM_flat (by with_reducible first | exact c_l01Finite _) rfl ?_ | refine callM_new (by with_reducible first | exact c_l01Finite _) ?_)
  simp [overB]
  grind
theorem c_l01Add (a1 a2 a3 b1 b2 b3 : Nat) : Fun Tryd.prog 174 [.agg [.flt .f32 a1, .flt .f32 a2, .flt .f32 a3], .agg [.flt .f32 b1, .flt .f32 b2, .flt .f32 b3]] [] (aV (vadd (a1, a2, a3) (b1, b2, b3))) [] := by
  refine FnSpec.walkF dr_ok Tryd.func174 rfl (by kernel_rfl) rfl rfl rfl (by simp) ?_
  simp [aV, vadd]
theorem c_l01Scale (a1 a2 a3 k : Nat) : Fun Tryd.prog 191 [.agg [.flt .f32 a1, .flt .f32 a2, .flt .f32 a3], .flt .f32 k] [] (aV (vscale (a1, a2, a3) k)) [] := by
  refine FnSpec.walkF dr_ok Tryd.func191 rfl (by kernel_rfl) rfl rfl rfl (by simp) ?_
  simp [aV, vscale]
theorem c_l01Inner (a1 a2 a3 b1 b2 b3 : Nat) : Fun Tryd.prog 204 [.agg [.flt .f32 a1, .flt .f32 a2, .flt .f32 a3], .agg [.flt .f32 b1, .flt .f32 b2, .flt .f32 b3]] [] (.flt .f32 (vinner (a1, a2, a3) (b1, b2, b3))) [] := by
  refine FnSpec.walkF dr_ok Tryd.func204 rfl (by kernel_rfl) rfl rfl rfl (by simp) ?_
  simp [aV, vinner]
end Go.Proofs.YthgfopohlhejdaaDoor
