/- Contracts of small functions on numbers.
Conditions: none. -/
import Derived.Test.YtnpflgeenecaeaaTyp
import Derived.Test.YtnpflgeenecaeaaDat
namespace Go.Proofs.Ytnpflgeenecaeaa
set_option linter.all false
open Go Go.Awp
set_option maxRecDepth 100000
set_option maxHeartbeats 4000000

/-- Finite, as the program asks it. -/
def finB (x : Nat) : Bool := ford .f32 (fop .sub .f32 x x) 0 == some .eq
def overB (x : Nat) : Bool := finB x && (ford .f32 x 0 == some .gt)
def inB (n a b : Int) : Bool := decide (a ≤ n) && decide (n ≤ b)
def vadd (a b : V) : V := (fop .add .f32 a.1 b.1, fop .add .f32 a.2.1 b.2.1, fop .add .f32 a.2.2 b.2.2)
def vsub (a b : V) : V := (fop .sub .f32 a.1 b.1, fop .sub .f32 a.2.1 b.2.1, fop .sub .f32 a.2.2 b.2.2)
def vscale (a : V) (k : Nat) : V := (fop .mul .f32 a.1 k, fop .mul .f32 a.2.1 k, fop .mul .f32 a.2.2 k)
def vinner (a b : V) : Nat := fop .add .f32 (fop .add .f32 (fop .mul .f32 a.1 b.1) (fop .mul .f32 a.2.1 b.2.1)) (fop .mul .f32 a.2.2 b.2.2)
abbrev aV (v : V) : AV := .agg [.flt .f32 v.1, .flt .f32 v.2.1, .flt .f32 v.2.2]
abbrev aT (v : Th) : AV := .agg [.int .i64 v.1, .int .i64 v.2.1, .flt .f32 v.2.2]
attribute [simp] aV aT

theorem c_within (n a b : Int) : Fun Try.prog 63 [.int .i64 n, .int .i64 a, .int .i64 b] [] (.bool (inB n a b)) [] := by
  refine FnSpec.walkF dr_ok Try.func63 rfl (by kernel_rfl) rfl rfl rfl (by simp) ?_
  simp [inB]
  grind
theorem c_l00In (n a b : Int) : Fun Try.prog 60 [.int .i64 n, .int .i64 a, .int .i64 b] [] (.bool (inB n a b)) [] := by
  refine FnSpec.walkF dr_ok Try.func60 rfl (by kernel_rfl) rfl rfl rfl (by simp) ?_
  simp [inB]
  grind
theorem c_isFinite (x : Nat) : Fun Try.prog 87 [.flt .f32 x] [] (.bool (finB x)) [] := by
  refine FnSpec.walkF dr_ok Try.func87 rfl (by kernel_rfl) rfl rfl rfl (by simp) ?_
  simp [finB]
theorem c_l01Finite (x : Nat) : Fun Try.prog 80 [.flt .f32 x] [] (.bool (finB x)) [] := by
  refine FnSpec.walkF dr_ok Try.func80 rfl (by kernel_rfl) rfl rfl rfl (by simp) ?_
  simp [finB]
theorem c_isOver (x : Nat) : Fun Try.prog 64 [.flt .f32 x] [] (.bool (overB x)) [] := by
  refine FnSpec.walkF dr_ok Try.func64 rfl (by kernel_rfl) rfl rfl rfl (by simp) ?_
  simp
  (first | refine callG_r ?_ | refine callD_r ?_); simp; (first | refine callN_flat (by with_reducible first | exact c_isFinite _) rfl ?_ | refine callN_new (by with_reducible first | exact c_isFinite _) ?_ | refine callM_flat (by with_reducible first | exact c_isFinite _) rfl ?_ | refine callM_new (by with_reducible first | exact c_isFinite _) ?_)
  simp [overB]
  grind
theorem c_l02Size (x : Nat) : Fun Try.prog 49 [.flt .f32 x] [] (.bool (overB x)) [] := by
  refine FnSpec.walkF dr_ok Try.func49 rfl (by kernel_rfl) rfl rfl rfl (by simp) ?_
  simp
  (first | refine callG_r ?_ | refine callD_r ?_); simp; (first | refine callN_flat (by with_reducible first | exact c_l01Finite _) rfl ?_ | refine callN_new (by with_reducible first | exact c_l01Finite _) ?_ | refine callM_flat (by with_reducible first | exact c_l01Finite _) rfl ?_ | refine callM_new (by with_reducible first | exact c_l01Finite _) ?_)
  simp [overB]
  grind
theorem c_less (a1 a2 a3 b1 b2 b3 : Nat) : Fun Try.prog 85 [.agg [.flt .f32 a1, .flt .f32 a2, .flt .f32 a3], .agg [.flt .f32 b1, .flt .f32 b2, .flt .f32 b3]] [] (aV (vsub (a1, a2, a3) (b1, b2, b3))) [] := by
  refine FnSpec.walkF dr_ok Try.func85 rfl (by kernel_rfl) rfl rfl rfl (by simp) ?_
  simp [aV, vsub]
theorem c_l01Less (a1 a2 a3 b1 b2 b3 : Nat) : Fun Try.prog 79 [.agg [.flt .f32 a1, .flt .f32 a2, .flt .f32 a3], .agg [.flt .f32 b1, .flt .f32 b2, .flt .f32 b3]] [] (aV (vsub (a1, a2, a3) (b1, b2, b3))) [] := by
  refine FnSpec.walkF dr_ok Try.func79 rfl (by kernel_rfl) rfl rfl rfl (by simp) ?_
  simp [aV, vsub]
theorem c_inner (a1 a2 a3 b1 b2 b3 : Nat) : Fun Try.prog 98 [.agg [.flt .f32 a1, .flt .f32 a2, .flt .f32 a3], .agg [.flt .f32 b1, .flt .f32 b2, .flt .f32 b3]] [] (.flt .f32 (vinner (a1, a2, a3) (b1, b2, b3))) [] := by
  refine FnSpec.walkF dr_ok Try.func98 rfl (by kernel_rfl) rfl rfl rfl (by simp) ?_
  simp [aV, vinner]
theorem c_l01Inner (a1 a2 a3 b1 b2 b3 : Nat) : Fun Try.prog 93 [.agg [.flt .f32 a1, .flt .f32 a2, .flt .f32 a3], .agg [.flt .f32 b1, .flt .f32 b2, .flt .f32 b3]] [] (.flt .f32 (vinner (a1, a2, a3) (b1, b2, b3))) [] := by
  refine FnSpec.walkF dr_ok Try.func93 rfl (by kernel_rfl) rfl rfl rfl (by simp) ?_
  simp [aV, vinner]
end Go.Proofs.Ytnpflgeenecaeaa
