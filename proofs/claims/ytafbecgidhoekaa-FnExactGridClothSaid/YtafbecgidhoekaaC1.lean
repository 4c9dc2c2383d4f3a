/- Contracts of small functions on numbers.
Conditions: none. -/
import Derived.Test.YtafbecgidhoekaaTyp
import Derived.Test.YtafbecgidhoekaaDat
namespace Go.Proofs.Ytafbecgidhoekaa
set_option linter.all false
open Go Go.Awp
set_option maxRecDepth 100000
set_option maxHeartbeats 4000000

/-- Finite, as the program asks it. -/
def finB (x : Nat) : Bool := ford .f32 (fop .sub .f32 x x) 0 == some .eq
def overB (x : Nat) : Bool := finB x && (ford .f32 x 0 == some .gt)
def inB (n a b : Int) : Bool := decide (a ≤ n) && decide (n ≤ b)
def vadd (a b : V) : V := (fop .add .f32 a.1 b.1, fop .add .f32 a.2.1 b.2.1, fop .add .f32 a.2.2 b.2.2)
def vsub (a b : V) : V := (fop .sub .f32 a.1 b.1, fop .sub .f32 a.2.1 b.2.1, fop .sub .f32 a.2.2 b.2.2)
def vscale (a : V) (k : Nat) : V := (fop .mul .f32 a.1 k, fop .mul .f32 a.2.1 k, fop .mul .f32 a.2.2 k)
def vinner (a b : V) : Nat := fop .add .f32 (fop .add .f32 (fop .mul .f32 a.1 b.1) (fop .mul .f32 a.2.1 b.2.1)) (fop .mul .f32 a.2.2 b.2.2)
abbrev aV (v : V) : AV := .agg [.flt .f32 v.1, .flt .f32 v.2.1, .flt .f32 v.2.2]
abbrev aT (v : Th) : AV := .agg [.int .i64 v.1, .int .i64 v.2.1, .flt .f32 v.2.2]
attribute [simp] aV aT

theorem c_within (n a b : Int) : Fun Try.prog 68 [.int .i64 n, .int .i64 a, .int .i64 b] [] (.bool (inB n a b)) [] := by
  refine FnSpec.walkF dr_ok Try.func68 rfl (by kernel_rfl) rfl rfl rfl (by simp) ?_
  simp [inB]
  grind
theorem c_l00In (n a b : Int) : Fun Try.prog 110 [.int .i64 n, .int .i64 a, .int .i64 b] [] (.bool (inB n a b)) [] := by
  refine FnSpec.walkF dr_ok Try.func110 rfl (by kernel_rfl) rfl rfl rfl (by simp) ?_
  simp [inB]
  grind
theorem c_isFinite (x : Nat) : Fun Try.prog 117 [.flt .f32 x] [] (.bool (finB x)) [] := by
  refine FnSpec.walkF dr_ok Try.func117 rfl (by kernel_rfl) rfl rfl rfl (by simp) ?_
  simp [finB]
theorem c_l01Finite (x : Nat) : Fun Try.prog 127 [.flt .f32 x] [] (.bool (finB x)) [] := by
  refine FnSpec.walkF dr_ok Try.func127 rfl (by kernel_rfl) rfl rfl rfl (by simp) ?_
  simp [finB]
theorem c_isOver (x : Nat) : Fun Try.prog 69 [.flt .f32 x] [] (.bool (overB x)) [] := by
  refine FnSpec.walkF dr_ok Try.func69 rfl (by kernel_rfl) rfl rfl rfl (by simp) ?_
  simp
  (first | refine callG_r ?_ | refine callD_r ?_); simp; (first | refine callN_flat (by with_reducible first | exact c_isFinite _) rfl ?_ | refine callN_new (by with_reducible first | exact c_isFinite _) ?_ | refine callM_flat (by with_reducible first | exact c_isFinite _) rfl ?_ | refine callM_new (by with_reducible first | exact c_isFinite _) ?_)
  simp [overB]
  grind
theorem c_l02Size (x : Nat) : Fun Try.prog 99 [.flt .f32 x] [] (.bool (overB x)) [] := by
  refine FnSpec.walkF dr_ok Try.func99 rfl (by kernel_rfl) rfl rfl rfl (by simp) ?_
  simp
  (first | refine callG_r ?_ | refine callD_r ?_); simp; (first | refine callN_flat (by with_reducible first | exact c_l01Finite _) rfl ?_ | refine callN_new (by with_reducible first | exact c_l01Finite _) ?_ | refine callM_flat (by with_reducible first | exact c_l01Finite _) rfl ?_ | refine callM_new (by with_reducible first | exact c_l01Finite _) ?_)
  simp [overB]
  grind
theorem c_add (a1 a2 a3 b1 b2 b3 : Nat) : Fun Try.prog 96 [.agg [.flt .f32 a1, .flt .f32 a2, .flt .f32 a3], .agg [.flt .f32 b1, .flt .f32 b2, .flt .f32 b3]] [] (aV (vadd (a1, a2, a3) (b1, b2, b3))) [] := by
  refine FnSpec.walkF dr_ok Try.func96 rfl (by kernel_rfl) rfl rfl rfl (by simp) ?_
  simp [aV, vadd]
theorem c_less (a1 a2 a3 b1 b2 b3 : Nat) : Fun Try.prog 103 [.agg [.flt .f32 a1, .flt .f32 a2, .flt .f32 a3], .agg [.flt .f32 b1, .flt .f32 b2, .flt .f32 b3]] [] (aV (vsub (a1, a2, a3) (b1, b2, b3))) [] := by
  refine FnSpec.walkF dr_ok Try.func103 rfl (by kernel_rfl) rfl rfl rfl (by simp) ?_
  simp [aV, vsub]
theorem c_scale (a1 a2 a3 k : Nat) : Fun Try.prog 133 [.agg [.flt .f32 a1, .flt .f32 a2, .flt .f32 a3], .flt .f32 k] [] (aV (vscale (a1, a2, a3) k)) [] := by
  refine FnSpec.walkF dr_ok Try.func133 rfl (by kernel_rfl) rfl rfl rfl (by simp) ?_
  simp [aV, vscale]
theorem c_l01Add (a1 a2 a3 b1 b2 b3 : Nat) : Fun Try.prog 95 [.agg [.flt .f32 a1, .flt .f32 a2, .flt .f32 a3], .agg [.flt .f32 b1, .flt .f32 b2, .flt .f32 b3]] [] (aV (vadd (a1, a2, a3) (b1, b2, b3))) [] := by
  refine FnSpec.walkF dr_ok Try.func95 rfl (by kernel_rfl) rfl rfl rfl (by simp) ?_
  simp [aV, vadd]
theorem c_l01Less (a1 a2 a3 b1 b2 b3 : Nat) : Fun Try.prog 101 [.agg [.flt .f32 a1, .flt .f32 a2, .flt .f32 a3], .agg [.flt .f32 b1, .flt .f32 b2, .flt .f32 b3]] [] (aV (vsub (a1, a2, a3) (b1, b2, b3))) [] := by
  refine FnSpec.walkF dr_ok Try.func101 rfl (by kernel_rfl) rfl rfl rfl (by simp) ?_
  simp [aV, vsub]
theorem c_l01Scale (a1 a2 a3 k : Nat) : Fun Try.prog 132 [.agg [.flt .f32 a1, .flt .f32 a2, .flt .f32 a3], .flt .f32 k] [] (aV (vscale (a1, a2, a3) k)) [] := by
  refine FnSpec.walkF dr_ok Try.func132 rfl (by kernel_rfl) rfl rfl rfl (by simp) ?_
  simp [aV, vscale]
theorem c_inner (a1 a2 a3 b1 b2 b3 : Nat) : Fun Try.prog 131 [.agg [.flt .f32 a1, .flt .f32 a2, .flt .f32 a3], .agg [.flt .f32 b1, .flt .f32 b2, .flt .f32 b3]] [] (.flt .f32 (vinner (a1, a2, a3) (b1, b2, b3))) [] := by
  refine FnSpec.walkF dr_ok Try.func131 rfl (by kernel_rfl) rfl rfl rfl (by simp) ?_
  simp [aV, vinner]
theorem c_l01Inner (a1 a2 a3 b1 b2 b3 : Nat) : Fun Try.prog 129 [.agg [.flt .f32 a1, .flt .f32 a2, .flt .f32 a3], .agg [.flt .f32 b1, .flt .f32 b2, .flt .f32 b3]] [] (.flt .f32 (vinner (a1, a2, a3) (b1, b2, b3))) [] := by
  refine FnSpec.walkF dr_ok Try.func129 rfl (by kernel_rfl) rfl rfl rfl (by simp) ?_
  simp [aV, vinner]
end Go.Proofs.Ytafbecgidhoekaa
