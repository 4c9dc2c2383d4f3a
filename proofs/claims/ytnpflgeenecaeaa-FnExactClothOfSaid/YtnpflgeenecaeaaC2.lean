/- Contracts of what Go's model knows of itself: bits and roots of numbers.
Conditions: none. -/
import Derived.Test.YtnpflgeenecaeaaC1
namespace Go.Proofs.Ytnpflgeenecaeaa
set_option linter.all false
open Go Go.Awp
set_option maxRecDepth 100000
set_option maxHeartbeats 4000000

theorem fsqrt_some {f : Ieee.Format} {x r : Nat} (h : f.sqrt x = some r) : (f.read r).isNaN = false := map_write_num f (fun _ h => root_num h) h
theorem c_msqrt (x : Nat) : Fun Try.prog 112 [.flt .f64 x] [] (.flt .f64 (fsqrt x)) [] := by
  refine FnSpec.of_extern (e := Extern.MathSqrt.sqrt) Try.func112 rfl rfl (by kernel_rfl) (by kernel_rfl) fun w E vs hv => ?_
  obtain ⟨h1, h2⟩ := hv
  obtain ⟨vs⟩ := vs
  match vs, h1 with
  | [v], _ =>
    have hr := h2 0 _ v rfl rfl
    cases hr with
    | flt _ _ r hr hl =>
      cases hs : FloatKind.f64.format.sqrt r with
      | some q =>
        refine ⟨.float .f64 q, 0, .flt .f64 (fsqrt x), ?_, .flt _ _ _ ?_ ?_, rfl, rfl, rfl⟩
        · have e : (Extern.MathSqrt.sqrt #[Value.float .f64 r]) = (match FloatKind.f64.format.sqrt r with
            | some r => pure (.float .f64 r)
            | none => do pure (.float .f64 (← choose (.nanBits .f64 r r)))) := rfl
          show (Extern.MathSqrt.sqrt #[Value.float .f64 r]).run _ _ = _
          rw [e, hs]; rfl
        · rw [← hr, fsqrt_cn, cn_num (fsqrt_some hs)]; simp only [fsqrt, hs, Option.getD_some]
        · unfold Ieee.Format.sqrt at hs
          cases hd : (FloatKind.f64.format.read r).root (FloatKind.f64.format.fractionBits + 2) with
          | none => rw [hd] at hs; cases hs
          | some d => rw [hd] at hs; cases hs; exact FloatKind.f64.format.write_lt d
      | none =>
        refine ⟨.float .f64 (Question.cut (.nanBits .f64 r r) (w.tape w.drawn (.nanBits .f64 r r))), 1, .flt .f64 (fsqrt x), ?_, .flt _ _ _ ?_ ?_, rfl, rfl, rfl⟩
        · have e : (Extern.MathSqrt.sqrt #[Value.float .f64 r]) = (match FloatKind.f64.format.sqrt r with
            | some r => pure (.float .f64 r)
            | none => do pure (.float .f64 (← choose (.nanBits .f64 r r)))) := rfl
          show (Extern.MathSqrt.sqrt #[Value.float .f64 r]).run _ _ = _
          rw [e, hs]
          simp [Question.forced, World.drewN]
        · rw [cut_nanBits, cn_nan (nan_pat .f64 _), ← hr, fsqrt_cn]; simp only [fsqrt, hs, Option.getD_none]
        · rw [cut_nanBits]; exact nan_pat_lt .f64 _
theorem c_Msqrt (x : Nat) : Fun Try.prog 100 [.flt .f64 x] [] (.flt .f64 (fsqrt x)) [] := by
  refine FnSpec.walkF dr_ok Try.func100 rfl (by kernel_rfl) rfl rfl rfl (by simp) ?_
  simp
  (first | refine callG_r ?_ | refine callD_r ?_); simp; (first | refine callN_flat (by with_reducible first | exact c_msqrt _) rfl ?_ | refine callN_new (by with_reducible first | exact c_msqrt _) ?_ | refine callM_flat (by with_reducible first | exact c_msqrt _) rfl ?_ | refine callM_new (by with_reducible first | exact c_msqrt _) ?_)
  simp
theorem c_root (x : Nat) : Fun Try.prog 97 [.flt .f32 x] [] (.flt .f32 (froot x)) [] := by
  refine FnSpec.walkF dr_ok Try.func97 rfl (by kernel_rfl) rfl rfl rfl (by simp) ?_
  simp
  (first | refine callG_r ?_ | refine callD_r ?_); simp; (first | refine callN_flat (by with_reducible first | exact c_Msqrt _) rfl ?_ | refine callN_new (by with_reducible first | exact c_Msqrt _) ?_ | refine callM_flat (by with_reducible first | exact c_Msqrt _) rfl ?_ | refine callM_new (by with_reducible first | exact c_Msqrt _) ?_)
  simp
theorem c_l01Narrow {x y : Nat} (h : fcvt .f64 .f32 x = some y) : Fun Try.prog 99 [.flt .f64 x] [] (.flt .f32 y) [] := by
  refine FnSpec.walkF dr_ok Try.func99 rfl (by kernel_rfl) rfl rfl rfl (by simp) ?_
  simp [h]
theorem c_l01Sqrt (x : Nat) : Fun Try.prog 92 [.flt .f32 x] [] (.flt .f32 (froot x)) [] := by
  refine FnSpec.walkF dr_ok Try.func92 rfl (by kernel_rfl) rfl rfl rfl (by simp) ?_
  simp
  (first | refine callG_r ?_ | refine callD_r ?_); simp; (first | refine callN_flat (by with_reducible first | exact c_Msqrt _) rfl ?_ | refine callN_new (by with_reducible first | exact c_Msqrt _) ?_ | refine callM_flat (by with_reducible first | exact c_Msqrt _) rfl ?_ | refine callM_new (by with_reducible first | exact c_Msqrt _) ?_)
  simp
  (first | refine callG_r ?_ | refine callD_r ?_); simp; (first | refine callN_flat (by with_reducible first | exact c_l01Narrow (fcvt_froot _)) rfl ?_ | refine callN_new (by with_reducible first | exact c_l01Narrow (fcvt_froot _)) ?_ | refine callM_flat (by with_reducible first | exact c_l01Narrow (fcvt_froot _)) rfl ?_ | refine callM_new (by with_reducible first | exact c_l01Narrow (fcvt_froot _)) ?_)
  simp
def vlong (v : V) : Nat := froot (vinner v v)
theorem c_long (x y z : Nat) : Fun Try.prog 84 [.agg [.flt .f32 x, .flt .f32 y, .flt .f32 z]] [] (.flt .f32 (vlong (x, y, z))) [] := by
  refine FnSpec.walkF dr_ok Try.func84 rfl (by kernel_rfl) rfl rfl rfl (by simp) ?_
  simp
  (first | refine callG_r ?_ | refine callD_r ?_); simp; (first | refine callN_flat (by with_reducible first | exact c_inner _ _ _ _ _ _) rfl ?_ | refine callN_new (by with_reducible first | exact c_inner _ _ _ _ _ _) ?_ | refine callM_flat (by with_reducible first | exact c_inner _ _ _ _ _ _) rfl ?_ | refine callM_new (by with_reducible first | exact c_inner _ _ _ _ _ _) ?_)
  simp
  (first | refine callG_r ?_ | refine callD_r ?_); simp; (first | refine callN_flat (by with_reducible first | exact c_root _) rfl ?_ | refine callN_new (by with_reducible first | exact c_root _) ?_ | refine callM_flat (by with_reducible first | exact c_root _) rfl ?_ | refine callM_new (by with_reducible first | exact c_root _) ?_)
  simp [vlong]
theorem c_l01Long (x y z : Nat) : Fun Try.prog 78 [.agg [.flt .f32 x, .flt .f32 y, .flt .f32 z]] [] (.flt .f32 (vlong (x, y, z))) [] := by
  refine FnSpec.walkF dr_ok Try.func78 rfl (by kernel_rfl) rfl rfl rfl (by simp) ?_
  simp
  (first | refine callG_r ?_ | refine callD_r ?_); simp; (first | refine callN_flat (by with_reducible first | exact c_l01Inner _ _ _ _ _ _) rfl ?_ | refine callN_new (by with_reducible first | exact c_l01Inner _ _ _ _ _ _) ?_ | refine callM_flat (by with_reducible first | exact c_l01Inner _ _ _ _ _ _) rfl ?_ | refine callM_new (by with_reducible first | exact c_l01Inner _ _ _ _ _ _) ?_)
  simp
  (first | refine callG_r ?_ | refine callD_r ?_); simp; (first | refine callN_flat (by with_reducible first | exact c_l01Sqrt _) rfl ?_ | refine callN_new (by with_reducible first | exact c_l01Sqrt _) ?_ | refine callM_flat (by with_reducible first | exact c_l01Sqrt _) rfl ?_ | refine callM_new (by with_reducible first | exact c_l01Sqrt _) ?_)
  simp [vlong]
end Go.Proofs.Ytnpflgeenecaeaa
