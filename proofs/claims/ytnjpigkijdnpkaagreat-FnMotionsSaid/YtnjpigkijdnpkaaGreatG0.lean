/- Contracts of small functions on numbers. Contracts of what Go's model knows of itself: bits and roots of numbers. Contracts of what the laws do with their arguments. Contracts of what the laws do with cloths: sizes, copies, equality. What the cloths are that the laws are given. Contracts: what a cloth must be. Contracts: the reference's word on what a cloth must be; the law of it. Contracts: what is the same.
Conditions: none. -/
import Derived.Test.YtnjpigkijdnpkaaGreatTyp
import Derived.Test.YtnjpigkijdnpkaaGreatDat
import Derived.Test.YtnjpigkijdnpkaaGreatEnt
import Derived.Test.YtnjpigkijdnpkaaGreatOrd
namespace Go.Proofs.YtnjpigkijdnpkaaGreat
set_option linter.all false
open Go Go.Awp
set_option maxRecDepth 100000
set_option maxHeartbeats 4000000

/-- Finite, as the program asks it. -/
def finB (x : Nat) : Bool := ford .f32 (fop .sub .f32 x x) 0 == some .eq
def overB (x : Nat) : Bool := finB x && (ford .f32 x 0 == some .gt)
def inB (n a b : Int) : Bool := decide (a ≤ n) && decide (n ≤ b)
def vadd (a b : V) : V := (fop .add .f32 a.1 b.1, fop .add .f32 a.2.1 b.2.1, fop .add .f32 a.2.2 b.2.2)
def vsub (a b : V) : V := (fop .sub .f32 a.1 b.1, fop .sub .f32 a.2.1 b.2.1, fop .sub .f32 a.2.2 b.2.2)
def vscale (a : V) (k : Nat) : V := (fop .mul .f32 a.1 k, fop .mul .f32 a.2.1 k, fop .mul .f32 a.2.2 k)
def vinner (a b : V) : Nat := fop .add .f32 (fop .add .f32 (fop .mul .f32 a.1 b.1) (fop .mul .f32 a.2.1 b.2.1)) (fop .mul .f32 a.2.2 b.2.2)
abbrev aV (v : V) : AV := .agg [.flt .f32 v.1, .flt .f32 v.2.1, .flt .f32 v.2.2]
abbrev aT (v : Th) : AV := .agg [.int .i64 v.1, .int .i64 v.2.1, .flt .f32 v.2.2]
attribute [simp] aV aT
theorem c_within (n a b : Int) : Fun Tryz.prog 41 [.int .i64 n, .int .i64 a, .int .i64 b] [] (.bool (inB n a b)) [] := by
  refine FnSpec.walkF dr_ok Tryz.func41 rfl (by kernel_rfl) rfl rfl rfl (by simp) ?_
  simp [inB]
  grind
theorem c_isFinite (x : Nat) : Fun Tryz.prog 75 [.flt .f32 x] [] (.bool (finB x)) [] := by
  refine FnSpec.walkF dr_ok Tryz.func75 rfl (by kernel_rfl) rfl rfl rfl (by simp) ?_
  simp [finB]
theorem c_l01Finite (x : Nat) : Fun Tryz.prog 150 [.flt .f32 x] [] (.bool (finB x)) [] := by
  refine FnSpec.walkF dr_ok Tryz.func150 rfl (by kernel_rfl) rfl rfl rfl (by simp) ?_
  simp [finB]
theorem c_isOver (x : Nat) : Fun Tryz.prog 40 [.flt .f32 x] [] (.bool (overB x)) [] := by
  refine FnSpec.walkF dr_ok Tryz.func40 rfl (by kernel_rfl) rfl rfl rfl (by simp) ?_
  simp
  (first | refine callG_r ?_ | refine callD_r ?_); simp; (first | refine callN_flat (by with_reducible first | exact c_isFinite _) rfl ?_ | refine callN_new (by with_reducible first | exact c_isFinite _) ?_ | refine callM_flat (by with_reducible first | exact c_isFinite _) rfl ?_ | refine callM_new (by with_reducible first | exact c_isFinite _) ?_)
  simp [overB]
  grind
theorem c_l02Size (x : Nat) : Fun Tryz.prog 129 [.flt .f32 x] [] (.bool (overB x)) [] := by
  refine FnSpec.walkF dr_ok Tryz.func129 rfl (by kernel_rfl) rfl rfl rfl (by simp) ?_
  simp
  (first | refine callG_r ?_ | refine callD_r ?_); simp; (first | refine callN_flat (by with_reducible first | exact c_l01Finite _) rfl ?_ | refine callN_new (by with_reducible first | exact c_l01Finite _) ?_ | refine callM_flat (by with_reducible first | exact c_l01Finite _) rfl ?_ | refine callM_new (by with_reducible first | exact c_l01Finite _) ?_)
  simp [overB]
  grind
theorem c_add (a1 a2 a3 b1 b2 b3 : Nat) : Fun Tryz.prog 79 [.agg [.flt .f32 a1, .flt .f32 a2, .flt .f32 a3], .agg [.flt .f32 b1, .flt .f32 b2, .flt .f32 b3]] [] (aV (vadd (a1, a2, a3) (b1, b2, b3))) [] := by
  refine FnSpec.walkF dr_ok Tryz.func79 rfl (by kernel_rfl) rfl rfl rfl (by simp) ?_
  simp [aV, vadd]
theorem c_less (a1 a2 a3 b1 b2 b3 : Nat) : Fun Tryz.prog 93 [.agg [.flt .f32 a1, .flt .f32 a2, .flt .f32 a3], .agg [.flt .f32 b1, .flt .f32 b2, .flt .f32 b3]] [] (aV (vsub (a1, a2, a3) (b1, b2, b3))) [] := by
  refine FnSpec.walkF dr_ok Tryz.func93 rfl (by kernel_rfl) rfl rfl rfl (by simp) ?_
  simp [aV, vsub]
theorem c_scale (a1 a2 a3 k : Nat) : Fun Tryz.prog 80 [.agg [.flt .f32 a1, .flt .f32 a2, .flt .f32 a3], .flt .f32 k] [] (aV (vscale (a1, a2, a3) k)) [] := by
  refine FnSpec.walkF dr_ok Tryz.func80 rfl (by kernel_rfl) rfl rfl rfl (by simp) ?_
  simp [aV, vscale]
theorem c_l01Add (a1 a2 a3 b1 b2 b3 : Nat) : Fun Tryz.prog 58 [.agg [.flt .f32 a1, .flt .f32 a2, .flt .f32 a3], .agg [.flt .f32 b1, .flt .f32 b2, .flt .f32 b3]] [] (aV (vadd (a1, a2, a3) (b1, b2, b3))) [] := by
  refine FnSpec.walkF dr_ok Tryz.func58 rfl (by kernel_rfl) rfl rfl rfl (by simp) ?_
  simp [aV, vadd]
theorem c_l01Scale (a1 a2 a3 k : Nat) : Fun Tryz.prog 130 [.agg [.flt .f32 a1, .flt .f32 a2, .flt .f32 a3], .flt .f32 k] [] (aV (vscale (a1, a2, a3) k)) [] := by
  refine FnSpec.walkF dr_ok Tryz.func130 rfl (by kernel_rfl) rfl rfl rfl (by simp) ?_
  simp [aV, vscale]
theorem c_inner (a1 a2 a3 b1 b2 b3 : Nat) : Fun Tryz.prog 88 [.agg [.flt .f32 a1, .flt .f32 a2, .flt .f32 a3], .agg [.flt .f32 b1, .flt .f32 b2, .flt .f32 b3]] [] (.flt .f32 (vinner (a1, a2, a3) (b1, b2, b3))) [] := by
  refine FnSpec.walkF dr_ok Tryz.func88 rfl (by kernel_rfl) rfl rfl rfl (by simp) ?_
  simp [aV, vinner]
theorem c_l01Inner (a1 a2 a3 b1 b2 b3 : Nat) : Fun Tryz.prog 152 [.agg [.flt .f32 a1, .flt .f32 a2, .flt .f32 a3], .agg [.flt .f32 b1, .flt .f32 b2, .flt .f32 b3]] [] (.flt .f32 (vinner (a1, a2, a3) (b1, b2, b3))) [] := by
  refine FnSpec.walkF dr_ok Tryz.func152 rfl (by kernel_rfl) rfl rfl rfl (by simp) ?_
  simp [aV, vinner]
end Go.Proofs.YtnjpigkijdnpkaaGreat
namespace Go.Proofs.YtnjpigkijdnpkaaGreat
set_option linter.all false
open Go Go.Awp
set_option maxRecDepth 100000
set_option maxHeartbeats 4000000

theorem c_bits32 {x : Nat} (h : nanB .f32 x = false) : Fun Tryz.prog 107 [.flt .f32 x] [] (.int .u32 x) [] := by
  refine FnSpec.of_extern (e := Extern.MathFloatBits.float32bits) Tryz.func107 rfl rfl (by kernel_rfl) (by kernel_rfl) fun w E vs hv => ?_
  obtain ⟨h1, h2⟩ := hv
  obtain ⟨vs⟩ := vs
  match vs, h1 with
  | [v], _ =>
    have hr := h2 0 _ v rfl rfl
    cases hr with
    | flt _ _ r hr hl =>
      have hn : nanB .f32 r = false := by rw [← nanB_cn, hr]; exact h
      have e : r = x := by rw [← hr, cn_num hn]
      subst e
      exact ⟨.int .u32 r, 0, .int .u32 r, rfl, .int _ _, rfl, rfl, rfl⟩
theorem c_bits64 {x : Nat} (h : nanB .f64 x = false) : Fun Tryz.prog 111 [.flt .f64 x] [] (.int .u64 x) [] := by
  refine FnSpec.of_extern (e := Extern.MathFloatBits.float64bits) Tryz.func111 rfl rfl (by kernel_rfl) (by kernel_rfl) fun w E vs hv => ?_
  obtain ⟨h1, h2⟩ := hv
  obtain ⟨vs⟩ := vs
  match vs, h1 with
  | [v], _ =>
    have hr := h2 0 _ v rfl rfl
    cases hr with
    | flt _ _ r hr hl =>
      have hn : nanB .f64 r = false := by rw [← nanB_cn, hr]; exact h
      have e : r = x := by rw [← hr, cn_num hn]
      subst e
      exact ⟨.int .u64 r, 0, .int .u64 r, rfl, .int _ _, rfl, rfl, rfl⟩
theorem fsqrt_some {f : Ieee.Format} {x r : Nat} (h : f.sqrt x = some r) : (f.read r).isNaN = false := map_write_num f (fun _ h => root_num h) h
theorem c_msqrt (x : Nat) : Fun Tryz.prog 162 [.flt .f64 x] [] (.flt .f64 (fsqrt x)) [] := by
  refine FnSpec.of_extern (e := Extern.MathSqrt.sqrt) Tryz.func162 rfl rfl (by kernel_rfl) (by kernel_rfl) fun w E vs hv => ?_
  obtain ⟨h1, h2⟩ := hv
  obtain ⟨vs⟩ := vs
  match vs, h1 with
  | [v], _ =>
    have hr := h2 0 _ v rfl rfl
    cases hr with
    | flt _ _ r hr hl =>
      cases hs : FloatKind.f64.format.sqrt r with
      | some q =>
        refine ⟨.float .f64 q, 0, .flt .f64 (fsqrt x), ?_, .flt _ _ _ ?_ ?_, rfl, rfl, rfl⟩
        · have e : (Extern.MathSqrt.sqrt #[Value.float .f64 r]) = (match FloatKind.f64.format.sqrt r with
            | some r => pure (.float .f64 r)
            | none => do pure (.float .f64 (← choose (.nanBits .f64 r r)))) := rfl
          show (Extern.MathSqrt.sqrt #[Value.float .f64 r]).run _ _ = _
          rw [e, hs]; rfl
        · rw [← hr, fsqrt_cn, cn_num (fsqrt_some hs)]; simp only [fsqrt, hs, Option.getD_some]
        · unfold Ieee.Format.sqrt at hs
          cases hd : (FloatKind.f64.format.read r).root (FloatKind.f64.format.fractionBits + 2) with
          | none => rw [hd] at hs; cases hs
          | some d => rw [hd] at hs; cases hs; exact FloatKind.f64.format.write_lt d
      | none =>
        refine ⟨.float .f64 (Question.cut (.nanBits .f64 r r) (w.tape w.drawn (.nanBits .f64 r r))), 1, .flt .f64 (fsqrt x), ?_, .flt _ _ _ ?_ ?_, rfl, rfl, rfl⟩
        · have e : (Extern.MathSqrt.sqrt #[Value.float .f64 r]) = (match FloatKind.f64.format.sqrt r with
            | some r => pure (.float .f64 r)
            | none => do pure (.float .f64 (← choose (.nanBits .f64 r r)))) := rfl
          show (Extern.MathSqrt.sqrt #[Value.float .f64 r]).run _ _ = _
          rw [e, hs]
          simp [Question.forced, World.drewN]
        · rw [cut_nanBits, cn_nan (nan_pat .f64 _), ← hr, fsqrt_cn]; simp only [fsqrt, hs, Option.getD_none]
        · rw [cut_nanBits]; exact nan_pat_lt .f64 _
theorem c_Msqrt (x : Nat) : Fun Tryz.prog 147 [.flt .f64 x] [] (.flt .f64 (fsqrt x)) [] := by
  refine FnSpec.walkF dr_ok Tryz.func147 rfl (by kernel_rfl) rfl rfl rfl (by simp) ?_
  simp
  (first | refine callG_r ?_ | refine callD_r ?_); simp; (first | refine callN_flat (by with_reducible first | exact c_msqrt _) rfl ?_ | refine callN_new (by with_reducible first | exact c_msqrt _) ?_ | refine callM_flat (by with_reducible first | exact c_msqrt _) rfl ?_ | refine callM_new (by with_reducible first | exact c_msqrt _) ?_)
  simp
theorem c_root (x : Nat) : Fun Tryz.prog 127 [.flt .f32 x] [] (.flt .f32 (froot x)) [] := by
  refine FnSpec.walkF dr_ok Tryz.func127 rfl (by kernel_rfl) rfl rfl rfl (by simp) ?_
  simp
  (first | refine callG_r ?_ | refine callD_r ?_); simp; (first | refine callN_flat (by with_reducible first | exact c_Msqrt _) rfl ?_ | refine callN_new (by with_reducible first | exact c_Msqrt _) ?_ | refine callM_flat (by with_reducible first | exact c_Msqrt _) rfl ?_ | refine callM_new (by with_reducible first | exact c_Msqrt _) ?_)
  simp
theorem c_l01Narrow {x y : Nat} (h : fcvt .f64 .f32 x = some y) : Fun Tryz.prog 148 [.flt .f64 x] [] (.flt .f32 y) [] := by
  refine FnSpec.walkF dr_ok Tryz.func148 rfl (by kernel_rfl) rfl rfl rfl (by simp) ?_
  simp [h]
theorem c_l01Sqrt (x : Nat) : Fun Tryz.prog 151 [.flt .f32 x] [] (.flt .f32 (froot x)) [] := by
  refine FnSpec.walkF dr_ok Tryz.func151 rfl (by kernel_rfl) rfl rfl rfl (by simp) ?_
  simp
  (first | refine callG_r ?_ | refine callD_r ?_); simp; (first | refine callN_flat (by with_reducible first | exact c_Msqrt _) rfl ?_ | refine callN_new (by with_reducible first | exact c_Msqrt _) ?_ | refine callM_flat (by with_reducible first | exact c_Msqrt _) rfl ?_ | refine callM_new (by with_reducible first | exact c_Msqrt _) ?_)
  simp
  (first | refine callG_r ?_ | refine callD_r ?_); simp; (first | refine callN_flat (by with_reducible first | exact c_l01Narrow (fcvt_froot _)) rfl ?_ | refine callN_new (by with_reducible first | exact c_l01Narrow (fcvt_froot _)) ?_ | refine callM_flat (by with_reducible first | exact c_l01Narrow (fcvt_froot _)) rfl ?_ | refine callM_new (by with_reducible first | exact c_l01Narrow (fcvt_froot _)) ?_)
  simp
def vlong (v : V) : Nat := froot (vinner v v)
theorem c_long (x y z : Nat) : Fun Tryz.prog 94 [.agg [.flt .f32 x, .flt .f32 y, .flt .f32 z]] [] (.flt .f32 (vlong (x, y, z))) [] := by
  refine FnSpec.walkF dr_ok Tryz.func94 rfl (by kernel_rfl) rfl rfl rfl (by simp) ?_
  simp
  (first | refine callG_r ?_ | refine callD_r ?_); simp; (first | refine callN_flat (by with_reducible first | exact c_inner _ _ _ _ _ _) rfl ?_ | refine callN_new (by with_reducible first | exact c_inner _ _ _ _ _ _) ?_ | refine callM_flat (by with_reducible first | exact c_inner _ _ _ _ _ _) rfl ?_ | refine callM_new (by with_reducible first | exact c_inner _ _ _ _ _ _) ?_)
  simp
  (first | refine callG_r ?_ | refine callD_r ?_); simp; (first | refine callN_flat (by with_reducible first | exact c_root _) rfl ?_ | refine callN_new (by with_reducible first | exact c_root _) ?_ | refine callM_flat (by with_reducible first | exact c_root _) rfl ?_ | refine callM_new (by with_reducible first | exact c_root _) ?_)
  simp [vlong]
theorem c_l01Long (x y z : Nat) : Fun Tryz.prog 131 [.agg [.flt .f32 x, .flt .f32 y, .flt .f32 z]] [] (.flt .f32 (vlong (x, y, z))) [] := by
  refine FnSpec.walkF dr_ok Tryz.func131 rfl (by kernel_rfl) rfl rfl rfl (by simp) ?_
  simp
  (first | refine callG_r ?_ | refine callD_r ?_); simp; (first | refine callN_flat (by with_reducible first | exact c_l01Inner _ _ _ _ _ _) rfl ?_ | refine callN_new (by with_reducible first | exact c_l01Inner _ _ _ _ _ _) ?_ | refine callM_flat (by with_reducible first | exact c_l01Inner _ _ _ _ _ _) rfl ?_ | refine callM_new (by with_reducible first | exact c_l01Inner _ _ _ _ _ _) ?_)
  simp
  (first | refine callG_r ?_ | refine callD_r ?_); simp; (first | refine callN_flat (by with_reducible first | exact c_l01Sqrt _) rfl ?_ | refine callN_new (by with_reducible first | exact c_l01Sqrt _) ?_ | refine callM_flat (by with_reducible first | exact c_l01Sqrt _) rfl ?_ | refine callM_new (by with_reducible first | exact c_l01Sqrt _) ?_)
  simp [vlong]
end Go.Proofs.YtnjpigkijdnpkaaGreat
namespace Go.Proofs.YtnjpigkijdnpkaaGreat
set_option linter.all false
open Go Go.Awp
set_option maxRecDepth 100000
set_option maxHeartbeats 4000000

end Go.Proofs.YtnjpigkijdnpkaaGreat
namespace Go.Proofs.YtnjpigkijdnpkaaGreat
set_option linter.all false
open Go Go.Awp
set_option maxRecDepth 100000
set_option maxHeartbeats 4000000

/-- What is left of a size. -/
def szL (n : Nat) (left : Int) : Int := if left - n < 0 then -1 else left - n
theorem szL_le {n : Nat} {left : Int} (h : left ≤ 1048576) : szL n left ≤ 1048576 := by unfold szL; split <;> omega
theorem szL_ok {n : Nat} {left : Int} (h : ¬ szL n left < 0) : (n : Int) ≤ left := by unfold szL at h; split at h <;> omega
def szC (a b c d : Nat) : Int := if szL a 1048576 < 0 then -1 else if szL b (szL a 1048576) < 0 then -1 else if szL c (szL b (szL a 1048576)) < 0 then -1 else if szL d (szL c (szL b (szL a 1048576))) < 0 then -1 else szL d (szL c (szL b (szL a 1048576)))
theorem szC_ok {a b c d : Nat} (h : ¬ szC a b c d < 0) : a ≤ 1048576 ∧ b ≤ 1048576 ∧ c ≤ 1048576 ∧ d ≤ 1048576 := by
  unfold szC at h
  split at h
  · omega
  · split at h
    · omega
    · split at h
      · omega
      · split at h
        · omega
        · rename_i h1 h2 h3 h4
          have a1 := szL_ok h1
          have a2 := szL_ok h2
          have a3 := szL_ok h3
          have a4 := szL_ok h4
          have b1 := szL_le (n := a) (left := 1048576) (by omega)
          have b2 := szL_le (n := b) b1
          have b3 := szL_le (n := c) b2
          omega
/-- A cloth: places, where they were, threads, pins. -/
structure Clo where
  pl : List V
  ol : List V
  th : List Th
  pin : List Int
/-- A cloth as what is only read. -/
abbrev Clo.av (c : Clo) : AV := .agg [.view false (cVs c.pl) c.pl.length, .view false (cVs c.ol) c.ol.length, .view false (cTs c.th) c.th.length, .view false (cIs c.pin) c.pin.length]
/-- A cloth in memory of its own. -/
abbrev Clo.own (c : Clo) (r : Nat) : AV := .agg [.slc r 0 c.pl.length 3, .slc (r + 1) 0 c.ol.length 3, .slc (r + 2) 0 c.th.length 3, .slc (r + 3) 0 c.pin.length 1]
attribute [simp] Clo.av Clo.own
structure Clo.Small (c : Clo) : Prop where
  pl : c.pl.length ≤ 1048576
  ol : c.ol.length ≤ 1048576
  th : c.th.length ≤ 1048576
  pin : c.pin.length ≤ 1048576

end Go.Proofs.YtnjpigkijdnpkaaGreat
namespace Go.Proofs.YtnjpigkijdnpkaaGreat
set_option linter.all false
open Go Go.Awp
set_option maxRecDepth 100000
set_option maxHeartbeats 4000000

theorem opens_I : Opens Tryz.prog 2 fun l => ∃ n : Int, I64 n ∧ l = [.int .i64 n] := (opens_int Tryz.underlying2).mono (by
    rintro l ⟨x, hx, rfl⟩
    exact ⟨x, wf_i64 hx, rfl⟩)
theorem flat_ints (l : List Int) : l.flatMap (fun n => [AV.int .i64 n]) = cIs l := by
  induction l with
  | nil => rfl
  | cons a l ih => simp only [List.flatMap_cons, ih]; rfl
theorem opens_Is : Opens Tryz.prog 36 fun l => ∃ vs : List Int, ((∀ v ∈ vs, I64 v) ∧ vs.length ≤ maxLen) ∧ l = [.view false (cIs vs) vs.length] :=
  (opens_slice (enc' := fun n : Int => [AV.int .i64 n]) Tryz.underlying36 (by kernel_rfl) (by decide : 0 < 1) (fun _ => rfl) opens_I).mono (by
    rintro l ⟨vs, h, rfl⟩
    exact ⟨vs, h, by rw [flat_ints]⟩)
structure Clo.Can (c : Clo) : Prop where
  pl : ∀ v ∈ c.pl, CanV v
  ol : ∀ v ∈ c.ol, CanV v
  th : ∀ v ∈ c.th, CanT v
  pin : ∀ v ∈ c.pin, I64 v
structure Clo.Len (c : Clo) : Prop where
  pl : c.pl.length ≤ 9223372036854775807
  ol : c.ol.length ≤ 9223372036854775807
  th : c.th.length ≤ 9223372036854775807
  pin : c.pin.length ≤ 9223372036854775807
theorem arg_F : ArgOk Tryz.prog 29 fun a => ∃ x, CanF .f32 x ∧ a = .flt .f32 x :=
  argOk_one (by rw [Tryz.underlying29]; intro fs h; cases h) (by rw [Tryz.underlying29]; intro n e h; cases h) ((opens_float Tryz.underlying29).mono (by
    rintro l ⟨x, hx, rfl⟩
    exact ⟨_, ⟨x, hx, rfl⟩, rfl⟩))
theorem arg_I : ArgOk Tryz.prog 2 fun a => ∃ n : Int, I64 n ∧ a = .int .i64 n :=
  argOk_one (by rw [Tryz.underlying2]; intro fs h; cases h) (by rw [Tryz.underlying2]; intro n e h; cases h) (opens_I.mono (by
    rintro l ⟨x, hx, rfl⟩
    exact ⟨_, ⟨x, hx, rfl⟩, rfl⟩))
theorem arg_Is : ArgOk Tryz.prog 36 fun a => ∃ vs : List Int, ((∀ v ∈ vs, I64 v) ∧ vs.length ≤ maxLen) ∧ a = .view false (cIs vs) vs.length :=
  argOk_one (by rw [Tryz.underlying36]; intro fs h; cases h) (by rw [Tryz.underlying36]; intro n e h; cases h) (opens_Is.mono (by
    rintro l ⟨x, hx, rfl⟩
    exact ⟨_, ⟨x, hx, rfl⟩, rfl⟩))
theorem relL_of {W : World} {avs : List AV} {args : Array Value} (h1 : avs.length = args.toList.length) (h2 : ∀ (i : Nat) a v, avs[i]? = some a → args.toList[i]? = some v → VRel W (env0 W) a v) : RelL W (env0 W) avs args :=
  ⟨by simpa using h1, fun i a v ha hv => h2 i a v ha (by simpa using hv)⟩
end Go.Proofs.YtnjpigkijdnpkaaGreat
namespace Go.Proofs.YtnjpigkijdnpkaaGreat
set_option linter.all false
open Go Go.Awp
set_option maxRecDepth 100000
set_option maxHeartbeats 4000000
set_option pp.deepTerms false
set_option pp.deepTerms.threshold 8

def thrB (n : Int) (t : Th) : Bool := inB t.1 0 (n - 1) && inB t.2.1 0 (n - 1) && !decide (t.1 = t.2.1) && overB t.2.2
def pinsF (n : Int) : Int → List Int → Bool
  | _, [] => true
  | last, p :: l => inB p (last + 1) (n - 1) && pinsF n p l
def vldC (c : Clo) : Bool := decide (c.pl.length ≤ 64) && decide (c.ol.length = c.pl.length) && decide (c.th.length ≤ 256) && c.th.all (thrB c.pl.length) && pinsF c.pl.length (-1) c.pin

theorem pinsF_last {n : Int} : ∀ {l : List Int} {a b : Int}, -1 ≤ a → pinsF n a l = true → b ≤ a → pinsF n b l = true
  | [], _, _, _, _, _ => rfl
  | p :: l, a, b, h0, h, hb => by
    simp [pinsF, inB] at h ⊢
    exact ⟨by omega, h.2⟩
end Go.Proofs.YtnjpigkijdnpkaaGreat
namespace Go.Proofs.YtnjpigkijdnpkaaGreat
set_option linter.all false
open Go Go.Awp
set_option maxRecDepth 100000
set_option maxHeartbeats 4000000
set_option pp.deepTerms false
set_option pp.deepTerms.threshold 8

/-- A pointer to a cloth that is only read. -/
abbrev Clo.pv (c : Clo) : AV := .vptr false [.view false (cVs c.pl) c.pl.length, .view false (cVs c.ol) c.ol.length, .view false (cTs c.th) c.th.length, .view false (cIs c.pin) c.pin.length]
attribute [simp] Clo.pv
theorem small_of {c : Clo} (h : 0 ≤ szC c.pl.length c.ol.length c.th.length c.pin.length) : c.Small := by
  obtain ⟨h1, h2, h3, h4⟩ := szC_ok (Int.not_lt.2 h)
  exact ⟨h1, h2, h3, h4⟩
end Go.Proofs.YtnjpigkijdnpkaaGreat
namespace Go.Proofs.YtnjpigkijdnpkaaGreat
set_option linter.all false
open Go Go.Awp
set_option maxRecDepth 100000
set_option maxHeartbeats 4000000
set_option pp.deepTerms true

theorem c_Signbit {x : Nat} (h : nanB .f64 x = false) (hx : x < 2 ^ FloatKind.f64.format.width) : Fun Tryz.prog 84 [.flt .f64 x] [] (.bool (sgB .f64 x)) [] := by
  refine FnSpec.walkF dr_ok Tryz.func84 rfl (by kernel_rfl) rfl rfl rfl (by simp) ?_
  simp
  (first | refine callG_r ?_ | refine callD_r ?_); simp; (first | refine callN_flat (by with_reducible first | exact c_bits64 h) rfl ?_ | refine callN_new (by with_reducible first | exact c_bits64 h) ?_ | refine callM_flat (by with_reducible first | exact c_bits64 h) rfl ?_ | refine callM_new (by with_reducible first | exact c_bits64 h) ?_)
  simp
  have hx : x < 18446744073709551616 := hx
  have hs : FloatKind.f64.format.signWeight = 9223372036854775808 := by decide +kernel
  unfold sgB
  rw [hs]
  have hw : IntKind.i64.wrap (x : Int) = if x < 9223372036854775808 then (x : Int) else x - 18446744073709551616 := by
    by_cases c : x < 9223372036854775808
    · rw [if_pos c, wrap64 (by omega) (by omega)]
    · rw [if_neg c, IntKind.wrap_i64]; omega
  rw [hw]
  by_cases c : x < 9223372036854775808
  · rw [if_pos c, Nat.div_eq_of_lt c]; simp
  · rw [if_neg c]
    have : x / 9223372036854775808 = 1 := by omega
    rw [this]; simp; omega
theorem can_nan {x : Nat} (h : CanF .f32 x) (hn : nanB .f32 x = true) : x = 2143289344 := by
  rw [← h.1, cn_nan hn]; rfl
theorem c_SameNumber {x y : Nat} (hx : CanF .f32 x) (hy : CanF .f32 y) : Fun Tryz.prog 52 [.flt .f32 x, .flt .f32 y] [] (.bool (decide (x = y))) [] := by
  refine FnSpec.walkF dr_ok Tryz.func52 rfl (by kernel_rfl) rfl rfl rfl (by simp) ?_
  cases nx : nanB .f32 x with
  | true =>
    have ex := can_nan hx nx
    have f1 : ford .f32 x x = none := ford_nan_l nx
    cases ny : nanB .f32 y with
    | true =>
      have ey := can_nan hy ny
      have f2 : ford .f32 y y = none := ford_nan_l ny
      subst ex; subst ey
      simp [f1]
    | false =>
      have f2 : ford .f32 y y = some .eq := ford_self ny
      have : x ≠ y := by intro e; rw [e, ny] at nx; cases nx
      simp [f1, f2, this]
  | false =>
    have f1 : ford .f32 x x = some .eq := ford_self nx
    cases ny : nanB .f32 y with
    | true =>
      have f2 : ford .f32 y y = none := ford_nan_l ny
      have : x ≠ y := by intro e; rw [e, ny] at nx; cases nx
      simp [f1, f2, this]
    | false =>
      have f2 : ford .f32 y y = some .eq := ford_self ny
      have hs := same_word hx.2 hy.2 nx ny
      obtain ⟨a1, a2, a3⟩ := wid_sign nx
      obtain ⟨b1, b2, b3⟩ := wid_sign ny
      simp [f1, f2]
      by_cases c : ford .f32 x y = some .eq
      · simp [c]
        (first | refine callG_r ?_ | refine callD_r ?_); simp; (first | refine callN_flat (by with_reducible first | exact c_Signbit a1 a2) rfl ?_ | refine callN_new (by with_reducible first | exact c_Signbit a1 a2) ?_ | refine callM_flat (by with_reducible first | exact c_Signbit a1 a2) rfl ?_ | refine callM_new (by with_reducible first | exact c_Signbit a1 a2) ?_)
        simp
        (first | refine callG_r ?_ | refine callD_r ?_); simp; (first | refine callN_flat (by with_reducible first | exact c_Signbit b1 b2) rfl ?_ | refine callN_new (by with_reducible first | exact c_Signbit b1 b2) ?_ | refine callM_flat (by with_reducible first | exact c_Signbit b1 b2) rfl ?_ | refine callM_new (by with_reducible first | exact c_Signbit b1 b2) ?_)
        simp
        rw [a3, b3]
        rw [Bool.eq_iff_iff]
        simp
        rw [← hs]
        simp [c]
      · simp [c]
        intro e
        exact c (hs.2 e).1
theorem c_l01Bits {x : Nat} (hx : CanF .f32 x) : Fun Tryz.prog 81 [.flt .f32 x] [] (.int .i64 x) [] := by
  refine FnSpec.walkF dr_ok Tryz.func81 rfl (by kernel_rfl) rfl rfl rfl (by simp) ?_
  have hl : x < 4294967296 := hx.2
  cases nx : nanB .f32 x with
  | true =>
    have ex := can_nan hx nx
    have f1 : ford .f32 x x = none := ford_nan_l nx
    simp [f1]
    omega
  | false =>
    have f1 : ford .f32 x x = some .eq := ford_self nx
    simp [f1]
    (first | refine callG_r ?_ | refine callD_r ?_); simp; (first | refine callN_flat (by with_reducible first | exact c_bits32 nx) rfl ?_ | refine callN_new (by with_reducible first | exact c_bits32 nx) ?_ | refine callM_flat (by with_reducible first | exact c_bits32 nx) rfl ?_ | refine callM_new (by with_reducible first | exact c_bits32 nx) ?_)
    simp
    rw [wrap64 (by omega) (by omega)]
theorem c_l01Same {x y : Nat} (hx : CanF .f32 x) (hy : CanF .f32 y) : Fun Tryz.prog 48 [.flt .f32 x, .flt .f32 y] [] (.bool (decide (x = y))) [] := by
  refine FnSpec.walkF dr_ok Tryz.func48 rfl (by kernel_rfl) rfl rfl rfl (by simp) ?_
  simp
  (first | refine callG_r ?_ | refine callD_r ?_); simp; (first | refine callN_flat (by with_reducible first | exact c_l01Bits hx) rfl ?_ | refine callN_new (by with_reducible first | exact c_l01Bits hx) ?_ | refine callM_flat (by with_reducible first | exact c_l01Bits hx) rfl ?_ | refine callM_new (by with_reducible first | exact c_l01Bits hx) ?_)
  simp
  (first | refine callG_r ?_ | refine callD_r ?_); simp; (first | refine callN_flat (by with_reducible first | exact c_l01Bits hy) rfl ?_ | refine callN_new (by with_reducible first | exact c_l01Bits hy) ?_ | refine callM_flat (by with_reducible first | exact c_l01Bits hy) rfl ?_ | refine callM_new (by with_reducible first | exact c_l01Bits hy) ?_)
  simp
  rw [Bool.eq_iff_iff]
  simp
  omega
theorem c_SameVector {v w : V} (hv : CanV v) (hw : CanV w) : Fun Tryz.prog 54 [aV v, aV w] [] (.bool (decide (v = w))) [] := by
  obtain ⟨v1, v2, v3⟩ := v
  obtain ⟨w1, w2, w3⟩ := w
  obtain ⟨h1, h2, h3⟩ := hv
  obtain ⟨g1, g2, g3⟩ := hw
  refine FnSpec.walkF dr_ok Tryz.func54 rfl (by kernel_rfl) rfl rfl rfl (by simp) ?_
  simp
  (first | refine callG_r ?_ | refine callD_r ?_); simp; (first | refine callN_flat (by with_reducible first | exact c_SameNumber h1 g1) rfl ?_ | refine callN_new (by with_reducible first | exact c_SameNumber h1 g1) ?_ | refine callM_flat (by with_reducible first | exact c_SameNumber h1 g1) rfl ?_ | refine callM_new (by with_reducible first | exact c_SameNumber h1 g1) ?_)
  by_cases e1 : v1 = w1
  · simp [e1]
    (first | refine callG_r ?_ | refine callD_r ?_); simp; (first | refine callN_flat (by with_reducible first | exact c_SameNumber h2 g2) rfl ?_ | refine callN_new (by with_reducible first | exact c_SameNumber h2 g2) ?_ | refine callM_flat (by with_reducible first | exact c_SameNumber h2 g2) rfl ?_ | refine callM_new (by with_reducible first | exact c_SameNumber h2 g2) ?_)
    by_cases e2 : v2 = w2
    · simp [e2]
      (first | refine callG_r ?_ | refine callD_r ?_); simp; (first | refine callN_flat (by with_reducible first | exact c_SameNumber h3 g3) rfl ?_ | refine callN_new (by with_reducible first | exact c_SameNumber h3 g3) ?_ | refine callM_flat (by with_reducible first | exact c_SameNumber h3 g3) rfl ?_ | refine callM_new (by with_reducible first | exact c_SameNumber h3 g3) ?_)
      simp [e1, e2]
    · simp [e2]
  · simp [e1]
theorem c_l01VSame {v w : V} (hv : CanV v) (hw : CanV w) : Fun Tryz.prog 56 [aV v, aV w] [] (.bool (decide (v = w))) [] := by
  obtain ⟨v1, v2, v3⟩ := v
  obtain ⟨w1, w2, w3⟩ := w
  obtain ⟨h1, h2, h3⟩ := hv
  obtain ⟨g1, g2, g3⟩ := hw
  refine FnSpec.walkF dr_ok Tryz.func56 rfl (by kernel_rfl) rfl rfl rfl (by simp) ?_
  simp
  (first | refine callG_r ?_ | refine callD_r ?_); simp; (first | refine callN_flat (by with_reducible first | exact c_l01Same h1 g1) rfl ?_ | refine callN_new (by with_reducible first | exact c_l01Same h1 g1) ?_ | refine callM_flat (by with_reducible first | exact c_l01Same h1 g1) rfl ?_ | refine callM_new (by with_reducible first | exact c_l01Same h1 g1) ?_)
  by_cases e1 : v1 = w1
  · simp [e1]
    (first | refine callG_r ?_ | refine callD_r ?_); simp; (first | refine callN_flat (by with_reducible first | exact c_l01Same h2 g2) rfl ?_ | refine callN_new (by with_reducible first | exact c_l01Same h2 g2) ?_ | refine callM_flat (by with_reducible first | exact c_l01Same h2 g2) rfl ?_ | refine callM_new (by with_reducible first | exact c_l01Same h2 g2) ?_)
    by_cases e2 : v2 = w2
    · simp [e2]
      (first | refine callG_r ?_ | refine callD_r ?_); simp; (first | refine callN_flat (by with_reducible first | exact c_l01Same h3 g3) rfl ?_ | refine callN_new (by with_reducible first | exact c_l01Same h3 g3) ?_ | refine callM_flat (by with_reducible first | exact c_l01Same h3 g3) rfl ?_ | refine callM_new (by with_reducible first | exact c_l01Same h3 g3) ?_)
      simp [e1, e2]
    · simp [e2]
  · simp [e1]
/-- Lists compared one after another. -/
theorem take_next {α : Type} {l l' : List α} {k : Nat} (hl : l.length = l'.length) (h : k < l.length) (ht : l.take k = l'.take k) (he : l[k] = l'[k]'(by omega)) : l.take (k + 1) = l'.take (k + 1) := by
  rw [← List.take_append_getElem h, ← List.take_append_getElem (by omega : k < l'.length), ht, he]
theorem take_ne {α : Type} {l l' : List α} {k : Nat} (h : k < l.length) (h' : k < l'.length) (he : l[k] ≠ l'[k]) : l ≠ l' := by
  intro e; subst e; exact he rfl
theorem c_EqualFuncV (l l' : List V) (n n' : Nat) (hn : n = l.length) (hn' : n' = l'.length) (h1 : l.length ≤ 1048576) (hv : ∀ v ∈ l, CanV v) (hv' : ∀ v ∈ l', CanV v) :
    Fun Tryz.prog 82 [.view false (cVs l) n, .view false (cVs l') n', .clo 54 [] []] [] (.bool (decide (l = l'))) [] := by
  subst hn; subst hn'
  refine FnSpec.walkF dr_ok Tryz.func82 rfl (by kernel_rfl) rfl rfl rfl (by simp) ?_
  simp
  by_cases hl : l.length = l'.length
  · simp [hl]
    refine loopG_of (α := Nat) (fun k => k ≤ l.length ∧ l.take k = l'.take k) (fun k => l.length - k) (fun k => [(17, .int .i64 k), (16, .int .i64 l.length), (15, .view false (cVs l) l.length), (1, .view false (cVs l') l'.length), (2, .clo 54 [] [])]) (fun k => []) 0 (by simp) ?_ fun k ⟨hk, hi⟩ => ?_
    · (refine weak_gc [] ?_ ?_ ?_ ?_ ?_ <;> simp [hl])
    have hw := nat_wrap (k := k) (by omega)
    by_cases b : k < l.length
    · have b' : k < l'.length := by omega
      simp [b, b', hw]
      (first | refine callG_r ?_ | refine callD_r ?_); simp; (first | refine callN_flat (by with_reducible first | exact c_SameVector (hv _ (List.getElem_mem b)) (hv' _ (List.getElem_mem b'))) rfl ?_ | refine callN_new (by with_reducible first | exact c_SameVector (hv _ (List.getElem_mem b)) (hv' _ (List.getElem_mem b'))) ?_ | refine callM_flat (by with_reducible first | exact c_SameVector (hv _ (List.getElem_mem b)) (hv' _ (List.getElem_mem b'))) rfl ?_ | refine callM_new (by with_reducible first | exact c_SameVector (hv _ (List.getElem_mem b)) (hv' _ (List.getElem_mem b'))) ?_)
      simp [hw]
      refine ⟨fun e => take_ne b b' e, fun e => loopK_next (k + 1) (by omega) ⟨by omega, take_next hl b hi e⟩ ?_⟩
      (refine weak_gc [] ?_ ?_ ?_ ?_ ?_ <;> simp)
    · obtain rfl : k = l.length := by omega
      simp
      rw [List.take_length, hl, List.take_length] at hi
      exact hi
  · exact ⟨fun _ e => hl (by rw [e]), fun e => absurd (show l.length = l'.length by omega) hl⟩
theorem c_Equal (l l' : List Int) (n n' : Nat) (hn : n = l.length) (hn' : n' = l'.length) (h1 : l.length ≤ 1048576) :
    Fun Tryz.prog 110 [.view false (cIs l) n, .view false (cIs l') n'] [] (.bool (decide (l = l'))) [] := by
  subst hn; subst hn'
  refine FnSpec.walkF dr_ok Tryz.func110 rfl (by kernel_rfl) rfl rfl rfl (by simp) ?_
  simp
  by_cases hl : l.length = l'.length
  · simp [hl]
    refine loopG_of (α := Nat) (fun k => k ≤ l.length ∧ l.take k = l'.take k) (fun k => l.length - k) (fun k => [(13, .int .i64 k), (12, .int .i64 l.length), (0, .view false (cIs l) l.length), (1, .view false (cIs l') l'.length)]) (fun k => []) 0 (by simp) ?_ fun k ⟨hk, hi⟩ => ?_
    · (refine weak_gc [] ?_ ?_ ?_ ?_ ?_ <;> simp [hl])
    have hw := nat_wrap (k := k) (by omega)
    by_cases b : k < l.length
    · have b' : k < l'.length := by omega
      simp [b, b', hw]
      refine ⟨fun e => take_ne b b' e, fun e => loopK_next (k + 1) (by omega) ⟨by omega, take_next hl b hi e⟩ ?_⟩
      (refine weak_gc [] ?_ ?_ ?_ ?_ ?_ <;> simp)
    · obtain rfl : k = l.length := by omega
      simp
      rw [List.take_length, hl, List.take_length] at hi
      exact hi
  · exact ⟨fun _ e => hl (by rw [e]), fun e => absurd (show l.length = l'.length by omega) hl⟩
/-- Cloths are the same. -/
def sameC (a b : Clo) : Bool := decide (a.pl = b.pl) && decide (a.ol = b.ol) && decide (a.th = b.th) && decide (a.pin = b.pin)
end Go.Proofs.YtnjpigkijdnpkaaGreat
