/- Contracts of small functions on numbers. Contracts of what Go's model knows of itself: bits and roots of numbers. Contracts of what the laws do with their arguments. Contracts of what the laws do with cloths: sizes, copies, equality. Contracts: what a cloth must be. What the cloths are that the laws are given. Contracts: the reference's word on what a cloth must be; the law of it.
Conditions: none. -/
import Derived.Test.YtbjfkhjckfodbaaTyp
import Derived.Test.YtbjfkhjckfodbaaDat
import Derived.Test.YtbjfkhjckfodbaaEnt
namespace Go.Proofs.Ytbjfkhjckfodbaa
set_option linter.all false
open Go Go.Awp
set_option maxRecDepth 100000
set_option maxHeartbeats 4000000

/-- Finite, as the program asks it. -/
def finB (x : Nat) : Bool := ford .f32 (fop .sub .f32 x x) 0 == some .eq
def overB (x : Nat) : Bool := finB x && (ford .f32 x 0 == some .gt)
def inB (n a b : Int) : Bool := decide (a ≤ n) && decide (n ≤ b)
def vadd (a b : V) : V := (fop .add .f32 a.1 b.1, fop .add .f32 a.2.1 b.2.1, fop .add .f32 a.2.2 b.2.2)
def vsub (a b : V) : V := (fop .sub .f32 a.1 b.1, fop .sub .f32 a.2.1 b.2.1, fop .sub .f32 a.2.2 b.2.2)
def vscale (a : V) (k : Nat) : V := (fop .mul .f32 a.1 k, fop .mul .f32 a.2.1 k, fop .mul .f32 a.2.2 k)
def vinner (a b : V) : Nat := fop .add .f32 (fop .add .f32 (fop .mul .f32 a.1 b.1) (fop .mul .f32 a.2.1 b.2.1)) (fop .mul .f32 a.2.2 b.2.2)
abbrev aV (v : V) : AV := .agg [.flt .f32 v.1, .flt .f32 v.2.1, .flt .f32 v.2.2]
abbrev aT (v : Th) : AV := .agg [.int .i64 v.1, .int .i64 v.2.1, .flt .f32 v.2.2]
attribute [simp] aV aT
theorem c_within (n a b : Int) : Fun Try.prog 49 [.int .i64 n, .int .i64 a, .int .i64 b] [] (.bool (inB n a b)) [] := by
  refine FnSpec.walkF dr_ok Try.func49 rfl (by kernel_rfl) rfl rfl rfl (by simp) ?_
  simp [inB]
  grind
theorem c_l00In (n a b : Int) : Fun Try.prog 103 [.int .i64 n, .int .i64 a, .int .i64 b] [] (.bool (inB n a b)) [] := by
  refine FnSpec.walkF dr_ok Try.func103 rfl (by kernel_rfl) rfl rfl rfl (by simp) ?_
  simp [inB]
  grind
theorem c_isFinite (x : Nat) : Fun Try.prog 84 [.flt .f32 x] [] (.bool (finB x)) [] := by
  refine FnSpec.walkF dr_ok Try.func84 rfl (by kernel_rfl) rfl rfl rfl (by simp) ?_
  simp [finB]
theorem c_l01Finite (x : Nat) : Fun Try.prog 109 [.flt .f32 x] [] (.bool (finB x)) [] := by
  refine FnSpec.walkF dr_ok Try.func109 rfl (by kernel_rfl) rfl rfl rfl (by simp) ?_
  simp [finB]
theorem c_isOver (x : Nat) : Fun Try.prog 59 [.flt .f32 x] [] (.bool (overB x)) [] := by
  refine FnSpec.walkF dr_ok Try.func59 rfl (by kernel_rfl) rfl rfl rfl (by simp) ?_
  simp
  (first | refine callG_r ?_ | refine callD_r ?_); simp; (first | refine callN_flat (by with_reducible first | exact c_isFinite _) rfl ?_ | refine callN_new (by with_reducible first | exact c_isFinite _) ?_ | refine callM_flat (by with_reducible first | exact c_isFinite _) rfl ?_ | refine callM_new (by with_reducible first | exact c_isFinite _) ?_)
  simp [overB]
  grind
theorem c_l02Size (x : Nat) : Fun Try.prog 91 [.flt .f32 x] [] (.bool (overB x)) [] := by
  refine FnSpec.walkF dr_ok Try.func91 rfl (by kernel_rfl) rfl rfl rfl (by simp) ?_
  simp
  (first | refine callG_r ?_ | refine callD_r ?_); simp; (first | refine callN_flat (by with_reducible first | exact c_l01Finite _) rfl ?_ | refine callN_new (by with_reducible first | exact c_l01Finite _) ?_ | refine callM_flat (by with_reducible first | exact c_l01Finite _) rfl ?_ | refine callM_new (by with_reducible first | exact c_l01Finite _) ?_)
  simp [overB]
  grind
theorem c_add (a1 a2 a3 b1 b2 b3 : Nat) : Fun Try.prog 17 [.agg [.flt .f32 a1, .flt .f32 a2, .flt .f32 a3], .agg [.flt .f32 b1, .flt .f32 b2, .flt .f32 b3]] [] (aV (vadd (a1, a2, a3) (b1, b2, b3))) [] := by
  refine FnSpec.walkF dr_ok Try.func17 rfl (by kernel_rfl) rfl rfl rfl (by simp) ?_
  simp [aV, vadd]
theorem c_less (a1 a2 a3 b1 b2 b3 : Nat) : Fun Try.prog 54 [.agg [.flt .f32 a1, .flt .f32 a2, .flt .f32 a3], .agg [.flt .f32 b1, .flt .f32 b2, .flt .f32 b3]] [] (aV (vsub (a1, a2, a3) (b1, b2, b3))) [] := by
  refine FnSpec.walkF dr_ok Try.func54 rfl (by kernel_rfl) rfl rfl rfl (by simp) ?_
  simp [aV, vsub]
theorem c_scale (a1 a2 a3 k : Nat) : Fun Try.prog 85 [.agg [.flt .f32 a1, .flt .f32 a2, .flt .f32 a3], .flt .f32 k] [] (aV (vscale (a1, a2, a3) k)) [] := by
  refine FnSpec.walkF dr_ok Try.func85 rfl (by kernel_rfl) rfl rfl rfl (by simp) ?_
  simp [aV, vscale]
theorem c_l01Add (a1 a2 a3 b1 b2 b3 : Nat) : Fun Try.prog 47 [.agg [.flt .f32 a1, .flt .f32 a2, .flt .f32 a3], .agg [.flt .f32 b1, .flt .f32 b2, .flt .f32 b3]] [] (aV (vadd (a1, a2, a3) (b1, b2, b3))) [] := by
  refine FnSpec.walkF dr_ok Try.func47 rfl (by kernel_rfl) rfl rfl rfl (by simp) ?_
  simp [aV, vadd]
theorem c_l01Scale (a1 a2 a3 k : Nat) : Fun Try.prog 93 [.agg [.flt .f32 a1, .flt .f32 a2, .flt .f32 a3], .flt .f32 k] [] (aV (vscale (a1, a2, a3) k)) [] := by
  refine FnSpec.walkF dr_ok Try.func93 rfl (by kernel_rfl) rfl rfl rfl (by simp) ?_
  simp [aV, vscale]
theorem c_inner (a1 a2 a3 b1 b2 b3 : Nat) : Fun Try.prog 27 [.agg [.flt .f32 a1, .flt .f32 a2, .flt .f32 a3], .agg [.flt .f32 b1, .flt .f32 b2, .flt .f32 b3]] [] (.flt .f32 (vinner (a1, a2, a3) (b1, b2, b3))) [] := by
  refine FnSpec.walkF dr_ok Try.func27 rfl (by kernel_rfl) rfl rfl rfl (by simp) ?_
  simp [aV, vinner]
theorem c_l01Inner (a1 a2 a3 b1 b2 b3 : Nat) : Fun Try.prog 113 [.agg [.flt .f32 a1, .flt .f32 a2, .flt .f32 a3], .agg [.flt .f32 b1, .flt .f32 b2, .flt .f32 b3]] [] (.flt .f32 (vinner (a1, a2, a3) (b1, b2, b3))) [] := by
  refine FnSpec.walkF dr_ok Try.func113 rfl (by kernel_rfl) rfl rfl rfl (by simp) ?_
  simp [aV, vinner]
end Go.Proofs.Ytbjfkhjckfodbaa
namespace Go.Proofs.Ytbjfkhjckfodbaa
set_option linter.all false
open Go Go.Awp
set_option maxRecDepth 100000
set_option maxHeartbeats 4000000

theorem c_bits64 {x : Nat} (h : nanB .f64 x = false) : Fun Try.prog 105 [.flt .f64 x] [] (.int .u64 x) [] := by
  refine FnSpec.of_extern (e := Extern.MathFloatBits.float64bits) Try.func105 rfl rfl (by kernel_rfl) (by kernel_rfl) fun w E vs hv => ?_
  obtain ⟨h1, h2⟩ := hv
  obtain ⟨vs⟩ := vs
  match vs, h1 with
  | [v], _ =>
    have hr := h2 0 _ v rfl rfl
    cases hr with
    | flt _ _ r hr hl =>
      have hn : nanB .f64 r = false := by rw [← nanB_cn, hr]; exact h
      have e : r = x := by rw [← hr, cn_num hn]
      subst e
      exact ⟨.int .u64 r, 0, .int .u64 r, rfl, .int _ _, rfl, rfl, rfl⟩
theorem fsqrt_some {f : Ieee.Format} {x r : Nat} (h : f.sqrt x = some r) : (f.read r).isNaN = false := map_write_num f (fun _ h => root_num h) h
theorem c_msqrt (x : Nat) : Fun Try.prog 106 [.flt .f64 x] [] (.flt .f64 (fsqrt x)) [] := by
  refine FnSpec.of_extern (e := Extern.MathSqrt.sqrt) Try.func106 rfl rfl (by kernel_rfl) (by kernel_rfl) fun w E vs hv => ?_
  obtain ⟨h1, h2⟩ := hv
  obtain ⟨vs⟩ := vs
  match vs, h1 with
  | [v], _ =>
    have hr := h2 0 _ v rfl rfl
    cases hr with
    | flt _ _ r hr hl =>
      cases hs : FloatKind.f64.format.sqrt r with
      | some q =>
        refine ⟨.float .f64 q, 0, .flt .f64 (fsqrt x), ?_, .flt _ _ _ ?_ ?_, rfl, rfl, rfl⟩
        · have e : (Extern.MathSqrt.sqrt #[Value.float .f64 r]) = (match FloatKind.f64.format.sqrt r with
            | some r => pure (.float .f64 r)
            | none => do pure (.float .f64 (← choose (.nanBits .f64 r r)))) := rfl
          show (Extern.MathSqrt.sqrt #[Value.float .f64 r]).run _ _ = _
          rw [e, hs]; rfl
        · rw [← hr, fsqrt_cn, cn_num (fsqrt_some hs)]; simp only [fsqrt, hs, Option.getD_some]
        · unfold Ieee.Format.sqrt at hs
          cases hd : (FloatKind.f64.format.read r).root (FloatKind.f64.format.fractionBits + 2) with
          | none => rw [hd] at hs; cases hs
          | some d => rw [hd] at hs; cases hs; exact FloatKind.f64.format.write_lt d
      | none =>
        refine ⟨.float .f64 (Question.cut (.nanBits .f64 r r) (w.tape w.drawn (.nanBits .f64 r r))), 1, .flt .f64 (fsqrt x), ?_, .flt _ _ _ ?_ ?_, rfl, rfl, rfl⟩
        · have e : (Extern.MathSqrt.sqrt #[Value.float .f64 r]) = (match FloatKind.f64.format.sqrt r with
            | some r => pure (.float .f64 r)
            | none => do pure (.float .f64 (← choose (.nanBits .f64 r r)))) := rfl
          show (Extern.MathSqrt.sqrt #[Value.float .f64 r]).run _ _ = _
          rw [e, hs]
          simp [Question.forced, World.drewN]
        · rw [cut_nanBits, cn_nan (nan_pat .f64 _), ← hr, fsqrt_cn]; simp only [fsqrt, hs, Option.getD_none]
        · rw [cut_nanBits]; exact nan_pat_lt .f64 _
theorem c_Msqrt (x : Nat) : Fun Try.prog 89 [.flt .f64 x] [] (.flt .f64 (fsqrt x)) [] := by
  refine FnSpec.walkF dr_ok Try.func89 rfl (by kernel_rfl) rfl rfl rfl (by simp) ?_
  simp
  (first | refine callG_r ?_ | refine callD_r ?_); simp; (first | refine callN_flat (by with_reducible first | exact c_msqrt _) rfl ?_ | refine callN_new (by with_reducible first | exact c_msqrt _) ?_ | refine callM_flat (by with_reducible first | exact c_msqrt _) rfl ?_ | refine callM_new (by with_reducible first | exact c_msqrt _) ?_)
  simp
theorem c_root (x : Nat) : Fun Try.prog 65 [.flt .f32 x] [] (.flt .f32 (froot x)) [] := by
  refine FnSpec.walkF dr_ok Try.func65 rfl (by kernel_rfl) rfl rfl rfl (by simp) ?_
  simp
  (first | refine callG_r ?_ | refine callD_r ?_); simp; (first | refine callN_flat (by with_reducible first | exact c_Msqrt _) rfl ?_ | refine callN_new (by with_reducible first | exact c_Msqrt _) ?_ | refine callM_flat (by with_reducible first | exact c_Msqrt _) rfl ?_ | refine callM_new (by with_reducible first | exact c_Msqrt _) ?_)
  simp
theorem c_l01Narrow {x y : Nat} (h : fcvt .f64 .f32 x = some y) : Fun Try.prog 107 [.flt .f64 x] [] (.flt .f32 y) [] := by
  refine FnSpec.walkF dr_ok Try.func107 rfl (by kernel_rfl) rfl rfl rfl (by simp) ?_
  simp [h]
theorem c_l01Sqrt (x : Nat) : Fun Try.prog 112 [.flt .f32 x] [] (.flt .f32 (froot x)) [] := by
  refine FnSpec.walkF dr_ok Try.func112 rfl (by kernel_rfl) rfl rfl rfl (by simp) ?_
  simp
  (first | refine callG_r ?_ | refine callD_r ?_); simp; (first | refine callN_flat (by with_reducible first | exact c_Msqrt _) rfl ?_ | refine callN_new (by with_reducible first | exact c_Msqrt _) ?_ | refine callM_flat (by with_reducible first | exact c_Msqrt _) rfl ?_ | refine callM_new (by with_reducible first | exact c_Msqrt _) ?_)
  simp
  (first | refine callG_r ?_ | refine callD_r ?_); simp; (first | refine callN_flat (by with_reducible first | exact c_l01Narrow (fcvt_froot _)) rfl ?_ | refine callN_new (by with_reducible first | exact c_l01Narrow (fcvt_froot _)) ?_ | refine callM_flat (by with_reducible first | exact c_l01Narrow (fcvt_froot _)) rfl ?_ | refine callM_new (by with_reducible first | exact c_l01Narrow (fcvt_froot _)) ?_)
  simp
def vlong (v : V) : Nat := froot (vinner v v)
theorem c_long (x y z : Nat) : Fun Try.prog 26 [.agg [.flt .f32 x, .flt .f32 y, .flt .f32 z]] [] (.flt .f32 (vlong (x, y, z))) [] := by
  refine FnSpec.walkF dr_ok Try.func26 rfl (by kernel_rfl) rfl rfl rfl (by simp) ?_
  simp
  (first | refine callG_r ?_ | refine callD_r ?_); simp; (first | refine callN_flat (by with_reducible first | exact c_inner _ _ _ _ _ _) rfl ?_ | refine callN_new (by with_reducible first | exact c_inner _ _ _ _ _ _) ?_ | refine callM_flat (by with_reducible first | exact c_inner _ _ _ _ _ _) rfl ?_ | refine callM_new (by with_reducible first | exact c_inner _ _ _ _ _ _) ?_)
  simp
  (first | refine callG_r ?_ | refine callD_r ?_); simp; (first | refine callN_flat (by with_reducible first | exact c_root _) rfl ?_ | refine callN_new (by with_reducible first | exact c_root _) ?_ | refine callM_flat (by with_reducible first | exact c_root _) rfl ?_ | refine callM_new (by with_reducible first | exact c_root _) ?_)
  simp [vlong]
theorem c_l01Long (x y z : Nat) : Fun Try.prog 94 [.agg [.flt .f32 x, .flt .f32 y, .flt .f32 z]] [] (.flt .f32 (vlong (x, y, z))) [] := by
  refine FnSpec.walkF dr_ok Try.func94 rfl (by kernel_rfl) rfl rfl rfl (by simp) ?_
  simp
  (first | refine callG_r ?_ | refine callD_r ?_); simp; (first | refine callN_flat (by with_reducible first | exact c_l01Inner _ _ _ _ _ _) rfl ?_ | refine callN_new (by with_reducible first | exact c_l01Inner _ _ _ _ _ _) ?_ | refine callM_flat (by with_reducible first | exact c_l01Inner _ _ _ _ _ _) rfl ?_ | refine callM_new (by with_reducible first | exact c_l01Inner _ _ _ _ _ _) ?_)
  simp
  (first | refine callG_r ?_ | refine callD_r ?_); simp; (first | refine callN_flat (by with_reducible first | exact c_l01Sqrt _) rfl ?_ | refine callN_new (by with_reducible first | exact c_l01Sqrt _) ?_ | refine callM_flat (by with_reducible first | exact c_l01Sqrt _) rfl ?_ | refine callM_new (by with_reducible first | exact c_l01Sqrt _) ?_)
  simp [vlong]
end Go.Proofs.Ytbjfkhjckfodbaa
namespace Go.Proofs.Ytbjfkhjckfodbaa
set_option linter.all false
open Go Go.Awp
set_option maxRecDepth 100000
set_option maxHeartbeats 4000000

end Go.Proofs.Ytbjfkhjckfodbaa
namespace Go.Proofs.Ytbjfkhjckfodbaa
set_option linter.all false
open Go Go.Awp
set_option maxRecDepth 100000
set_option maxHeartbeats 4000000

/-- What is left of a size. -/
def szL (n : Nat) (left : Int) : Int := if left - n < 0 then -1 else left - n
theorem szL_le {n : Nat} {left : Int} (h : left ≤ 1048576) : szL n left ≤ 1048576 := by unfold szL; split <;> omega
theorem szL_ok {n : Nat} {left : Int} (h : ¬ szL n left < 0) : (n : Int) ≤ left := by unfold szL at h; split at h <;> omega
def szC (a b c d : Nat) : Int := if szL a 1048576 < 0 then -1 else if szL b (szL a 1048576) < 0 then -1 else if szL c (szL b (szL a 1048576)) < 0 then -1 else if szL d (szL c (szL b (szL a 1048576))) < 0 then -1 else szL d (szL c (szL b (szL a 1048576)))
theorem szC_ok {a b c d : Nat} (h : ¬ szC a b c d < 0) : a ≤ 1048576 ∧ b ≤ 1048576 ∧ c ≤ 1048576 ∧ d ≤ 1048576 := by
  unfold szC at h
  split at h
  · omega
  · split at h
    · omega
    · split at h
      · omega
      · split at h
        · omega
        · rename_i h1 h2 h3 h4
          have a1 := szL_ok h1
          have a2 := szL_ok h2
          have a3 := szL_ok h3
          have a4 := szL_ok h4
          have b1 := szL_le (n := a) (left := 1048576) (by omega)
          have b2 := szL_le (n := b) b1
          have b3 := szL_le (n := c) b2
          omega
/-- A cloth: places, where they were, threads, pins. -/
structure Clo where
  pl : List V
  ol : List V
  th : List Th
  pin : List Int
/-- A cloth as what is only read. -/
abbrev Clo.av (c : Clo) : AV := .agg [.view false (cVs c.pl) c.pl.length, .view false (cVs c.ol) c.ol.length, .view false (cTs c.th) c.th.length, .view false (cIs c.pin) c.pin.length]
/-- A cloth in memory of its own. -/
abbrev Clo.own (c : Clo) (r : Nat) : AV := .agg [.slc r 0 c.pl.length 3, .slc (r + 1) 0 c.ol.length 3, .slc (r + 2) 0 c.th.length 3, .slc (r + 3) 0 c.pin.length 1]
abbrev Clo.mem (c : Clo) : Heap := [.blk true false 38 (cVs c.pl), .blk true false 38 (cVs c.ol), .blk true false 33 (cTs c.th), .blk true false 2 (cIs c.pin)]
attribute [simp] Clo.av Clo.own Clo.mem
structure Clo.Small (c : Clo) : Prop where
  pl : c.pl.length ≤ 1048576
  ol : c.ol.length ≤ 1048576
  th : c.th.length ≤ 1048576
  pin : c.pin.length ≤ 1048576

end Go.Proofs.Ytbjfkhjckfodbaa
namespace Go.Proofs.Ytbjfkhjckfodbaa
set_option linter.all false
open Go Go.Awp
set_option maxRecDepth 100000
set_option maxHeartbeats 4000000
set_option pp.deepTerms false
set_option pp.deepTerms.threshold 8

def thrB (n : Int) (t : Th) : Bool := inB t.1 0 (n - 1) && inB t.2.1 0 (n - 1) && !decide (t.1 = t.2.1) && overB t.2.2
def pinsF (n : Int) : Int → List Int → Bool
  | _, [] => true
  | last, p :: l => inB p (last + 1) (n - 1) && pinsF n p l
def vldC (c : Clo) : Bool := decide (c.pl.length ≤ 64) && decide (c.ol.length = c.pl.length) && decide (c.th.length ≤ 256) && c.th.all (thrB c.pl.length) && pinsF c.pl.length (-1) c.pin

theorem c_ValidCloth (c : Clo) (hs : c.Small) : Fun Try.prog 19 [c.av] [] (.bool (vldC c)) [] := by
  obtain ⟨h1, h2, h3, h4⟩ := hs
  refine FnSpec.walkF dr_ok Try.func19 rfl (by kernel_rfl) rfl rfl rfl (by simp) ?_
  simp
  refine ⟨fun a1 => ⟨fun a2 => ⟨fun a3 => ?_, fun a3 => ?_⟩, fun a2 => ?_⟩, fun a1 => ?_⟩
  · unfold vldC
    rw [decide_eq_false (p := c.th.length ≤ 256) (by omega)]; simp
  · have hv : vldC c = (c.th.all (thrB c.pl.length) && pinsF c.pl.length (-1) c.pin) := by
      unfold vldC
      rw [decide_eq_true (p := c.pl.length ≤ 64) (by omega), decide_eq_true (p := c.ol.length = c.pl.length) (by omega), decide_eq_true (p := c.th.length ≤ 256) (by omega)]; simp
    refine loopG_of (α := Nat) (fun k => k ≤ c.th.length ∧ vldC c = ((c.th.drop k).all (thrB c.pl.length) && pinsF c.pl.length (-1) c.pin)) (fun k => c.th.length - k)
      (fun k => [(1, .ptr 0 0), (3, .int .i64 c.pl.length), (28, .view false (cTs c.th) c.th.length), (29, .int .i64 c.th.length), (30, .int .i64 k)])
      (fun k => [.blk true true 28 [.view false (cVs c.pl) c.pl.length, .view false (cVs c.ol) c.ol.length, .view false (cTs c.th) c.th.length, .view false (cIs c.pin) c.pin.length]]) 0 ⟨by omega, by simpa using hv⟩ (weak_UH rfl (by simp)) fun k ⟨hk, hi⟩ => ?_
    have hw := nat_wrap (k := k) (by omega)
    have hn : IntKind.i64.wrap ((c.pl.length : Int) - 1) = (c.pl.length : Int) - 1 := wrap64 (by omega) (by omega)
    by_cases b : k < c.th.length
    · rw [List.drop_eq_getElem_cons b, List.all_cons] at hi
      simp [b, hw, hn]
      (first | refine callG_r ?_ | refine callD_r ?_); simp; (first | refine callN_flat (by with_reducible first | exact c_within _ _ _) rfl ?_ | refine callN_new (by with_reducible first | exact c_within _ _ _) ?_ | refine callM_flat (by with_reducible first | exact c_within _ _ _) rfl ?_ | refine callM_new (by with_reducible first | exact c_within _ _ _) ?_)
      simp [hw, hn]
      refine ⟨fun e1 => ?_, fun e1 => by rw [hi]; simp [thrB, e1]⟩
      (first | refine callG_r ?_ | refine callD_r ?_); simp; (first | refine callN_flat (by with_reducible first | exact c_within _ _ _) rfl ?_ | refine callN_new (by with_reducible first | exact c_within _ _ _) ?_ | refine callM_flat (by with_reducible first | exact c_within _ _ _) rfl ?_ | refine callM_new (by with_reducible first | exact c_within _ _ _) ?_)
      simp [hw, hn]
      refine ⟨fun e2 => ⟨fun e3 => ?_, fun e3 => by rw [hi]; simp [thrB, e3]⟩, fun e2 => by rw [hi]; simp [thrB, e2]⟩
      (first | refine callG_r ?_ | refine callD_r ?_); simp; (first | refine callN_flat (by with_reducible first | exact c_isOver _) rfl ?_ | refine callN_new (by with_reducible first | exact c_isOver _) ?_ | refine callM_flat (by with_reducible first | exact c_isOver _) rfl ?_ | refine callM_new (by with_reducible first | exact c_isOver _) ?_)
      simp [hw, hn]
      refine ⟨fun e4 => by rw [hi]; simp [thrB, e4], fun e4 => ?_⟩
      refine loopK_next (k + 1) ?_ ?_ ?_
      · omega
      · refine ⟨by omega, ?_⟩
        rw [hi]; simp [thrB, e1, e2, e3, e4]
      · (refine weak_gc [(some 0, 0)] ?_ ?_ ?_ ?_ ?_ <;> simp)
    · obtain rfl : k = c.th.length := by omega
      simp
      refine loopG_of (α := Nat × Int) (fun x => x.1 ≤ c.pin.length ∧ -1 ≤ x.2 ∧ x.2 ≤ 64 ∧ vldC c = pinsF c.pl.length x.2 (c.pin.drop x.1)) (fun x => c.pin.length - x.1)
        (fun x => [(3, .int .i64 c.pl.length), (6, .int .i64 x.2), (63, .view false (cIs c.pin) c.pin.length), (64, .int .i64 c.pin.length), (65, .int .i64 x.1)])
        (fun x => []) (0, -1) ⟨by simp, by simp, by simp, by simpa using hi⟩ ?_ fun x ⟨hx, hx0, hx1, hx2⟩ => ?_
      · (refine weak_gc [] ?_ ?_ ?_ ?_ ?_ <;> simp)
      · obtain ⟨j, last⟩ := x
        simp only at hx hx0 hx1 hx2
        have hw := nat_wrap (k := j) (by omega)
        have hl : IntKind.i64.wrap (last + 1) = last + 1 := wrap64 (by omega) (by omega)
        by_cases b : j < c.pin.length
        · rw [List.drop_eq_getElem_cons b] at hx2
          simp [b, hw, hn, hl]
          (first | refine callG_r ?_ | refine callD_r ?_); simp; (first | refine callN_flat (by with_reducible first | exact c_within _ _ _) rfl ?_ | refine callN_new (by with_reducible first | exact c_within _ _ _) ?_ | refine callM_flat (by with_reducible first | exact c_within _ _ _) rfl ?_ | refine callM_new (by with_reducible first | exact c_within _ _ _) ?_)
          simp [hw, hn]
          refine ⟨fun e1 => by rw [hx2]; simp [pinsF, e1], fun e1 => ?_⟩
          have e2 := e1
          simp [inB] at e2
          refine loopK_next (j + 1, c.pin[j]) ?_ ?_ ?_
          · simp; omega
          · refine ⟨by simp; omega, by simp; omega, by simp; omega, ?_⟩
            rw [hx2]; simp [pinsF, e1]
          · (refine weak_gc [] ?_ ?_ ?_ ?_ ?_ <;> simp)
        · obtain rfl : j = c.pin.length := by omega
          simp
          rw [hx2]; simp [pinsF]
  · unfold vldC
    rw [decide_eq_false (p := c.ol.length = c.pl.length) (by omega)]; simp
  · unfold vldC
    rw [decide_eq_false (p := c.pl.length ≤ 64) (by omega)]; simp

theorem pinsF_last {n : Int} : ∀ {l : List Int} {a b : Int}, -1 ≤ a → pinsF n a l = true → b ≤ a → pinsF n b l = true
  | [], _, _, _, _, _ => rfl
  | p :: l, a, b, h0, h, hb => by
    simp [pinsF, inB] at h ⊢
    exact ⟨by omega, h.2⟩
end Go.Proofs.Ytbjfkhjckfodbaa
namespace Go.Proofs.Ytbjfkhjckfodbaa
set_option linter.all false
open Go Go.Awp
set_option maxRecDepth 100000
set_option maxHeartbeats 4000000

theorem opens_I : Opens Try.prog 2 fun l => ∃ n : Int, I64 n ∧ l = [.int .i64 n] := (opens_int Try.underlying2).mono (by
    rintro l ⟨x, hx, rfl⟩
    exact ⟨x, wf_i64 hx, rfl⟩)
theorem flat_ints (l : List Int) : l.flatMap (fun n => [AV.int .i64 n]) = cIs l := by
  induction l with
  | nil => rfl
  | cons a l ih => simp only [List.flatMap_cons, ih]; rfl
theorem opens_Is : Opens Try.prog 26 fun l => ∃ vs : List Int, ((∀ v ∈ vs, I64 v) ∧ vs.length ≤ maxLen) ∧ l = [.view false (cIs vs) vs.length] :=
  (opens_slice (enc' := fun n : Int => [AV.int .i64 n]) Try.underlying26 (by kernel_rfl) (by decide : 0 < 1) (fun _ => rfl) opens_I).mono (by
    rintro l ⟨vs, h, rfl⟩
    exact ⟨vs, h, by rw [flat_ints]⟩)
structure Clo.Can (c : Clo) : Prop where
  pl : ∀ v ∈ c.pl, CanV v
  ol : ∀ v ∈ c.ol, CanV v
  th : ∀ v ∈ c.th, CanT v
  pin : ∀ v ∈ c.pin, I64 v
structure Clo.Len (c : Clo) : Prop where
  pl : c.pl.length ≤ 9223372036854775807
  ol : c.ol.length ≤ 9223372036854775807
  th : c.th.length ≤ 9223372036854775807
  pin : c.pin.length ≤ 9223372036854775807
theorem arg_F : ArgOk Try.prog 31 fun a => ∃ x, CanF .f32 x ∧ a = .flt .f32 x :=
  argOk_one (by rw [Try.underlying31]; intro fs h; cases h) (by rw [Try.underlying31]; intro n e h; cases h) ((opens_float Try.underlying31).mono (by
    rintro l ⟨x, hx, rfl⟩
    exact ⟨_, ⟨x, hx, rfl⟩, rfl⟩))
theorem arg_I : ArgOk Try.prog 2 fun a => ∃ n : Int, I64 n ∧ a = .int .i64 n :=
  argOk_one (by rw [Try.underlying2]; intro fs h; cases h) (by rw [Try.underlying2]; intro n e h; cases h) (opens_I.mono (by
    rintro l ⟨x, hx, rfl⟩
    exact ⟨_, ⟨x, hx, rfl⟩, rfl⟩))
theorem arg_Is : ArgOk Try.prog 26 fun a => ∃ vs : List Int, ((∀ v ∈ vs, I64 v) ∧ vs.length ≤ maxLen) ∧ a = .view false (cIs vs) vs.length :=
  argOk_one (by rw [Try.underlying26]; intro fs h; cases h) (by rw [Try.underlying26]; intro n e h; cases h) (opens_Is.mono (by
    rintro l ⟨x, hx, rfl⟩
    exact ⟨_, ⟨x, hx, rfl⟩, rfl⟩))
theorem relL_of {W : World} {avs : List AV} {args : Array Value} (h1 : avs.length = args.toList.length) (h2 : ∀ (i : Nat) a v, avs[i]? = some a → args.toList[i]? = some v → VRel W (env0 W) a v) : RelL W (env0 W) avs args :=
  ⟨by simpa using h1, fun i a v ha hv => h2 i a v ha (by simpa using hv)⟩
end Go.Proofs.Ytbjfkhjckfodbaa
namespace Go.Proofs.Ytbjfkhjckfodbaa
set_option linter.all false
open Go Go.Awp
set_option maxRecDepth 100000
set_option maxHeartbeats 4000000
set_option pp.deepTerms false
set_option pp.deepTerms.threshold 8

/-- A pointer to a cloth that is only read. -/
abbrev Clo.pv (c : Clo) : AV := .vptr false [.view false (cVs c.pl) c.pl.length, .view false (cVs c.ol) c.ol.length, .view false (cTs c.th) c.th.length, .view false (cIs c.pin) c.pin.length]
attribute [simp] Clo.pv
theorem small_of {c : Clo} (h : 0 ≤ szC c.pl.length c.ol.length c.th.length c.pin.length) : c.Small := by
  obtain ⟨h1, h2, h3, h4⟩ := szC_ok (Int.not_lt.2 h)
  exact ⟨h1, h2, h3, h4⟩
end Go.Proofs.Ytbjfkhjckfodbaa
