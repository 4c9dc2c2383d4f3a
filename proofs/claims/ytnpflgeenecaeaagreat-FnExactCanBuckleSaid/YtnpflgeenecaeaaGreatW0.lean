/- Contracts of small functions on numbers. Contracts of what Go's model knows of itself: bits and roots of numbers. Contracts of what the laws do with their arguments. Contracts of what the laws do with cloths: sizes, copies, equality. What the cloths are that the laws are given. Contracts: what a cloth must be.
Conditions: none. -/
import Derived.Test.YtnpflgeenecaeaaGreatTyp
import Derived.Test.YtnpflgeenecaeaaGreatDat
import Derived.Test.YtnpflgeenecaeaaGreatEnt
namespace Go.Proofs.YtnpflgeenecaeaaGreat
set_option linter.all false
open Go Go.Awp
set_option maxRecDepth 100000
set_option maxHeartbeats 4000000

/-- Finite, as the program asks it. -/
def finB (x : Nat) : Bool := ford .f32 (fop .sub .f32 x x) 0 == some .eq
def overB (x : Nat) : Bool := finB x && (ford .f32 x 0 == some .gt)
def inB (n a b : Int) : Bool := decide (a ≤ n) && decide (n ≤ b)
def vadd (a b : V) : V := (fop .add .f32 a.1 b.1, fop .add .f32 a.2.1 b.2.1, fop .add .f32 a.2.2 b.2.2)
def vsub (a b : V) : V := (fop .sub .f32 a.1 b.1, fop .sub .f32 a.2.1 b.2.1, fop .sub .f32 a.2.2 b.2.2)
def vscale (a : V) (k : Nat) : V := (fop .mul .f32 a.1 k, fop .mul .f32 a.2.1 k, fop .mul .f32 a.2.2 k)
def vinner (a b : V) : Nat := fop .add .f32 (fop .add .f32 (fop .mul .f32 a.1 b.1) (fop .mul .f32 a.2.1 b.2.1)) (fop .mul .f32 a.2.2 b.2.2)
abbrev aV (v : V) : AV := .agg [.flt .f32 v.1, .flt .f32 v.2.1, .flt .f32 v.2.2]
abbrev aT (v : Th) : AV := .agg [.int .i64 v.1, .int .i64 v.2.1, .flt .f32 v.2.2]
attribute [simp] aV aT
theorem c_within (n a b : Int) : Fun Tryz.prog 53 [.int .i64 n, .int .i64 a, .int .i64 b] [] (.bool (inB n a b)) [] := by
  refine FnSpec.walkF dr_ok Tryz.func53 rfl (by kernel_rfl) rfl rfl rfl (by simp) ?_
  simp [inB]
  grind
theorem c_l00In (n a b : Int) : Fun Tryz.prog 45 [.int .i64 n, .int .i64 a, .int .i64 b] [] (.bool (inB n a b)) [] := by
  refine FnSpec.walkF dr_ok Tryz.func45 rfl (by kernel_rfl) rfl rfl rfl (by simp) ?_
  simp [inB]
  grind
theorem c_isFinite (x : Nat) : Fun Tryz.prog 115 [.flt .f32 x] [] (.bool (finB x)) [] := by
  refine FnSpec.walkF dr_ok Tryz.func115 rfl (by kernel_rfl) rfl rfl rfl (by simp) ?_
  simp [finB]
theorem c_l01Finite (x : Nat) : Fun Tryz.prog 102 [.flt .f32 x] [] (.bool (finB x)) [] := by
  refine FnSpec.walkF dr_ok Tryz.func102 rfl (by kernel_rfl) rfl rfl rfl (by simp) ?_
  simp [finB]
theorem c_isOver (x : Nat) : Fun Tryz.prog 88 [.flt .f32 x] [] (.bool (overB x)) [] := by
  refine FnSpec.walkF dr_ok Tryz.func88 rfl (by kernel_rfl) rfl rfl rfl (by simp) ?_
  simp
  (first | refine callG_r ?_ | refine callD_r ?_); simp; (first | refine callN_flat (by with_reducible first | exact c_isFinite _) rfl ?_ | refine callN_new (by with_reducible first | exact c_isFinite _) ?_ | refine callM_flat (by with_reducible first | exact c_isFinite _) rfl ?_ | refine callM_new (by with_reducible first | exact c_isFinite _) ?_)
  simp [overB]
  grind
theorem c_add (a1 a2 a3 b1 b2 b3 : Nat) : Fun Tryz.prog 91 [.agg [.flt .f32 a1, .flt .f32 a2, .flt .f32 a3], .agg [.flt .f32 b1, .flt .f32 b2, .flt .f32 b3]] [] (aV (vadd (a1, a2, a3) (b1, b2, b3))) [] := by
  refine FnSpec.walkF dr_ok Tryz.func91 rfl (by kernel_rfl) rfl rfl rfl (by simp) ?_
  simp [aV, vadd]
theorem c_less (a1 a2 a3 b1 b2 b3 : Nat) : Fun Tryz.prog 75 [.agg [.flt .f32 a1, .flt .f32 a2, .flt .f32 a3], .agg [.flt .f32 b1, .flt .f32 b2, .flt .f32 b3]] [] (aV (vsub (a1, a2, a3) (b1, b2, b3))) [] := by
  refine FnSpec.walkF dr_ok Tryz.func75 rfl (by kernel_rfl) rfl rfl rfl (by simp) ?_
  simp [aV, vsub]
theorem c_scale (a1 a2 a3 k : Nat) : Fun Tryz.prog 76 [.agg [.flt .f32 a1, .flt .f32 a2, .flt .f32 a3], .flt .f32 k] [] (aV (vscale (a1, a2, a3) k)) [] := by
  refine FnSpec.walkF dr_ok Tryz.func76 rfl (by kernel_rfl) rfl rfl rfl (by simp) ?_
  simp [aV, vscale]
theorem c_l01Add (a1 a2 a3 b1 b2 b3 : Nat) : Fun Tryz.prog 82 [.agg [.flt .f32 a1, .flt .f32 a2, .flt .f32 a3], .agg [.flt .f32 b1, .flt .f32 b2, .flt .f32 b3]] [] (aV (vadd (a1, a2, a3) (b1, b2, b3))) [] := by
  refine FnSpec.walkF dr_ok Tryz.func82 rfl (by kernel_rfl) rfl rfl rfl (by simp) ?_
  simp [aV, vadd]
theorem c_l01Less (a1 a2 a3 b1 b2 b3 : Nat) : Fun Tryz.prog 98 [.agg [.flt .f32 a1, .flt .f32 a2, .flt .f32 a3], .agg [.flt .f32 b1, .flt .f32 b2, .flt .f32 b3]] [] (aV (vsub (a1, a2, a3) (b1, b2, b3))) [] := by
  refine FnSpec.walkF dr_ok Tryz.func98 rfl (by kernel_rfl) rfl rfl rfl (by simp) ?_
  simp [aV, vsub]
theorem c_l01Scale (a1 a2 a3 k : Nat) : Fun Tryz.prog 83 [.agg [.flt .f32 a1, .flt .f32 a2, .flt .f32 a3], .flt .f32 k] [] (aV (vscale (a1, a2, a3) k)) [] := by
  refine FnSpec.walkF dr_ok Tryz.func83 rfl (by kernel_rfl) rfl rfl rfl (by simp) ?_
  simp [aV, vscale]
theorem c_inner (a1 a2 a3 b1 b2 b3 : Nat) : Fun Tryz.prog 121 [.agg [.flt .f32 a1, .flt .f32 a2, .flt .f32 a3], .agg [.flt .f32 b1, .flt .f32 b2, .flt .f32 b3]] [] (.flt .f32 (vinner (a1, a2, a3) (b1, b2, b3))) [] := by
  refine FnSpec.walkF dr_ok Tryz.func121 rfl (by kernel_rfl) rfl rfl rfl (by simp) ?_
  simp [aV, vinner]
theorem c_l01Inner (a1 a2 a3 b1 b2 b3 : Nat) : Fun Tryz.prog 113 [.agg [.flt .f32 a1, .flt .f32 a2, .flt .f32 a3], .agg [.flt .f32 b1, .flt .f32 b2, .flt .f32 b3]] [] (.flt .f32 (vinner (a1, a2, a3) (b1, b2, b3))) [] := by
  refine FnSpec.walkF dr_ok Tryz.func113 rfl (by kernel_rfl) rfl rfl rfl (by simp) ?_
  simp [aV, vinner]
end Go.Proofs.YtnpflgeenecaeaaGreat
namespace Go.Proofs.YtnpflgeenecaeaaGreat
set_option linter.all false
open Go Go.Awp
set_option maxRecDepth 100000
set_option maxHeartbeats 4000000

theorem fsqrt_some {f : Ieee.Format} {x r : Nat} (h : f.sqrt x = some r) : (f.read r).isNaN = false := map_write_num f (fun _ h => root_num h) h
theorem c_msqrt (x : Nat) : Fun Tryz.prog 141 [.flt .f64 x] [] (.flt .f64 (fsqrt x)) [] := by
  refine FnSpec.of_extern (e := Extern.MathSqrt.sqrt) Tryz.func141 rfl rfl (by kernel_rfl) (by kernel_rfl) fun w E vs hv => ?_
  obtain ⟨h1, h2⟩ := hv
  obtain ⟨vs⟩ := vs
  match vs, h1 with
  | [v], _ =>
    have hr := h2 0 _ v rfl rfl
    cases hr with
    | flt _ _ r hr hl =>
      cases hs : FloatKind.f64.format.sqrt r with
      | some q =>
        refine ⟨.float .f64 q, 0, .flt .f64 (fsqrt x), ?_, .flt _ _ _ ?_ ?_, rfl, rfl, rfl⟩
        · have e : (Extern.MathSqrt.sqrt #[Value.float .f64 r]) = (match FloatKind.f64.format.sqrt r with
            | some r => pure (.float .f64 r)
            | none => do pure (.float .f64 (← choose (.nanBits .f64 r r)))) := rfl
          show (Extern.MathSqrt.sqrt #[Value.float .f64 r]).run _ _ = _
          rw [e, hs]; rfl
        · rw [← hr, fsqrt_cn, cn_num (fsqrt_some hs)]; simp only [fsqrt, hs, Option.getD_some]
        · unfold Ieee.Format.sqrt at hs
          cases hd : (FloatKind.f64.format.read r).root (FloatKind.f64.format.fractionBits + 2) with
          | none => rw [hd] at hs; cases hs
          | some d => rw [hd] at hs; cases hs; exact FloatKind.f64.format.write_lt d
      | none =>
        refine ⟨.float .f64 (Question.cut (.nanBits .f64 r r) (w.tape w.drawn (.nanBits .f64 r r))), 1, .flt .f64 (fsqrt x), ?_, .flt _ _ _ ?_ ?_, rfl, rfl, rfl⟩
        · have e : (Extern.MathSqrt.sqrt #[Value.float .f64 r]) = (match FloatKind.f64.format.sqrt r with
            | some r => pure (.float .f64 r)
            | none => do pure (.float .f64 (← choose (.nanBits .f64 r r)))) := rfl
          show (Extern.MathSqrt.sqrt #[Value.float .f64 r]).run _ _ = _
          rw [e, hs]
          simp [Question.forced, World.drewN]
        · rw [cut_nanBits, cn_nan (nan_pat .f64 _), ← hr, fsqrt_cn]; simp only [fsqrt, hs, Option.getD_none]
        · rw [cut_nanBits]; exact nan_pat_lt .f64 _
theorem c_Msqrt (x : Nat) : Fun Tryz.prog 131 [.flt .f64 x] [] (.flt .f64 (fsqrt x)) [] := by
  refine FnSpec.walkF dr_ok Tryz.func131 rfl (by kernel_rfl) rfl rfl rfl (by simp) ?_
  simp
  (first | refine callG_r ?_ | refine callD_r ?_); simp; (first | refine callN_flat (by with_reducible first | exact c_msqrt _) rfl ?_ | refine callN_new (by with_reducible first | exact c_msqrt _) ?_ | refine callM_flat (by with_reducible first | exact c_msqrt _) rfl ?_ | refine callM_new (by with_reducible first | exact c_msqrt _) ?_)
  simp
theorem c_root (x : Nat) : Fun Tryz.prog 133 [.flt .f32 x] [] (.flt .f32 (froot x)) [] := by
  refine FnSpec.walkF dr_ok Tryz.func133 rfl (by kernel_rfl) rfl rfl rfl (by simp) ?_
  simp
  (first | refine callG_r ?_ | refine callD_r ?_); simp; (first | refine callN_flat (by with_reducible first | exact c_Msqrt _) rfl ?_ | refine callN_new (by with_reducible first | exact c_Msqrt _) ?_ | refine callM_flat (by with_reducible first | exact c_Msqrt _) rfl ?_ | refine callM_new (by with_reducible first | exact c_Msqrt _) ?_)
  simp
theorem c_l01Narrow {x y : Nat} (h : fcvt .f64 .f32 x = some y) : Fun Tryz.prog 130 [.flt .f64 x] [] (.flt .f32 y) [] := by
  refine FnSpec.walkF dr_ok Tryz.func130 rfl (by kernel_rfl) rfl rfl rfl (by simp) ?_
  simp [h]
theorem c_l01Sqrt (x : Nat) : Fun Tryz.prog 101 [.flt .f32 x] [] (.flt .f32 (froot x)) [] := by
  refine FnSpec.walkF dr_ok Tryz.func101 rfl (by kernel_rfl) rfl rfl rfl (by simp) ?_
  simp
  (first | refine callG_r ?_ | refine callD_r ?_); simp; (first | refine callN_flat (by with_reducible first | exact c_Msqrt _) rfl ?_ | refine callN_new (by with_reducible first | exact c_Msqrt _) ?_ | refine callM_flat (by with_reducible first | exact c_Msqrt _) rfl ?_ | refine callM_new (by with_reducible first | exact c_Msqrt _) ?_)
  simp
  (first | refine callG_r ?_ | refine callD_r ?_); simp; (first | refine callN_flat (by with_reducible first | exact c_l01Narrow (fcvt_froot _)) rfl ?_ | refine callN_new (by with_reducible first | exact c_l01Narrow (fcvt_froot _)) ?_ | refine callM_flat (by with_reducible first | exact c_l01Narrow (fcvt_froot _)) rfl ?_ | refine callM_new (by with_reducible first | exact c_l01Narrow (fcvt_froot _)) ?_)
  simp
def vlong (v : V) : Nat := froot (vinner v v)
theorem c_long (x y z : Nat) : Fun Tryz.prog 116 [.agg [.flt .f32 x, .flt .f32 y, .flt .f32 z]] [] (.flt .f32 (vlong (x, y, z))) [] := by
  refine FnSpec.walkF dr_ok Tryz.func116 rfl (by kernel_rfl) rfl rfl rfl (by simp) ?_
  simp
  (first | refine callG_r ?_ | refine callD_r ?_); simp; (first | refine callN_flat (by with_reducible first | exact c_inner _ _ _ _ _ _) rfl ?_ | refine callN_new (by with_reducible first | exact c_inner _ _ _ _ _ _) ?_ | refine callM_flat (by with_reducible first | exact c_inner _ _ _ _ _ _) rfl ?_ | refine callM_new (by with_reducible first | exact c_inner _ _ _ _ _ _) ?_)
  simp
  (first | refine callG_r ?_ | refine callD_r ?_); simp; (first | refine callN_flat (by with_reducible first | exact c_root _) rfl ?_ | refine callN_new (by with_reducible first | exact c_root _) ?_ | refine callM_flat (by with_reducible first | exact c_root _) rfl ?_ | refine callM_new (by with_reducible first | exact c_root _) ?_)
  simp [vlong]
theorem c_l01Long (x y z : Nat) : Fun Tryz.prog 109 [.agg [.flt .f32 x, .flt .f32 y, .flt .f32 z]] [] (.flt .f32 (vlong (x, y, z))) [] := by
  refine FnSpec.walkF dr_ok Tryz.func109 rfl (by kernel_rfl) rfl rfl rfl (by simp) ?_
  simp
  (first | refine callG_r ?_ | refine callD_r ?_); simp; (first | refine callN_flat (by with_reducible first | exact c_l01Inner _ _ _ _ _ _) rfl ?_ | refine callN_new (by with_reducible first | exact c_l01Inner _ _ _ _ _ _) ?_ | refine callM_flat (by with_reducible first | exact c_l01Inner _ _ _ _ _ _) rfl ?_ | refine callM_new (by with_reducible first | exact c_l01Inner _ _ _ _ _ _) ?_)
  simp
  (first | refine callG_r ?_ | refine callD_r ?_); simp; (first | refine callN_flat (by with_reducible first | exact c_l01Sqrt _) rfl ?_ | refine callN_new (by with_reducible first | exact c_l01Sqrt _) ?_ | refine callM_flat (by with_reducible first | exact c_l01Sqrt _) rfl ?_ | refine callM_new (by with_reducible first | exact c_l01Sqrt _) ?_)
  simp [vlong]
end Go.Proofs.YtnpflgeenecaeaaGreat
namespace Go.Proofs.YtnpflgeenecaeaaGreat
set_option linter.all false
open Go Go.Awp
set_option maxRecDepth 100000
set_option maxHeartbeats 4000000

theorem c_toVector (x y z : Nat) : Fun Tryz.prog 51 [.agg [.flt .f32 x, .flt .f32 y, .flt .f32 z]] [] (.agg [.flt .f32 x, .flt .f32 y, .flt .f32 z]) [] := by
  refine FnSpec.walkF dr_ok Tryz.func51 rfl (by kernel_rfl) rfl rfl rfl (by simp) ?_
  simp
theorem c_toVectorS (l : List V) (h : l.length ≤ 1048576) : Fun Tryz.prog 14 [.view false (cVs l) l.length] [] (.slc 0 0 l.length 3) [.blk true false 41 (cVs l)] := by
  have hl := List.length_replicate (n := l.length) (a := ((0, 0, 0) : V))
  refine FnSpec.walk dr_ok Tryz.func14 rfl (by kernel_rfl) rfl rfl rfl (by simp) ?_
  simp
  refine ⟨by omega, by omega, ?_⟩
  refine loopG_of (α := Nat) (fun k => k ≤ l.length) (fun k => l.length - k) (fun k => [(0, .view false (cVs l) l.length), (3, .slc 0 0 l.length 3), (4, .int .i64 k)]) (fun k => [.blk true false 41 (cVs (mixN l (List.replicate l.length (0, 0, 0)) k))]) 0 (by simp) (weak_UH (by simp) (by simp)) fun k hk => ?_
  have hw := nat_wrap (k := k) (by omega)
  have hm := mixN_length k hl.symm
  by_cases c : k < l.length
  · simp [c, hw, hm]
    (first | refine callG_r ?_ | refine callD_r ?_); simp; (first | refine callN_flat (by with_reducible first | exact c_toVector _ _ _) rfl ?_ | refine callN_new (by with_reducible first | exact c_toVector _ _ _) ?_ | refine callM_flat (by with_reducible first | exact c_toVector _ _ _) rfl ?_ | refine callM_new (by with_reducible first | exact c_toVector _ _ _) ?_)
    simp [c, hw, hm]
    refine ⟨by omega, loopK_next (k + 1) (by omega) (by omega) (weak_UH ?_ (by simp))⟩
    rw [mixN_set c hl.symm rfl]
  · obtain rfl : k = l.length := by omega
    simp
    rw [mixN_all (by omega) (by omega)]
    refine endG_keepT [(some 0, 0)] ?_ ?_ ?_ ?_ ?_ ?_ ?_ ⟨rfl, rfl⟩ ?_ <;> simp
theorem c_toInt64S (l : List Int) (h : l.length ≤ 1048576) : Fun Tryz.prog 24 [.view false (cIs l) l.length] [] (.slc 0 0 l.length 1) [.blk true false 2 (cIs l)] := by
  have hl := List.length_replicate (n := l.length) (a := (0 : Int))
  refine FnSpec.walk dr_ok Tryz.func24 rfl (by kernel_rfl) rfl rfl rfl (by simp) ?_
  simp
  refine ⟨by omega, by omega, ?_⟩
  refine loopG_of (α := Nat) (fun k => k ≤ l.length) (fun k => l.length - k) (fun k => [(0, .view false (cIs l) l.length), (3, .slc 0 0 l.length 1), (4, .int .i64 k)]) (fun k => [.blk true false 2 (cIs (mixN l (List.replicate l.length 0) k))]) 0 (by simp) (weak_UH (by simp) (by simp)) fun k hk => ?_
  have hw := nat_wrap (k := k) (by omega)
  have hm := mixN_length k hl.symm
  by_cases c : k < l.length
  · simp [c, hw, hm]
    refine ⟨by omega, loopK_next (k + 1) (by omega) (by omega) (weak_UH ?_ (by simp))⟩
    rw [mixN_set c hl.symm rfl]
  · obtain rfl : k = l.length := by omega
    simp
    rw [mixN_all (by omega) (by omega)]
    refine endG_keepT [(some 0, 0)] ?_ ?_ ?_ ?_ ?_ ?_ ?_ ⟨rfl, rfl⟩ ?_ <;> simp
end Go.Proofs.YtnpflgeenecaeaaGreat
namespace Go.Proofs.YtnpflgeenecaeaaGreat
set_option linter.all false
open Go Go.Awp
set_option maxRecDepth 100000
set_option maxHeartbeats 4000000

/-- What is left of a size. -/
def szL (n : Nat) (left : Int) : Int := if left - n < 0 then -1 else left - n
theorem c_szVectorS (c : List AV) (n : Nat) (left : Int) (h : n ≤ 9223372036854775807) (h0 : 0 ≤ left) (h1 : left ≤ 1048576) : Fun Tryz.prog 11 [.view false c n, .int .i64 left] [] (.int .i64 (szL n left)) [] := by
  refine FnSpec.walkF dr_ok Tryz.func11 rfl (by kernel_rfl) rfl rfl rfl (by simp) ?_
  have e : IntKind.i64.wrap (left - n) = left - n := wrap64 (by omega) (by omega)
  simp [e, szL]
  grind
theorem c_szInt64S (c : List AV) (n : Nat) (left : Int) (h : n ≤ 9223372036854775807) (h0 : 0 ≤ left) (h1 : left ≤ 1048576) : Fun Tryz.prog 104 [.view false c n, .int .i64 left] [] (.int .i64 (szL n left)) [] := by
  refine FnSpec.walkF dr_ok Tryz.func104 rfl (by kernel_rfl) rfl rfl rfl (by simp) ?_
  have e : IntKind.i64.wrap (left - n) = left - n := wrap64 (by omega) (by omega)
  simp [e, szL]
  grind
theorem szL_le {n : Nat} {left : Int} (h : left ≤ 1048576) : szL n left ≤ 1048576 := by unfold szL; split <;> omega
theorem szL_ok {n : Nat} {left : Int} (h : ¬ szL n left < 0) : (n : Int) ≤ left := by unfold szL at h; split at h <;> omega
def szC (a b c d : Nat) : Int := if szL a 1048576 < 0 then -1 else if szL b (szL a 1048576) < 0 then -1 else if szL c (szL b (szL a 1048576)) < 0 then -1 else if szL d (szL c (szL b (szL a 1048576))) < 0 then -1 else szL d (szL c (szL b (szL a 1048576)))
theorem szC_ok {a b c d : Nat} (h : ¬ szC a b c d < 0) : a ≤ 1048576 ∧ b ≤ 1048576 ∧ c ≤ 1048576 ∧ d ≤ 1048576 := by
  unfold szC at h
  split at h
  · omega
  · split at h
    · omega
    · split at h
      · omega
      · split at h
        · omega
        · rename_i h1 h2 h3 h4
          have a1 := szL_ok h1
          have a2 := szL_ok h2
          have a3 := szL_ok h3
          have a4 := szL_ok h4
          have b1 := szL_le (n := a) (left := 1048576) (by omega)
          have b2 := szL_le (n := b) b1
          have b3 := szL_le (n := c) b2
          omega
/-- A cloth: places, where they were, threads, pins. -/
structure Clo where
  pl : List V
  ol : List V
  th : List Th
  pin : List Int
/-- A cloth as what is only read. -/
abbrev Clo.av (c : Clo) : AV := .agg [.view false (cVs c.pl) c.pl.length, .view false (cVs c.ol) c.ol.length, .view false (cTs c.th) c.th.length, .view false (cIs c.pin) c.pin.length]
/-- A cloth in memory of its own. -/
abbrev Clo.own (c : Clo) (r : Nat) : AV := .agg [.slc r 0 c.pl.length 3, .slc (r + 1) 0 c.ol.length 3, .slc (r + 2) 0 c.th.length 3, .slc (r + 3) 0 c.pin.length 1]
attribute [simp] Clo.av Clo.own
structure Clo.Small (c : Clo) : Prop where
  pl : c.pl.length ≤ 1048576
  ol : c.ol.length ≤ 1048576
  th : c.th.length ≤ 1048576
  pin : c.pin.length ≤ 1048576

theorem c_sameFloat (x : Nat) : Fun Tryz.prog 26 [.flt .f64 x, .flt .f64 x] [] (.bool true) [] := by
  refine FnSpec.walkF dr_ok Tryz.func26 rfl (by kernel_rfl) rfl rfl rfl (by simp) ?_
  by_cases h : ford .f64 x x = some .eq <;> simp [h]
theorem c_eqVector (x y z : Nat) : Fun Tryz.prog 58 [.agg [.flt .f32 x, .flt .f32 y, .flt .f32 z], .agg [.flt .f32 x, .flt .f32 y, .flt .f32 z]] [] (.bool true) [] := by
  refine FnSpec.walkF dr_ok Tryz.func58 rfl (by kernel_rfl) rfl rfl rfl (by simp) ?_
  simp
  (first | refine callG_r ?_ | refine callD_r ?_); simp; (first | refine callN_flat (by with_reducible first | exact c_sameFloat _) rfl ?_ | refine callN_new (by with_reducible first | exact c_sameFloat _) ?_ | refine callM_flat (by with_reducible first | exact c_sameFloat _) rfl ?_ | refine callM_new (by with_reducible first | exact c_sameFloat _) ?_)
  simp
  (first | refine callG_r ?_ | refine callD_r ?_); simp; (first | refine callN_flat (by with_reducible first | exact c_sameFloat _) rfl ?_ | refine callN_new (by with_reducible first | exact c_sameFloat _) ?_ | refine callM_flat (by with_reducible first | exact c_sameFloat _) rfl ?_ | refine callM_new (by with_reducible first | exact c_sameFloat _) ?_)
  simp
  (first | refine callG_r ?_ | refine callD_r ?_); simp; (first | refine callN_flat (by with_reducible first | exact c_sameFloat _) rfl ?_ | refine callN_new (by with_reducible first | exact c_sameFloat _) ?_ | refine callM_flat (by with_reducible first | exact c_sameFloat _) rfl ?_ | refine callM_new (by with_reducible first | exact c_sameFloat _) ?_)
  simp
theorem c_eqVectorS (l : List V) (n m : Nat) (hn : n = l.length) (hm : m = l.length) (h : l.length < 9223372036854775807) : Fun Tryz.prog 18 [.view false (cVs l) n, .view false (cVs l) m] [] (.bool true) [] := by
  subst hn; subst hm
  refine FnSpec.walkF dr_ok Tryz.func18 rfl (by kernel_rfl) rfl rfl rfl (by simp) ?_
  simp
  refine loopG_of (α := Nat) (fun k => k ≤ l.length) (fun k => l.length - k) (fun k => [(0, .view false (cVs l) l.length), (1, .view false (cVs l) l.length), (5, .int .i64 k)]) (fun k => []) 0 (by simp) (weak_UH (by simp) (by simp)) fun k hk => ?_
  have hw := nat_wrap (k := k) (by omega)
  by_cases c : k < l.length
  · simp [c, hw]
    (first | refine callG_r ?_ | refine callD_r ?_); simp; (first | refine callN_flat (by with_reducible first | exact c_eqVector _ _ _) rfl ?_ | refine callN_new (by with_reducible first | exact c_eqVector _ _ _) ?_ | refine callM_flat (by with_reducible first | exact c_eqVector _ _ _) rfl ?_ | refine callM_new (by with_reducible first | exact c_eqVector _ _ _) ?_)
    simp [c, hw]
    refine loopK_next (k + 1) (by omega) (by omega) (weak_UH (by simp) (by simp))
  · obtain rfl : k = l.length := by omega
    simp
theorem c_eqInt64S (l : List Int) (n m : Nat) (hn : n = l.length) (hm : m = l.length) (h : l.length < 9223372036854775807) : Fun Tryz.prog 27 [.view false (cIs l) n, .view false (cIs l) m] [] (.bool true) [] := by
  subst hn; subst hm
  refine FnSpec.walkF dr_ok Tryz.func27 rfl (by kernel_rfl) rfl rfl rfl (by simp) ?_
  simp
  refine loopG_of (α := Nat) (fun k => k ≤ l.length) (fun k => l.length - k) (fun k => [(0, .view false (cIs l) l.length), (1, .view false (cIs l) l.length), (5, .int .i64 k)]) (fun k => []) 0 (by simp) (weak_UH (by simp) (by simp)) fun k hk => ?_
  have hw := nat_wrap (k := k) (by omega)
  by_cases c : k < l.length
  · simp [c, hw]
    refine loopK_next (k + 1) (by omega) (by omega) (weak_UH (by simp) (by simp))
  · obtain rfl : k = l.length := by omega
    simp
end Go.Proofs.YtnpflgeenecaeaaGreat
namespace Go.Proofs.YtnpflgeenecaeaaGreat
set_option linter.all false
open Go Go.Awp
set_option maxRecDepth 100000
set_option maxHeartbeats 4000000

theorem opens_V : Opens Tryz.prog 30 fun l => ∃ v, CanV v ∧ l = eV v :=
  (opens_struct (Ss := [_, _, _]) Tryz.underlying30 (by kernel_rfl) ⟨opens_float Tryz.underlying27, opens_float Tryz.underlying27, opens_float Tryz.underlying27, trivial⟩).mono (by
    rintro l ⟨_, _, ⟨x, hx, rfl⟩, ⟨_, _, ⟨y, hy, rfl⟩, ⟨_, _, ⟨z, hz, rfl⟩, rfl, rfl⟩, rfl⟩, rfl⟩
    exact ⟨(x, y, z), ⟨hx, hy, hz⟩, rfl⟩)
theorem opens_I : Opens Tryz.prog 2 fun l => ∃ n : Int, I64 n ∧ l = [.int .i64 n] := (opens_int Tryz.underlying2).mono (by
    rintro l ⟨x, hx, rfl⟩
    exact ⟨x, wf_i64 hx, rfl⟩)
theorem flat_ints (l : List Int) : l.flatMap (fun n => [AV.int .i64 n]) = cIs l := by
  induction l with
  | nil => rfl
  | cons a l ih => simp only [List.flatMap_cons, ih]; rfl
theorem opens_Vs : Opens Tryz.prog 22 fun l => ∃ vs : List V, ((∀ v ∈ vs, CanV v) ∧ vs.length ≤ maxLen) ∧ l = [.view false (cVs vs) vs.length] :=
  opens_slice Tryz.underlying22 (by kernel_rfl) (by decide : 0 < 3) eV_length opens_V
theorem opens_Is : Opens Tryz.prog 53 fun l => ∃ vs : List Int, ((∀ v ∈ vs, I64 v) ∧ vs.length ≤ maxLen) ∧ l = [.view false (cIs vs) vs.length] :=
  (opens_slice (enc' := fun n : Int => [AV.int .i64 n]) Tryz.underlying53 (by kernel_rfl) (by decide : 0 < 1) (fun _ => rfl) opens_I).mono (by
    rintro l ⟨vs, h, rfl⟩
    exact ⟨vs, h, by rw [flat_ints]⟩)
structure Clo.Can (c : Clo) : Prop where
  pl : ∀ v ∈ c.pl, CanV v
  ol : ∀ v ∈ c.ol, CanV v
  th : ∀ v ∈ c.th, CanT v
  pin : ∀ v ∈ c.pin, I64 v
structure Clo.Len (c : Clo) : Prop where
  pl : c.pl.length ≤ 9223372036854775807
  ol : c.ol.length ≤ 9223372036854775807
  th : c.th.length ≤ 9223372036854775807
  pin : c.pin.length ≤ 9223372036854775807
theorem arg_V : ArgOk Tryz.prog 30 fun a => ∃ v, CanV v ∧ a = aV v := .mk fun hok h => by
  obtain ⟨a, ⟨l, ⟨v, hv, rfl⟩, rfl⟩, hr⟩ := (argOk_struct Tryz.underlying30 opens_V).op hok h
  exact ⟨_, ⟨v, hv, rfl⟩, hr⟩
theorem arg_F : ArgOk Tryz.prog 27 fun a => ∃ x, CanF .f32 x ∧ a = .flt .f32 x :=
  argOk_one (by rw [Tryz.underlying27]; intro fs h; cases h) (by rw [Tryz.underlying27]; intro n e h; cases h) ((opens_float Tryz.underlying27).mono (by
    rintro l ⟨x, hx, rfl⟩
    exact ⟨_, ⟨x, hx, rfl⟩, rfl⟩))
theorem arg_I : ArgOk Tryz.prog 2 fun a => ∃ n : Int, I64 n ∧ a = .int .i64 n :=
  argOk_one (by rw [Tryz.underlying2]; intro fs h; cases h) (by rw [Tryz.underlying2]; intro n e h; cases h) (opens_I.mono (by
    rintro l ⟨x, hx, rfl⟩
    exact ⟨_, ⟨x, hx, rfl⟩, rfl⟩))
theorem arg_Is : ArgOk Tryz.prog 53 fun a => ∃ vs : List Int, ((∀ v ∈ vs, I64 v) ∧ vs.length ≤ maxLen) ∧ a = .view false (cIs vs) vs.length :=
  argOk_one (by rw [Tryz.underlying53]; intro fs h; cases h) (by rw [Tryz.underlying53]; intro n e h; cases h) (opens_Is.mono (by
    rintro l ⟨x, hx, rfl⟩
    exact ⟨_, ⟨x, hx, rfl⟩, rfl⟩))
theorem relL_of {W : World} {avs : List AV} {args : Array Value} (h1 : avs.length = args.toList.length) (h2 : ∀ (i : Nat) a v, avs[i]? = some a → args.toList[i]? = some v → VRel W (env0 W) a v) : RelL W (env0 W) avs args :=
  ⟨by simpa using h1, fun i a v ha hv => h2 i a v ha (by simpa using hv)⟩
end Go.Proofs.YtnpflgeenecaeaaGreat
namespace Go.Proofs.YtnpflgeenecaeaaGreat
set_option linter.all false
open Go Go.Awp
set_option maxRecDepth 100000
set_option maxHeartbeats 4000000
set_option pp.deepTerms false
set_option pp.deepTerms.threshold 8

def thrB (n : Int) (t : Th) : Bool := inB t.1 0 (n - 1) && inB t.2.1 0 (n - 1) && !decide (t.1 = t.2.1) && overB t.2.2
def pinsF (n : Int) : Int → List Int → Bool
  | _, [] => true
  | last, p :: l => inB p (last + 1) (n - 1) && pinsF n p l
def vldC (c : Clo) : Bool := decide (c.pl.length ≤ 64) && decide (c.ol.length = c.pl.length) && decide (c.th.length ≤ 256) && c.th.all (thrB c.pl.length) && pinsF c.pl.length (-1) c.pin

theorem pinsF_last {n : Int} : ∀ {l : List Int} {a b : Int}, -1 ≤ a → pinsF n a l = true → b ≤ a → pinsF n b l = true
  | [], _, _, _, _, _ => rfl
  | p :: l, a, b, h0, h, hb => by
    simp [pinsF, inB] at h ⊢
    exact ⟨by omega, h.2⟩
theorem c_l00Rises (l : List Int) (n : Nat) (hn : n ≤ 64) (h : l.length ≤ 1048576) : Fun Tryz.prog 107 [.view false (cIs l) l.length, .int .i64 0, .int .i64 (n - 1)] [] (.bool (pinsF n (-1) l)) [] := by
  refine FnSpec.walkF dr_ok Tryz.func107 rfl (by kernel_rfl) rfl rfl rfl (by simp) ?_
  simp
  refine loopG_of (α := Nat × Int) (fun x => x.1 ≤ l.length ∧ -1 ≤ x.2 ∧ x.2 ≤ 64 ∧ pinsF n (-1) l = pinsF n x.2 (l.drop x.1) ∧ (x.1 = 0 → x.2 = -1) ∧ (∀ i, (hi : i + 1 = x.1) → (hl : i < l.length) → x.2 = l[i] ∧ 0 ≤ x.2)) (fun x => l.length - x.1)
    (fun x => [(0, .view false (cIs l) l.length), (1, .int .i64 0), (2, .int .i64 (n - 1)), (7, .int .i64 x.1)])
    (fun x => []) (0, -1) ⟨by simp, by simp, by simp, by simp, by simp, by simp⟩ (weak_UH rfl (by simp)) fun x ⟨hx, hx0, hx1, hx2, hx3, hx4⟩ => ?_
  obtain ⟨j, last⟩ := x
  simp only at hx hx0 hx1 hx2 hx3 hx4
  have hw := nat_wrap (k := j) (by omega)
  by_cases b : j < l.length
  · rw [List.drop_eq_getElem_cons b] at hx2
    simp [b, hw]
    (first | refine callG_r ?_ | refine callD_r ?_); simp; (first | refine callN_flat (by with_reducible first | exact c_l00In _ _ _) rfl ?_ | refine callN_new (by with_reducible first | exact c_l00In _ _ _) ?_ | refine callM_flat (by with_reducible first | exact c_l00In _ _ _) rfl ?_ | refine callM_new (by with_reducible first | exact c_l00In _ _ _) ?_)
    simp [hw]
    refine ⟨fun e1 => ?_, fun e1 => ?_⟩
    · have e2 := e1
      simp [inB] at e2
      have fin : last < l[j] → pinsF n (-1) l = pinsF n l[j] (l.drop (j + 1)) := fun h => by
        rw [hx2]; simp [pinsF, inB]; intro _; omega
      refine ⟨fun h0 => ?_, fun h0 => ?_⟩
      · have hs : IntKind.i64.wrap ((j : Int) - 1) = ((j - 1 : Nat) : Int) := by rw [wrap64 (by omega) (by omega)]; omega
        obtain ⟨g1, g2⟩ := hx4 (j - 1) (by omega) (by omega)
        have b2 : j - 1 < l.length := by omega
        simp [hs, b2, b, hw]
        refine ⟨fun e3 => ?_, fun e3 => ?_⟩
        · rw [hx2]; simp [pinsF, inB]; intro _; omega
        · refine loopK_next (j + 1, l[j]) ?_ ?_ ?_
          · simp; omega
          · refine ⟨by simp; omega, by simp; omega, by simp; omega, fin (by omega), by simp, fun i hi hl => ?_⟩
            simp at hi; subst hi; exact ⟨rfl, by simp; omega⟩
          · (refine weak_gc [] ?_ ?_ ?_ ?_ ?_ <;> simp)
      · subst h0
        simp [hw]
        refine loopK_next (0 + 1, l[0]) ?_ ?_ ?_
        · simp; omega
        · have := hx3 rfl
          refine ⟨by simp; omega, by simp; omega, by simp; omega, fin (by omega), by simp, fun i hi hl => ?_⟩
          simp at hi; subst hi; exact ⟨rfl, by simp; omega⟩
        · (refine weak_gc [] ?_ ?_ ?_ ?_ ?_ <;> simp)
    · rw [hx2]; simp [pinsF]; intro e2
      simp [inB] at e1 e2; omega
  · obtain rfl : j = l.length := by omega
    simp
    rw [hx2]; simp [pinsF]
end Go.Proofs.YtnpflgeenecaeaaGreat
