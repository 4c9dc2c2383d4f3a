/- Contracts: angles of points, sines of turns, flushed numbers.
Conditions: none. -/
import Derived.Test.YtfngkhkghjgmkaaB1
import Derived.Test.YtfngkhkghjgmkaaO0
namespace Go.Proofs.Ytfngkhkghjgmkaa
set_option linter.all false
open Go Go.Awp
set_option maxRecDepth 100000
set_option maxHeartbeats 4000000
set_option pp.deepTerms true

theorem fsqrt_some {f : Ieee.Format} {x r : Nat} (h : f.sqrt x = some r) : (f.read r).isNaN = false := map_write_num f (fun _ h => root_num h) h
theorem c_msqrt (x : Nat) : Fun Try.prog 94 [.flt .f64 x] [] (.flt .f64 (fsqrt x)) [] := by
  refine FnSpec.of_extern (e := Extern.MathSqrt.sqrt) Try.func94 rfl rfl (by kernel_rfl) (by kernel_rfl) fun w E vs hv => ?_
  obtain ⟨h1, h2⟩ := hv
  obtain ⟨vs⟩ := vs
  match vs, h1 with
  | [v], _ =>
    have hr := h2 0 _ v rfl rfl
    cases hr with
    | flt _ _ r hr hl =>
      cases hs : FloatKind.f64.format.sqrt r with
      | some q =>
        refine ⟨.float .f64 q, 0, .flt .f64 (fsqrt x), ?_, .flt _ _ _ ?_ ?_, rfl, rfl, rfl⟩
        · have e : (Extern.MathSqrt.sqrt #[Value.float .f64 r]) = (match FloatKind.f64.format.sqrt r with
            | some r => pure (.float .f64 r)
            | none => do pure (.float .f64 (← choose (.nanBits .f64 r r)))) := rfl
          show (Extern.MathSqrt.sqrt #[Value.float .f64 r]).run _ _ = _
          rw [e, hs]; rfl
        · rw [← hr, fsqrt_cn, cn_num (fsqrt_some hs)]; simp only [fsqrt, hs, Option.getD_some]
        · unfold Ieee.Format.sqrt at hs
          cases hd : (FloatKind.f64.format.read r).root (FloatKind.f64.format.fractionBits + 2) with
          | none => rw [hd] at hs; cases hs
          | some d => rw [hd] at hs; cases hs; exact FloatKind.f64.format.write_lt d
      | none =>
        refine ⟨.float .f64 (Question.cut (.nanBits .f64 r r) (w.tape w.drawn (.nanBits .f64 r r))), 1, .flt .f64 (fsqrt x), ?_, .flt _ _ _ ?_ ?_, rfl, rfl, rfl⟩
        · have e : (Extern.MathSqrt.sqrt #[Value.float .f64 r]) = (match FloatKind.f64.format.sqrt r with
            | some r => pure (.float .f64 r)
            | none => do pure (.float .f64 (← choose (.nanBits .f64 r r)))) := rfl
          show (Extern.MathSqrt.sqrt #[Value.float .f64 r]).run _ _ = _
          rw [e, hs]
          simp [Question.forced, World.drewN]
        · rw [cut_nanBits, cn_nan (nan_pat .f64 _), ← hr, fsqrt_cn]; simp only [fsqrt, hs, Option.getD_none]
        · rw [cut_nanBits]; exact nan_pat_lt .f64 _
theorem c_Msqrt (x : Nat) : Fun Try.prog 70 [.flt .f64 x] [] (.flt .f64 (fsqrt x)) [] := by
  refine FnSpec.walkF dr_ok Try.func70 rfl (by kernel_rfl) rfl rfl rfl (by simp) ?_
  simp
  (first | refine callG_r ?_ | refine callD_r ?_); simp; (first | refine callN_flat (by with_reducible first | exact c_msqrt _) rfl ?_ | refine callN_new (by with_reducible first | exact c_msqrt _) ?_ | refine callM_flat (by with_reducible first | exact c_msqrt _) rfl ?_ | refine callM_new (by with_reducible first | exact c_msqrt _) ?_)
  simp
theorem c_root (x : Nat) : Fun Try.prog 71 [.flt .f32 x] [] (.flt .f32 (froot x)) [] := by
  refine FnSpec.walkF dr_ok Try.func71 rfl (by kernel_rfl) rfl rfl rfl (by simp) ?_
  simp
  (first | refine callG_r ?_ | refine callD_r ?_); simp; (first | refine callN_flat (by with_reducible first | exact c_Msqrt _) rfl ?_ | refine callN_new (by with_reducible first | exact c_Msqrt _) ?_ | refine callM_flat (by with_reducible first | exact c_Msqrt _) rfl ?_ | refine callM_new (by with_reducible first | exact c_Msqrt _) ?_)
  simp
theorem c_longXY (x y : Nat) : Fun Try.prog 35 [.agg [.flt .f32 x, .flt .f32 y, .flt .f32 0]] [] (.flt .f32 (froot (fop .add .f32 (fop .add .f32 (fop .mul .f32 x x) (fop .mul .f32 y y)) (fop .mul .f32 0 0)))) [] := by
  have h : Fun Try.prog 72 [.agg [.flt .f32 x, .flt .f32 y, .flt .f32 0], .agg [.flt .f32 x, .flt .f32 y, .flt .f32 0]] [] (.flt .f32 (fop .add .f32 (fop .add .f32 (fop .mul .f32 x x) (fop .mul .f32 y y)) (fop .mul .f32 0 0))) [] := by
    refine FnSpec.walkF dr_ok Try.func72 rfl (by kernel_rfl) rfl rfl rfl (by simp) ?_
    simp
  refine FnSpec.walkF dr_ok Try.func35 rfl (by kernel_rfl) rfl rfl rfl (by simp) ?_
  simp
  (first | refine callG_r ?_ | refine callD_r ?_); simp; (first | refine callN_flat (by with_reducible first | exact h) rfl ?_ | refine callN_new (by with_reducible first | exact h) ?_ | refine callM_flat (by with_reducible first | exact h) rfl ?_ | refine callM_new (by with_reducible first | exact h) ?_)
  simp
  (first | refine callG_r ?_ | refine callD_r ?_); simp; (first | refine callN_flat (by with_reducible first | exact c_root _) rfl ?_ | refine callN_new (by with_reducible first | exact c_root _) ?_ | refine callM_flat (by with_reducible first | exact c_root _) rfl ?_ | refine callM_new (by with_reducible first | exact c_root _) ?_)
  simp
theorem c_from64 {n : Nat} (h : n < 18446744073709551616) : Fun Try.prog 93 [.int .u64 n] [] (.flt .f64 (cn .f64 n)) [] := by
  refine FnSpec.of_extern (e := Extern.MathFloatBits.float64frombits) Try.func93 rfl rfl (by kernel_rfl) (by kernel_rfl) fun w E vs hv => ?_
  obtain ⟨h1, h2⟩ := hv
  obtain ⟨vs⟩ := vs
  match vs, h1 with
  | [v], _ =>
    have hr := h2 0 _ v rfl rfl
    cases hr with
    | int _ _ => exact ⟨.float .f64 n, 0, .flt .f64 (cn .f64 n), rfl, .flt _ _ _ rfl h, rfl, rfl, rfl⟩
theorem c_bits64n (x : Nat) : FnSpec Try.prog 85 [.flt .f64 x] [] fun av H => H = [] ∧ av.flats = true ∧ ∃ n : Nat, n < 18446744073709551616 ∧ cn .f64 n = x ∧ av = .int .u64 n := by
  refine FnSpec.of_extern (e := Extern.MathFloatBits.float64bits) Try.func85 rfl rfl (by kernel_rfl) (by kernel_rfl) fun w E vs hv => ?_
  obtain ⟨h1, h2⟩ := hv
  obtain ⟨vs⟩ := vs
  match vs, h1 with
  | [v], _ =>
    have hr := h2 0 _ v rfl rfl
    cases hr with
    | flt _ _ r hr hl =>
      exact ⟨.int .u64 r, 0, .int .u64 r, rfl, .int _ _, rfl, rfl, rfl, r, hl, hr, rfl⟩
theorem andnot63 {x : Nat} (h : x < 18446744073709551616) : bitsV .andNot .u64 (x : Int) 9223372036854775808 = (x : Int) % 9223372036854775808 := by
  show IntKind.u64.wrap ((BitVec.ofInt 64 (x : Int) &&& ~~~BitVec.ofInt 64 9223372036854775808).toNat : Int) = _
  have e1 : (BitVec.ofInt 64 (x : Int)).toNat = x := by simp [BitVec.toNat_ofInt]; omega
  have e2 : (~~~BitVec.ofInt 64 9223372036854775808).toNat = 2 ^ 63 - 1 := by decide
  rw [BitVec.toNat_and, e1, e2, Nat.and_two_pow_sub_one_eq_mod, IntKind.wrap_u64]
  omega
theorem and63 {x : Nat} (h : x < 18446744073709551616) : bitsV .and .u64 (x : Int) 9223372036854775808 = 0 ∨ bitsV .and .u64 (x : Int) 9223372036854775808 = 9223372036854775808 := by
  have hb : bitsV .and .u64 (x : Int) 9223372036854775808 = ((x &&& 2 ^ 63 : Nat) : Int) := by
    show IntKind.u64.wrap ((BitVec.ofInt 64 (x : Int) &&& BitVec.ofInt 64 9223372036854775808).toNat : Int) = _
    have e1 : (BitVec.ofInt 64 (x : Int)).toNat = x := by simp [BitVec.toNat_ofInt]; omega
    have e2 : (BitVec.ofInt 64 9223372036854775808).toNat = 2 ^ 63 := by decide
    rw [BitVec.toNat_and, e1, e2, IntKind.wrap_u64]
    have := Nat.and_le_left (n := x) (m := 2 ^ 63)
    omega
  rw [hb]
  cases c : x.testBit 63 with
  | false =>
    left
    have : x &&& 2 ^ 63 = 0 := Nat.eq_of_testBit_eq fun i => by
      rw [Nat.testBit_and, Nat.testBit_two_pow, Nat.zero_testBit]
      by_cases e : 63 = i
      · subst e; rw [c]; rfl
      · simp [e]
    rw [this]; rfl
  | true =>
    right
    have : x &&& 2 ^ 63 = 2 ^ 63 := Nat.eq_of_testBit_eq fun i => by
      rw [Nat.testBit_and, Nat.testBit_two_pow]
      by_cases e : 63 = i
      · subst e; rw [c]; rfl
      · simp [e]
    rw [this]; rfl
theorem c_Abs {x : Nat} (h : nanB .f64 x = false) (hx : x < 18446744073709551616) : Fun Try.prog 69 [.flt .f64 x] [] (.flt .f64 (ab64 x)) [] := by
  have hn : nanB .f64 (x % 9223372036854775808) = false := by
    have hs : FloatKind.f64.format.signWeight = 9223372036854775808 := by decide +kernel
    rw [nanB_eq, hs] at h ⊢
    rw [Nat.mod_mod]; exact h
  refine FnSpec.walkF dr_ok Try.func69 rfl (by kernel_rfl) rfl rfl rfl (by simp) ?_
  simp
  (first | refine callG_r ?_ | refine callD_r ?_); simp; (first | refine callN_flat (by with_reducible first | exact c_bits64 h) rfl ?_ | refine callN_new (by with_reducible first | exact c_bits64 h) ?_ | refine callM_flat (by with_reducible first | exact c_bits64 h) rfl ?_ | refine callM_new (by with_reducible first | exact c_bits64 h) ?_)
  simp [andnot63 hx]
  have hc := c_from64 (n := x % 9223372036854775808) (by omega)
  rw [cn_num hn, show ((x % 9223372036854775808 : Nat) : Int) = (x : Int) % 9223372036854775808 from Int.natCast_emod _ _] at hc
  (first | refine callG_r ?_ | refine callD_r ?_); simp; (first | refine callN_flat (by with_reducible first | exact hc) rfl ?_ | refine callN_new (by with_reducible first | exact hc) ?_ | refine callM_flat (by with_reducible first | exact hc) rfl ?_ | refine callM_new (by with_reducible first | exact hc) ?_)
  simp [ab64]
/-- Whether a number is so near to 0. -/
def subB (x : Nat) : Bool := if nanB .f32 x then false else !(ford .f32 x 0 == some .eq) && ford .f64 (ab64 (wid x)) 4039728865751334912 == some .lt
theorem c_IsSubnormal (x : Nat) : Fun Try.prog 39 [.flt .f32 x] [] (.bool (subB x)) [] := by
  unfold subB
  cases nx : nanB .f32 x with
  | true =>
    have f1 : ford .f32 x 0 = none := ford_nan_l nx
    have hw : wid x = qnan .f64 := by unfold wid fcvt; rw [if_pos nx]; rfl
    have h : Fun Try.prog 69 [.flt .f64 (qnan .f64)] [] (.flt .f64 (qnan .f64)) [] := by
      refine FnSpec.walkF dr_ok Try.func69 rfl (by kernel_rfl) rfl rfl rfl (by simp) ?_
      simp
      refine callG_r ?_
      simp
      refine callN_rel (c_bits64n _) ?_
      rintro _ ⟨n, hl, hn, rfl⟩
      have hnn : nanB .f64 (n % 9223372036854775808) = true := by
        have h0 : nanB .f64 n = true := by rw [← nanB_cn, hn]; exact nanB_qnan .f64
        have hs : FloatKind.f64.format.signWeight = 9223372036854775808 := by decide +kernel
        rw [nanB_eq, hs] at h0 ⊢
        rw [Nat.mod_mod]; exact h0
      simp [andnot63 hl]
      have hc := c_from64 (n := n % 9223372036854775808) (by omega)
      rw [cn_nan hnn, show ((n % 9223372036854775808 : Nat) : Int) = (n : Int) % 9223372036854775808 from Int.natCast_emod _ _] at hc
      (first | refine callG_r ?_ | refine callD_r ?_); simp; (first | refine callN_flat (by with_reducible first | exact hc) rfl ?_ | refine callN_new (by with_reducible first | exact hc) ?_ | refine callM_flat (by with_reducible first | exact hc) rfl ?_ | refine callM_new (by with_reducible first | exact hc) ?_)
      simp
    have f2 : ford .f64 (qnan .f64) 4039728865751334912 = none := ford_nan_l (nanB_qnan .f64)
    refine FnSpec.walkF dr_ok Try.func39 rfl (by kernel_rfl) rfl rfl rfl (by simp) ?_
    simp [f1, hw]
    (first | refine callG_r ?_ | refine callD_r ?_); simp; (first | refine callN_flat (by with_reducible first | exact h) rfl ?_ | refine callN_new (by with_reducible first | exact h) ?_ | refine callM_flat (by with_reducible first | exact h) rfl ?_ | refine callM_new (by with_reducible first | exact h) ?_)
    simp [f2]
  | false =>
    obtain ⟨a1, a2, a3⟩ := wid_sign nx
    have a2 : wid x < 18446744073709551616 := a2
    refine FnSpec.walkF dr_ok Try.func39 rfl (by kernel_rfl) rfl rfl rfl (by simp) ?_
    simp
    by_cases c : ford .f32 x 0 = some .eq
    · simp [c]
    · simp [c]
      (first | refine callG_r ?_ | refine callD_r ?_); simp; (first | refine callN_flat (by with_reducible first | exact c_Abs a1 a2) rfl ?_ | refine callN_new (by with_reducible first | exact c_Abs a1 a2) ?_ | refine callM_flat (by with_reducible first | exact c_Abs a1 a2) rfl ?_ | refine callM_new (by with_reducible first | exact c_Abs a1 a2) ?_)
      simp
      exact fun _ => c
end Go.Proofs.Ytfngkhkghjgmkaa
