/- Contracts: small functions on numbers.
Conditions: none. -/
import Derived.Test.YtfngkhkghjgmkaaD1
import Derived.Test.YtfngkhkghjgmkaaD3
namespace Go.Proofs.Ytfngkhkghjgmkaa
set_option linter.all false
open Go Go.Awp
set_option maxRecDepth 100000
set_option maxHeartbeats 4000000
set_option pp.deepTerms true

theorem c_bits32 {x : Nat} (h : nanB .f32 x = false) : Fun Try.prog 51 [.flt .f32 x] [] (.int .u32 x) [] := by
  refine FnSpec.of_extern (e := Extern.MathFloatBits.float32bits) Try.func51 rfl rfl (by kernel_rfl) (by kernel_rfl) fun w E vs hv => ?_
  obtain ⟨h1, h2⟩ := hv
  obtain ⟨vs⟩ := vs
  match vs, h1 with
  | [v], _ =>
    have hr := h2 0 _ v rfl rfl
    cases hr with
    | flt _ _ r hr hl =>
      have hn : nanB .f32 r = false := by rw [← nanB_cn, hr]; exact h
      have e : r = x := by rw [← hr, cn_num hn]
      subst e
      exact ⟨.int .u32 r, 0, .int .u32 r, rfl, .int _ _, rfl, rfl, rfl⟩
theorem c_bits32n (x : Nat) : FnSpec Try.prog 51 [.flt .f32 x] [] fun av H => H = [] ∧ av.flats = true ∧ ∃ n : Nat, n < 4294967296 ∧ av = .int .u32 n := by
  refine FnSpec.of_extern (e := Extern.MathFloatBits.float32bits) Try.func51 rfl rfl (by kernel_rfl) (by kernel_rfl) fun w E vs hv => ?_
  obtain ⟨h1, h2⟩ := hv
  obtain ⟨vs⟩ := vs
  match vs, h1 with
  | [v], _ =>
    have hr := h2 0 _ v rfl rfl
    cases hr with
    | flt _ _ r hr hl =>
      exact ⟨.int .u32 r, 0, .int .u32 r, rfl, .int _ _, rfl, rfl, rfl, r, hl, rfl⟩
theorem c_from32 {n : Nat} (h : n < 4294967296) : Fun Try.prog 53 [.int .u32 n] [] (.flt .f32 (cn .f32 n)) [] := by
  refine FnSpec.of_extern (e := Extern.MathFloatBits.float32frombits) Try.func53 rfl rfl (by kernel_rfl) (by kernel_rfl) fun w E vs hv => ?_
  obtain ⟨h1, h2⟩ := hv
  obtain ⟨vs⟩ := vs
  match vs, h1 with
  | [v], _ =>
    have hr := h2 0 _ v rfl rfl
    cases hr with
    | int _ _ => exact ⟨.float .f32 n, 0, .flt .f32 (cn .f32 n), rfl, .flt _ _ _ rfl h, rfl, rfl, rfl⟩
theorem canF_cn {n : Nat} (h : n < 4294967296) : CanF .f32 (cn .f32 n) := ⟨cn_cn _ _, cn_lt h⟩
theorem canF_nan {x : Nat} (h : CanF .f32 x) (hn : nanB .f32 x = true) : x = 2143289344 := by
  rw [← h.1, cn_nan hn]; rfl
theorem c_l01From {n : Nat} (h : n < 4294967296) : Fun Try.prog 45 [.int .i64 n] [] (.flt .f32 (cn .f32 n)) [] := by
  have hw : IntKind.u32.wrap (n : Int) = n := by rw [IntKind.wrap_u32]; omega
  refine FnSpec.walkF dr_ok Try.func45 rfl (by kernel_rfl) rfl rfl rfl (by simp) ?_
  simp [hw]
  (first | refine callG_r ?_ | refine callD_r ?_); simp; (first | refine callN_flat (by with_reducible first | exact c_from32 h) rfl ?_ | refine callN_new (by with_reducible first | exact c_from32 h) ?_ | refine callM_flat (by with_reducible first | exact c_from32 h) rfl ?_ | refine callM_new (by with_reducible first | exact c_from32 h) ?_)
  simp
theorem c_within (n a b : Int) : Fun Try.prog 52 [.int .i64 n, .int .i64 a, .int .i64 b] [] (.bool (decide (a ≤ n) && decide (n ≤ b))) [] := by
  refine FnSpec.walkF dr_ok Try.func52 rfl (by kernel_rfl) rfl rfl rfl (by simp) ?_
  simp
  grind
theorem c_BitsOf {x : Nat} (hx : CanF .f32 x) : Fun Try.prog 16 [.flt .f32 x] [] (.int .i64 x) [] := by
  refine FnSpec.walkF dr_ok Try.func16 rfl (by kernel_rfl) rfl rfl rfl (by simp) ?_
  have hl : x < 4294967296 := hx.2
  cases nx : nanB .f32 x with
  | true =>
    have ex := canF_nan hx nx
    have f1 : ford .f32 x x = none := ford_nan_l nx
    simp [f1]
    omega
  | false =>
    have f1 : ford .f32 x x = some .eq := ford_self nx
    simp [f1]
    (first | refine callG_r ?_ | refine callD_r ?_); simp; (first | refine callN_flat (by with_reducible first | exact c_bits32 nx) rfl ?_ | refine callN_new (by with_reducible first | exact c_bits32 nx) ?_ | refine callM_flat (by with_reducible first | exact c_bits32 nx) rfl ?_ | refine callM_new (by with_reducible first | exact c_bits32 nx) ?_)
    simp
    rw [wrap64 (by omega) (by omega)]
theorem c_FromBits {n : Nat} (h : n < 4294967296) : Fun Try.prog 17 [.int .i64 n] [] (.tup [.flt .f32 (cn .f32 n), .bool true]) [] := by
  have hw : IntKind.u32.wrap (n : Int) = n := by rw [IntKind.wrap_u32]; omega
  have h1 : (n : Int) ≤ 4294967295 := by omega
  have h2 : n ≤ 4294967295 := by omega
  refine FnSpec.walkF dr_ok Try.func17 rfl (by kernel_rfl) rfl rfl rfl (by simp) ?_
  simp
  (first | refine callG_r ?_ | refine callD_r ?_); simp; (first | refine callN_flat (by with_reducible first | exact c_within _ _ _) rfl ?_ | refine callN_new (by with_reducible first | exact c_within _ _ _) ?_ | refine callM_flat (by with_reducible first | exact c_within _ _ _) rfl ?_ | refine callM_new (by with_reducible first | exact c_within _ _ _) ?_)
  simp [h1, h2, hw]
  (first | refine callG_r ?_ | refine callD_r ?_); simp; (first | refine callN_flat (by with_reducible first | exact c_from32 h) rfl ?_ | refine callN_new (by with_reducible first | exact c_from32 h) ?_ | refine callM_flat (by with_reducible first | exact c_from32 h) rfl ?_ | refine callM_new (by with_reducible first | exact c_from32 h) ?_)
  simp
theorem c_IsFinite (x : Nat) : Fun Try.prog 19 [.flt .f32 x] [] (.bool (ford .f32 (fop .sub .f32 x x) 0 == some .eq)) [] := by
  refine FnSpec.walkF dr_ok Try.func19 rfl (by kernel_rfl) rfl rfl rfl (by simp) ?_
  simp
theorem c_NextUp {x : Nat} (hx : CanF .f32 x) : Fun Try.prog 20 [.flt .f32 x] [] (.flt .f32 (nup x)) [] := by
  have hl : x < 4294967296 := hx.2
  refine FnSpec.walkF dr_ok Try.func20 rfl (by kernel_rfl) rfl rfl rfl (by simp) ?_
  simp
  cases nx : nanB .f32 x with
  | true =>
    have f1 : ford .f32 x x = none := ford_nan_l nx
    refine callG_r ?_
    simp
    refine callN_rel (c_bits32n x) ?_
    rintro _ ⟨n, hn, rfl⟩
    simp [f1, nup_nan nx]
  | false =>
    have f1 : ford .f32 x x = some .eq := ford_self nx
    have hle := num_le hl nx
    have f2 := ford32 (y := 2139095039) hl (by omega) nx (num_of (by omega))
    have f3 := ford32 (y := 0) hl (by omega) nx (num_of (by omega))
    (first | refine callG_r ?_ | refine callD_r ?_); simp; (first | refine callN_flat (by with_reducible first | exact c_bits32 nx) rfl ?_ | refine callN_new (by with_reducible first | exact c_bits32 nx) ?_ | refine callM_flat (by with_reducible first | exact c_bits32 nx) rfl ?_ | refine callM_new (by with_reducible first | exact c_bits32 nx) ?_)
    by_cases c1 : x = 2139095040
    · subst c1
      rw [cmp_gt (by decide)] at f2
      simp [f1, f2, nup_inf]
    · have hk : k32 x ≤ k32 2139095039 := by
        rw [show k32 2139095039 = 2139095039 from rfl]; unfold k32; split <;> omega
      have hnk : ∀ o, compare (k32 x) (k32 2139095039) = o → o ≠ .gt := by
        intro o e ho; subst ho
        rcases Int.lt_or_eq_of_le hk with h | h
        · rw [cmp_lt h] at e; cases e
        · rw [cmp_eq h] at e; cases e
      have hng : ¬ ford .f32 x 2139095039 = some .gt := by rw [f2]; intro e; exact hnk _ rfl (Option.some.inj e)
      by_cases c2 : k32 x = k32 0
      · rw [cmp_eq c2] at f3
        have e : nup x = 1 := by
          have c2' : x = 0 ∨ x = 2147483648 := by
            rw [show k32 0 = 0 from rfl] at c2
            unfold k32 at c2
            split at c2 <;> omega
          rcases c2' with rfl | rfl <;> (unfold nup; rw [nx]; rfl)
        simp [f1, hng, f3]
        have h1 : Fun Try.prog 53 [.int .u32 1] [] (.flt .f32 (cn .f32 1)) [] := c_from32 (n := 1) (by omega)
        (first | refine callG_r ?_ | refine callD_r ?_); simp; (first | refine callN_flat (by with_reducible first | exact h1) rfl ?_ | refine callN_new (by with_reducible first | exact h1) ?_ | refine callM_flat (by with_reducible first | exact h1) rfl ?_ | refine callM_new (by with_reducible first | exact h1) ?_)
        simp
        rw [e]; decide +kernel
      · by_cases c3 : k32 0 < k32 x
        · rw [cmp_gt c3] at f3
          have c4 : x < 2139095040 := by
            unfold k32 at c3; simp at c3
            split at c3 <;> omega
          have hw : IntKind.u32.wrap ((x : Int) + 1) = ((x + 1 : Nat) : Int) := by rw [IntKind.wrap_u32]; omega
          have e : nup x = x + 1 := by unfold nup; rw [nx]; simp [c1]; omega
          simp [f1, hng, f3]
          rw [hw]
          have h1 := c_from32 (n := x + 1) (by omega)
          rw [show ((x + 1 : Nat) : Int) = (x : Int) + 1 by simp] at h1
          (first | refine callG_r ?_ | refine callD_r ?_); simp; (first | refine callN_flat (by with_reducible first | exact h1) rfl ?_ | refine callN_new (by with_reducible first | exact h1) ?_ | refine callM_flat (by with_reducible first | exact h1) rfl ?_ | refine callM_new (by with_reducible first | exact h1) ?_)
          simp
          rw [e, cn_num (num_of (by omega))]
        · rw [cmp_lt (by omega : k32 x < k32 0)] at f3
          have c4 : 2147483648 < x := by
            unfold k32 at c3 c2; simp at c3 c2
            split at c3 <;> omega
          have hw : IntKind.u32.wrap ((x : Int) - 1) = ((x - 1 : Nat) : Int) := by rw [IntKind.wrap_u32]; omega
          have e : nup x = x - 1 := by unfold nup; rw [nx]; simp [c1, show ¬ x < 2147483648 by omega, show ¬ x = 2147483648 by omega]
          simp [f1, hng, f3]
          rw [hw]
          (first | refine callG_r ?_ | refine callD_r ?_); simp; (first | refine callN_flat (by with_reducible first | exact c_from32 (n := x - 1) (by omega)) rfl ?_ | refine callN_new (by with_reducible first | exact c_from32 (n := x - 1) (by omega)) ?_ | refine callM_flat (by with_reducible first | exact c_from32 (n := x - 1) (by omega)) rfl ?_ | refine callM_new (by with_reducible first | exact c_from32 (n := x - 1) (by omega)) ?_)
          simp
          rw [e, cn_num (num_of (by omega))]
end Go.Proofs.Ytfngkhkghjgmkaa
