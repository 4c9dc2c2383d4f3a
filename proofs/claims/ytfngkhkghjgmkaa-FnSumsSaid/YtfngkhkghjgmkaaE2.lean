/- The law of numbers that are narrowed.
Conditions: none. -/
import Derived.Test.YtfngkhkghjgmkaaE1
import Derived.Test.YtfngkhkghjgmkaaD7
namespace Go.Proofs.Ytfngkhkghjgmkaa
set_option linter.all false
open Go Go.Awp
set_option maxRecDepth 100000
set_option maxHeartbeats 4000000
set_option pp.deepTerms true

theorem c_l01Bits {x : Nat} (hx : CanF .f32 x) : Fun Try.prog 50 [.flt .f32 x] [] (.int .i64 x) [] := by
  refine FnSpec.walkF dr_ok Try.func50 rfl (by kernel_rfl) rfl rfl rfl (by simp) ?_
  have hl : x < 4294967296 := hx.2
  cases nx : nanB .f32 x with
  | true =>
    have ex := canF_nan hx nx
    have f1 : ford .f32 x x = none := ford_nan_l nx
    simp [f1]
    omega
  | false =>
    have f1 : ford .f32 x x = some .eq := ford_self nx
    simp [f1]
    (first | refine callG_r ?_ | refine callD_r ?_); simp; (first | refine callN_flat (by with_reducible first | exact c_bits32 nx) rfl ?_ | refine callN_new (by with_reducible first | exact c_bits32 nx) ?_ | refine callM_flat (by with_reducible first | exact c_bits32 nx) rfl ?_ | refine callM_new (by with_reducible first | exact c_bits32 nx) ?_)
    simp
    rw [wrap64 (by omega) (by omega)]
theorem c_l01Same {x y : Nat} (hx : CanF .f32 x) (hy : CanF .f32 y) : Fun Try.prog 47 [.flt .f32 x, .flt .f32 y] [] (.bool (decide (x = y))) [] := by
  refine FnSpec.walkF dr_ok Try.func47 rfl (by kernel_rfl) rfl rfl rfl (by simp) ?_
  simp
  (first | refine callG_r ?_ | refine callD_r ?_); simp; (first | refine callN_flat (by with_reducible first | exact c_l01Bits hx) rfl ?_ | refine callN_new (by with_reducible first | exact c_l01Bits hx) ?_ | refine callM_flat (by with_reducible first | exact c_l01Bits hx) rfl ?_ | refine callM_new (by with_reducible first | exact c_l01Bits hx) ?_)
  simp
  (first | refine callG_r ?_ | refine callD_r ?_); simp; (first | refine callN_flat (by with_reducible first | exact c_l01Bits hy) rfl ?_ | refine callN_new (by with_reducible first | exact c_l01Bits hy) ?_ | refine callM_flat (by with_reducible first | exact c_l01Bits hy) rfl ?_ | refine callM_new (by with_reducible first | exact c_l01Bits hy) ?_)
  simp
  rw [Bool.eq_iff_iff]
  simp
  omega
theorem c_specSameNumber {x y : Nat} (hx : CanF .f32 x) (hy : CanF .f32 y) : Fun Try.prog 11 [.flt .f32 x, .flt .f32 y] [] (.bool (decide (x = y))) [] := by
  refine FnSpec.walkF dr_ok Try.func11 rfl (by kernel_rfl) rfl rfl rfl (by simp) ?_
  simp
  (first | refine callG_r ?_ | refine callD_r ?_); simp; (first | refine callN_flat (by with_reducible first | exact c_l01Same hx hy) rfl ?_ | refine callN_new (by with_reducible first | exact c_l01Same hx hy) ?_ | refine callM_flat (by with_reducible first | exact c_l01Same hx hy) rfl ?_ | refine callM_new (by with_reducible first | exact c_l01Same hx hy) ?_)
  simp
theorem c_specBitsOf {x : Nat} (hx : CanF .f32 x) : Fun Try.prog 15 [.flt .f32 x] [] (.int .i64 x) [] := by
  refine FnSpec.walkF dr_ok Try.func15 rfl (by kernel_rfl) rfl rfl rfl (by simp) ?_
  simp
  (first | refine callG_r ?_ | refine callD_r ?_); simp; (first | refine callN_flat (by with_reducible first | exact c_l01Bits hx) rfl ?_ | refine callN_new (by with_reducible first | exact c_l01Bits hx) ?_ | refine callM_flat (by with_reducible first | exact c_l01Bits hx) rfl ?_ | refine callM_new (by with_reducible first | exact c_l01Bits hx) ?_)
  simp
theorem c_specIsFinite (x : Nat) : Fun Try.prog 14 [.flt .f32 x] [] (.bool (ford .f32 (fop .sub .f32 x x) 0 == some .eq)) [] := by
  have h : Fun Try.prog 49 [.flt .f32 x] [] (.bool (ford .f32 (fop .sub .f32 x x) 0 == some .eq)) [] := by
    refine FnSpec.walkF dr_ok Try.func49 rfl (by kernel_rfl) rfl rfl rfl (by simp) ?_
    simp
  refine FnSpec.walkF dr_ok Try.func14 rfl (by kernel_rfl) rfl rfl rfl (by simp) ?_
  simp
  (first | refine callG_r ?_ | refine callD_r ?_); simp; (first | refine callN_flat (by with_reducible first | exact h) rfl ?_ | refine callN_new (by with_reducible first | exact h) ?_ | refine callM_flat (by with_reducible first | exact h) rfl ?_ | refine callM_new (by with_reducible first | exact h) ?_)
  simp
theorem c_Narrow {x y : Nat} (h : fcvt .f64 .f32 x = some y) : Fun Try.prog 12 [.flt .f64 x] [] (.flt .f32 y) [] := by
  refine FnSpec.walkF dr_ok Try.func12 rfl (by kernel_rfl) rfl rfl rfl (by simp) ?_
  simp [h]
theorem c_l01Next {x : Nat} (hx : CanF .f32 x) : Fun Try.prog 48 [.flt .f32 x] [] (.flt .f32 (nup x)) [] := by
  have hl : x < 4294967296 := hx.2
  refine FnSpec.walkF dr_ok Try.func48 rfl (by kernel_rfl) rfl rfl rfl (by simp) ?_
  simp
  (first | refine callG_r ?_ | refine callD_r ?_); simp; (first | refine callN_flat (by with_reducible first | exact c_l01Bits hx) rfl ?_ | refine callN_new (by with_reducible first | exact c_l01Bits hx) ?_ | refine callM_flat (by with_reducible first | exact c_l01Bits hx) rfl ?_ | refine callM_new (by with_reducible first | exact c_l01Bits hx) ?_)
  cases nx : nanB .f32 x with
  | true =>
    have f1 : ford .f32 x x = none := ford_nan_l nx
    simp [f1, nup_nan nx]
  | false =>
    have f1 : ford .f32 x x = some .eq := ford_self nx
    have hle := num_le hl nx
    have f3 := ford32 (y := 0) hl (by omega) nx (num_of (by omega))
    by_cases c1 : x = 2139095040
    · subst c1
      simp [f1, nup_inf]
    · have c1' : ¬ (x : Int) = 2139095040 := by omega
      by_cases c2 : k32 x = k32 0
      · rw [cmp_eq c2] at f3
        have e : nup x = 1 := by
          have c2' : x = 0 ∨ x = 2147483648 := by
            rw [show k32 0 = 0 from rfl] at c2
            unfold k32 at c2
            split at c2 <;> omega
          rcases c2' with rfl | rfl <;> (unfold nup; rw [nx]; rfl)
        simp [f1, f3, c1, c1']
        have h1 : Fun Try.prog 45 [.int .i64 1] [] (.flt .f32 (cn .f32 1)) [] := c_l01From (n := 1) (by omega)
        (first | refine callG_r ?_ | refine callD_r ?_); simp; (first | refine callN_flat (by with_reducible first | exact h1) rfl ?_ | refine callN_new (by with_reducible first | exact h1) ?_ | refine callM_flat (by with_reducible first | exact h1) rfl ?_ | refine callM_new (by with_reducible first | exact h1) ?_)
        simp
        rw [e]; decide +kernel
      · by_cases c3 : k32 0 < k32 x
        · rw [cmp_gt c3] at f3
          have c4 : x < 2139095040 := by
            unfold k32 at c3; simp at c3
            split at c3 <;> omega
          have hw : IntKind.i64.wrap ((x : Int) + 1) = ((x + 1 : Nat) : Int) := by rw [wrap64 (by omega) (by omega)]; simp
          have e : nup x = x + 1 := by unfold nup; rw [nx]; simp [c1]; omega
          have h1 := c_l01From (n := x + 1) (by omega)
          rw [show ((x + 1 : Nat) : Int) = (x : Int) + 1 by simp] at h1
          simp [f1, f3, c1, c1', hw]
          (first | refine callG_r ?_ | refine callD_r ?_); simp; (first | refine callN_flat (by with_reducible first | exact h1) rfl ?_ | refine callN_new (by with_reducible first | exact h1) ?_ | refine callM_flat (by with_reducible first | exact h1) rfl ?_ | refine callM_new (by with_reducible first | exact h1) ?_)
          simp
          rw [e, cn_num (num_of (by omega))]
        · rw [cmp_lt (by omega : k32 x < k32 0)] at f3
          have c4 : 2147483648 < x := by
            unfold k32 at c3 c2; simp at c3 c2
            split at c3 <;> omega
          have hw : IntKind.i64.wrap ((x : Int) - 1) = ((x - 1 : Nat) : Int) := by rw [wrap64 (by omega) (by omega)]; omega
          have e : nup x = x - 1 := by unfold nup; rw [nx]; simp [c1, show ¬ x < 2147483648 by omega, show ¬ x = 2147483648 by omega]
          simp [f1, f3, c1, c1', hw]
          (first | refine callG_r ?_ | refine callD_r ?_); simp; (first | refine callN_flat (by with_reducible first | exact c_l01From (n := x - 1) (by omega)) rfl ?_ | refine callN_new (by with_reducible first | exact c_l01From (n := x - 1) (by omega)) ?_ | refine callM_flat (by with_reducible first | exact c_l01From (n := x - 1) (by omega)) rfl ?_ | refine callM_new (by with_reducible first | exact c_l01From (n := x - 1) (by omega)) ?_)
          simp
          rw [e, cn_num (num_of (by omega))]
theorem c_specNextUp {x : Nat} (hx : CanF .f32 x) : Fun Try.prog 13 [.flt .f32 x] [] (.flt .f32 (nup x)) [] := by
  refine FnSpec.walkF dr_ok Try.func13 rfl (by kernel_rfl) rfl rfl rfl (by simp) ?_
  simp
  (first | refine callG_r ?_ | refine callD_r ?_); simp; (first | refine callN_flat (by with_reducible first | exact c_l01Next hx) rfl ?_ | refine callN_new (by with_reducible first | exact c_l01Next hx) ?_ | refine callM_flat (by with_reducible first | exact c_l01Next hx) rfl ?_ | refine callM_new (by with_reducible first | exact c_l01Next hx) ?_)
  simp
theorem law_FnNarrowed (l m : List Nat) (hb : ∀ b ∈ l, b < 256) (h1 : l.length ≤ maxLen) (h2 : m.length ≤ maxLen) : FnSpec Try.prog 3 [.view false (cBy l) l.length, .view false (cBy m) m.length] [] fun av _ => av = .bool true := by
  refine FnSpec.walkF dr_ok Try.func3 rfl (by kernel_rfl) rfl rfl rfl (by simp) ?_
  simp
  (first | refine callG_r ?_ | refine callD_r ?_); simp; (first | refine callN_flat (by with_reducible first | exact c_b10Long l m h1 h2) rfl ?_ | refine callN_new (by with_reducible first | exact c_b10Long l m h1 h2) ?_ | refine callM_flat (by with_reducible first | exact c_b10Long l m h1 h2) rfl ?_ | refine callM_new (by with_reducible first | exact c_b10Long l m h1 h2) ?_)
  simp
  intro q1 q2
  refine callG_r ?_
  simp
  refine callN_rel (c_B10Number l _ rfl (by omega) hb) ?_
  rintro _ ⟨x, hx, rfl⟩
  have hxl : x < 4294967296 := hx.2
  have hself := narrow_self hx
  simp
  (first | refine callG_r ?_ | refine callD_r ?_); simp; (first | refine callN_flat (by with_reducible first | exact c_Narrow hself) rfl ?_ | refine callN_new (by with_reducible first | exact c_Narrow hself) ?_ | refine callM_flat (by with_reducible first | exact c_Narrow hself) rfl ?_ | refine callM_new (by with_reducible first | exact c_Narrow hself) ?_)
  simp
  (first | refine callG_r ?_ | refine callD_r ?_); simp; (first | refine callN_flat (by with_reducible first | exact c_specSameNumber hx hx) rfl ?_ | refine callN_new (by with_reducible first | exact c_specSameNumber hx hx) ?_ | refine callM_flat (by with_reducible first | exact c_specSameNumber hx hx) rfl ?_ | refine callM_new (by with_reducible first | exact c_specSameNumber hx hx) ?_)
  simp
  (first | refine callG_r ?_ | refine callD_r ?_); simp; (first | refine callN_flat (by with_reducible first | exact c_specNextUp hx) rfl ?_ | refine callN_new (by with_reducible first | exact c_specNextUp hx) ?_ | refine callM_flat (by with_reducible first | exact c_specNextUp hx) rfl ?_ | refine callM_new (by with_reducible first | exact c_specNextUp hx) ?_)
  simp
  (first | refine callG_r ?_ | refine callD_r ?_); simp; (first | refine callN_flat (by with_reducible first | exact c_specIsFinite x) rfl ?_ | refine callN_new (by with_reducible first | exact c_specIsFinite x) ?_ | refine callM_flat (by with_reducible first | exact c_specIsFinite x) rfl ?_ | refine callM_new (by with_reducible first | exact c_specIsFinite x) ?_)
  cases nx : nanB .f32 x with
  | true =>
    have f2 : ford .f32 (fop .sub .f32 x x) 0 = none := by unfold fop; rw [floatBits_nan_l nx]; exact ford_nan_l (nanB_qnan .f32)
    simp [f2]
  | false =>
    obtain ⟨u1, u2⟩ := nup_num hxl nx
    have fb := finB_eq hxl nx
    have fby := finB_eq u2 u1
    cases hf : fin32 x with
    | false =>
      rw [hf] at fb
      simp [fb]
    | true =>
      rw [hf] at fb
      simp [fb]
      (first | refine callG_r ?_ | refine callD_r ?_); simp; (first | refine callN_flat (by with_reducible first | exact c_specIsFinite (nup x)) rfl ?_ | refine callN_new (by with_reducible first | exact c_specIsFinite (nup x)) ?_ | refine callM_flat (by with_reducible first | exact c_specIsFinite (nup x)) rfl ?_ | refine callM_new (by with_reducible first | exact c_specIsFinite (nup x)) ?_)
      cases hfy : fin32 (nup x) with
      | false =>
        rw [hfy] at fby
        simp [fby]
      | true =>
        rw [hfy] at fby
        obtain ⟨em, lw, hg, a1, a2, a3, b1, b2, b3⟩ := narrow_facts hxl (of_decide_eq_true hf) (of_decide_eq_true hfy)
        simp only [midF, lowF, highF] at a1 a2 a3
        have hr : (x : Int).tmod 2 = ((x % 2 : Nat) : Int) := rfl
        simp [fby]
        (first | refine callG_r ?_ | refine callD_r ?_); simp; (first | refine callN_flat (by with_reducible first | exact c_specBitsOf hx) rfl ?_ | refine callN_new (by with_reducible first | exact c_specBitsOf hx) ?_ | refine callM_flat (by with_reducible first | exact c_specBitsOf hx) rfl ?_ | refine callM_new (by with_reducible first | exact c_specBitsOf hx) ?_)
        by_cases o : x % 2 = 1
        · have o' : ((x % 2 : Nat) : Int) = 1 := by omega
          rw [if_pos o] at b1
          simp [hr, o', o]
          (first | refine callG_r ?_ | refine callD_r ?_); simp; (first | refine callN_flat (by with_reducible first | exact c_Narrow a1) rfl ?_ | refine callN_new (by with_reducible first | exact c_Narrow a1) ?_ | refine callM_flat (by with_reducible first | exact c_Narrow a1) rfl ?_ | refine callM_new (by with_reducible first | exact c_Narrow a1) ?_)
          simp [b1]
          (first | refine callG_r ?_ | refine callD_r ?_); simp; (first | refine callN_flat (by with_reducible first | exact c_Narrow a2) rfl ?_ | refine callN_new (by with_reducible first | exact c_Narrow a2) ?_ | refine callM_flat (by with_reducible first | exact c_Narrow a2) rfl ?_ | refine callM_new (by with_reducible first | exact c_Narrow a2) ?_)
          simp [b2]
          (first | refine callG_r ?_ | refine callD_r ?_); simp; (first | refine callN_flat (by with_reducible first | exact c_Narrow a3) rfl ?_ | refine callN_new (by with_reducible first | exact c_Narrow a3) ?_ | refine callM_flat (by with_reducible first | exact c_Narrow a3) rfl ?_ | refine callM_new (by with_reducible first | exact c_Narrow a3) ?_)
          simp [b3]
        · have o' : ((x % 2 : Nat) : Int) = 0 := by omega
          rw [if_neg o] at b1
          simp [hr, o', o]
          (first | refine callG_r ?_ | refine callD_r ?_); simp; (first | refine callN_flat (by with_reducible first | exact c_Narrow a1) rfl ?_ | refine callN_new (by with_reducible first | exact c_Narrow a1) ?_ | refine callM_flat (by with_reducible first | exact c_Narrow a1) rfl ?_ | refine callM_new (by with_reducible first | exact c_Narrow a1) ?_)
          simp [b1]
          (first | refine callG_r ?_ | refine callD_r ?_); simp; (first | refine callN_flat (by with_reducible first | exact c_Narrow a2) rfl ?_ | refine callN_new (by with_reducible first | exact c_Narrow a2) ?_ | refine callM_flat (by with_reducible first | exact c_Narrow a2) rfl ?_ | refine callM_new (by with_reducible first | exact c_Narrow a2) ?_)
          simp [b2]
          (first | refine callG_r ?_ | refine callD_r ?_); simp; (first | refine callN_flat (by with_reducible first | exact c_Narrow a3) rfl ?_ | refine callN_new (by with_reducible first | exact c_Narrow a3) ?_ | refine callM_flat (by with_reducible first | exact c_Narrow a3) rfl ?_ | refine callM_new (by with_reducible first | exact c_Narrow a3) ?_)
          simp [b3]
end Go.Proofs.Ytfngkhkghjgmkaa
