/- Contracts: sines of turns, angles of points.
Conditions: none. -/
import Derived.Test.YtfngkhkghjgmkaaVB3
namespace Go.Proofs.Ytfngkhkghjgmkaa
set_option linter.all false
open Go Go.Awp
set_option maxRecDepth 100000
set_option maxHeartbeats 4000000
set_option pp.deepTerms true

theorem c_Copysign0 {x : Nat} (a1 : nanB .f64 x = false) (a2 : x < 18446744073709551616) : ∃ r : Nat, (r = 0 ∨ r = 9223372036854775808) ∧ Fun Try.prog 74 [.flt .f64 0, .flt .f64 x] [] (.flt .f64 r) [] := by
  have hz := c_bits64 (x := 0) (by decide +kernel)
  have e0 : bitsV .andNot .u64 0 9223372036854775808 = 0 := by decide +kernel
  have o1 : bitsV .or .u64 0 0 = 0 := by decide +kernel
  have o2 : bitsV .or .u64 0 9223372036854775808 = 9223372036854775808 := by decide +kernel
  have f1 := c_from64 (n := 0) (by decide)
  have f2 := c_from64 (n := 9223372036854775808) (by decide)
  rw [show cn .f64 0 = 0 by decide +kernel, show ((0 : Nat) : Int) = 0 from rfl] at f1
  rw [show cn .f64 9223372036854775808 = 9223372036854775808 by decide +kernel, show ((9223372036854775808 : Nat) : Int) = 9223372036854775808 from rfl] at f2
  rcases and63 a2 with e | e
  · refine ⟨0, .inl rfl, ?_⟩
    refine FnSpec.walkF dr_ok Try.func74 rfl (by kernel_rfl) rfl rfl rfl (by simp) ?_
    simp
    (first | refine callG_r ?_ | refine callD_r ?_); simp; (first | refine callN_flat (by with_reducible first | exact hz) rfl ?_ | refine callN_new (by with_reducible first | exact hz) ?_ | refine callM_flat (by with_reducible first | exact hz) rfl ?_ | refine callM_new (by with_reducible first | exact hz) ?_)
    simp [e0]
    (first | refine callG_r ?_ | refine callD_r ?_); simp; (first | refine callN_flat (by with_reducible first | exact c_bits64 a1) rfl ?_ | refine callN_new (by with_reducible first | exact c_bits64 a1) ?_ | refine callM_flat (by with_reducible first | exact c_bits64 a1) rfl ?_ | refine callM_new (by with_reducible first | exact c_bits64 a1) ?_)
    simp [e, o1]
    (first | refine callG_r ?_ | refine callD_r ?_); simp; (first | refine callN_flat (by with_reducible first | exact f1) rfl ?_ | refine callN_new (by with_reducible first | exact f1) ?_ | refine callM_flat (by with_reducible first | exact f1) rfl ?_ | refine callM_new (by with_reducible first | exact f1) ?_)
    simp
  · refine ⟨9223372036854775808, .inr rfl, ?_⟩
    refine FnSpec.walkF dr_ok Try.func74 rfl (by kernel_rfl) rfl rfl rfl (by simp) ?_
    simp
    (first | refine callG_r ?_ | refine callD_r ?_); simp; (first | refine callN_flat (by with_reducible first | exact hz) rfl ?_ | refine callN_new (by with_reducible first | exact hz) ?_ | refine callM_flat (by with_reducible first | exact hz) rfl ?_ | refine callM_new (by with_reducible first | exact hz) ?_)
    simp [e0]
    (first | refine callG_r ?_ | refine callD_r ?_); simp; (first | refine callN_flat (by with_reducible first | exact c_bits64 a1) rfl ?_ | refine callN_new (by with_reducible first | exact c_bits64 a1) ?_ | refine callM_flat (by with_reducible first | exact c_bits64 a1) rfl ?_ | refine callM_new (by with_reducible first | exact c_bits64 a1) ?_)
    simp [e, o2]
    (first | refine callG_r ?_ | refine callD_r ?_); simp; (first | refine callN_flat (by with_reducible first | exact f2) rfl ?_ | refine callN_new (by with_reducible first | exact f2) ?_ | refine callM_flat (by with_reducible first | exact f2) rfl ?_ | refine callM_new (by with_reducible first | exact f2) ?_)
    simp
theorem subB_nan {x : Nat} (h : subB x = true) : nanB .f32 x = false := by
  unfold subB at h
  cases nx : nanB .f32 x with
  | true => rw [nx] at h; cases h
  | false => rfl
theorem c_Flush {x : Nat} : ∃ w : Nat, (if subB x then (w = 0 ∨ w = 2147483648) else w = x) ∧ Fun Try.prog 38 [.flt .f32 x] [] (.flt .f32 w) [] := by
  cases hs : subB x with
  | false =>
    refine ⟨x, rfl, ?_⟩
    have h := c_IsSubnormal x
    rw [hs] at h
    refine FnSpec.walkF dr_ok Try.func38 rfl (by kernel_rfl) rfl rfl rfl (by simp) ?_
    simp
    (first | refine callG_r ?_ | refine callD_r ?_); simp; (first | refine callN_flat (by with_reducible first | exact h) rfl ?_ | refine callN_new (by with_reducible first | exact h) ?_ | refine callM_flat (by with_reducible first | exact h) rfl ?_ | refine callM_new (by with_reducible first | exact h) ?_)
    simp
  | true =>
    have h := c_IsSubnormal x
    rw [hs] at h
    obtain ⟨a1, a2, a3⟩ := wid_sign (subB_nan hs)
    have a2 : wid x < 18446744073709551616 := a2
    obtain ⟨r, hr, hc⟩ := c_Copysign0 a1 a2
    rcases hr with rfl | rfl
    · refine ⟨0, .inl rfl, ?_⟩
      have e : fcvt .f64 .f32 0 = some 0 := by decide +kernel
      refine FnSpec.walkF dr_ok Try.func38 rfl (by kernel_rfl) rfl rfl rfl (by simp) ?_
      simp
      (first | refine callG_r ?_ | refine callD_r ?_); simp; (first | refine callN_flat (by with_reducible first | exact h) rfl ?_ | refine callN_new (by with_reducible first | exact h) ?_ | refine callM_flat (by with_reducible first | exact h) rfl ?_ | refine callM_new (by with_reducible first | exact h) ?_)
      simp
      (first | refine callG_r ?_ | refine callD_r ?_); simp; (first | refine callN_flat (by with_reducible first | exact hc) rfl ?_ | refine callN_new (by with_reducible first | exact hc) ?_ | refine callM_flat (by with_reducible first | exact hc) rfl ?_ | refine callM_new (by with_reducible first | exact hc) ?_)
      simp [e]
    · refine ⟨2147483648, .inr rfl, ?_⟩
      have e : fcvt .f64 .f32 9223372036854775808 = some 2147483648 := by decide +kernel
      refine FnSpec.walkF dr_ok Try.func38 rfl (by kernel_rfl) rfl rfl rfl (by simp) ?_
      simp
      (first | refine callG_r ?_ | refine callD_r ?_); simp; (first | refine callN_flat (by with_reducible first | exact h) rfl ?_ | refine callN_new (by with_reducible first | exact h) ?_ | refine callM_flat (by with_reducible first | exact h) rfl ?_ | refine callM_new (by with_reducible first | exact h) ?_)
      simp
      (first | refine callG_r ?_ | refine callD_r ?_); simp; (first | refine callN_flat (by with_reducible first | exact hc) rfl ?_ | refine callN_new (by with_reducible first | exact hc) ?_ | refine callM_flat (by with_reducible first | exact hc) rfl ?_ | refine callM_new (by with_reducible first | exact hc) ?_)
      simp [e]
theorem c_IsFinite' (x : Nat) : Fun Try.prog 19 [.flt .f32 x] [] (.bool (ford .f32 (fop .sub .f32 x x) 0 == some .eq)) [] := by
  refine FnSpec.walkF dr_ok Try.func19 rfl (by kernel_rfl) rfl rfl rfl (by simp) ?_
  simp
theorem c_fraction (x : Nat) (h : floatToIntVal .f64 x .i64 = some 0) : Fun Try.prog 95 [.flt .f64 x] [] (.flt .f64 (siF x)) [] := by
  have e : fint .f64 0 = 0 := by decide +kernel
  unfold siF
  refine FnSpec.walkF dr_ok Try.func95 rfl (by kernel_rfl) rfl rfl rfl (by simp) ?_
  by_cases c : ford .f64 (fop .sub .f64 x 0) 0 = some .lt
  · simp [h, e, c]
  · simp [h, e, c]
def kw8 (j : Nat) : Nat := ks8.getD j 0
theorem kw8_ge {j : Nat} (h : j < 8) : ford .f64 (kw8 j) 4607182418800017408 = some .gt ∨ ford .f64 (kw8 j) 4607182418800017408 = some .eq := by
  have : ∀ j < 8, ford .f64 (kw8 j) 4607182418800017408 = some .gt ∨ ford .f64 (kw8 j) 4607182418800017408 = some .eq := by decide +kernel
  exact this j h
theorem kw8_step {j : Nat} (h : j < 8) : fop .sub .f64 (kw8 j) 4607182418800017408 = kw8 (j + 1) := by
  have : ∀ j < 8, fop .sub .f64 (kw8 j) 4607182418800017408 = kw8 (j + 1) := by decide +kernel
  exact this j h
theorem kw8_end : ford .f64 (kw8 8) 4607182418800017408 = some .lt := by decide +kernel
theorem sinQ_take (u : Nat) {j : Nat} (h : j < 8) : sinQ u (ks8.take (j + 1)) 4607182418800017408 = fop .sub .f64 4607182418800017408 (fop .quo .f64 (fop .mul .f64 u (sinQ u (ks8.take j) 4607182418800017408)) (fop .mul .f64 (fop .mul .f64 4611686018427387904 (kw8 j)) (fop .add .f64 (fop .mul .f64 4611686018427387904 (kw8 j)) 4607182418800017408))) := by
  have e : ks8.take (j + 1) = ks8.take j ++ [kw8 j] := by
    have : ∀ j < 8, ks8.take (j + 1) = ks8.take j ++ [kw8 j] := by decide
    exact this j h
  rw [e]; unfold sinQ; rw [List.foldl_append]; rfl
def kw15 (j : Nat) : Nat := (ks15 ++ [13830554455654793216]).getD j 0
theorem kw15_ge {j : Nat} (h : j < 8) : ford .f64 (kw15 j) 4607182418800017408 = some .gt ∨ ford .f64 (kw15 j) 4607182418800017408 = some .eq := by
  have : ∀ j < 8, ford .f64 (kw15 j) 4607182418800017408 = some .gt ∨ ford .f64 (kw15 j) 4607182418800017408 = some .eq := by decide +kernel
  exact this j h
theorem kw15_step {j : Nat} (h : j < 8) : fop .sub .f64 (kw15 j) 4611686018427387904 = kw15 (j + 1) := by
  have : ∀ j < 8, fop .sub .f64 (kw15 j) 4611686018427387904 = kw15 (j + 1) := by decide +kernel
  exact this j h
theorem kw15_end : ford .f64 (kw15 8) 4607182418800017408 = some .lt := by decide +kernel
theorem angP_take (u : Nat) {j : Nat} (h : j < 8) : angP u (ks15.take (j + 1)) 0 = fop .sub .f64 (fop .quo .f64 4607182418800017408 (kw15 j)) (fop .mul .f64 u (angP u (ks15.take j) 0)) := by
  have e : ks15.take (j + 1) = ks15.take j ++ [kw15 j] := by
    have : ∀ j < 8, ks15.take (j + 1) = ks15.take j ++ [kw15 j] := by decide
    exact this j h
  rw [e]; unfold angP; rw [List.foldl_append]; rfl
theorem c_sine (x : Nat) (h : floatToIntVal .f64 x .i64 = some 0) : Fun Try.prog 73 [.flt .f64 x] [] (.flt .f64 (siG (siF x))) [] := by
  have hf := c_fraction x h
  generalize siF x = f at *
  refine FnSpec.walkF dr_ok Try.func73 rfl (by kernel_rfl) rfl rfl rfl (by simp) ?_
  simp
  (first | refine callG_r ?_ | refine callD_r ?_); simp; (first | refine callN_flat (by with_reducible first | exact hf) rfl ?_ | refine callN_new (by with_reducible first | exact hf) ?_ | refine callM_flat (by with_reducible first | exact hf) rfl ?_ | refine callM_new (by with_reducible first | exact hf) ?_)
  have cases3 : ford .f64 f 4602678819172646912 = some .gt ∨ ford .f64 f 4602678819172646912 = some .eq ∨ (¬ ford .f64 f 4602678819172646912 = some .gt ∧ ¬ ford .f64 f 4602678819172646912 = some .eq) := by
    by_cases a : ford .f64 f 4602678819172646912 = some .gt
    · exact .inl a
    · by_cases b : ford .f64 f 4602678819172646912 = some .eq
      · exact .inr (.inl b)
      · exact .inr (.inr ⟨a, b⟩)
  rcases cases3 with c1 | c1 | ⟨c1, c1b⟩
  · by_cases c2 : ford .f64 (fop .sub .f64 f 4602678819172646912) 4598175219545276416 = some .gt
    · skip
      simp [c1, c2]
      refine loopG_of (α := Nat) (fun j => j ≤ 8) (fun j => 8 - j) (fun j => [(8, .flt .f64 (kw8 j)), (7, .flt .f64 (sinQ (fop .mul .f64 (fop .mul .f64 (fop .sub .f64 4602678819172646912 (fop .sub .f64 f 4602678819172646912)) 4618760256179416344) (fop .mul .f64 (fop .sub .f64 4602678819172646912 (fop .sub .f64 f 4602678819172646912)) 4618760256179416344)) (ks8.take j) 4607182418800017408)), (6, .flt .f64 (fop .mul .f64 (fop .mul .f64 (fop .sub .f64 4602678819172646912 (fop .sub .f64 f 4602678819172646912)) 4618760256179416344) (fop .mul .f64 (fop .sub .f64 4602678819172646912 (fop .sub .f64 f 4602678819172646912)) 4618760256179416344))), (5, .flt .f64 (fop .mul .f64 (fop .sub .f64 4602678819172646912 (fop .sub .f64 f 4602678819172646912)) 4618760256179416344)), (4, .bool (ford .f64 f 4602678819172646912 == some .gt || ford .f64 f 4602678819172646912 == some .eq))]) (fun _ => []) 0 (by simp) ?_ fun j hj => ?_
      · refine weak_UH rfl ?_
        simp [c1, c2, kw8, sinQ, ks8]
      by_cases g : j < 8
      · have hs := sinQ_take (fop .mul .f64 (fop .mul .f64 (fop .sub .f64 4602678819172646912 (fop .sub .f64 f 4602678819172646912)) 4618760256179416344) (fop .mul .f64 (fop .sub .f64 4602678819172646912 (fop .sub .f64 f 4602678819172646912)) 4618760256179416344)) g
        have hk := kw8_step g
        rcases kw8_ge g with g1 | g1
        · simp [g1, hk]
          refine loopK_next (j + 1) (by omega) (by omega) ?_
          refine weak_UH rfl ?_
          simp [hs, c1, c2]
        · simp [g1, hk]
          refine loopK_next (j + 1) (by omega) (by omega) ?_
          refine weak_UH rfl ?_
          simp [hs, c1, c2]
      · obtain rfl : j = 8 := by omega
        have he : ks8.take 8 = ks8 := rfl
        simp [kw8_end, c1, c2, he, siG, siA, siB, siZ, isGe]
    · skip
      simp [c1, c2]
      refine loopG_of (α := Nat) (fun j => j ≤ 8) (fun j => 8 - j) (fun j => [(8, .flt .f64 (kw8 j)), (7, .flt .f64 (sinQ (fop .mul .f64 (fop .mul .f64 (fop .sub .f64 f 4602678819172646912) 4618760256179416344) (fop .mul .f64 (fop .sub .f64 f 4602678819172646912) 4618760256179416344)) (ks8.take j) 4607182418800017408)), (6, .flt .f64 (fop .mul .f64 (fop .mul .f64 (fop .sub .f64 f 4602678819172646912) 4618760256179416344) (fop .mul .f64 (fop .sub .f64 f 4602678819172646912) 4618760256179416344))), (5, .flt .f64 (fop .mul .f64 (fop .sub .f64 f 4602678819172646912) 4618760256179416344)), (4, .bool (ford .f64 f 4602678819172646912 == some .gt || ford .f64 f 4602678819172646912 == some .eq))]) (fun _ => []) 0 (by simp) ?_ fun j hj => ?_
      · refine weak_UH rfl ?_
        simp [c1, c2, kw8, sinQ, ks8]
      by_cases g : j < 8
      · have hs := sinQ_take (fop .mul .f64 (fop .mul .f64 (fop .sub .f64 f 4602678819172646912) 4618760256179416344) (fop .mul .f64 (fop .sub .f64 f 4602678819172646912) 4618760256179416344)) g
        have hk := kw8_step g
        rcases kw8_ge g with g1 | g1
        · simp [g1, hk]
          refine loopK_next (j + 1) (by omega) (by omega) ?_
          refine weak_UH rfl ?_
          simp [hs, c1, c2]
        · simp [g1, hk]
          refine loopK_next (j + 1) (by omega) (by omega) ?_
          refine weak_UH rfl ?_
          simp [hs, c1, c2]
      · obtain rfl : j = 8 := by omega
        have he : ks8.take 8 = ks8 := rfl
        simp [kw8_end, c1, c2, he, siG, siA, siB, siZ, isGe]
  · by_cases c2 : ford .f64 (fop .sub .f64 f 4602678819172646912) 4598175219545276416 = some .gt
    · skip
      simp [c1, c2]
      refine loopG_of (α := Nat) (fun j => j ≤ 8) (fun j => 8 - j) (fun j => [(8, .flt .f64 (kw8 j)), (7, .flt .f64 (sinQ (fop .mul .f64 (fop .mul .f64 (fop .sub .f64 4602678819172646912 (fop .sub .f64 f 4602678819172646912)) 4618760256179416344) (fop .mul .f64 (fop .sub .f64 4602678819172646912 (fop .sub .f64 f 4602678819172646912)) 4618760256179416344)) (ks8.take j) 4607182418800017408)), (6, .flt .f64 (fop .mul .f64 (fop .mul .f64 (fop .sub .f64 4602678819172646912 (fop .sub .f64 f 4602678819172646912)) 4618760256179416344) (fop .mul .f64 (fop .sub .f64 4602678819172646912 (fop .sub .f64 f 4602678819172646912)) 4618760256179416344))), (5, .flt .f64 (fop .mul .f64 (fop .sub .f64 4602678819172646912 (fop .sub .f64 f 4602678819172646912)) 4618760256179416344)), (4, .bool (ford .f64 f 4602678819172646912 == some .gt || ford .f64 f 4602678819172646912 == some .eq))]) (fun _ => []) 0 (by simp) ?_ fun j hj => ?_
      · refine weak_UH rfl ?_
        simp [c1, c2, kw8, sinQ, ks8]
      by_cases g : j < 8
      · have hs := sinQ_take (fop .mul .f64 (fop .mul .f64 (fop .sub .f64 4602678819172646912 (fop .sub .f64 f 4602678819172646912)) 4618760256179416344) (fop .mul .f64 (fop .sub .f64 4602678819172646912 (fop .sub .f64 f 4602678819172646912)) 4618760256179416344)) g
        have hk := kw8_step g
        rcases kw8_ge g with g1 | g1
        · simp [g1, hk]
          refine loopK_next (j + 1) (by omega) (by omega) ?_
          refine weak_UH rfl ?_
          simp [hs, c1, c2]
        · simp [g1, hk]
          refine loopK_next (j + 1) (by omega) (by omega) ?_
          refine weak_UH rfl ?_
          simp [hs, c1, c2]
      · obtain rfl : j = 8 := by omega
        have he : ks8.take 8 = ks8 := rfl
        simp [kw8_end, c1, c2, he, siG, siA, siB, siZ, isGe]
    · skip
      simp [c1, c2]
      refine loopG_of (α := Nat) (fun j => j ≤ 8) (fun j => 8 - j) (fun j => [(8, .flt .f64 (kw8 j)), (7, .flt .f64 (sinQ (fop .mul .f64 (fop .mul .f64 (fop .sub .f64 f 4602678819172646912) 4618760256179416344) (fop .mul .f64 (fop .sub .f64 f 4602678819172646912) 4618760256179416344)) (ks8.take j) 4607182418800017408)), (6, .flt .f64 (fop .mul .f64 (fop .mul .f64 (fop .sub .f64 f 4602678819172646912) 4618760256179416344) (fop .mul .f64 (fop .sub .f64 f 4602678819172646912) 4618760256179416344))), (5, .flt .f64 (fop .mul .f64 (fop .sub .f64 f 4602678819172646912) 4618760256179416344)), (4, .bool (ford .f64 f 4602678819172646912 == some .gt || ford .f64 f 4602678819172646912 == some .eq))]) (fun _ => []) 0 (by simp) ?_ fun j hj => ?_
      · refine weak_UH rfl ?_
        simp [c1, c2, kw8, sinQ, ks8]
      by_cases g : j < 8
      · have hs := sinQ_take (fop .mul .f64 (fop .mul .f64 (fop .sub .f64 f 4602678819172646912) 4618760256179416344) (fop .mul .f64 (fop .sub .f64 f 4602678819172646912) 4618760256179416344)) g
        have hk := kw8_step g
        rcases kw8_ge g with g1 | g1
        · simp [g1, hk]
          refine loopK_next (j + 1) (by omega) (by omega) ?_
          refine weak_UH rfl ?_
          simp [hs, c1, c2]
        · simp [g1, hk]
          refine loopK_next (j + 1) (by omega) (by omega) ?_
          refine weak_UH rfl ?_
          simp [hs, c1, c2]
      · obtain rfl : j = 8 := by omega
        have he : ks8.take 8 = ks8 := rfl
        simp [kw8_end, c1, c2, he, siG, siA, siB, siZ, isGe]
  · by_cases c2 : ford .f64 f 4598175219545276416 = some .gt
    · skip
      simp [c1, c1b, c2]
      refine loopG_of (α := Nat) (fun j => j ≤ 8) (fun j => 8 - j) (fun j => [(8, .flt .f64 (kw8 j)), (7, .flt .f64 (sinQ (fop .mul .f64 (fop .mul .f64 (fop .sub .f64 4602678819172646912 f) 4618760256179416344) (fop .mul .f64 (fop .sub .f64 4602678819172646912 f) 4618760256179416344)) (ks8.take j) 4607182418800017408)), (6, .flt .f64 (fop .mul .f64 (fop .mul .f64 (fop .sub .f64 4602678819172646912 f) 4618760256179416344) (fop .mul .f64 (fop .sub .f64 4602678819172646912 f) 4618760256179416344))), (5, .flt .f64 (fop .mul .f64 (fop .sub .f64 4602678819172646912 f) 4618760256179416344)), (4, .bool (ford .f64 f 4602678819172646912 == some .gt || ford .f64 f 4602678819172646912 == some .eq))]) (fun _ => []) 0 (by simp) ?_ fun j hj => ?_
      · refine weak_UH rfl ?_
        simp [c1, c1b, c2, kw8, sinQ, ks8]
      by_cases g : j < 8
      · have hs := sinQ_take (fop .mul .f64 (fop .mul .f64 (fop .sub .f64 4602678819172646912 f) 4618760256179416344) (fop .mul .f64 (fop .sub .f64 4602678819172646912 f) 4618760256179416344)) g
        have hk := kw8_step g
        rcases kw8_ge g with g1 | g1
        · simp [g1, hk]
          refine loopK_next (j + 1) (by omega) (by omega) ?_
          refine weak_UH rfl ?_
          simp [hs, c1, c1b, c2]
        · simp [g1, hk]
          refine loopK_next (j + 1) (by omega) (by omega) ?_
          refine weak_UH rfl ?_
          simp [hs, c1, c1b, c2]
      · obtain rfl : j = 8 := by omega
        have he : ks8.take 8 = ks8 := rfl
        simp [kw8_end, c1, c1b, c2, he, siG, siA, siB, siZ, isGe]
    · skip
      simp [c1, c1b, c2]
      refine loopG_of (α := Nat) (fun j => j ≤ 8) (fun j => 8 - j) (fun j => [(8, .flt .f64 (kw8 j)), (7, .flt .f64 (sinQ (fop .mul .f64 (fop .mul .f64 f 4618760256179416344) (fop .mul .f64 f 4618760256179416344)) (ks8.take j) 4607182418800017408)), (6, .flt .f64 (fop .mul .f64 (fop .mul .f64 f 4618760256179416344) (fop .mul .f64 f 4618760256179416344))), (5, .flt .f64 (fop .mul .f64 f 4618760256179416344)), (4, .bool (ford .f64 f 4602678819172646912 == some .gt || ford .f64 f 4602678819172646912 == some .eq))]) (fun _ => []) 0 (by simp) ?_ fun j hj => ?_
      · refine weak_UH rfl ?_
        simp [c1, c1b, c2, kw8, sinQ, ks8]
      by_cases g : j < 8
      · have hs := sinQ_take (fop .mul .f64 (fop .mul .f64 f 4618760256179416344) (fop .mul .f64 f 4618760256179416344)) g
        have hk := kw8_step g
        rcases kw8_ge g with g1 | g1
        · simp [g1, hk]
          refine loopK_next (j + 1) (by omega) (by omega) ?_
          refine weak_UH rfl ?_
          simp [hs, c1, c1b, c2]
        · simp [g1, hk]
          refine loopK_next (j + 1) (by omega) (by omega) ?_
          refine weak_UH rfl ?_
          simp [hs, c1, c1b, c2]
      · obtain rfl : j = 8 := by omega
        have he : ks8.take 8 = ks8 := rfl
        simp [kw8_end, c1, c1b, c2, he, siG, siA, siB, siZ, isGe]
theorem c_SineTurns {a r : Nat} (ha : a < 4294967296) (na : nanB .f32 a = false) (hf : ford .f32 (fop .sub .f32 a a) 0 = some .eq) (hb : isGe (ab64 (wid a)) 4841369599423283200 = false) (hi : floatToIntVal .f64 (wid a) .i64 = some 0) (hr : fcvt .f64 .f32 (siG (siF (wid a))) = some r) : Fun Try.prog 36 [.flt .f32 a] [] (.flt .f32 r) [] := by
  obtain ⟨a1, a2, a3⟩ := wid_sign na
  have a2 : wid a < 18446744073709551616 := a2
  unfold isGe at hb
  simp only [Bool.or_eq_false_iff, beq_eq_false_iff_ne] at hb
  refine FnSpec.walkF dr_ok Try.func36 rfl (by kernel_rfl) rfl rfl rfl (by simp) ?_
  simp
  (first | refine callG_r ?_ | refine callD_r ?_); simp; (first | refine callN_flat (by with_reducible first | exact c_IsFinite' a) rfl ?_ | refine callN_new (by with_reducible first | exact c_IsFinite' a) ?_ | refine callM_flat (by with_reducible first | exact c_IsFinite' a) rfl ?_ | refine callM_new (by with_reducible first | exact c_IsFinite' a) ?_)
  simp [hf]
  (first | refine callG_r ?_ | refine callD_r ?_); simp; (first | refine callN_flat (by with_reducible first | exact c_Abs a1 a2) rfl ?_ | refine callN_new (by with_reducible first | exact c_Abs a1 a2) ?_ | refine callM_flat (by with_reducible first | exact c_Abs a1 a2) rfl ?_ | refine callM_new (by with_reducible first | exact c_Abs a1 a2) ?_)
  simp [hb.1, hb.2]
  (first | refine callG_r ?_ | refine callD_r ?_); simp; (first | refine callN_flat (by with_reducible first | exact c_sine _ hi) rfl ?_ | refine callN_new (by with_reducible first | exact c_sine _ hi) ?_ | refine callM_flat (by with_reducible first | exact c_sine _ hi) rfl ?_ | refine callM_new (by with_reducible first | exact c_sine _ hi) ?_)
  simp [hr]
end Go.Proofs.Ytfngkhkghjgmkaa
