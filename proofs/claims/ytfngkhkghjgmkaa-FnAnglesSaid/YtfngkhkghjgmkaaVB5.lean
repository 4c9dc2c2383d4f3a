/- Contracts: angles of points.
Conditions: none. -/
import Derived.Test.YtfngkhkghjgmkaaVB4
namespace Go.Proofs.Ytfngkhkghjgmkaa
set_option linter.all false
open Go Go.Awp
set_option maxRecDepth 100000
set_option maxHeartbeats 4000000
set_option pp.deepTerms true

def angN : Nat → Nat → Nat
  | 0, t => t
  | n + 1, t => angR (angN n t)
theorem angN_succ (n t : Nat) : angN (n + 1) t = fop .quo .f64 (angN n t) (fop .add .f64 4607182418800017408 (fsqrt (fop .add .f64 4607182418800017408 (fop .mul .f64 (angN n t) (angN n t))))) := rfl
theorem angC_N (t : Nat) : angC t = fop .quo .f64 (fop .mul .f64 4620693217682128896 (fop .mul .f64 (angN 3 t) (angP (fop .mul .f64 (angN 3 t) (angN 3 t)) ks15 0))) 4618760256179416344 := rfl
theorem c_AngleZero {x y : Nat} (fx : ford .f32 (fop .sub .f32 x x) 0 = some .eq) (fy : ford .f32 (fop .sub .f32 y y) 0 = some .eq) (zx : ford .f32 x 0 = some .eq) (zy : ford .f32 y 0 = some .eq) :
    Fun Try.prog 34 [.flt .f32 y, .flt .f32 x] [] (.flt .f32 0) [] := by
  refine FnSpec.walkF dr_ok Try.func34 rfl (by kernel_rfl) rfl rfl rfl (by simp) ?_
  simp
  (first | refine callG_r ?_ | refine callD_r ?_); simp; (first | refine callN_flat (by with_reducible first | exact c_IsFinite' x) rfl ?_ | refine callN_new (by with_reducible first | exact c_IsFinite' x) ?_ | refine callM_flat (by with_reducible first | exact c_IsFinite' x) rfl ?_ | refine callM_new (by with_reducible first | exact c_IsFinite' x) ?_)
  simp [fx]
  (first | refine callG_r ?_ | refine callD_r ?_); simp; (first | refine callN_flat (by with_reducible first | exact c_IsFinite' y) rfl ?_ | refine callN_new (by with_reducible first | exact c_IsFinite' y) ?_ | refine callM_flat (by with_reducible first | exact c_IsFinite' y) rfl ?_ | refine callM_new (by with_reducible first | exact c_IsFinite' y) ?_)
  simp [fy, zx, zy]
theorem c_AngleTurns {x y r : Nat} (nx : nanB .f32 x = false) (ny : nanB .f32 y = false) (fx : ford .f32 (fop .sub .f32 x x) 0 = some .eq) (fy : ford .f32 (fop .sub .f32 y y) 0 = some .eq) (hz : ford .f32 x 0 = some .eq → ¬ ford .f32 y 0 = some .eq) (hr : fcvt .f64 .f32 (ang64 y x) = some r) :
    Fun Try.prog 34 [.flt .f32 y, .flt .f32 x] [] (.flt .f32 r) [] := by
  obtain ⟨a1, a2, a3⟩ := wid_sign nx
  have a2 : wid x < 18446744073709551616 := a2
  obtain ⟨b1, b2, b3⟩ := wid_sign ny
  have b2 : wid y < 18446744073709551616 := b2
  refine FnSpec.walkF dr_ok Try.func34 rfl (by kernel_rfl) rfl rfl rfl (by simp) ?_
  simp
  (first | refine callG_r ?_ | refine callD_r ?_); simp; (first | refine callN_flat (by with_reducible first | exact c_IsFinite' x) rfl ?_ | refine callN_new (by with_reducible first | exact c_IsFinite' x) ?_ | refine callM_flat (by with_reducible first | exact c_IsFinite' x) rfl ?_ | refine callM_new (by with_reducible first | exact c_IsFinite' x) ?_)
  simp [fx]
  (first | refine callG_r ?_ | refine callD_r ?_); simp; (first | refine callN_flat (by with_reducible first | exact c_IsFinite' y) rfl ?_ | refine callN_new (by with_reducible first | exact c_IsFinite' y) ?_ | refine callM_flat (by with_reducible first | exact c_IsFinite' y) rfl ?_ | refine callM_new (by with_reducible first | exact c_IsFinite' y) ?_)
  by_cases zx : ford .f32 x 0 = some .eq
  · have zy := hz zx
    simp [fy, zx, zy]
    (first | refine callG_r ?_ | refine callD_r ?_); simp; (first | refine callN_flat (by with_reducible first | exact c_Abs b1 b2) rfl ?_ | refine callN_new (by with_reducible first | exact c_Abs b1 b2) ?_ | refine callM_flat (by with_reducible first | exact c_Abs b1 b2) rfl ?_ | refine callM_new (by with_reducible first | exact c_Abs b1 b2) ?_)
    simp
    (first | refine callG_r ?_ | refine callD_r ?_); simp; (first | refine callN_flat (by with_reducible first | exact c_Abs a1 a2) rfl ?_ | refine callN_new (by with_reducible first | exact c_Abs a1 a2) ?_ | refine callM_flat (by with_reducible first | exact c_Abs a1 a2) rfl ?_ | refine callM_new (by with_reducible first | exact c_Abs a1 a2) ?_)
    by_cases cg : ford .f64 (ab64 (wid y)) (ab64 (wid x)) = some .gt
    · skip
      simp [cg]
      refine loopG_of (α := Nat) (fun j => j ≤ 3) (fun j => 3 - j) (fun j => [(43, .int .i64 (j : Int)), (7, .flt .f64 (angN j (fop .quo .f64 (ab64 (wid x)) (ab64 (wid y))))), (6, .flt .f64 (ab64 (wid x))), (5, .flt .f64 (ab64 (wid y))), (1, .flt .f32 x), (0, .flt .f32 y)]) (fun _ => []) 0 (by simp) ?_ fun j hj => ?_
      · refine weak_UH rfl ?_
        simp [angN, cg]
      by_cases g : j < 3
      · have hw := nat_wrap (k := j) (by omega)
        have g' : (j : Int) < 3 := by omega
        simp [g', g]
        (first | refine callG_r ?_ | refine callD_r ?_); simp; (first | refine callN_flat (by with_reducible first | exact c_Msqrt _) rfl ?_ | refine callN_new (by with_reducible first | exact c_Msqrt _) ?_ | refine callM_flat (by with_reducible first | exact c_Msqrt _) rfl ?_ | refine callM_new (by with_reducible first | exact c_Msqrt _) ?_)
        simp [hw]
        refine loopK_next (j + 1) (by omega) (by omega) ?_
        refine weak_UH rfl ?_
        simp [angN_succ, hw]
      obtain rfl : j = 3 := by omega
      simp
      refine loopG_of (α := Nat) (fun j => j ≤ 8) (fun j => 8 - j) (fun j => [(10, .flt .f64 (kw15 j)), (9, .flt .f64 (angP (fop .mul .f64 (angN 3 (fop .quo .f64 (ab64 (wid x)) (ab64 (wid y)))) (angN 3 (fop .quo .f64 (ab64 (wid x)) (ab64 (wid y))))) (ks15.take j) 0)), (8, .flt .f64 (fop .mul .f64 (angN 3 (fop .quo .f64 (ab64 (wid x)) (ab64 (wid y)))) (angN 3 (fop .quo .f64 (ab64 (wid x)) (ab64 (wid y)))))), (7, .flt .f64 (angN 3 (fop .quo .f64 (ab64 (wid x)) (ab64 (wid y))))), (6, .flt .f64 (ab64 (wid x))), (5, .flt .f64 (ab64 (wid y))), (1, .flt .f32 x), (0, .flt .f32 y)]) (fun _ => []) 0 (by simp) ?_ fun j hj => ?_
      · refine weak_UH rfl ?_
        simp [kw15, angP, ks15]
      by_cases g : j < 8
      · have hs := angP_take (fop .mul .f64 (angN 3 (fop .quo .f64 (ab64 (wid x)) (ab64 (wid y)))) (angN 3 (fop .quo .f64 (ab64 (wid x)) (ab64 (wid y))))) g
        have hk := kw15_step g
        rcases kw15_ge g with g1 | g1
        · simp [g1, hk]
          refine loopK_next (j + 1) (by omega) (by omega) ?_
          refine weak_UH rfl ?_
          simp [hs]
        · simp [g1, hk]
          refine loopK_next (j + 1) (by omega) (by omega) ?_
          refine weak_UH rfl ?_
          simp [hs]
      obtain rfl : j = 8 := by omega
      have he : ks15.take 8 = ks15 := rfl
      rw [he]
      have ht : angT (ab64 (wid y)) (ab64 (wid x)) = (fop .quo .f64 (ab64 (wid x)) (ab64 (wid y))) := by unfold angT; simp [cg]
      unfold ang64 angY angX angA at hr
      rw [ht, angC_N] at hr
      by_cases cx : ford .f32 x 0 = some .lt
      · by_cases cy : ford .f32 y 0 = some .lt
        · simp only [cg, cx, cy, if_true, if_false, reduceCtorEq] at hr
          simp [kw15_end, cg, cx, cy, hr]
        · simp only [cg, cx, cy, if_true, if_false, reduceCtorEq] at hr
          simp [kw15_end, cg, cx, cy, hr]
      · by_cases cy : ford .f32 y 0 = some .lt
        · simp only [cg, cx, cy, if_true, if_false, reduceCtorEq] at hr
          simp [kw15_end, cg, cx, cy, hr]
        · simp only [cg, cx, cy, if_true, if_false, reduceCtorEq] at hr
          simp [kw15_end, cg, cx, cy, hr]
    · skip
      simp [cg]
      refine loopG_of (α := Nat) (fun j => j ≤ 3) (fun j => 3 - j) (fun j => [(43, .int .i64 (j : Int)), (7, .flt .f64 (angN j (fop .quo .f64 (ab64 (wid y)) (ab64 (wid x))))), (6, .flt .f64 (ab64 (wid x))), (5, .flt .f64 (ab64 (wid y))), (1, .flt .f32 x), (0, .flt .f32 y)]) (fun _ => []) 0 (by simp) ?_ fun j hj => ?_
      · refine weak_UH rfl ?_
        simp [angN, cg]
      by_cases g : j < 3
      · have hw := nat_wrap (k := j) (by omega)
        have g' : (j : Int) < 3 := by omega
        simp [g', g]
        (first | refine callG_r ?_ | refine callD_r ?_); simp; (first | refine callN_flat (by with_reducible first | exact c_Msqrt _) rfl ?_ | refine callN_new (by with_reducible first | exact c_Msqrt _) ?_ | refine callM_flat (by with_reducible first | exact c_Msqrt _) rfl ?_ | refine callM_new (by with_reducible first | exact c_Msqrt _) ?_)
        simp [hw]
        refine loopK_next (j + 1) (by omega) (by omega) ?_
        refine weak_UH rfl ?_
        simp [angN_succ, hw]
      obtain rfl : j = 3 := by omega
      simp
      refine loopG_of (α := Nat) (fun j => j ≤ 8) (fun j => 8 - j) (fun j => [(10, .flt .f64 (kw15 j)), (9, .flt .f64 (angP (fop .mul .f64 (angN 3 (fop .quo .f64 (ab64 (wid y)) (ab64 (wid x)))) (angN 3 (fop .quo .f64 (ab64 (wid y)) (ab64 (wid x))))) (ks15.take j) 0)), (8, .flt .f64 (fop .mul .f64 (angN 3 (fop .quo .f64 (ab64 (wid y)) (ab64 (wid x)))) (angN 3 (fop .quo .f64 (ab64 (wid y)) (ab64 (wid x)))))), (7, .flt .f64 (angN 3 (fop .quo .f64 (ab64 (wid y)) (ab64 (wid x))))), (6, .flt .f64 (ab64 (wid x))), (5, .flt .f64 (ab64 (wid y))), (1, .flt .f32 x), (0, .flt .f32 y)]) (fun _ => []) 0 (by simp) ?_ fun j hj => ?_
      · refine weak_UH rfl ?_
        simp [kw15, angP, ks15]
      by_cases g : j < 8
      · have hs := angP_take (fop .mul .f64 (angN 3 (fop .quo .f64 (ab64 (wid y)) (ab64 (wid x)))) (angN 3 (fop .quo .f64 (ab64 (wid y)) (ab64 (wid x))))) g
        have hk := kw15_step g
        rcases kw15_ge g with g1 | g1
        · simp [g1, hk]
          refine loopK_next (j + 1) (by omega) (by omega) ?_
          refine weak_UH rfl ?_
          simp [hs]
        · simp [g1, hk]
          refine loopK_next (j + 1) (by omega) (by omega) ?_
          refine weak_UH rfl ?_
          simp [hs]
      obtain rfl : j = 8 := by omega
      have he : ks15.take 8 = ks15 := rfl
      rw [he]
      have ht : angT (ab64 (wid y)) (ab64 (wid x)) = (fop .quo .f64 (ab64 (wid y)) (ab64 (wid x))) := by unfold angT; simp [cg]
      unfold ang64 angY angX angA at hr
      rw [ht, angC_N] at hr
      by_cases cx : ford .f32 x 0 = some .lt
      · by_cases cy : ford .f32 y 0 = some .lt
        · simp only [cg, cx, cy, if_true, if_false, reduceCtorEq] at hr
          simp [kw15_end, cg, cx, cy, hr]
        · simp only [cg, cx, cy, if_true, if_false, reduceCtorEq] at hr
          simp [kw15_end, cg, cx, cy, hr]
      · by_cases cy : ford .f32 y 0 = some .lt
        · simp only [cg, cx, cy, if_true, if_false, reduceCtorEq] at hr
          simp [kw15_end, cg, cx, cy, hr]
        · simp only [cg, cx, cy, if_true, if_false, reduceCtorEq] at hr
          simp [kw15_end, cg, cx, cy, hr]
  · simp [fy, zx]
    (first | refine callG_r ?_ | refine callD_r ?_); simp; (first | refine callN_flat (by with_reducible first | exact c_Abs b1 b2) rfl ?_ | refine callN_new (by with_reducible first | exact c_Abs b1 b2) ?_ | refine callM_flat (by with_reducible first | exact c_Abs b1 b2) rfl ?_ | refine callM_new (by with_reducible first | exact c_Abs b1 b2) ?_)
    simp
    (first | refine callG_r ?_ | refine callD_r ?_); simp; (first | refine callN_flat (by with_reducible first | exact c_Abs a1 a2) rfl ?_ | refine callN_new (by with_reducible first | exact c_Abs a1 a2) ?_ | refine callM_flat (by with_reducible first | exact c_Abs a1 a2) rfl ?_ | refine callM_new (by with_reducible first | exact c_Abs a1 a2) ?_)
    by_cases cg : ford .f64 (ab64 (wid y)) (ab64 (wid x)) = some .gt
    · skip
      simp [cg]
      refine loopG_of (α := Nat) (fun j => j ≤ 3) (fun j => 3 - j) (fun j => [(43, .int .i64 (j : Int)), (7, .flt .f64 (angN j (fop .quo .f64 (ab64 (wid x)) (ab64 (wid y))))), (6, .flt .f64 (ab64 (wid x))), (5, .flt .f64 (ab64 (wid y))), (1, .flt .f32 x), (0, .flt .f32 y)]) (fun _ => []) 0 (by simp) ?_ fun j hj => ?_
      · refine weak_UH rfl ?_
        simp [angN, cg]
      by_cases g : j < 3
      · have hw := nat_wrap (k := j) (by omega)
        have g' : (j : Int) < 3 := by omega
        simp [g', g]
        (first | refine callG_r ?_ | refine callD_r ?_); simp; (first | refine callN_flat (by with_reducible first | exact c_Msqrt _) rfl ?_ | refine callN_new (by with_reducible first | exact c_Msqrt _) ?_ | refine callM_flat (by with_reducible first | exact c_Msqrt _) rfl ?_ | refine callM_new (by with_reducible first | exact c_Msqrt _) ?_)
        simp [hw]
        refine loopK_next (j + 1) (by omega) (by omega) ?_
        refine weak_UH rfl ?_
        simp [angN_succ, hw]
      obtain rfl : j = 3 := by omega
      simp
      refine loopG_of (α := Nat) (fun j => j ≤ 8) (fun j => 8 - j) (fun j => [(10, .flt .f64 (kw15 j)), (9, .flt .f64 (angP (fop .mul .f64 (angN 3 (fop .quo .f64 (ab64 (wid x)) (ab64 (wid y)))) (angN 3 (fop .quo .f64 (ab64 (wid x)) (ab64 (wid y))))) (ks15.take j) 0)), (8, .flt .f64 (fop .mul .f64 (angN 3 (fop .quo .f64 (ab64 (wid x)) (ab64 (wid y)))) (angN 3 (fop .quo .f64 (ab64 (wid x)) (ab64 (wid y)))))), (7, .flt .f64 (angN 3 (fop .quo .f64 (ab64 (wid x)) (ab64 (wid y))))), (6, .flt .f64 (ab64 (wid x))), (5, .flt .f64 (ab64 (wid y))), (1, .flt .f32 x), (0, .flt .f32 y)]) (fun _ => []) 0 (by simp) ?_ fun j hj => ?_
      · refine weak_UH rfl ?_
        simp [kw15, angP, ks15]
      by_cases g : j < 8
      · have hs := angP_take (fop .mul .f64 (angN 3 (fop .quo .f64 (ab64 (wid x)) (ab64 (wid y)))) (angN 3 (fop .quo .f64 (ab64 (wid x)) (ab64 (wid y))))) g
        have hk := kw15_step g
        rcases kw15_ge g with g1 | g1
        · simp [g1, hk]
          refine loopK_next (j + 1) (by omega) (by omega) ?_
          refine weak_UH rfl ?_
          simp [hs]
        · simp [g1, hk]
          refine loopK_next (j + 1) (by omega) (by omega) ?_
          refine weak_UH rfl ?_
          simp [hs]
      obtain rfl : j = 8 := by omega
      have he : ks15.take 8 = ks15 := rfl
      rw [he]
      have ht : angT (ab64 (wid y)) (ab64 (wid x)) = (fop .quo .f64 (ab64 (wid x)) (ab64 (wid y))) := by unfold angT; simp [cg]
      unfold ang64 angY angX angA at hr
      rw [ht, angC_N] at hr
      by_cases cx : ford .f32 x 0 = some .lt
      · by_cases cy : ford .f32 y 0 = some .lt
        · simp only [cg, cx, cy, if_true, if_false, reduceCtorEq] at hr
          simp [kw15_end, cg, cx, cy, hr]
        · simp only [cg, cx, cy, if_true, if_false, reduceCtorEq] at hr
          simp [kw15_end, cg, cx, cy, hr]
      · by_cases cy : ford .f32 y 0 = some .lt
        · simp only [cg, cx, cy, if_true, if_false, reduceCtorEq] at hr
          simp [kw15_end, cg, cx, cy, hr]
        · simp only [cg, cx, cy, if_true, if_false, reduceCtorEq] at hr
          simp [kw15_end, cg, cx, cy, hr]
    · skip
      simp [cg]
      refine loopG_of (α := Nat) (fun j => j ≤ 3) (fun j => 3 - j) (fun j => [(43, .int .i64 (j : Int)), (7, .flt .f64 (angN j (fop .quo .f64 (ab64 (wid y)) (ab64 (wid x))))), (6, .flt .f64 (ab64 (wid x))), (5, .flt .f64 (ab64 (wid y))), (1, .flt .f32 x), (0, .flt .f32 y)]) (fun _ => []) 0 (by simp) ?_ fun j hj => ?_
      · refine weak_UH rfl ?_
        simp [angN, cg]
      by_cases g : j < 3
      · have hw := nat_wrap (k := j) (by omega)
        have g' : (j : Int) < 3 := by omega
        simp [g', g]
        (first | refine callG_r ?_ | refine callD_r ?_); simp; (first | refine callN_flat (by with_reducible first | exact c_Msqrt _) rfl ?_ | refine callN_new (by with_reducible first | exact c_Msqrt _) ?_ | refine callM_flat (by with_reducible first | exact c_Msqrt _) rfl ?_ | refine callM_new (by with_reducible first | exact c_Msqrt _) ?_)
        simp [hw]
        refine loopK_next (j + 1) (by omega) (by omega) ?_
        refine weak_UH rfl ?_
        simp [angN_succ, hw]
      obtain rfl : j = 3 := by omega
      simp
      refine loopG_of (α := Nat) (fun j => j ≤ 8) (fun j => 8 - j) (fun j => [(10, .flt .f64 (kw15 j)), (9, .flt .f64 (angP (fop .mul .f64 (angN 3 (fop .quo .f64 (ab64 (wid y)) (ab64 (wid x)))) (angN 3 (fop .quo .f64 (ab64 (wid y)) (ab64 (wid x))))) (ks15.take j) 0)), (8, .flt .f64 (fop .mul .f64 (angN 3 (fop .quo .f64 (ab64 (wid y)) (ab64 (wid x)))) (angN 3 (fop .quo .f64 (ab64 (wid y)) (ab64 (wid x)))))), (7, .flt .f64 (angN 3 (fop .quo .f64 (ab64 (wid y)) (ab64 (wid x))))), (6, .flt .f64 (ab64 (wid x))), (5, .flt .f64 (ab64 (wid y))), (1, .flt .f32 x), (0, .flt .f32 y)]) (fun _ => []) 0 (by simp) ?_ fun j hj => ?_
      · refine weak_UH rfl ?_
        simp [kw15, angP, ks15]
      by_cases g : j < 8
      · have hs := angP_take (fop .mul .f64 (angN 3 (fop .quo .f64 (ab64 (wid y)) (ab64 (wid x)))) (angN 3 (fop .quo .f64 (ab64 (wid y)) (ab64 (wid x))))) g
        have hk := kw15_step g
        rcases kw15_ge g with g1 | g1
        · simp [g1, hk]
          refine loopK_next (j + 1) (by omega) (by omega) ?_
          refine weak_UH rfl ?_
          simp [hs]
        · simp [g1, hk]
          refine loopK_next (j + 1) (by omega) (by omega) ?_
          refine weak_UH rfl ?_
          simp [hs]
      obtain rfl : j = 8 := by omega
      have he : ks15.take 8 = ks15 := rfl
      rw [he]
      have ht : angT (ab64 (wid y)) (ab64 (wid x)) = (fop .quo .f64 (ab64 (wid y)) (ab64 (wid x))) := by unfold angT; simp [cg]
      unfold ang64 angY angX angA at hr
      rw [ht, angC_N] at hr
      by_cases cx : ford .f32 x 0 = some .lt
      · by_cases cy : ford .f32 y 0 = some .lt
        · simp only [cg, cx, cy, if_true, if_false, reduceCtorEq] at hr
          simp [kw15_end, cg, cx, cy, hr]
        · simp only [cg, cx, cy, if_true, if_false, reduceCtorEq] at hr
          simp [kw15_end, cg, cx, cy, hr]
      · by_cases cy : ford .f32 y 0 = some .lt
        · simp only [cg, cx, cy, if_true, if_false, reduceCtorEq] at hr
          simp [kw15_end, cg, cx, cy, hr]
        · simp only [cg, cx, cy, if_true, if_false, reduceCtorEq] at hr
          simp [kw15_end, cg, cx, cy, hr]
end Go.Proofs.Ytfngkhkghjgmkaa
