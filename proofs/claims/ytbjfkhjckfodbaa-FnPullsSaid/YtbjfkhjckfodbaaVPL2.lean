/- Plain law: a thread that pulls has its length, nearly.
Conditions: none. -/
import Derived.Test.YtbjfkhjckfodbaaVPL1
import Derived.Test.YtbjfkhjckfodbaaS8
namespace Go.Proofs.Ytbjfkhjckfodbaa
set_option linter.all false
open Go Go.Awp
set_option maxRecDepth 100000
set_option maxHeartbeats 4000000

theorem vl_one : Vl FloatKind.f32.format 1065353216 1 := vl_lit (n := 23) (s := false) (m := 8388608) (by decide +kernel) (by decide +kernel) (by decide +kernel)
theorem vl_half : Vl FloatKind.f32.format 1056964608 (1 / 2) := vl_lit (n := 24) (s := false) (m := 8388608) (by decide +kernel) (by decide +kernel) (by decide +kernel)
/-- A length that is near a whole vector's 1. -/
theorem fin_long {ux uy uz : Nat} {x y z : Rat} (hx : Nr ux x (165 / 1000000)) (hy : Nr uy y (165 / 1000000)) (hz : Nr uz z (165 / 1000000)) (bx : -(1001 / 1000) ≤ x ∧ x ≤ 1001 / 1000) (by' : -(1001 / 1000) ≤ y ∧ y ≤ 1001 / 1000) (bz : -(1001 / 1000) ≤ z ∧ z ≤ 1001 / 1000)
    (q1 : x * x + y * y + z * z ≤ 1000001 / 1000000) (q2 : 999999 / 1000000 ≤ x * x + y * y + z * z) : Nr (vlong (ux, uy, uz)) 1 (7 / 10000) := by
  have sx := nr_mul hx hx bx.1 bx.2 bx.1 bx.2 (by decide +kernel) (by decide +kernel) (g := 332 / 1000000) (by decide +kernel) (by decide +kernel)
  have sy := nr_mul hy hy by'.1 by'.2 by'.1 by'.2 (by decide +kernel) (by decide +kernel) (g := 332 / 1000000) (by decide +kernel) (by decide +kernel)
  have sz := nr_mul hz hz bz.1 bz.2 bz.1 bz.2 (by decide +kernel) (by decide +kernel) (g := 332 / 1000000) (by decide +kernel) (by decide +kernel)
  have px := pb bx.1 bx.2 bx.1 bx.2
  have py := pb by'.1 by'.2 by'.1 by'.2
  have pz := pb bz.1 bz.2 bz.1 bz.2
  have s1 := nr_add sx sy (B := 3) (by grind) (by grind) (by decide +kernel) (by decide +kernel) (g := 665 / 1000000) (by decide +kernel) (by decide +kernel)
  have s2 := nr_add s1 sz (B := 5) (by grind) (by grind) (by decide +kernel) (by decide +kernel) (g := 998 / 1000000) (by decide +kernel) (by decide +kernel)
  obtain ⟨u, hu, u1, u2⟩ := s2
  have hu : Vl FloatKind.f32.format (vinner (ux, uy, uz) (ux, uy, uz)) u := hu
  obtain ⟨R, hR, R0, RB, r1, r2⟩ := nr_root hu (B := 3) (by grind) (by decide +kernel) (by grind) (by decide +kernel)
  have c1 : R ≤ 10006 / 10000 := by
    refine Rat.not_lt.1 fun c => ?_
    have d1 := Rat.mul_le_mul_of_nonneg_left (Rat.le_of_lt c) (show (0 : Rat) ≤ 10006 / 10000 by decide +kernel)
    have d2 := mul_le_r (Rat.le_of_lt c) R0
    grind
  have c2 : 9994 / 10000 ≤ R := by
    refine Rat.not_lt.1 fun c => ?_
    have d1 := Rat.mul_le_mul_of_nonneg_left (Rat.le_of_lt c) R0
    have d2 := mul_le_r (Rat.le_of_lt c) (show (0 : Rat) ≤ 9994 / 10000 by decide +kernel)
    grind
  exact hR.to (by grind) (by grind)
/-- A length that is near nothing. -/
theorem fin_nil {ux uy uz : Nat} (hx : Nr ux 0 (2 / 10000)) (hy : Nr uy 0 (2 / 10000)) (hz : Nr uz 0 (2 / 10000)) : Nr (vlong (ux, uy, uz)) 0 (5 / 10000) := by
  have sq : ∀ {w : Nat}, Nr w 0 (2 / 10000) → ∃ u, Vl FloatKind.f32.format (fop .mul .f32 w w) u ∧ 0 ≤ u ∧ u ≤ 5 / 100000000 := by
    intro w hw
    obtain ⟨u, hu, u1, u2⟩ := nr_mul hw hw (V := 0) (W := 0) (by decide +kernel) (by decide +kernel) (by decide +kernel) (by decide +kernel) (by decide +kernel) (by decide +kernel) (g := 5 / 100000000) (by decide +kernel) (by decide +kernel)
    obtain ⟨a, ha, _⟩ := hw
    exact ⟨u, hu, nn_sq ha hu, by grind⟩
  obtain ⟨a, ha, a1, a2⟩ := sq hx
  obtain ⟨b, hb, b1, b2⟩ := sq hy
  obtain ⟨c, hc, c1, c2⟩ := sq hz
  obtain ⟨s, hs, s1, s2⟩ := nr_add (nr_vl ha) (nr_vl hb) (B := 1 / 1000000) (by grind) (by grind) (by decide +kernel) (by decide +kernel) (g := 1 / 1000000000) (by decide +kernel) (by decide +kernel)
  have s3 := nn_add ha hb a1 b1 hs
  obtain ⟨t, ht, t1, t2⟩ := nr_add (nr_vl hs) (nr_vl hc) (B := 1 / 1000000) (by grind) (by grind) (by decide +kernel) (by decide +kernel) (g := 1 / 1000000000) (by decide +kernel) (by decide +kernel)
  have t3 := nn_add hs hc s3 c1 ht
  have ht : Vl FloatKind.f32.format (vinner (ux, uy, uz) (ux, uy, uz)) t := ht
  obtain ⟨R, hR, R0, RB, r1, r2⟩ := nr_root ht (B := 1 / 1000) (by grind) (by decide +kernel) (by grind) (by decide +kernel)
  have c1 : R ≤ 41 / 100000 := by
    refine Rat.not_lt.1 fun c => ?_
    have d1 := Rat.mul_le_mul_of_nonneg_left (Rat.le_of_lt c) (show (0 : Rat) ≤ 41 / 100000 by decide +kernel)
    have d2 := mul_le_r (Rat.le_of_lt c) R0
    grind
  exact hR.to (by grind) (by grind)
/-- How far a thread of length 1 pulls. -/
theorem pull_share {v : V} {x y z : Int} (h : D8 v x y z) (h0 : 0 < x * x + y * y + z * z) : ∃ W : Rat, 0 ≤ W ∧ W ≤ 9 ∧
    Nr (fop .quo .f32 (fop .sub .f32 (vlong v) 1065353216) (vlong v)) (1 - W) (6 / 100000) ∧
    ((x * x + y * y + z * z : Int) : Rat) * (1 / 64) * (W * W) ≤ 1000001 / 1000000 ∧ 999999 / 1000000 ≤ ((x * x + y * y + z * z : Int) : Rat) * (1 / 64) * (W * W) := by
  obtain ⟨R, hR, R1, R2, q1, q2⟩ := (d8_long h).2 h0
  have hR0 : 0 < R := by grind
  obtain ⟨W, hW⟩ : ∃ W : Rat, W * R = 1 := ⟨1 / R, Rat.div_mul_cancel (by grind)⟩
  have W0 : 0 ≤ W := by refine le_of_mul_le hR0 ?_; rw [hW]; grind
  have W9 : W ≤ 81 / 10 := by refine le_of_mul_le hR0 ?_; rw [hW]; grind
  have t := nr_sub hR (nr_vl vl_one) (B := 11) (by grind) (by grind) (by decide +kernel) (by decide +kernel) (g := 14 / 10000000) (by decide +kernel) (by decide +kernel)
  have s := nr_quo t hR (c := 1 - W) (C := 8) (D := 1248 / 10000) (h := 571 / 10000000) (g := 6 / 100000) (by grind) (by grind) (by grind) (by decide +kernel) (by grind) (by decide +kernel) (by decide +kernel) (by decide +kernel) (by decide +kernel) (by decide +kernel) (by decide +kernel)
  have hWW : W * W * (R * R) = 1 := by
    have : W * W * (R * R) = (W * R) * (W * R) := by grind
    rw [this, hW]; decide +kernel
  have hWW0 : 0 ≤ W * W := Rat.mul_nonneg W0 W0
  have g1 := Rat.mul_le_mul_of_nonneg_left q1 hWW0
  have g2 := Rat.mul_le_mul_of_nonneg_left q2 hWW0
  rw [hWW] at g1 g2
  generalize ((x * x + y * y + z * z : Int) : Rat) = M at *
  obtain ⟨Q, hQ⟩ : ∃ Q, Q = M * (1 / 64) * (W * W) := ⟨_, rfl⟩
  have g3 : 1 ≤ Q * (1 + 1 / 1000000000000) := by rw [hQ]; grind
  have g4 : Q * (1 - 1 / 1000000000000) ≤ 1 := by rw [hQ]; grind
  exact ⟨W, W0, by grind, s, by rw [← hQ]; grind, by rw [← hQ]; grind⟩
/-- A coordinate of two places that are both pulled. -/
theorem pull_two {wa wb v q : Nat} {A B X c : Rat} (hA : Vl FloatKind.f32.format wa A) (hB : Vl FloatKind.f32.format wb B) (hv : Vl FloatKind.f32.format v X) (hX : X = B - A) (a1 : -3 ≤ A ∧ A ≤ 3) (b1 : -3 ≤ B ∧ B ≤ 3) (x1 : -(5 / 2) ≤ X ∧ X ≤ 5 / 2) (c1 : -8 ≤ c ∧ c ≤ 1) (hq : Nr q (c / 2) (31 / 1000000)) :
    Nr (fop .sub .f32 (fop .add .f32 wa (fop .mul .f32 v q)) (fop .sub .f32 wb (fop .mul .f32 v q))) (-(X * (1 - c))) (165 / 1000000) ∧ Nr (fop .add .f32 (fop .add .f32 wa (fop .mul .f32 v q)) (fop .sub .f32 wb (fop .mul .f32 v q))) (A + B) (165 / 1000000) := by
  have p := pb (a := X) (b := c / 2) (A := 5 / 2) (B := 4) (by grind) (by grind) (by grind) (by grind)
  have m := nr_mul (nr_vl hv) hq (V := 5 / 2) (W := 4) (by grind) (by grind) (by grind) (by grind) (by decide +kernel) (by decide +kernel) (g := 79 / 1000000) (by decide +kernel) (by decide +kernel)
  have s := nr_add (nr_vl hA) m (B := 13) (by grind) (by grind) (by decide +kernel) (by decide +kernel) (g := 80 / 1000000) (by decide +kernel) (by decide +kernel)
  have t := nr_sub (nr_vl hB) m (B := 13) (by grind) (by grind) (by decide +kernel) (by decide +kernel) (g := 80 / 1000000) (by decide +kernel) (by decide +kernel)
  have u := nr_sub s t (B := 26) (by grind) (by grind) (by decide +kernel) (by decide +kernel) (g := 165 / 1000000) (by decide +kernel) (by decide +kernel)
  have w := nr_add s t (B := 6) (by grind) (by grind) (by decide +kernel) (by decide +kernel) (g := 165 / 1000000) (by decide +kernel) (by decide +kernel)
  exact ⟨u.to (by grind) (by grind), w.to (by grind) (by grind)⟩
/-- A coordinate of two places one of which is pulled. -/
theorem pull_b {wa wb v q : Nat} {A B X c : Rat} (hA : Vl FloatKind.f32.format wa A) (hB : Vl FloatKind.f32.format wb B) (hv : Vl FloatKind.f32.format v X) (hX : X = B - A) (a1 : -3 ≤ A ∧ A ≤ 3) (b1 : -3 ≤ B ∧ B ≤ 3) (x1 : -(5 / 2) ≤ X ∧ X ≤ 5 / 2) (c1 : -8 ≤ c ∧ c ≤ 1) (hq : Nr q c (6 / 100000)) :
    Nr (fop .sub .f32 wa (fop .sub .f32 wb (fop .mul .f32 v q))) (-(X * (1 - c))) (165 / 1000000) := by
  have p := pb (a := X) (b := c) (A := 5 / 2) (B := 8) (by grind) (by grind) (by grind) (by grind)
  have m := nr_mul (nr_vl hv) hq (V := 5 / 2) (W := 8) (by grind) (by grind) (by grind) (by grind) (by decide +kernel) (by decide +kernel) (g := 152 / 1000000) (by decide +kernel) (by decide +kernel)
  have t := nr_sub (nr_vl hB) m (B := 23) (by grind) (by grind) (by decide +kernel) (by decide +kernel) (g := 154 / 1000000) (by decide +kernel) (by decide +kernel)
  have u := nr_sub (nr_vl hA) t (B := 26) (by grind) (by grind) (by decide +kernel) (by decide +kernel) (g := 165 / 1000000) (by decide +kernel) (by decide +kernel)
  exact u.to (by grind) (by grind)
theorem pull_a {wa wb v q : Nat} {A B X c : Rat} (hA : Vl FloatKind.f32.format wa A) (hB : Vl FloatKind.f32.format wb B) (hv : Vl FloatKind.f32.format v X) (hX : X = B - A) (a1 : -3 ≤ A ∧ A ≤ 3) (b1 : -3 ≤ B ∧ B ≤ 3) (x1 : -(5 / 2) ≤ X ∧ X ≤ 5 / 2) (c1 : -8 ≤ c ∧ c ≤ 1) (hq : Nr q c (6 / 100000)) :
    Nr (fop .sub .f32 (fop .add .f32 wa (fop .mul .f32 v q)) wb) (-(X * (1 - c))) (165 / 1000000) := by
  have p := pb (a := X) (b := c) (A := 5 / 2) (B := 8) (by grind) (by grind) (by grind) (by grind)
  have m := nr_mul (nr_vl hv) hq (V := 5 / 2) (W := 8) (by grind) (by grind) (by grind) (by grind) (by decide +kernel) (by decide +kernel) (g := 152 / 1000000) (by decide +kernel) (by decide +kernel)
  have t := nr_add (nr_vl hA) m (B := 23) (by grind) (by grind) (by decide +kernel) (by decide +kernel) (g := 154 / 1000000) (by decide +kernel) (by decide +kernel)
  have u := nr_sub t (nr_vl hB) (B := 26) (by grind) (by grind) (by decide +kernel) (by decide +kernel) (g := 165 / 1000000) (by decide +kernel) (by decide +kernel)
  exact u.to (by grind) (by grind)
end Go.Proofs.Ytbjfkhjckfodbaa
