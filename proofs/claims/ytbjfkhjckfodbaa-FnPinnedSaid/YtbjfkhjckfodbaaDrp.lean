/- A place that is draped over a ball is not nearer to its centre than the radius, nearly.
Conditions: none. -/
import Derived.Test.YtbjfkhjckfodbaaBig
namespace Go.Awp
set_option linter.all false
open Go Ieee
set_option maxRecDepth 100000
set_option maxHeartbeats 4000000

theorem t23 : p2 (-23) ≤ 12 / 100000000 := by have := c23; grind
/-- A number that is nothing or not too small. -/
abbrev Ng (b : Int) (v : Rat) : Prop := v = 0 ∨ p2 b ≤ v
theorem add_rel {x y : Nat} {a b : Rat} (hx : Vl FloatKind.f32.format x a) (hy : Vl FloatKind.f32.format y b) (ha : Ng (-60) a) (hb : Ng (-60) b) (h1 : a + b ≤ 1000) : ∃ s, Vl FloatKind.f32.format (fop .add .f32 x y) s ∧ s ≤ (a + b) * (1 + 1 / 10000000) ∧ (a + b) * (1 - 1 / 10000000) ≤ s ∧ Ng (-60) (a + b) := by
  have hp := p2_pos (-60)
  have hng : Ng (-60) (a + b) := by
    rcases ha with ha | ha <;> rcases hb with hb | hb
    · left; grind
    · right; grind
    · right; grind
    · right; grind
  have c := c120
  rcases hng with h0 | h0
  · have h3 : Vl FloatKind.f32.format (fop .add .f32 x y) (((0 : Int) : Rat) * p2 (-((0 : Nat) : Int))) := by
      refine vl_add_ex (k := .f32) hx hy ?_ (by show (0 : Nat) < 16777216; omega) (by decide) ?_
      · have : ((0 : Int) : Rat) = 0 := rfl
        rw [this, h0]; grind
      · have h0 : (((0 : Int).natAbs : Nat) : Rat) = 0 := rfl
        rw [h0]; grind
    have e : ((0 : Int) : Rat) * p2 (-((0 : Nat) : Int)) = 0 := by
      have : ((0 : Int) : Rat) = 0 := rfl
      rw [this]; grind
    rw [e] at h3
    exact ⟨0, h3, by rw [h0]; grind, by rw [h0]; grind, .inl h0⟩
  · obtain ⟨s, hs, s1, s2⟩ := vl_add (k := .f32) hx hy (B := a + b) (by grind) (by grind) (by grind)
    have hE : er2 .f32 (a + b) = (a + b) * p2 (-23) + p2 (-149) := rfl
    have m23 := Rat.mul_le_mul_of_nonneg_left t23 (show 0 ≤ a + b by grind)
    have t149 : p2 (-149) ≤ (a + b) * (1 / 100000000) := by
      have h27 : p2 (-27) ≤ 1 / 100000000 := by have h : p2 (-27) * 134217728 = 1 := p2_neg 27; grind
      have e1 : p2 (-60) * p2 (-27) = p2 (-87) := by rw [← p2_add]; rfl
      have e2 : p2 (-149) ≤ p2 (-87) := p2_le (by decide)
      have e3 := Rat.mul_le_mul_of_nonneg_left h27 (Rat.le_of_lt hp)
      have e4 := mul_le_r h0 (show (0 : Rat) ≤ 1 / 100000000 by decide +kernel)
      grind
    exact ⟨s, hs, by grind, by grind, .inr h0⟩
theorem sqr_rel {w : Nat} {v : Rat} (hw : Vl FloatKind.f32.format w v) (hv : v = 0 ∨ p2 (-25) ≤ v ∨ v ≤ -p2 (-25)) (h1 : -4 ≤ v) (h2 : v ≤ 4) : ∃ q, Vl FloatKind.f32.format (fop .mul .f32 w w) q ∧ q ≤ v * v * (1 + 1 / 10000000) ∧ v * v * (1 - 1 / 10000000) ≤ q ∧ Ng (-50) (v * v) ∧ Ng (-60) q ∧ v * v ≤ 16 := by
  have c := c120
  have hpb := pb h1 h2 h1 h2
  rcases hv with h0 | hv
  · have h3 : Vl FloatKind.f32.format (fop .mul .f32 w w) (((0 : Int) : Rat) * p2 (-((0 : Nat) : Int))) := by
      refine vl_mul_ex (k := .f32) hw hw ?_ (by show (0 : Nat) < 16777216; omega) (by decide) ?_
      · have : ((0 : Int) : Rat) = 0 := rfl
        rw [this, h0]; grind
      · have h0 : (((0 : Int).natAbs : Nat) : Rat) = 0 := rfl
        rw [h0]; grind
    have e : ((0 : Int) : Rat) * p2 (-((0 : Nat) : Int)) = 0 := by
      have : ((0 : Int) : Rat) = 0 := rfl
      rw [this]; grind
    rw [e] at h3
    exact ⟨0, h3, by rw [h0]; grind, by rw [h0]; grind, .inl (by rw [h0]; grind), .inl rfl, by rw [h0]; grind⟩
  · have hp := p2_pos (-25)
    have e50 : p2 (-25) * p2 (-25) = p2 (-50) := by rw [← p2_add]; rfl
    have hsq : p2 (-50) ≤ v * v := by
      rcases hv with hv | hv
      · have d1 := Rat.mul_le_mul_of_nonneg_left hv (Rat.le_of_lt hp)
        have d2 := mul_le_r hv (show 0 ≤ v by grind)
        grind
      · have d1 := Rat.mul_le_mul_of_nonneg_left (show p2 (-25) ≤ -v by grind) (Rat.le_of_lt hp)
        have d2 := mul_le_r (show p2 (-25) ≤ -v by grind) (show 0 ≤ -v by grind)
        grind
    have hp50 := p2_pos (-50)
    obtain ⟨q, hq, q1, q2⟩ := vl_mul (k := .f32) hw hw (B := v * v) (by grind) (by grind) (by grind)
    have hE : er2 .f32 (v * v) = (v * v) * p2 (-23) + p2 (-149) := rfl
    have m23 := Rat.mul_le_mul_of_nonneg_left t23 (show 0 ≤ v * v by grind)
    have t149 : p2 (-149) ≤ (v * v) * (1 / 100000000) := by
      have h27 : p2 (-27) ≤ 1 / 100000000 := by have h : p2 (-27) * 134217728 = 1 := p2_neg 27; grind
      have e1 : p2 (-50) * p2 (-27) = p2 (-77) := by rw [← p2_add]; rfl
      have e2 : p2 (-149) ≤ p2 (-77) := p2_le (by decide)
      have e3 := Rat.mul_le_mul_of_nonneg_left h27 (Rat.le_of_lt hp50)
      have e4 := mul_le_r hsq (show (0 : Rat) ≤ 1 / 100000000 by decide +kernel)
      grind
    have e60 : 2 * p2 (-60) ≤ p2 (-50) := by rw [← p2_two]; exact p2_le (by decide)
    exact ⟨q, hq, by grind, by grind, .inr hsq, .inr (by grind), by grind⟩
/-- The length's square, near for its size. -/
theorem inner_rel {x y z : Nat} {a b c : Rat} (hx : Vl FloatKind.f32.format x a) (hy : Vl FloatKind.f32.format y b) (hz : Vl FloatKind.f32.format z c)
    (ga : a = 0 ∨ p2 (-25) ≤ a ∨ a ≤ -p2 (-25)) (gb : b = 0 ∨ p2 (-25) ≤ b ∨ b ≤ -p2 (-25)) (gc : c = 0 ∨ p2 (-25) ≤ c ∨ c ≤ -p2 (-25)) (a1 : -4 ≤ a ∧ a ≤ 4) (b1 : -4 ≤ b ∧ b ≤ 4) (c1 : -4 ≤ c ∧ c ≤ 4) :
    ∃ S, Vl FloatKind.f32.format (fop .add .f32 (fop .add .f32 (fop .mul .f32 x x) (fop .mul .f32 y y)) (fop .mul .f32 z z)) S ∧ S ≤ (a * a + b * b + c * c) * (1 + 4 / 10000000) ∧ (a * a + b * b + c * c) * (1 - 4 / 10000000) ≤ S ∧ Ng (-50) (a * a + b * b + c * c) ∧ a * a + b * b + c * c ≤ 48 := by
  obtain ⟨q1, h1, u1, l1, g1, n1, m1⟩ := sqr_rel hx ga a1.1 a1.2
  obtain ⟨q2, h2, u2, l2, g2, n2, m2⟩ := sqr_rel hy gb b1.1 b1.2
  obtain ⟨q3, h3, u3, l3, g3, n3, m3⟩ := sqr_rel hz gc c1.1 c1.2
  have p50 := p2_pos (-50)
  have z1 : 0 ≤ a * a := by rcases g1 with g | g <;> grind
  have z2 : 0 ≤ b * b := by rcases g2 with g | g <;> grind
  have z3 : 0 ≤ c * c := by rcases g3 with g | g <;> grind
  obtain ⟨s, hs, s1, s2, sn⟩ := add_rel h1 h2 n1 n2 (by grind)
  have p60 := p2_pos (-60)
  have e61 : p2 (-60) ≤ p2 (-50) := p2_le (by decide)
  have sn2 : Ng (-60) s := by
    rcases sn with g | g
    · left
      have : q1 + q2 = 0 := g
      grind
    · right
      -- not smaller than the greater of both
      rcases n1 with n1 | n1
      · rcases n2 with n2 | n2
        · grind
        · have : q1 = 0 := n1
          rcases g2 with g2 | g2
          · grind
          · have e62 : 4 * p2 (-60) ≤ p2 (-50) := by rw [show (4 : Rat) * p2 (-60) = 2 * (2 * p2 (-60)) by grind, ← p2_two, ← p2_two]; exact p2_le (by decide)
            grind
      · rcases g1 with g1 | g1
        · grind
        · have e62 : 4 * p2 (-60) ≤ p2 (-50) := by rw [show (4 : Rat) * p2 (-60) = 2 * (2 * p2 (-60)) by grind, ← p2_two, ← p2_two]; exact p2_le (by decide)
          have : 0 ≤ q2 := by rcases n2 with n2 | n2 <;> grind
          grind
  obtain ⟨S, hS, S1, S2, _⟩ := add_rel hs h3 sn2 n3 (by grind)
  refine ⟨S, hS, by grind, by grind, ?_, by grind⟩
  rcases g1 with g | g
  · rcases g2 with g' | g'
    · rcases g3 with g'' | g''
      · left; grind
      · right; grind
    · right; grind
  · right; grind

/-- A coordinate of a draped place, and back. -/
theorem drape_coord {w k c : Nat} {v κ C : Rat} (hw : Vl FloatKind.f32.format w v) (hk : Vl FloatKind.f32.format k κ) (hc : Vl FloatKind.f32.format c C) (hC : C = 1 ∨ C = -1) (u1 : -(151 / 100) ≤ v * κ) (u2 : v * κ ≤ 151 / 100) :
    Nr (fop .sub .f32 (fop .add .f32 c (fop .mul .f32 w k)) c) (v * κ) (6 / 10000000) := by
  have c' := c120
  obtain ⟨m, hm, m1, m2⟩ := vl_mul (k := .f32) hw hk (B := 2) (by grind) (by grind) (by grind)
  have e := er32_le (B := 2) (by decide +kernel)
  have n1 : Nr (fop .mul .f32 w k) (v * κ) (2 / 10000000) := ⟨m, hm, by grind, by grind⟩
  have n2 := nr_add (nr_vl hc) n1 (B := 3) (by rcases hC with h | h <;> rw [h] <;> grind) (by rcases hC with h | h <;> rw [h] <;> grind) (by decide +kernel) (by decide +kernel) (g := 4 / 10000000) (by decide +kernel) (by decide +kernel)
  have n3 := nr_sub n2 (nr_vl hc) (B := 2) (by grind) (by grind) (by decide +kernel) (by decide +kernel) (g := 6 / 10000000) (by decide +kernel) (by decide +kernel)
  exact n3.to (by grind) (by grind)
theorem drape_near {x y z rad cx cy cz : Nat} {a b c ρ A B C : Rat} (hr : Vl FloatKind.f32.format rad ρ) (r1 : 1 / 4 ≤ ρ) (r2 : ρ ≤ 3 / 2)
    (hx : Vl FloatKind.f32.format x a) (hy : Vl FloatKind.f32.format y b) (hz : Vl FloatKind.f32.format z c)
    (ga : a = 0 ∨ p2 (-25) ≤ a ∨ a ≤ -p2 (-25)) (gb : b = 0 ∨ p2 (-25) ≤ b ∨ b ≤ -p2 (-25)) (gc : c = 0 ∨ p2 (-25) ≤ c ∨ c ≤ -p2 (-25)) (a1 : -4 ≤ a ∧ a ≤ 4) (b1 : -4 ≤ b ∧ b ≤ 4) (c1 : -4 ≤ c ∧ c ≤ 4)
    (hcx : Vl FloatKind.f32.format cx A) (hcy : Vl FloatKind.f32.format cy B) (hcz : Vl FloatKind.f32.format cz C) (hA : A = 1 ∨ A = -1) (hB : B = 1 ∨ B = -1) (hC : C = 1 ∨ C = -1)
    {d : Nat} (hd : d = froot (fop .add .f32 (fop .add .f32 (fop .mul .f32 x x) (fop .mul .f32 y y)) (fop .mul .f32 z z))) (h0 : ¬ ford .f32 d 0 = some .eq)
    {k ux uy uz : Nat} (hk : k = fop .quo .f32 rad d) (hux : ux = fop .sub .f32 (fop .add .f32 cx (fop .mul .f32 x k)) cx) (huy : uy = fop .sub .f32 (fop .add .f32 cy (fop .mul .f32 y k)) cy) (huz : uz = fop .sub .f32 (fop .add .f32 cz (fop .mul .f32 z k)) cz) :
    ∃ u, Vl FloatKind.f32.format (froot (fop .add .f32 (fop .add .f32 (fop .mul .f32 ux ux) (fop .mul .f32 uy uy)) (fop .mul .f32 uz uz))) u ∧ 9994 / 10000 * ρ ≤ u := by
  obtain ⟨S, hS, S1, S2, hQ, hQ48⟩ := inner_rel hx hy hz ga gb gc a1 b1 c1
  obtain ⟨Q, eQ⟩ : ∃ Q, Q = a * a + b * b + c * c := ⟨_, rfl⟩
  rw [← eQ] at S1 S2 hQ hQ48
  have p50 := p2_pos (-50)
  have hQp : p2 (-50) ≤ Q := by
    rcases hQ with h | h
    · exfalso
      have : S = 0 := by rw [h] at S1 S2; grind
      rw [this] at hS
      refine h0 ?_
      rw [hd]
      exact ford_eq_of (vl_froot0 hS) (vl_lit (n := 149) (s := false) (m := 0) (by decide +kernel) (by decide) (by decide +kernel))
    · exact h
  have c' := c120
  have h119 : p2 120 = 2 * p2 119 := p2_two 119
  obtain ⟨δ, R, hδ, R0, RB, q1, q2, d1, d2⟩ := vl_frootR hS (B := 16) (by grind) (by decide +kernel) (by grind) (by grind)
  have t54 : p2 (-54) ≤ 1 / 1000000000000 := by have := c54; have := c40; grind
  have m54 := Rat.mul_le_mul_of_nonneg_left t54 (show 0 ≤ S by grind)
  -- the root is not too small
  have e52 : p2 (-26) * p2 (-26) = p2 (-52) := by rw [← p2_add]; rfl
  have e50 : p2 (-50) = 4 * p2 (-52) := by rw [show (4 : Rat) * p2 (-52) = 2 * (2 * p2 (-52)) by grind, ← p2_two, ← p2_two]; rfl
  have p26 := p2_pos (-26)
  have hR26 : p2 (-26) ≤ R := by
    refine Rat.not_lt.1 fun g => ?_
    have g1 := Rat.mul_le_mul_of_nonneg_left (Rat.le_of_lt g) R0
    have g2 := mul_le_r (Rat.le_of_lt g) (Rat.le_of_lt p26)
    grind
  have t149 : p2 (-149) ≤ R * (1 / 100000000) := by
    have h27 : p2 (-27) ≤ 1 / 100000000 := by have h : p2 (-27) * 134217728 = 1 := p2_neg 27; grind
    have e1 : p2 (-26) * p2 (-27) = p2 (-53) := by rw [← p2_add]; rfl
    have e2 : p2 (-149) ≤ p2 (-53) := p2_le (by decide)
    have e3 := Rat.mul_le_mul_of_nonneg_left h27 (Rat.le_of_lt p26)
    have e4 := mul_le_r hR26 (show (0 : Rat) ≤ 1 / 100000000 by decide +kernel)
    grind
  have D1 : δ ≤ R * (1 + 12 / 100000000) := by grind
  have D2 : R * (1 - 12 / 100000000) ≤ δ := by grind
  have hδ0 : 0 < δ := by grind
  have D3 : δ * δ ≤ Q * (1 + 8 / 10000000) := by
    have g1 := Rat.mul_le_mul_of_nonneg_left D1 (Rat.le_of_lt hδ0)
    have g2 := mul_le_r D1 (show 0 ≤ R * (1 + 12 / 100000000) by grind)
    grind
  have D4 : Q * (1 - 8 / 10000000) ≤ δ * δ := by
    have g1 := Rat.mul_le_mul_of_nonneg_left D2 (Rat.le_of_lt hδ0)
    have g2 := mul_le_r D2 (show 0 ≤ R * (1 - 12 / 100000000) by grind)
    grind
  have R8 : R ≤ 8 := by
    refine Rat.not_lt.1 fun g => ?_
    have g1 := Rat.mul_le_mul_of_nonneg_left (Rat.le_of_lt g) R0
    grind
  -- the share
  obtain ⟨s, hs⟩ : ∃ s : Rat, s * δ = ρ := ⟨ρ / δ, Rat.div_mul_cancel (by grind)⟩
  have s0 : 1 / 40 ≤ s := by
    refine le_of_mul_le hδ0 ?_
    rw [hs]; grind
  have s27 : s ≤ p2 28 := by
    refine le_of_mul_le hδ0 ?_
    rw [hs]
    have e1 : p2 28 * p2 (-27) = p2 1 := by rw [← p2_add]; rfl
    have e2 : p2 1 = 2 := p2_nat 1
    have e3 : p2 (-26) = 2 * p2 (-27) := by rw [← p2_two]; rfl
    have e4 := Rat.mul_le_mul_of_nonneg_left (show p2 (-27) ≤ δ by grind) (Rat.le_of_lt (p2_pos 28))
    grind
  have p28 : 2 * p2 28 ≤ p2 120 := by rw [← p2_two]; exact p2_le (by decide)
  have hδ' : Vl FloatKind.f32.format d δ := by rw [hd]; exact hδ
  obtain ⟨κ, hκ, k1, k2⟩ := vl_quo (k := .f32) hr hδ' (by grind) hs (B := s) (by grind) (by grind) (by grind)
  rw [← hk] at hκ
  have e3s := er32_le (B := 3 * s) (by grind)
  have K1 : κ ≤ s * (1 + 2 / 10000000) := by grind
  have K2 : s * (1 - 2 / 10000000) ≤ κ := by grind
  have κ0 : 0 < κ := by grind
  have G1 : κ * δ ≤ ρ * (1 + 2 / 10000000) := by
    have := mul_le_r K1 (Rat.le_of_lt hδ0)
    grind
  have G2 : ρ * (1 - 2 / 10000000) ≤ κ * δ := by
    have := mul_le_r K2 (Rat.le_of_lt hδ0)
    grind
  have G0 : 0 ≤ κ * δ := by grind
  obtain ⟨G, eG⟩ : ∃ G, G = κ * δ := ⟨_, rfl⟩
  rw [← eG] at G1 G2 G0
  have GG1 : G * G ≤ ρ * ρ * (1 + 5 / 10000000) := by
    have g1 := Rat.mul_le_mul_of_nonneg_left G1 G0
    have g2 := mul_le_r G1 (show 0 ≤ ρ * (1 + 2 / 10000000) by grind)
    have : 0 ≤ ρ * ρ := Rat.mul_nonneg (by grind) (by grind)
    grind
  have GG2 : ρ * ρ * (1 - 5 / 10000000) ≤ G * G := by
    have g1 := Rat.mul_le_mul_of_nonneg_left G2 G0
    have g2 := mul_le_r G2 (show 0 ≤ ρ * (1 - 2 / 10000000) by grind)
    have : 0 ≤ ρ * ρ := Rat.mul_nonneg (by grind) (by grind)
    grind
  have hκκ : 0 ≤ κ * κ := Rat.mul_nonneg (Rat.le_of_lt κ0) (Rat.le_of_lt κ0)
  obtain ⟨T, eT⟩ : ∃ T, T = κ * κ * Q := ⟨_, rfl⟩
  have T1 : T * (1 - 8 / 10000000) ≤ G * G := by
    have := Rat.mul_le_mul_of_nonneg_left D4 hκκ
    rw [eT, eG]; grind
  have T2 : G * G ≤ T * (1 + 8 / 10000000) := by
    have := Rat.mul_le_mul_of_nonneg_left D3 hκκ
    rw [eT, eG]; grind
  have ρρ := pb (a := ρ) (b := ρ) (A := 3 / 2) (B := 3 / 2) (by grind) (by grind) (by grind) (by grind)
  have ρ16 : 1 / 16 ≤ ρ * ρ := by
    have g1 := Rat.mul_le_mul_of_nonneg_left r1 (show 0 ≤ ρ by grind)
    grind
  have T3 : T ≤ ρ * ρ * (1 + 2 / 1000000) := by grind
  have T4 : ρ * ρ * (1 - 2 / 1000000) ≤ T := by grind
  have sqn : ∀ r : Rat, 0 ≤ r * r := fun r => by
    by_cases h : 0 ≤ r
    · exact Rat.mul_nonneg h h
    · have := Rat.mul_nonneg (show 0 ≤ -r by grind) (show 0 ≤ -r by grind)
      grind
  have eT2 : T = a * κ * (a * κ) + b * κ * (b * κ) + c * κ * (c * κ) := by rw [eT, eQ]; grind
  have na := sqn (a * κ); have nb := sqn (b * κ); have nc := sqn (c * κ)
  have ba := sq_bd (x := a * κ) (c := 151 / 100) (by decide +kernel) (by grind)
  have bb := sq_bd (x := b * κ) (c := 151 / 100) (by decide +kernel) (by grind)
  have bc := sq_bd (x := c * κ) (c := 151 / 100) (by decide +kernel) (by grind)
  have ua := drape_coord hx hκ hcx hA ba.1 ba.2
  have ub := drape_coord hy hκ hcy hB bb.1 bb.2
  have uc := drape_coord hz hκ hcz hC bc.1 bc.2
  rw [← hux] at ua
  rw [← huy] at ub
  rw [← huz] at uc
  have sx := nr_mul ua ua ba.1 ba.2 ba.1 ba.2 (by decide +kernel) (by decide +kernel) (g := 2 / 1000000) (by decide +kernel) (by decide +kernel)
  have sy := nr_mul ub ub bb.1 bb.2 bb.1 bb.2 (by decide +kernel) (by decide +kernel) (g := 2 / 1000000) (by decide +kernel) (by decide +kernel)
  have sz := nr_mul uc uc bc.1 bc.2 bc.1 bc.2 (by decide +kernel) (by decide +kernel) (g := 2 / 1000000) (by decide +kernel) (by decide +kernel)
  have w1 := nr_add sx sy (B := 5) (by grind) (by grind) (by decide +kernel) (by decide +kernel) (g := 45 / 10000000) (by decide +kernel) (by decide +kernel)
  have w2 := nr_add w1 sz (B := 8) (by grind) (by grind) (by decide +kernel) (by decide +kernel) (g := 7 / 1000000) (by decide +kernel) (by decide +kernel)
  rw [← eT2] at w2
  obtain ⟨u, hu, u1, u2⟩ := w2
  obtain ⟨R', hR', R0', RB', x1, x2⟩ := nr_root hu (B := 4) (by grind) (by decide +kernel) (by grind) (by decide +kernel)
  obtain ⟨v, hv, v1, v2⟩ := hR'
  refine ⟨v, hv, ?_⟩
  have hlow : 9995 / 10000 * ρ ≤ R' := by
    refine Rat.not_lt.1 fun g => ?_
    have g1 := Rat.mul_le_mul_of_nonneg_left (Rat.le_of_lt g) R0'
    have g2 := mul_le_r (Rat.le_of_lt g) (show 0 ≤ 9995 / 10000 * ρ by grind)
    grind
  grind
end Go.Awp
