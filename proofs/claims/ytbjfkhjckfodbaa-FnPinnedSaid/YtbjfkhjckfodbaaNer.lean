/- 32-bit numbers near rational ones.
Conditions: none. -/
import Derived.Test.YtbjfkhjckfodbaaErr
import Derived.Test.YtbjfkhjckfodbaaGo
namespace Go.Awp
set_option linter.all false
open Go Ieee
set_option maxRecDepth 100000

theorem c23 : p2 (-23) * 8388608 = 1 := p2_neg 23
theorem c40 : p2 (-40) * 1099511627776 = 1 := p2_neg 40
theorem c52 : p2 (-52) ≤ p2 (-40) := p2_le (by decide)
theorem c54 : p2 (-54) ≤ p2 (-40) := p2_le (by decide)
theorem c149 : p2 (-149) ≤ p2 (-40) := p2_le (by decide)
theorem c1074 : p2 (-1074) ≤ p2 (-40) := p2_le (by decide)
theorem c120 : (1000000 : Rat) ≤ p2 120 := by
  have h : p2 ((120 : Nat) : Int) = ((2 ^ 120 : Nat) : Rat) := p2_nat 120
  have h2 : (1000000 : Rat) ≤ ((2 ^ 120 : Nat) : Rat) := by decide +kernel
  exact h ▸ h2
theorem er32_le {B : Rat} (hB : 0 ≤ B) : er2 .f32 B ≤ B * (12 / 100000000) + 1 / 1000000000000 := by
  have e : er2 .f32 B = B * p2 (-23) + p2 (-149) := rfl
  have h1 : p2 (-23) ≤ 12 / 100000000 := by have := c23; grind
  have h2 := Rat.mul_le_mul_of_nonneg_left h1 hB
  have h3 := c149
  have h4 : p2 (-40) ≤ 1 / 1000000000000 := by have := c40; grind
  rw [e]; grind
theorem er64_le {B : Rat} (hB : 0 ≤ B) : er2 .f64 B ≤ B * (1 / 1000000000000) + 1 / 1000000000000 := by
  have e : er2 .f64 B = B * p2 (-52) + p2 (-1074) := rfl
  have h0 : p2 (-40) ≤ 1 / 1000000000000 := by have := c40; grind
  have h1 : p2 (-52) ≤ 1 / 1000000000000 := by have := c52; grind
  have h2 := Rat.mul_le_mul_of_nonneg_left h1 hB
  have h3 := c1074
  rw [e]; grind
theorem pb {a b A B : Rat} (a1 : -A ≤ a) (a2 : a ≤ A) (b1 : -B ≤ b) (b2 : b ≤ B) : -(A * B) ≤ a * b ∧ a * b ≤ A * B := by
  have h1 := Rat.mul_nonneg (show 0 ≤ A - a by grind) (show 0 ≤ B - b by grind)
  have h2 := Rat.mul_nonneg (show 0 ≤ A + a by grind) (show 0 ≤ B + b by grind)
  have h3 := Rat.mul_nonneg (show 0 ≤ A - a by grind) (show 0 ≤ B + b by grind)
  have h4 := Rat.mul_nonneg (show 0 ≤ A + a by grind) (show 0 ≤ B - b by grind)
  constructor <;> grind

/-- A finite number that is not farther than e from v. -/
def Nr (x : Nat) (v e : Rat) : Prop := ∃ u, Vl FloatKind.f32.format x u ∧ u ≤ v + e ∧ v ≤ u + e
theorem nr_vl {x : Nat} {v : Rat} (h : Vl FloatKind.f32.format x v) : Nr x v 0 := ⟨v, h, by grind, by grind⟩
theorem Nr.mono {x : Nat} {v e f : Rat} (h : Nr x v e) (hf : e ≤ f) : Nr x v f := by
  obtain ⟨u, h1, h2, h3⟩ := h
  exact ⟨u, h1, by grind, by grind⟩
theorem Nr.to {x : Nat} {v w e f : Rat} (h : Nr x v e) (h1 : v + e ≤ w + f) (h2 : w + e ≤ v + f) : Nr x w f := by
  obtain ⟨u, h1, h2, h3⟩ := h
  exact ⟨u, h1, by grind, by grind⟩
theorem nr_add {x y : Nat} {v w e f B g : Rat} (hx : Nr x v e) (hy : Nr y w f) (h1 : -B ≤ v + w) (h2 : v + w ≤ B) (he : 0 ≤ e) (hf : 0 ≤ f) (hg : e + f + (B + e + f) * (6 / 100000000) + 1 / 1000000000000 ≤ g) (hb : B + e + f ≤ 1000000) : Nr (fop .add .f32 x y) (v + w) g := by
  obtain ⟨a, ha, a1, a2⟩ := hx
  obtain ⟨b, hb', b1, b2⟩ := hy
  have c := c120
  obtain ⟨u, hu, u1, u2⟩ := vl_add ha hb' (B := B + e + f) (by grind) (by grind) (by grind)
  have := er32_le (B := B + e + f) (by grind)
  exact ⟨u, hu, by grind, by grind⟩
theorem nr_sub {x y : Nat} {v w e f B g : Rat} (hx : Nr x v e) (hy : Nr y w f) (h1 : -B ≤ v - w) (h2 : v - w ≤ B) (he : 0 ≤ e) (hf : 0 ≤ f) (hg : e + f + (B + e + f) * (6 / 100000000) + 1 / 1000000000000 ≤ g) (hb : B + e + f ≤ 1000000) : Nr (fop .sub .f32 x y) (v - w) g := by
  obtain ⟨a, ha, a1, a2⟩ := hx
  obtain ⟨b, hb', b1, b2⟩ := hy
  have c := c120
  obtain ⟨u, hu, u1, u2⟩ := vl_sub ha hb' (B := B + e + f) (by grind) (by grind) (by grind)
  have := er32_le (B := B + e + f) (by grind)
  exact ⟨u, hu, by grind, by grind⟩
theorem nr_mul {x y : Nat} {v w e f V W g : Rat} (hx : Nr x v e) (hy : Nr y w f) (v1 : -V ≤ v) (v2 : v ≤ V) (w1 : -W ≤ w) (w2 : w ≤ W) (he : 0 ≤ e) (hf : 0 ≤ f) (hg : V * f + W * e + e * f + (V + e) * (W + f) * (6 / 100000000) + 1 / 1000000000000 ≤ g) (hb : (V + e) * (W + f) ≤ 1000000) : Nr (fop .mul .f32 x y) (v * w) g := by
  obtain ⟨a, ha, a1, a2⟩ := hx
  obtain ⟨b, hb', b1, b2⟩ := hy
  have c := c120
  have p1 := pb (a := a) (b := b) (A := V + e) (B := W + f) (by grind) (by grind) (by grind) (by grind)
  have p2' := pb (a := v) (b := b - w) (A := V) (B := f) v1 v2 (by grind) (by grind)
  have p3 := pb (a := w) (b := a - v) (A := W) (B := e) w1 w2 (by grind) (by grind)
  have p4 := pb (a := a - v) (b := b - w) (A := e) (B := f) (by grind) (by grind) (by grind) (by grind)
  have h0 : 0 ≤ (V + e) * (W + f) := Rat.mul_nonneg (by grind) (by grind)
  obtain ⟨u, hu, u1, u2⟩ := vl_mul ha hb' (B := (V + e) * (W + f)) (by grind) (by grind) (by grind)
  have := er32_le h0
  have ex : a * b = v * w + v * (b - w) + w * (a - v) + (a - v) * (b - w) := by grind
  exact ⟨u, hu, by grind, by grind⟩
/-- The greater of two numbers of 64 bits is one of them. -/
theorem vl_max {k : FloatKind} {x y : Nat} {a b : Rat} (hx : Vl k.format x a) (hy : Vl k.format y b) : ∃ v, Vl k.format (fmax k x y) v ∧ (v = a ∨ v = b) := by
  unfold fmax
  by_cases h1 : a < b
  · rw [ford_lt_of hx hy h1]; exact ⟨b, hy, .inr rfl⟩
  · by_cases h2 : a = b
    · subst h2
      rw [ford_eq_of hx hy]
      dsimp only
      split
      · exact ⟨a, hy, .inl rfl⟩
      · exact ⟨a, hx, .inl rfl⟩
    · rw [ford_gt_of hx hy (by grind)]; exact ⟨a, hx, .inl rfl⟩
theorem nr_quo {x y : Nat} {v w c e f C D h g : Rat} (hx : Nr x v e) (hy : Nr y w f) (hc : c * w = v) (c1 : -C ≤ c) (c2 : c ≤ C) (hD : 0 < D) (hw : D + f ≤ w) (he : 0 ≤ e) (hf : 0 ≤ f) (hh0 : 0 ≤ h) (hh : e + C * f ≤ h * D) (hg : h + (C + h) * (18 / 100000000) + 1 / 1000000000000 ≤ g) (hb : C + h ≤ 400000) : Nr (fop .quo .f32 x y) c g := by
  obtain ⟨a, ha, a1, a2⟩ := hx
  obtain ⟨b, hb', b1, b2⟩ := hy
  have hbD : D ≤ b := by grind
  have hb0 : 0 < b := by grind
  have hbn : b ≠ 0 := by grind
  obtain ⟨q, hq⟩ : ∃ q : Rat, q * b = a := ⟨a / b, Rat.div_mul_cancel hbn⟩
  have p1 := pb (a := c) (b := b - w) (A := C) (B := f) c1 c2 (by grind) (by grind)
  have hDb : h * D ≤ h * b := Rat.mul_le_mul_of_nonneg_left hbD hh0
  have e1 : q ≤ c + h := by
    refine le_of_mul_le hb0 ?_
    have : (c + h) * b = c * w + c * (b - w) + h * b := by grind
    rw [hq, this, hc]; grind
  have e2 : c - h ≤ q := by
    refine le_of_mul_le hb0 ?_
    have : (c - h) * b = c * w + c * (b - w) - h * b := by grind
    rw [hq, this, hc]; grind
  have c120' := c120
  obtain ⟨u, hu, u1, u2⟩ := vl_quo ha hb' hbn hq (B := C + h) (by grind) (by grind) (by grind)
  have := er32_le (B := 3 * (C + h)) (by grind)
  exact ⟨u, hu, by grind, by grind⟩
theorem nr_root {x : Nat} {a B : Rat} (hx : Vl FloatKind.f32.format x a) (h0 : 0 ≤ a) (hB0 : 0 ≤ B) (h2 : 4 * a ≤ B * B) (hB : B ≤ 1000) :
    ∃ R, Nr (froot x) R (B * (7 / 100000000) + 1 / 100000000000) ∧ 0 ≤ R ∧ R ≤ B ∧ R * R ≤ a + a * (1 / 1000000000000) ∧ a ≤ R * R + a * (1 / 1000000000000) := by
  have c := c120
  have e1 := er64_le hB0
  obtain ⟨v, R, hv, R0, RB, q1, q2, v1, v2⟩ := vl_froot hx h0 hB0 h2 (by grind)
  have hE0 : 0 ≤ er2 .f64 B := by
    unfold er2
    have h1 := Rat.mul_nonneg hB0 (Rat.le_of_lt (p2_pos (-FloatKind.f64.format.fractionBits)))
    have h2 := p2_pos FloatKind.f64.format.leastPlace
    grind
  have e2 := er32_le (B := B + er2 .f64 B) (by grind)
  have h5 : p2 (-54) ≤ 1 / 1000000000000 := by have := c54; have := c40; grind
  have h6 := Rat.mul_le_mul_of_nonneg_left h5 h0
  exact ⟨R, ⟨v, hv, by grind, by grind⟩, R0, RB, by grind, by grind⟩
theorem sq_bd {x c : Rat} (hc : 0 ≤ c) (h : x * x < c * c) : -c ≤ x ∧ x ≤ c := by
  constructor
  · refine Rat.not_lt.1 fun g => ?_
    have h1 := Rat.mul_nonneg (show 0 ≤ -c - x by grind) (show 0 ≤ -x by grind)
    have h2 := Rat.mul_nonneg hc (show 0 ≤ -c - x by grind)
    grind
  · refine Rat.not_lt.1 fun g => ?_
    have h1 := Rat.mul_nonneg (show 0 ≤ x - c by grind) (show 0 ≤ x by grind)
    have h2 := Rat.mul_nonneg hc (show 0 ≤ x - c by grind)
    grind

/-! Numbers that are not below nothing. -/
theorem vl_uniq {f : Format} {x : Nat} {a b : Rat} (h1 : Vl f x a) (h2 : Vl f x b) : a = b := by
  obtain ⟨s, m, e, r1, _, ha⟩ := h1
  obtain ⟨t, n, g, r2, _, hb⟩ := h2
  rw [r1] at r2
  cases r2
  rw [ha, hb]
theorem near_nn {k : FloatKind} {m : Nat} {p : Int} {v : Rat} (h : Vl k.format (k.format.nearest false m p) v) : 0 ≤ v := by
  have hBI := binade_le_inf k
  generalize k.format = f at *
  have key : ∀ r, r ≤ f.infRung → Vl f (f.word false r) v → 0 ≤ v := by
    intro r hr hv
    rcases Nat.lt_or_ge r f.infRung with c | c
    · rw [vl_uniq hv (vl_word f false c), dv_sgn]
      exact mag_nonneg _ _
    · exfalso
      have e : r = f.infRung := by omega
      subst e
      obtain ⟨s, m, e, r1, _⟩ := hv
      have hB : 0 < f.binade := Nat.two_pow_pos _
      have hlt : f.infRung < f.signWeight := f.infRung_lt
      unfold Format.read Format.word at r1
      simp only [Bool.false_eq_true, if_false] at r1
      rw [Nat.mod_eq_of_lt hlt] at r1
      by_cases g : f.infRung < f.binade
      · rw [if_pos g] at r1
        omega
      · rw [if_neg g, if_neg (Nat.lt_irrefl _), if_pos rfl] at r1
        cases r1
  unfold Format.nearest at h
  split at h
  · exact key 0 (Nat.zero_le _) h
  · exact key _ (Nat.min_le_right ..) h
theorem nn_sq {k : FloatKind} {x : Nat} {a v : Rat} (hx : Vl k.format x a) (h : Vl k.format (fop .mul k x x) v) : 0 ≤ v := by
  obtain ⟨s, m, i, r1, _, ha⟩ := hx
  rw [fop_mul, r1] at h
  have e : Datum.product (.number s m i) (.number s m i) = some (.number false (m * m) (i + i)) := by
    show some (Datum.number (s ^^ s) (m * m) (i + i)) = _
    rw [Bool.xor_self]
  rw [e, num_getD'] at h
  exact near_nn h
theorem nn_add {k : FloatKind} {x y : Nat} {a b v : Rat} (hx : Vl k.format x a) (hy : Vl k.format y b) (h0 : 0 ≤ a) (h1 : 0 ≤ b) (h : Vl k.format (fop .add k x y) v) : 0 ≤ v := by
  obtain ⟨s, m, i, r1, _, ha⟩ := hx
  obtain ⟨t, n, j, r2, _, hb⟩ := hy
  obtain ⟨S, M, P, e, he⟩ := sum_val (f := k.format) (s := s) (t := t) (m := m) (n := n) (i := i) (j := j)
  rw [fop_add, r1, r2, e, num_getD'] at h
  cases S with
  | false => exact near_nn h
  | true =>
    have h2 : 0 ≤ dv true M P := by rw [he, ← ha, ← hb]; grind
    have h3 := mag_nonneg M P
    have h4 : M = 0 := dv_zero (s := true) (p := P) (by rw [dv_sgn] at h2 ⊢; simp only [if_true] at h2 ⊢; grind)
    subst h4
    rw [vl_uniq h (near_nil k true P)]
    decide
end Go.Awp
