/- 32-bit numbers that are less than a power of two: what sums and products of them are less than; products with nothing.
Conditions: none. -/
import Derived.Test.YtnjpigkijdnpkaaGreatNum
namespace Go.Awp
set_option linter.all false
open Go Ieee
set_option maxRecDepth 100000

/-- Less than 2 to the power of b - 127. -/
def Mg (b x : Nat) : Prop := x < 4294967296 ∧ x % 2147483648 < b * 8388608

theorem mf_lp : FloatKind.f32.format.leastPlace = -149 := by decide
theorem mf_fb : FloatKind.f32.format.fractionBits = 23 := rfl
theorem mf_bi : FloatKind.f32.format.binade = 8388608 := by decide
theorem mf_sw : FloatKind.f32.format.signWeight = 2147483648 := by decide +kernel
theorem mf_ir : FloatKind.f32.format.infRung = 255 * 8388608 := by decide +kernel

theorem Mg.mono {a b x : Nat} (h : Mg a x) (hab : a ≤ b) : Mg b x := ⟨h.1, Nat.lt_of_lt_of_le h.2 (Nat.mul_le_mul_right _ hab)⟩

theorem Mg.read {b x : Nat} (h : Mg b x) (hb : b ≤ 255) : ∃ (s : Bool) (m : Nat) (e : Int), FloatKind.f32.format.read x = .number s m e ∧ (m = 0 ∨ e + m.log2 ≤ (b : Int) - 128) ∧ -149 ≤ e := by
  obtain ⟨_, h2⟩ := h
  have hb1 : 1 ≤ b := by
    rcases Nat.eq_zero_or_pos b with h0 | h0
    · subst h0; omega
    · exact h0
  unfold Format.read
  rw [mf_lp, mf_bi, mf_ir, mf_sw]
  dsimp only
  generalize x % 2147483648 = r at *
  by_cases c : r < 8388608
  · rw [if_pos c]
    refine ⟨_, _, _, rfl, ?_, by omega⟩
    have := log2_of_lt (m := r) (k := 22) (by omega)
    right; omega
  · have h3 : b * 8388608 ≤ 255 * 8388608 := Nat.mul_le_mul_right _ hb
    rw [if_neg c, if_pos (Nat.lt_of_lt_of_le h2 h3)]
    refine ⟨_, _, _, rfl, ?_, by omega⟩
    have hm := Nat.mod_lt r (show 0 < 8388608 by decide)
    have hl := log2_of_lt (m := 8388608 + r % 8388608) (k := 23) (by omega)
    have hq : r / 8388608 < b := Nat.div_lt_of_lt_mul (by rw [Nat.mul_comm]; exact h2)
    right; omega

theorem Mg.write {s : Bool} {m : Nat} {p K : Int} {b : Nat} (h : m = 0 ∨ p + m.log2 ≤ K) (hK : -126 ≤ K) (hb : K + 129 ≤ b) (hb2 : b ≤ 255) : Mg b (FloatKind.f32.format.nearest s m p) := by
  have key : ∀ r : Nat, r < b * 8388608 → Mg b (FloatKind.f32.format.word s r) := by
    intro r hr
    have h3 : b * 8388608 ≤ 255 * 8388608 := Nat.mul_le_mul_right _ hb2
    unfold Format.word
    rw [mf_sw]
    cases s
    · exact ⟨by simp; omega, by simp; omega⟩
    · exact ⟨by simp; omega, by simp; omega⟩
  by_cases h0 : m = 0
  · subst h0
    unfold Format.nearest
    rw [if_pos rfl]
    have hb1 : 1 ≤ b := by omega
    exact key 0 (by omega)
  · rcases h with h | h
    · exact absurd h h0
    · obtain ⟨r, e, hr⟩ := nearest_rung FloatKind.f32.format s m p K h (by rw [mf_lp, mf_fb]; omega)
      rw [mf_lp, mf_fb, mf_bi] at hr
      rw [e]
      refine key r ?_
      have h1 : ((K - (23 : Nat) - -149).toNat + 2) * 8388608 ≤ (b - 1) * 8388608 := Nat.mul_le_mul_right _ (by omega)
      have h2 : (b - 1) * 8388608 < b * 8388608 := Nat.mul_lt_mul_of_pos_right (by omega) (by decide)
      omega

theorem log2_mul_le {m n : Nat} (hm : m ≠ 0) (hn : n ≠ 0) : (m * n).log2 ≤ m.log2 + n.log2 + 1 := by
  refine log2_of_lt ?_
  have h1 : m < 2 ^ (m.log2 + 1) := Nat.lt_log2_self
  have h2 : n < 2 ^ (n.log2 + 1) := Nat.lt_log2_self
  have h3 : m * n < 2 ^ (m.log2 + 1) * 2 ^ (n.log2 + 1) := Nat.mul_lt_mul'' h1 h2
  rw [← Nat.pow_add] at h3
  rw [show m.log2 + n.log2 + 1 + 1 = m.log2 + 1 + (n.log2 + 1) by omega]
  exact h3

theorem mg_mul {a b x y : Nat} (hx : Mg a x) (hy : Mg b y) (ha : a ≤ 255) (hb : b ≤ 255) (h1 : 129 ≤ a + b) (h2 : a + b ≤ 381) : Mg (a + b - 126) (fop .mul .f32 x y) := by
  obtain ⟨s, m, e, r1, b1, _⟩ := hx.read ha
  obtain ⟨t, n, f, r2, b2, _⟩ := hy.read hb
  show Mg _ ((Option.map _ (Datum.product (FloatKind.f32.format.read x) (FloatKind.f32.format.read y))).getD _)
  rw [r1, r2]
  show Mg _ (FloatKind.f32.format.nearest _ (m * n) (e + f))
  refine Mg.write (K := (a : Int) + b - 255) ?_ (by omega) (by omega) (by omega)
  by_cases m0 : m = 0
  · left; rw [m0, Nat.zero_mul]
  · by_cases n0 : n = 0
    · left; rw [n0, Nat.mul_zero]
    · have := log2_mul_le m0 n0
      rcases b1 with b1 | b1
      · exact absurd b1 m0
      · rcases b2 with b2 | b2
        · exact absurd b2 n0
        · right; omega

theorem shift_lt {m : Nat} {e base B : Int} (h : m = 0 ∨ e + m.log2 ≤ B) (hb : base ≤ e) (hB : base ≤ B + 1) : m <<< (e - base).toNat < 2 ^ (B + 1 - base).toNat ∨ m = 0 := by
  rcases h with h | h
  · exact .inr h
  · left
    have h1 : m < 2 ^ (m.log2 + 1) := Nat.lt_log2_self
    rw [Nat.shiftLeft_eq]
    have h2 : m * 2 ^ (e - base).toNat < 2 ^ (m.log2 + 1) * 2 ^ (e - base).toNat := Nat.mul_lt_mul_of_pos_right h1 (Nat.two_pow_pos _)
    rw [← Nat.pow_add] at h2
    exact Nat.lt_of_lt_of_le h2 (Nat.pow_le_pow_right (by decide) (by omega))

theorem mg_sum {a : Nat} {s t : Bool} {m n : Nat} {e f : Int} (ha1 : 1 ≤ a) (ha : a ≤ 253) (b1 : m = 0 ∨ e + m.log2 ≤ (a : Int) - 128) (b2 : n = 0 ∨ f + n.log2 ≤ (a : Int) - 128) (he : -149 ≤ e) (hf : -149 ≤ f) :
    Mg (a + 2) (((Datum.sum (.number s m e) (.number t n f)).map FloatKind.f32.format.write).getD (qnan .f32)) := by
  unfold Datum.sum
  dsimp only
  show Mg _ (FloatKind.f32.format.nearest _ _ _)
  refine Mg.write (K := (a : Int) - 127) ?_ (by omega) (by omega) (by omega)
  generalize hbase : min e f = base
  have l1 : base ≤ e := by omega
  have l2 : base ≤ f := by omega
  have hz : ∀ (s : Bool) (u : Nat), (signed s 0 u) = 0 := by
    intro s u; unfold signed; rw [Nat.zero_shiftLeft]; cases s <;> rfl
  have hs : ∀ (s : Bool) (m u : Nat), (signed s m u).natAbs = m <<< u := by
    intro s m u; unfold signed; cases s <;> simp only [Bool.false_eq_true, if_false, if_true, Int.natAbs_neg, Int.natAbs_natCast]
  by_cases m0 : m = 0
  · subst m0
    rw [hz, Int.zero_add, hs]
    by_cases n0 : n = 0
    · subst n0; left; rw [Nat.zero_shiftLeft]
    · right
      rcases b2 with b2 | b2
      · exact absurd b2 n0
      · have hlog : (n <<< (f - base).toNat).log2 ≤ n.log2 + (f - base).toNat := by
          refine log2_of_lt ?_
          rw [Nat.shiftLeft_eq, show n.log2 + (f - base).toNat + 1 = n.log2 + 1 + (f - base).toNat by omega, Nat.pow_add]
          exact Nat.mul_lt_mul_of_pos_right Nat.lt_log2_self (Nat.two_pow_pos _)
        omega
  · rcases b1 with b1 | b1
    · exact absurd b1 m0
    · have hB : base ≤ (a : Int) - 128 + 1 := by omega
      have g1 := (shift_lt (.inr b1) l1 hB).resolve_right m0
      have g2 : n <<< (f - base).toNat < 2 ^ ((a : Int) - 128 + 1 - base).toNat := by
        rcases shift_lt b2 l2 hB with g | g
        · exact g
        · rw [g, Nat.zero_shiftLeft]; exact Nat.two_pow_pos _
      have g3 : (signed s m (e - base).toNat + signed t n (f - base).toNat).natAbs < 2 ^ (((a : Int) - 128 + 1 - base).toNat + 1) := by
        have := hs s m (e - base).toNat
        have := hs t n (f - base).toNat
        rw [Nat.pow_succ]
        omega
      right
      have := log2_of_lt g3
      omega

theorem mg_pos {a x : Nat} (h : Mg a x) : 1 ≤ a := by
  rcases Nat.eq_zero_or_pos a with h0 | h0
  · subst h0; have := h.2; omega
  · exact h0
theorem mg_add {a x y : Nat} (hx : Mg a x) (hy : Mg a y) (ha : a ≤ 253) : Mg (a + 2) (fop .add .f32 x y) := by
  obtain ⟨s, m, e, r1, b1, l1⟩ := hx.read (by omega)
  obtain ⟨t, n, f, r2, b2, l2⟩ := hy.read (by omega)
  show Mg _ ((Option.map _ (Datum.sum (FloatKind.f32.format.read x) (FloatKind.f32.format.read y))).getD _)
  rw [r1, r2]
  exact mg_sum (mg_pos hx) ha b1 b2 l1 l2
theorem mg_sub {a x y : Nat} (hx : Mg a x) (hy : Mg a y) (ha : a ≤ 253) : Mg (a + 2) (fop .sub .f32 x y) := by
  obtain ⟨s, m, e, r1, b1, l1⟩ := hx.read (by omega)
  obtain ⟨t, n, f, r2, b2, l2⟩ := hy.read (by omega)
  show Mg _ ((Option.map _ (Datum.sum (FloatKind.f32.format.read x) (FloatKind.f32.format.read y).opposite)).getD _)
  rw [r1, r2]
  exact mg_sum (mg_pos hx) ha b1 b2 l1 l2
/-- A product with nothing. -/
theorem mul_none {b x z : Nat} (hx : Mg b x) (hb : b ≤ 255) (hz : z = 0 ∨ z = 2147483648) : fop .mul .f32 x z = 0 ∨ fop .mul .f32 x z = 2147483648 := by
  obtain ⟨s, m, e, r1, _, _⟩ := hx.read hb
  have r2 : ∃ t, FloatKind.f32.format.read z = .number t 0 (-149) := by
    rcases hz with rfl | rfl
    · exact ⟨false, by decide +kernel⟩
    · exact ⟨true, by decide +kernel⟩
  obtain ⟨t, r2⟩ := r2
  have h : fop .mul .f32 x z = FloatKind.f32.format.nearest (s ^^ t) (m * 0) (e + -149) := by
    show (Option.map _ (Datum.product (FloatKind.f32.format.read x) (FloatKind.f32.format.read z))).getD _ = _
    rw [r1, r2]; rfl
  rw [h, Nat.mul_zero]
  unfold Format.nearest
  rw [if_pos rfl]
  cases (s ^^ t)
  · left; decide +kernel
  · right; decide +kernel
end Go.Awp
