/- Rounding: a number told in other places; halves.
Conditions: none. -/
import Derived.Test.YtbjfkhjckfodbaaNum
namespace Go.Awp
set_option linter.all false
open Go Ieee

theorem log2_mul_pow {m : Nat} (h : m ≠ 0) (a : Nat) : (m * 2 ^ a).log2 = m.log2 + a := by
  rw [Nat.log2_eq_iff (by have := Nat.two_pow_pos a; exact Nat.mul_ne_zero h (by omega))]
  have h1 := Nat.log2_self_le h
  have h2 : m < 2 ^ (m.log2 + 1) := Nat.lt_log2_self
  constructor
  · rw [Nat.pow_add]; exact Nat.mul_le_mul_right _ h1
  · rw [show m.log2 + a + 1 = m.log2 + 1 + a by omega, Nat.pow_add]
    exact Nat.mul_lt_mul_of_pos_right h2 (Nat.two_pow_pos _)
theorem cut_zero (neg : Bool) (n : Nat) : Toward.even.cut neg n 0 = n := by
  unfold Toward.cut
  simp [Nat.mod_one]
theorem cut_exact (neg : Bool) {m a d : Nat} (hm : m ≠ 0) (h : d ≤ a) : Toward.even.cut neg (m * 2 ^ a) d = m * 2 ^ (a - d) := by
  unfold Toward.cut
  dsimp only
  rw [log2_mul_pow hm, Nat.min_eq_left (by omega), Nat.one_shiftLeft]
  have e : m * 2 ^ a = 2 ^ d * (m * 2 ^ (a - d)) := by
    have : 2 ^ a = 2 ^ d * 2 ^ (a - d) := by rw [← Nat.pow_add]; congr 1; omega
    rw [this, Nat.mul_left_comm]
  have hp := Nat.two_pow_pos d
  rw [e, Nat.mul_div_cancel_left _ hp, Nat.mul_mod_right]
  have h1 : decide (2 ^ d < 2 * 0) = false := by simp
  have h2 : (2 ^ d == 2 * 0) = false := by simp
  rw [h1, h2]; rfl
theorem cut_shift (neg : Bool) {m a d : Nat} (hm : m ≠ 0) (h : a ≤ d) : Toward.even.cut neg (m * 2 ^ a) d = Toward.even.cut neg m (d - a) := by
  unfold Toward.cut
  dsimp only
  rw [log2_mul_pow hm, Nat.one_shiftLeft, Nat.one_shiftLeft]
  have e : min d (m.log2 + a + 2) = min (d - a) (m.log2 + 2) + a := by omega
  rw [e]
  generalize min (d - a) (m.log2 + 2) = g
  rw [Nat.pow_add]
  have hp := Nat.two_pow_pos a
  rw [Nat.mul_div_mul_right _ _ hp, Nat.mul_mod_mul_right]
  have h1 : decide (2 ^ g * 2 ^ a < 2 * (m % 2 ^ g * 2 ^ a)) = decide (2 ^ g < 2 * (m % 2 ^ g)) := by
    rw [← Nat.mul_assoc]
    exact decide_eq_decide.2 ⟨fun h => Nat.lt_of_mul_lt_mul_right h, fun h => Nat.mul_lt_mul_of_pos_right h hp⟩
  have h2 : (2 ^ g * 2 ^ a == 2 * (m % 2 ^ g * 2 ^ a)) = (2 ^ g == 2 * (m % 2 ^ g)) := by
    rw [← Nat.mul_assoc, Bool.eq_iff_iff, beq_iff_eq, beq_iff_eq]
    exact ⟨fun h => Nat.eq_of_mul_eq_mul_right hp h, fun h => congrArg (· * 2 ^ a) h⟩
  rw [h1, h2]
/-- A number told in other places is rounded alike. -/
theorem nearest_shift (f : Format) (neg : Bool) (m a : Nat) (p : Int) : f.nearest neg (m * 2 ^ a) p = f.nearest neg m (p + a) := by
  by_cases hm : m = 0
  · subst hm; simp [Format.nearest]
  · have hm' : m * 2 ^ a ≠ 0 := Nat.mul_ne_zero hm (by have := Nat.two_pow_pos a; omega)
    unfold Format.nearest
    rw [if_neg hm, if_neg hm']
    dsimp only
    rw [log2_mul_pow hm]
    have e : p + ((m.log2 + a : Nat) : Int) - f.fractionBits = p + a + m.log2 - f.fractionBits := by omega
    rw [e]
    generalize max (p + a + m.log2 - f.fractionBits) f.leastPlace = last
    congr 1
    congr 1
    congr 1
    rcases Int.le_total last p with c | c
    · rw [show (last - p).toNat = 0 by omega, show (last - (p + a)).toNat = 0 by omega, cut_zero, cut_zero, Nat.shiftLeft_eq, Nat.shiftLeft_eq, Nat.mul_assoc, ← Nat.pow_add]
      congr 2; omega
    · rw [show (p - last).toNat = 0 by omega, Nat.shiftLeft_zero]
      rcases Int.le_total last (p + a) with c2 | c2
      · rw [show (last - (p + a)).toNat = 0 by omega, cut_zero, cut_exact _ hm (by omega), Nat.shiftLeft_eq]
        congr 2; omega
      · rw [show (p + a - last).toNat = 0 by omega, Nat.shiftLeft_zero, cut_shift _ hm (by omega)]
        congr 1; omega
/-- Half of a number. -/
theorem fop_half (x : Nat) : fop .quo .f32 x 1073741824 = fop .mul .f32 1056964608 x := by
  have r2 : FloatKind.f32.format.read 1073741824 = .number false 8388608 (-22) := by decide +kernel
  have rh : FloatKind.f32.format.read 1056964608 = .number false 8388608 (-24) := by decide +kernel
  show (FloatKind.f32.format.div x 1073741824).getD _ = (FloatKind.f32.format.mul 1056964608 x).getD _
  congr 1
  unfold Format.div Format.mul
  rw [r2, rh]
  cases hx : FloatKind.f32.format.read x with
  | nan s t => rfl
  | infinity s => cases s <;> rfl
  | number s m i =>
    simp only [Datum.quotient, Datum.product, Option.map_some]
    rw [if_neg (by decide)]
    simp only [Option.map_some, Option.some.injEq]
    show FloatKind.f32.format.nearest _ _ _ = FloatKind.f32.format.nearest _ _ _
    have hlog : m.log2 ≤ 23 := by
      have hp := read_parts (binade_le_inf .f32) hx
      have hb : FloatKind.f32.format.binade = 8388608 := by decide
      rw [hb] at hp
      exact log2_of_lt (by omega)
    have hl : (8388608 : Nat).log2 = 23 := by decide +kernel
    have hd : FloatKind.f32.format.fractionBits = 23 := rfl
    rw [hl, hd]
    generalize hmore : 23 + 2 + 23 - m.log2 = more
    have hmr : 25 ≤ more := by omega
    rw [Nat.shiftLeft_eq]
    have e1 : m * 2 ^ more = 8388608 * (m * 2 ^ (more - 23)) := by
      have : 2 ^ more = 2 ^ 23 * 2 ^ (more - 23) := by rw [← Nat.pow_add]; congr 1; omega
      rw [this, Nat.mul_left_comm]
    rw [e1, Nat.mul_div_cancel_left _ (by decide), Nat.mul_mod_right]
    have e2 : 2 * (m * 2 ^ (more - 23)) + ((0 : Nat) != 0).toNat = m * 2 ^ (more - 22) := by
      have : 2 ^ (more - 22) = 2 * 2 ^ (more - 23) := by rw [← Nat.pow_succ']; congr 1; omega
      rw [this]; simp [Nat.mul_left_comm]
    rw [e2, nearest_shift, show (8388608 : Nat) * m = m * 2 ^ 23 by rw [Nat.mul_comm], nearest_shift]
    congr 1
    · simp
    · omega
end Go.Awp
