/- Rounding: words of numbers are rounded to themselves; quarters between neighbours.
Conditions: none. -/
import Derived.Test.YtfngkhkghjgmkaaOrd
namespace Go.Proofs.Ytfngkhkghjgmkaa
set_option linter.all false
open Go Go.Awp Ieee
set_option maxRecDepth 100000

theorem log2_at {m P : Nat} (h1 : 2 ^ P ≤ m) (h2 : m < 2 ^ (P + 1)) : m.log2 = P := by
  have hm : m ≠ 0 := by have := Nat.two_pow_pos P; omega
  exact (Nat.log2_eq_iff hm).2 ⟨h1, h2⟩
theorem rmag_big {f : Format} {r : Nat} (h : ¬ r < f.binade) : rmag f r = (f.binade + r % f.binade) * 2 ^ (r / f.binade - 1) := by unfold rmag; rw [if_neg h]
theorem rmag_low {f : Format} {r : Nat} (h : r < f.binade) : rmag f r = r := by unfold rmag; rw [if_pos h]
theorem near_rmag (f : Format) (neg : Bool) {r : Nat} (h : r ≤ f.infRung) : f.nearest neg (rmag f r) f.leastPlace = f.word neg r := by
  have hB : f.binade = 2 ^ f.fractionBits := rfl
  have hp : 0 < f.binade := Nat.two_pow_pos _
  by_cases h0 : r = 0
  · subst h0; rw [rmag_zero]; unfold Format.nearest; rw [if_pos rfl]
  · have hpos : rmag f r ≠ 0 := by have := rmag_lt f (r := 0) (s := r) (by omega); rw [rmag_zero] at this; omega
    unfold Format.nearest
    rw [if_neg hpos]
    dsimp only
    by_cases c : r < f.binade
    · have hl : r.log2 ≤ f.fractionBits := log2_of_lt (by rw [Nat.pow_succ]; omega)
      rw [rmag_low c, show max (f.leastPlace + (r.log2 : Int) - f.fractionBits) f.leastPlace = f.leastPlace by omega]
      rw [show (f.leastPlace - f.leastPlace).toNat = 0 by omega, Nat.shiftLeft_zero, cut_zero, Nat.zero_mul, Nat.zero_add, Nat.min_eq_left h]
    · have hdm := Nat.div_add_mod r f.binade
      have hlt := Nat.mod_lt r hp
      have hq : 1 ≤ r / f.binade := Nat.div_pos (by omega) hp
      rw [rmag_big c]
      generalize ht : r % f.binade = t at *
      generalize hqq : r / f.binade = q at *
      have hl : ((f.binade + t) * 2 ^ (q - 1)).log2 = f.fractionBits + (q - 1) := by
        rw [log2_mul_pow (by omega), log2_at (P := f.fractionBits) (by omega) (by rw [Nat.pow_succ]; omega)]
      rw [hl, show max (f.leastPlace + ((f.fractionBits + (q - 1) : Nat) : Int) - f.fractionBits) f.leastPlace = f.leastPlace + (q - 1 : Nat) by omega]
      rw [show (f.leastPlace - (f.leastPlace + (q - 1 : Nat))).toNat = 0 by omega, Nat.shiftLeft_zero, show (f.leastPlace + ((q - 1 : Nat) : Int) - f.leastPlace).toNat = q - 1 by omega]
      rw [cut_exact _ (by omega) (Nat.le_refl _), Nat.sub_self, Nat.pow_zero, Nat.mul_one]
      have e : (q - 1) * f.binade + (f.binade + t) = r := by
        rw [← hdm]
        obtain ⟨k, rfl⟩ : ∃ k, q = k + 1 := ⟨q - 1, by omega⟩
        rw [Nat.add_sub_cancel, Nat.mul_add, Nat.mul_comm k, Nat.mul_one]; omega
      rw [e, Nat.min_eq_left h]
def dlt (c r : Nat) : Nat := if c = 3 ∨ (c = 2 ∧ r % 2 = 1) then 1 else 0
theorem cut_two (neg : Bool) (m c : Nat) (h : c ≤ 3) : Toward.even.cut neg (4 * m + c) 2 = m + dlt c m := by
  unfold Toward.cut dlt
  dsimp only
  rw [show min 2 ((4 * m + c).log2 + 2) = 2 by omega, show (1 <<< 2 : Nat) = 4 from rfl, show (4 * m + c) / 4 = m by omega, show (4 * m + c) % 4 = c by omega]
  congr 1
  have hc : c = 0 ∨ c = 1 ∨ c = 2 ∨ c = 3 := by omega
  rcases hc with rfl | rfl | rfl | rfl
  · simp
  · simp
  · by_cases o : m % 2 = 1 <;> simp [o]
  · simp
/-- How far the next number is. -/
def gapR (f : Format) (r : Nat) : Nat := if r < f.binade then 1 else 2 ^ (r / f.binade - 1)
theorem near_quarter (f : Format) (neg : Bool) {r c : Nat} (hF : 1 ≤ f.fractionBits) (h : r < f.infRung) (hc : c ≤ 3) : f.nearest neg (4 * rmag f r + c * gapR f r) (f.leastPlace - 2) = f.word neg (r + dlt c r) := by
  have hB : f.binade = 2 ^ f.fractionBits := rfl
  have hp : 0 < f.binade := Nat.two_pow_pos _
  have hd : dlt c r ≤ 1 := by unfold dlt; split <;> omega
  by_cases c0 : r < f.binade
  · unfold gapR
    rw [rmag_low c0, if_pos c0, Nat.mul_one]
    by_cases h0 : 4 * r + c = 0
    · have e1 : r = 0 := by omega
      have e2 : c = 0 := by omega
      subst e1; subst e2
      unfold Format.nearest dlt; simp
    · unfold Format.nearest
      rw [if_neg h0]
      dsimp only
      have hl : (4 * r + c).log2 ≤ f.fractionBits + 1 := log2_of_lt (by rw [Nat.pow_succ, Nat.pow_succ]; omega)
      rw [show max (f.leastPlace - 2 + ((4 * r + c).log2 : Int) - f.fractionBits) f.leastPlace = f.leastPlace by omega]
      rw [show (f.leastPlace - 2 - f.leastPlace).toNat = 0 by omega, Nat.shiftLeft_zero, show (f.leastPlace - (f.leastPlace - 2)).toNat = 2 by omega, cut_two _ _ _ hc, show (f.leastPlace - f.leastPlace).toNat = 0 by omega, Nat.zero_mul, Nat.zero_add, Nat.min_eq_left (by omega)]
  · have hdm := Nat.div_add_mod r f.binade
    have hlt := Nat.mod_lt r hp
    have hq : 1 ≤ r / f.binade := Nat.div_pos (by omega) hp
    have hpar : dlt c (f.binade + r % f.binade) = dlt c r := by
      have h2 : f.binade = 2 * 2 ^ (f.fractionBits - 1) := by rw [← Nat.pow_succ', hB]; congr 1; omega
      have : (f.binade + r % f.binade) % 2 = r % 2 := by
        rw [Nat.add_mod, Nat.mod_mod_of_dvd r ⟨_, h2⟩, h2, Nat.mul_mod_right]; omega
      unfold dlt; rw [this]
    unfold gapR
    rw [rmag_big c0, if_neg c0]
    generalize ht : r % f.binade = t at *
    generalize hqq : r / f.binade = q at *
    rw [show 4 * ((f.binade + t) * 2 ^ (q - 1)) + c * 2 ^ (q - 1) = (4 * (f.binade + t) + c) * 2 ^ (q - 1) by rw [Nat.add_mul (4 * (f.binade + t)) c, Nat.mul_assoc], nearest_shift]
    unfold Format.nearest
    rw [if_neg (by omega)]
    dsimp only
    rw [log2_at (m := 4 * (f.binade + t) + c) (P := f.fractionBits + 2) (by rw [Nat.pow_add]; omega) (by rw [show f.fractionBits + 2 + 1 = f.fractionBits + 3 from rfl, Nat.pow_add]; omega)]
    rw [show max (f.leastPlace - 2 + ((q - 1 : Nat) : Int) + ((f.fractionBits + 2 : Nat) : Int) - f.fractionBits) f.leastPlace = f.leastPlace + (q - 1 : Nat) by omega]
    rw [show (f.leastPlace - 2 + ((q - 1 : Nat) : Int) - (f.leastPlace + (q - 1 : Nat))).toNat = 0 by omega, Nat.shiftLeft_zero, show (f.leastPlace + ((q - 1 : Nat) : Int) - (f.leastPlace - 2 + (q - 1 : Nat))).toNat = 2 by omega, cut_two _ _ _ hc, show (f.leastPlace + ((q - 1 : Nat) : Int) - f.leastPlace).toNat = q - 1 by omega, hpar]
    have e0 : (q - 1) * f.binade + (f.binade + t) = r := by
      rw [← hdm]
      obtain ⟨k, rfl⟩ : ∃ k, q = k + 1 := ⟨q - 1, by omega⟩
      rw [Nat.add_sub_cancel, Nat.mul_add, Nat.mul_comm k, Nat.mul_one]; omega
    have e : (q - 1) * f.binade + (f.binade + t + dlt c r) = r + dlt c r := by omega
    rw [e, Nat.min_eq_left (by omega)]
/-- Numbers of few digits are words. -/
theorem rep_rung {f : Format} {m a : Nat} (hm : m < 2 * f.binade) (ha : (a + 2) * f.binade ≤ f.infRung) : ∃ r, r < f.infRung ∧ rmag f r = m * 2 ^ a := by
  have hB : f.binade = 2 ^ f.fractionBits := rfl
  have hp : 0 < f.binade := Nat.two_pow_pos _
  have hb2 : 2 * f.binade ≤ (a + 2) * f.binade := Nat.mul_le_mul_right _ (by omega)
  by_cases h0 : m = 0
  · subst h0; exact ⟨0, by omega, by rw [rmag_zero, Nat.zero_mul]⟩
  · by_cases c : m * 2 ^ a < f.binade
    · exact ⟨_, by omega, rmag_low c⟩
    · -- the digits laid to the top
      have hj : m.log2 ≤ f.fractionBits := log2_of_lt (by rw [Nat.pow_succ]; omega)
      have hm1 := Nat.log2_self_le h0
      have hm2 := Nat.lt_log2_self (n := m)
      have hja : f.fractionBits ≤ m.log2 + a := by
        rcases Nat.lt_or_ge (m.log2 + a) f.fractionBits with g | g
        · exfalso; apply c
          rw [hB]
          calc m * 2 ^ a < 2 ^ (m.log2 + 1) * 2 ^ a := Nat.mul_lt_mul_of_pos_right hm2 (Nat.two_pow_pos _)
            _ = 2 ^ (m.log2 + 1 + a) := (Nat.pow_add _ _ _).symm
            _ ≤ 2 ^ f.fractionBits := Nat.pow_le_pow_right (by omega) (by omega)
        · exact g
      obtain ⟨d, hd⟩ : ∃ d, f.fractionBits = m.log2 + d := ⟨f.fractionBits - m.log2, by omega⟩
      obtain ⟨k, hk⟩ : ∃ k, a = k + d := ⟨a - d, by omega⟩
      have hM1 : f.binade ≤ m * 2 ^ d := by rw [hB, hd, Nat.pow_add]; exact Nat.mul_le_mul_right _ hm1
      have hM2 : m * 2 ^ d < 2 * f.binade := by
        rw [hB, hd, ← Nat.pow_succ', show (m.log2 + d).succ = m.log2 + 1 + d by omega, Nat.pow_add]
        exact Nat.mul_lt_mul_of_pos_right hm2 (Nat.two_pow_pos _)
      refine ⟨(k + 1) * f.binade + (m * 2 ^ d - f.binade), ?_, ?_⟩
      · have : (k + 2) * f.binade ≤ (a + 2) * f.binade := Nat.mul_le_mul_right _ (by omega)
        have e2 : (k + 2) * f.binade = (k + 1) * f.binade + f.binade := by rw [Nat.add_mul, Nat.add_mul]; omega
        omega
      · have e1 : ((k + 1) * f.binade + (m * 2 ^ d - f.binade)) / f.binade = k + 1 := by
          rw [Nat.mul_comm, Nat.mul_add_div hp, Nat.div_eq_of_lt (by omega), Nat.add_zero]
        have e2 : ((k + 1) * f.binade + (m * 2 ^ d - f.binade)) % f.binade = m * 2 ^ d - f.binade := by
          rw [Nat.mul_comm, Nat.mul_add_mod, Nat.mod_eq_of_lt (by omega)]
        have hge : ¬ (k + 1) * f.binade + (m * 2 ^ d - f.binade) < f.binade := by
          have : f.binade ≤ (k + 1) * f.binade := Nat.le_mul_of_pos_left _ (by omega)
          omega
        rw [rmag_big hge, e1, e2, show f.binade + (m * 2 ^ d - f.binade) = m * 2 ^ d by omega, Nat.add_sub_cancel, Nat.mul_assoc, ← Nat.pow_add, hk, Nat.add_comm d k]
end Go.Proofs.Ytfngkhkghjgmkaa
