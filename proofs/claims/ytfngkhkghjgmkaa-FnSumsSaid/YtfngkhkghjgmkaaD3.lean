/- Words of numbers, their order, the next ones.
Conditions: none. -/
import Derived.Test.YtfngkhkghjgmkaaOrd
namespace Go.Proofs.Ytfngkhkghjgmkaa
set_option linter.all false
open Go Go.Awp
set_option maxRecDepth 100000

theorem cmp_lt {a b : Int} (h : a < b) : compare a b = .lt := by
  simp [compare, compareOfLessAndEq, h]
theorem cmp_eq {a b : Int} (h : a = b) : compare a b = .eq := by
  subst h; simp [compare, compareOfLessAndEq]
theorem cmp_gt {a b : Int} (h : b < a) : compare a b = .gt := by
  simp [compare, compareOfLessAndEq, show ¬ a < b by omega, show ¬ a = b by omega]
/-- The place of a number among all. -/
def k32 (x : Nat) : Int := if x < 2147483648 then (x : Int) else 2147483648 - (x : Int)
theorem nan32 (x : Nat) : nanB .f32 x = decide (2139095040 < x % 2147483648) := nanB_eq .f32 x
theorem key32 {x : Nat} (h : x < 4294967296) : keyW .f32 x = k32 x := by
  have hs : FloatKind.f32.format.signWeight = 2147483648 := by decide +kernel
  unfold keyW k32 skey
  rw [hs]
  by_cases c : x < 2147483648
  · rw [if_pos c, Nat.div_eq_of_lt c, Nat.mod_eq_of_lt c]; rfl
  · have e1 : x / 2147483648 = 1 := by omega
    have e2 : x % 2147483648 = x - 2147483648 := by omega
    rw [if_neg c, e1, e2]
    simp; omega
theorem ford32 {x y : Nat} (hx : x < 4294967296) (hy : y < 4294967296) (nx : nanB .f32 x = false) (ny : nanB .f32 y = false) : ford .f32 x y = some (compare (k32 x) (k32 y)) := by
  rw [ford_key nx ny, key32 hx, key32 hy]
theorem lt32 {x y : Nat} (hx : x < 4294967296) (hy : y < 4294967296) (nx : nanB .f32 x = false) (ny : nanB .f32 y = false) (h : k32 x < k32 y) : ford .f32 x y = some .lt := by rw [ford32 hx hy nx ny, cmp_lt h]
theorem gt32 {x y : Nat} (hx : x < 4294967296) (hy : y < 4294967296) (nx : nanB .f32 x = false) (ny : nanB .f32 y = false) (h : k32 y < k32 x) : ford .f32 x y = some .gt := by rw [ford32 hx hy nx ny, cmp_gt h]
theorem eq32 {x y : Nat} (hx : x < 4294967296) (hy : y < 4294967296) (nx : nanB .f32 x = false) (ny : nanB .f32 y = false) (h : k32 x = k32 y) : ford .f32 x y = some .eq := by rw [ford32 hx hy nx ny, cmp_eq h]
/-- The next greater number. -/
def nup (x : Nat) : Nat := if nanB .f32 x then x else if x = 2139095040 then x else if x < 2147483648 then x + 1 else if x = 2147483648 then 1 else x - 1
def ndn (x : Nat) : Nat := fneg .f32 (nup (fneg .f32 x))
theorem num_le {x : Nat} (h : x < 4294967296) (n : nanB .f32 x = false) : x ≤ 2139095040 ∨ 2147483648 ≤ x ∧ x ≤ 4286578688 := by
  rw [nan32] at n
  have := of_decide_eq_false n
  omega
theorem num_of {x : Nat} (h : x ≤ 2139095040 ∨ 2147483648 ≤ x ∧ x ≤ 4286578688) : nanB .f32 x = false := by
  rw [nan32]; exact decide_eq_false (by omega)
theorem nup_num {x : Nat} (h : x < 4294967296) (n : nanB .f32 x = false) : nanB .f32 (nup x) = false ∧ nup x < 4294967296 := by
  have hx := num_le h n
  unfold nup
  rw [n]
  simp only [Bool.false_eq_true, if_false]
  split
  · exact ⟨num_of (by omega), by omega⟩
  · split
    · exact ⟨num_of (by omega), by omega⟩
    · split
      · exact ⟨num_of (by omega), by omega⟩
      · exact ⟨num_of (by omega), by omega⟩
theorem nup_key {x : Nat} (h : x < 4294967296) (n : nanB .f32 x = false) (hi : x ≠ 2139095040) : k32 (nup x) = k32 x + 1 := by
  have hx := num_le h n
  unfold nup k32
  rw [n]
  simp only [Bool.false_eq_true, if_false, if_neg hi]
  repeat' split
  all_goals omega
theorem neg32 {x : Nat} (h : x < 4294967296) (n : nanB .f32 x = false) : fneg .f32 x = (if x < 2147483648 then x + 2147483648 else x - 2147483648) ∧ nanB .f32 (fneg .f32 x) = false ∧ fneg .f32 x < 4294967296 ∧ k32 (fneg .f32 x) = - k32 x := by
  have hx := num_le h n
  have e : fneg .f32 x = (if x < 2147483648 then x + 2147483648 else x - 2147483648) := by
    have e1 : Op.negFloat .f32 x = (if x < 2147483648 then x + 2147483648 else x - 2147483648) := negFloat_eq .f32 x h
    have n1 : nanB .f32 (Op.negFloat .f32 x) = false := by rw [nanB_neg .f32 x h]; exact n
    unfold fneg
    rw [cn_num n1, e1]
  refine ⟨e, ?_, ?_, ?_⟩
  · rw [e]; refine num_of ?_; split <;> omega
  · rw [e]; split <;> omega
  · rw [e]; unfold k32; repeat' split
    all_goals omega
theorem ndn_num {x : Nat} (h : x < 4294967296) (n : nanB .f32 x = false) : nanB .f32 (ndn x) = false ∧ ndn x < 4294967296 := by
  obtain ⟨_, a1, a2, _⟩ := neg32 h n
  obtain ⟨b1, b2⟩ := nup_num a2 a1
  obtain ⟨_, c1, c2, _⟩ := neg32 b2 b1
  exact ⟨c1, c2⟩
theorem ndn_key {x : Nat} (h : x < 4294967296) (n : nanB .f32 x = false) (hi : x ≠ 4286578688) : k32 (ndn x) = k32 x - 1 := by
  have hx := num_le h n
  obtain ⟨e, a1, a2, a3⟩ := neg32 h n
  obtain ⟨b1, b2⟩ := nup_num a2 a1
  obtain ⟨_, c1, c2, c3⟩ := neg32 b2 b1
  have := nup_key a2 a1 (by rw [e]; split <;> omega)
  unfold ndn
  rw [c3, this, a3]; omega
theorem nup_inf : nup 2139095040 = 2139095040 := by
  have : nanB .f32 2139095040 = false := num_of (by omega)
  simp [nup, this]
theorem ndn_inf : ndn 4286578688 = 4286578688 := by
  have n : nanB .f32 4286578688 = false := num_of (by omega)
  have e := (neg32 (by omega) n).1
  have e2 := (neg32 (x := 2139095040) (by omega) (num_of (by omega))).1
  unfold ndn
  rw [e]
  simp only [show ¬ (4286578688 : Nat) < 2147483648 by omega, if_false, show (4286578688 : Nat) - 2147483648 = 2139095040 by omega, nup_inf]
  rw [e2]; rfl
theorem nup_nan {x : Nat} (n : nanB .f32 x = true) : nup x = x := by simp [nup, n]
/-- Numbers and infinities. -/
def fin32 (x : Nat) : Bool := decide (x % 2147483648 < 2139095040)
theorem and_low {a b r n : Nat} (h : r < 2 ^ n) : (2 ^ n * a + r) &&& (2 ^ n * b) = 2 ^ n * (a &&& b) := by
  refine Nat.eq_of_testBit_eq fun j => ?_
  rw [Nat.testBit_and, Nat.testBit_two_pow_mul_add _ h, Nat.testBit_two_pow_mul, Nat.testBit_two_pow_mul, Nat.testBit_and]
  by_cases c : j < n
  · simp [c, show ¬ n ≤ j by omega]
  · simp [c, show n ≤ j by omega]
theorem fin_and {x : Nat} (h : x < 4294967296) : (bitsV .and .i64 (x : Int) 2139095040 = 2139095040) ↔ fin32 x = false := by
  have hb : (BitVec.ofInt 64 (x : Int) &&& BitVec.ofInt 64 2139095040).toNat = x &&& 2139095040 := by
    rw [BitVec.toNat_and]
    have e1 : (BitVec.ofInt 64 (x : Int)).toNat = x := by simp [BitVec.toNat_ofInt]; omega
    have e2 : (BitVec.ofInt 64 2139095040).toNat = 2139095040 := by decide
    rw [e1, e2]
  have hv : bitsV .and .i64 (x : Int) 2139095040 = ((x &&& 2139095040 : Nat) : Int) := by
    show IntKind.i64.wrap ((BitVec.ofInt 64 (x : Int) &&& BitVec.ofInt 64 2139095040).toNat : Int) = _
    rw [hb]
    have := Nat.and_le_right (n := x) (m := 2139095040)
    exact wrap64 (by omega) (by omega)
  have hx : x = 2 ^ 23 * (x / 2 ^ 23) + x % 2 ^ 23 := (Nat.div_add_mod x (2 ^ 23)).symm
  have ha : x &&& 2139095040 = 2 ^ 23 * ((x / 2 ^ 23) % 256) := by
    have := and_low (a := x / 2 ^ 23) (b := 255) (r := x % 2 ^ 23) (n := 23) (Nat.mod_lt _ (by decide))
    rw [← hx, show (2 : Nat) ^ 23 * 255 = 2139095040 by decide] at this
    rw [this, show (255 : Nat) = 2 ^ 8 - 1 by decide, Nat.and_two_pow_sub_one_eq_mod]
  rw [hv, ha]
  unfold fin32
  rw [decide_eq_false_iff_not]
  omega
theorem sum_opp (s : Bool) (m : Nat) (e : Int) : (Ieee.Datum.number s m e).sum (Ieee.Datum.number s m e).opposite = some (.number false 0 e) := by
  have hz : Ieee.signed s m (e - min e e).toNat + Ieee.signed (!s) m (e - min e e).toNat = 0 := by
    unfold Ieee.signed
    generalize ((m <<< (e - min e e).toNat : Nat) : Int) = z
    cases s <;> simp <;> omega
  simp only [Ieee.Datum.opposite, Ieee.Datum.sum]
  rw [hz, Int.min_self]
  cases s <;> rfl
theorem finB_eq {x : Nat} (h : x < 4294967296) (n : nanB .f32 x = false) : (ford .f32 (fop .sub .f32 x x) 0 == some .eq) = fin32 x := by
  have hs : FloatKind.f32.format.signWeight = 2147483648 := by decide +kernel
  have hi : FloatKind.f32.format.infRung = 2139095040 := by decide +kernel
  have hx := num_le h n
  by_cases c : x % 2147483648 < 2139095040
  · obtain ⟨m, e, h1, _, _⟩ := read_rmag FloatKind.f32.format (w := x) (by rw [hs, hi]; exact c)
    have h0 : fop .sub .f32 x x = 0 := by
      have : FloatKind.f32.format.sub x x = some 0 := by
        unfold Ieee.Format.sub
        rw [h1]
        rw [sum_opp]; rfl
      show (FloatKind.f32.format.sub x x).getD _ = 0
      rw [this]; rfl
    rw [h0, ford_self (num_of (by omega))]
    unfold fin32
    rw [decide_eq_true c]; rfl
  · have h1 : FloatKind.f32.format.sub x x = none := by
      have hr : FloatKind.f32.format.read x = .infinity (x / FloatKind.f32.format.signWeight % 2 == 1) := by
        have hb : FloatKind.f32.format.binade ≤ 2139095040 := by decide +kernel
        unfold Ieee.Format.read
        dsimp only
        rw [hs, hi, if_neg (by omega), if_neg (by omega), if_pos (by omega)]
      unfold Ieee.Format.sub
      rw [hr]
      generalize (x / FloatKind.f32.format.signWeight % 2 == 1) = s
      cases s <;> rfl
    have h0 : fop .sub .f32 x x = qnan .f32 := by
      show (FloatKind.f32.format.sub x x).getD _ = _
      rw [h1]; rfl
    rw [h0, ford_nan_l (nanB_qnan .f32)]
    unfold fin32
    rw [decide_eq_false c]; rfl
end Go.Proofs.Ytfngkhkghjgmkaa
