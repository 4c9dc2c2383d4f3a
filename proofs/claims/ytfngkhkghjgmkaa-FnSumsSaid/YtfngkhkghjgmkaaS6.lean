/- Numbers that are integers, told as integers again; sums of what is cut.
Conditions: none. -/
import Derived.Test.YtfngkhkghjgmkaaS4
namespace Go.Proofs.Ytfngkhkghjgmkaa
set_option linter.all false
open Go Go.Awp Ieee
set_option maxRecDepth 100000

theorem cut_exact (s : Bool) (X d : Nat) : Toward.zero.cut s (X * 2 ^ d) d = X := by
  unfold Toward.cut
  dsimp only
  by_cases c : X = 0
  · subst c; simp
  · have hp : 0 < 2 ^ d := Nat.two_pow_pos d
    have h1 : 2 ^ d ≤ X * 2 ^ d := Nat.le_mul_of_pos_left _ (by omega)
    have h2 : d ≤ (X * 2 ^ d).log2 := (Nat.le_log2 (by omega)).2 h1
    rw [Nat.min_eq_left (by omega), Nat.one_shiftLeft, Nat.mul_div_cancel _ hp]
    rfl
theorem toInt_valI {x : Nat} {a : Int} (h : ValI F x a) : (F.read x).toInt .zero = some a := by
  obtain ⟨m, i, a1, a2, a3⟩ := h
  obtain ⟨k, k1, k2⟩ : ∃ k, (i - F.leastPlace).toNat = i.toNat + k ∧ (0 - F.leastPlace).toNat = (-i).toNat + k := by
    rw [fL] at a2 ⊢
    by_cases c : 0 ≤ i
    · exact ⟨149, by omega, by omega⟩
    · exact ⟨(i + 149).toNat, by omega, by omega⟩
  have e : m * 2 ^ i.toNat = a.natAbs * 2 ^ (-i).toNat := by
    rw [k1, k2, Nat.pow_add, Nat.pow_add, ← Nat.mul_assoc, ← Nat.mul_assoc] at a3
    exact Nat.eq_of_mul_eq_mul_right (Nat.two_pow_pos k) a3
  rw [a1]
  unfold Datum.toInt Datum.integral
  dsimp only
  rw [Nat.shiftLeft_eq, e, cut_exact]
  unfold Ieee.signed
  by_cases c : a < 0
  · simp [c]; omega
  · simp [c]; omega
theorem fint_back {a : Int} (h : a.natAbs < 16777216) : floatToIntVal .f32 (fint .f32 a) .i64 = some a := by
  have h1 : (F.read (iw F a)).toInt .zero = some a := toInt_valI (valI32 h)
  have e1 : IntKind.i64.min = -9223372036854775808 := by decide
  have e2 : IntKind.i64.max = 9223372036854775807 := by decide
  unfold floatToIntVal
  have h2 : ((FloatKind.f32.decode (fint .f32 a)).toInt .zero) = some a := h1
  rw [h2]
  dsimp only
  rw [e1, e2, if_pos (by omega)]
theorem fint_same {a : Int} (h : a.natAbs < 16777216) : nanB .f32 (fint .f32 a) = false := valI_num (valI32 h)
theorem sums_take {xs : List Int} {k : Nat} (h : k < xs.length) : (xs.take (k + 1)).sum = (xs.take k).sum + xs[k] := by
  rw [← List.take_append_getElem h, List.sum_append]; simp
end Go.Proofs.Ytfngkhkghjgmkaa
