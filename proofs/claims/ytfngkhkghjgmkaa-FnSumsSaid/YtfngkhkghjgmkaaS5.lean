/- Products with 1.
Conditions: none. -/
import Derived.Test.YtfngkhkghjgmkaaS2
namespace Go.Proofs.Ytfngkhkghjgmkaa
set_option linter.all false
open Go Go.Awp Ieee
set_option maxRecDepth 100000

def B23 : Nat := 8388608
theorem near_one (s : Bool) (m : Nat) (e : Int) : F.nearest s (m * B23) (e + -23) = F.nearest s m e := by
  have h := nearest_shift F s m 23 (e + -23)
  rw [show e + -23 + ((23 : Nat) : Int) = e by omega, show (2 : Nat) ^ 23 = B23 from rfl] at h
  exact h
theorem prod_num {α : Type} (f : Datum → α) (q : α) (s : Bool) (m a : Nat) (e b : Int) : (((Datum.number s m e).product (.number false a b)).map f).getD q = f (.number s (m * a) (e + b)) := by
  cases s <;> rfl
theorem prod_inf {α : Type} (f : Datum → α) (q : α) (s : Bool) : (((Datum.infinity s).product (.number false B23 (-23))).map f).getD q = f (.infinity s) := by
  cases s <;> rfl
theorem prod_nan {α : Type} (f : Datum → α) (q : α) (s : Bool) (t : Nat) (d : Datum) : (((Datum.nan s t).product d).map f).getD q = q := rfl
attribute [irreducible] B23
theorem write_number (s : Bool) (m : Nat) (e : Int) : F.write (.number s m e) = F.nearest s m e := rfl
theorem write_inf (s : Bool) : F.write (.infinity s) = F.word s F.infRung := rfl
theorem sign_word {x : Nat} {r : Nat} (h : x < 4294967296) (hr : x % 2147483648 = r) : F.word (x / 2147483648 % 2 == 1) r = x := by
  unfold Format.word
  rw [fS]
  by_cases c : x < 2147483648
  · rw [show x / 2147483648 = 0 by omega]; simp; omega
  · rw [show x / 2147483648 = 1 by omega]; simp; omega
theorem read_one : F.read 1065353216 = .number false B23 (-23) := by
  have : F.read 1065353216 = .number false 8388608 (-23) := by decide +kernel
  rw [this]; unfold B23; rfl
theorem mul_read {x : Nat} : fop .mul .f32 x 1065353216 = ((((F.read x).product (.number false B23 (-23))).map F.write).getD (qnan .f32)) := by
  rw [← read_one]; rfl
theorem mul_one32 {x : Nat} (hx : CanF .f32 x) : fop .mul .f32 x 1065353216 = x := by
  have hl : x < 4294967296 := hx.2
  rw [mul_read]
  cases n : nanB .f32 x with
  | true =>
    obtain ⟨s, t, h⟩ := read_nan n
    have h : F.read x = .nan s t := h
    rw [h, prod_nan, ← cn_nan n]; exact hx.1
  | false =>
    have hn := num_le hl n
    by_cases c : x % 2147483648 < 2139095040
    · obtain ⟨m, e, h1, h2, h3⟩ := read_rmag F (w := x) (by rw [fS, fI]; exact c)
      rw [fS] at h1 h3
      rw [h1, prod_num F.write, write_number, near_one, near_at h2 h3, near_rmag F _ (by rw [fI]; omega)]
      exact sign_word hl rfl
    · have hr : F.read x = .infinity (x / 2147483648 % 2 == 1) := by
        unfold Format.read
        dsimp only
        rw [fS, fI, fB, if_neg (by omega), if_neg (by omega), if_pos (by omega)]
      rw [hr, prod_inf F.write, write_inf, fI]
      exact sign_word hl (by omega)
end Go.Proofs.Ytfngkhkghjgmkaa
