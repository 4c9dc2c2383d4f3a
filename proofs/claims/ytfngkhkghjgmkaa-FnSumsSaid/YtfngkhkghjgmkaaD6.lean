/- Numbers of 64 bits that are what they should be: sums and halves of neighbours of 32 bits, narrowed.
Conditions: none. -/
import Derived.Test.YtfngkhkghjgmkaaD5
import Derived.Test.YtfngkhkghjgmkaaD3
namespace Go.Proofs.Ytfngkhkghjgmkaa
set_option linter.all false
open Go Go.Awp Ieee
set_option maxRecDepth 100000

def E3 : Nat := 923
def E5 : Nat := 925
abbrev G : Format := FloatKind.f64.format
abbrev F : Format := FloatKind.f32.format
theorem gL : G.leastPlace = -1074 := by decide +kernel
theorem fL : F.leastPlace = -149 := by decide +kernel
theorem gB : G.binade = 4503599627370496 := by decide +kernel
theorem fB : F.binade = 8388608 := by decide +kernel
theorem gI : G.infRung = 2047 * 4503599627370496 := by decide +kernel
theorem fI : F.infRung = 2139095040 := by decide +kernel
theorem fS : F.signWeight = 2147483648 := by decide +kernel
theorem rmag_next {f : Format} (r : Nat) : rmag f (r + 1) = rmag f r + gapR f r := by
  have hb : 0 < f.binade := Nat.two_pow_pos _
  unfold rmag gapR
  have hdm := Nat.div_add_mod r f.binade
  have hlt := Nat.mod_lt r hb
  generalize hq : r / f.binade = q at *
  generalize ht : r % f.binade = t at *
  generalize f.binade = b at *
  by_cases c : t + 1 < b
  · have e1 : (r + 1) / b = q := by
      rw [← hdm, Nat.add_assoc, Nat.mul_add_div hb, Nat.div_eq_of_lt c]; omega
    have e2 : (r + 1) % b = t + 1 := by
      rw [← hdm, Nat.add_assoc, Nat.mul_add_mod, Nat.mod_eq_of_lt c]
    rw [e1, e2]
    by_cases hq0 : q = 0
    · subst hq0
      simp at hdm
      rw [if_pos (by omega), if_pos (by omega), if_pos (by omega)]
    · have : b ≤ b * q := Nat.le_mul_of_pos_right b (by omega)
      rw [if_neg (by omega), if_neg (by omega), if_neg (by omega), ← Nat.add_assoc, Nat.add_mul (b + t), Nat.one_mul]
  · have ht' : t + 1 = b := by omega
    have e1 : (r + 1) / b = q + 1 := by
      have : r + 1 = b * (q + 1) := by rw [Nat.mul_add, ← hdm]; omega
      rw [this, Nat.mul_div_cancel_left _ hb]
    have e2 : (r + 1) % b = 0 := by
      have : r + 1 = b * (q + 1) := by rw [Nat.mul_add, ← hdm]; omega
      rw [this, Nat.mul_mod_right]
    rw [e1, e2]
    by_cases hq0 : q = 0
    · subst hq0
      simp at hdm
      rw [if_neg (by omega), if_pos (by omega), if_pos (by omega)]; simp; omega
    · have : b ≤ b * q := Nat.le_mul_of_pos_right b (by omega)
      rw [if_neg (by omega), if_neg (by omega), if_neg (by omega)]
      have e3 : 2 ^ (q + 1 - 1) = 2 * 2 ^ (q - 1) := by rw [← Nat.pow_succ']; congr 1; omega
      rw [e3, Nat.add_zero, ← Nat.mul_assoc, ← Nat.add_one_mul]
      congr 1; omega
/-- A word of 64 bits stands for a number, told in the least place. -/
def Val (z : Nat) (s : Bool) (N : Nat) : Prop := ∃ (m : Nat) (e : Int), G.read z = .number s m e ∧ G.leastPlace ≤ e ∧ m * 2 ^ (e - G.leastPlace).toNat = N
def Rp (N : Nat) : Prop := ∃ r, r < G.infRung ∧ rmag G r = N
theorem val_word (s : Bool) {r : Nat} (h : r < G.infRung) : Val (G.word s r) s (rmag G r) := by
  have hs : r < G.signWeight := Nat.lt_trans h G.infRung_lt
  have hp : 0 < G.signWeight := Nat.two_pow_pos _
  have hm : G.word s r % G.signWeight = r := word_mod G s hs
  have hd : (G.word s r / G.signWeight % 2 == 1) = s := by
    unfold Format.word
    cases s with
    | false => simp [Nat.div_eq_of_lt hs]
    | true => simp [Nat.add_div_left _ hp, Nat.div_eq_of_lt hs]
  obtain ⟨m, e, h1, h2, h3⟩ := read_rmag G (w := G.word s r) (by rw [hm]; exact h)
  rw [hd] at h1
  rw [hm] at h3
  exact ⟨m, e, h1, h2, h3⟩
theorem near_at {f : Format} {s : Bool} {m N : Nat} {e p : Int} (h : p ≤ e) (hN : m * 2 ^ (e - p).toNat = N) : f.nearest s m e = f.nearest s N p := by
  rw [← hN, nearest_shift]; congr 1; omega
theorem val_near {s : Bool} {N : Nat} (h : Rp N) : Val (G.nearest s N G.leastPlace) s N := by
  obtain ⟨r, h1, rfl⟩ := h
  rw [near_rmag G s (Nat.le_of_lt h1)]
  exact val_word s h1
theorem rp_of {m a : Nat} (hm : m < 9007199254740992) (ha : a ≤ 2045) : Rp (m * 2 ^ a) := by
  refine rep_rung (f := G) (by rw [gB]; omega) ?_
  rw [gB, gI]; exact Nat.mul_le_mul_right _ (by omega)
theorem mul_pow_at {m a b N : Nat} {e p q : Int} (h1 : p ≤ q) (h2 : q ≤ e) (hN : m * 2 ^ (e - q).toNat = N) : m * 2 ^ (e - p).toNat = N * 2 ^ (q - p).toNat := by
  rw [← hN, Nat.mul_assoc, ← Nat.pow_add]; congr 2; omega
theorem val_wid {x : Nat} (hx : x < 4294967296) (n : nanB .f32 x = false) (hf : x % 2147483648 < 2139095040) : Val (wid x) (x / 2147483648 % 2 == 1) (rmag F (x % 2147483648) * 2 ^ E5) := by
  obtain ⟨m, e, h1, h2, h3⟩ := read_rmag F (w := x) (by rw [fS, fI]; exact hf)
  rw [fS] at h1 h3
  have hw := fcvt_wid x
  unfold fcvt at hw
  rw [if_neg (by rw [n]; simp)] at hw
  unfold floatToFloatBits at hw
  rw [if_neg (by decide)] at hw
  have hd : FloatKind.f32.decode x = .number (x / 2147483648 % 2 == 1) m e := h1
  rw [hd] at hw
  dsimp only at hw
  split at hw
  · cases hw
  · have hw : G.nearest (x / 2147483648 % 2 == 1) m e = wid x := Option.some.inj hw
    have hp := read_parts (binade_le_inf .f32) h1
    rw [show FloatKind.f32.format = F from rfl, fB, fI, fL, fS] at hp
    obtain ⟨p1, p2, p3, p4⟩ := hp
    have p5 : x % 2147483648 / 8388608 < 255 := Nat.div_lt_of_lt_mul (by omega)
    have hN := mul_pow_at (a := 0) (b := 0) (p := G.leastPlace) (q := F.leastPlace) (by rw [gL, fL]; decide) h2 h3
    rw [← hw, near_at (p := G.leastPlace) (by rw [gL]; omega) hN]
    have hr : Rp (rmag F (x % 2147483648) * 2 ^ (F.leastPlace - G.leastPlace).toNat) := by
      rw [← hN]
      exact rp_of (by omega) (by rw [gL]; omega)
    have := val_near (s := (x / 2147483648 % 2 == 1)) hr
    rw [show (F.leastPlace - G.leastPlace).toNat = E5 by rw [gL, fL]; rfl] at this ⊢
    exact this
theorem val_add {x y N1 N2 : Nat} {s t : Bool} (h1 : Val x s N1) (h2 : Val y t N2) (h : s = t ∨ N1 = 0 ∧ 0 < N2) (hr : Rp (N1 + N2)) : Val (fop .add .f64 x y) t (N1 + N2) := by
  obtain ⟨m, i, a1, a2, a3⟩ := h1
  obtain ⟨n, j, b1, b2, b3⟩ := h2
  have hA : m * 2 ^ (i - min i j).toNat * 2 ^ (min i j - G.leastPlace).toNat = N1 := by
    rw [← a3, Nat.mul_assoc, ← Nat.pow_add]; congr 2; omega
  have hB : n * 2 ^ (j - min i j).toNat * 2 ^ (min i j - G.leastPlace).toNat = N2 := by
    rw [← b3, Nat.mul_assoc, ← Nat.pow_add]; congr 2; omega
  generalize hA' : m * 2 ^ (i - min i j).toNat = A at hA
  generalize hB' : n * 2 ^ (j - min i j).toNat = B at hB
  have hsum : (Datum.number s m i).sum (.number t n j) = some (.number t (A + B) (min i j)) := by
    have e1 : Ieee.signed s m (i - min i j).toNat = if s then -(A : Int) else A := by unfold Ieee.signed; rw [Nat.shiftLeft_eq, hA']
    have e2 : Ieee.signed t n (j - min i j).toNat = if t then -(B : Int) else B := by unfold Ieee.signed; rw [Nat.shiftLeft_eq, hB']
    simp only [Datum.sum]
    rw [e1, e2]
    have hz : s = t ∨ A = 0 ∧ 0 < B := by
      rcases h with h | ⟨h, h'⟩
      · exact .inl h
      · right
        constructor
        · rw [← hA] at h
          rcases Nat.mul_eq_zero.1 h with h | h
          · exact h
          · have := Nat.two_pow_pos (min i j - G.leastPlace).toNat; omega
        · rw [← hB] at h'
          exact Nat.pos_of_mul_pos_right h'
    rcases hz with rfl | ⟨rfl, hb⟩
    · cases s with
      | false =>
        simp only [Bool.false_eq_true, if_false, Bool.and_self]
        congr 2
        · split
          · rfl
          · simp; omega
      | true =>
        simp only [if_true, Bool.and_self]
        congr 2
        · split
          · rfl
          · simp; omega
        · omega
    · cases s <;> cases t <;> simp <;> omega
  show Val ((G.add x y).getD _) t _
  unfold Format.add
  rw [a1, b1, hsum]
  show Val (G.nearest t (A + B) (min i j)) t _
  rw [near_at (p := G.leastPlace) (N := N1 + N2) (by omega) (by rw [Nat.add_mul, hA, hB])]
  exact val_near hr
end Go.Proofs.Ytfngkhkghjgmkaa
