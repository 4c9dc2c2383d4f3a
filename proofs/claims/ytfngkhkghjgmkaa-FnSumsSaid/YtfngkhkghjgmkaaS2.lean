/- Integers as numbers: sums and squares are exact.
Conditions: none. -/
import Derived.Test.YtfngkhkghjgmkaaD7
namespace Go.Proofs.Ytfngkhkghjgmkaa
set_option linter.all false
open Go Go.Awp Ieee
set_option maxRecDepth 100000

/-- The word of an integer. -/
def iw (f : Format) (k : Int) : Nat := f.nearest (decide (k < 0)) k.natAbs 0
/-- A word that stands for an integer. -/
def ValI (f : Format) (w : Nat) (k : Int) : Prop := ∃ (m : Nat) (e : Int), f.read w = .number (decide (k < 0)) m e ∧ f.leastPlace ≤ e ∧ m * 2 ^ (e - f.leastPlace).toNat = k.natAbs * 2 ^ (0 - f.leastPlace).toNat
theorem iw_least {f : Format} (hl : f.leastPlace ≤ 0) (k : Int) : iw f k = f.nearest (decide (k < 0)) (k.natAbs * 2 ^ (0 - f.leastPlace).toNat) f.leastPlace := near_at hl rfl
theorem valI_iw {f : Format} (hl : f.leastPlace ≤ 0) {k : Int} (hk : k.natAbs < 2 * f.binade) (hb : ((0 - f.leastPlace).toNat + 2) * f.binade ≤ f.infRung) : ValI f (iw f k) k := by
  obtain ⟨r, h1, h2⟩ := rep_rung (f := f) hk hb
  rw [iw_least hl, ← h2, near_rmag f _ (Nat.le_of_lt h1)]
  have hs : r < f.signWeight := Nat.lt_trans h1 f.infRung_lt
  have hp : 0 < f.signWeight := Nat.two_pow_pos _
  have hm : f.word (decide (k < 0)) r % f.signWeight = r := word_mod f _ hs
  have hd : (f.word (decide (k < 0)) r / f.signWeight % 2 == 1) = decide (k < 0) := by
    unfold Format.word
    cases decide (k < 0) with
    | false => simp [Nat.div_eq_of_lt hs]
    | true => simp [Nat.add_div_left _ hp, Nat.div_eq_of_lt hs]
  obtain ⟨m, e, g1, g2, g3⟩ := read_rmag f (w := f.word (decide (k < 0)) r) (by rw [hm]; exact h1)
  rw [hd] at g1
  rw [hm] at g3
  exact ⟨m, e, g1, g2, by rw [g3, h2]⟩
theorem sgn_nat (k : Int) (A U : Nat) (h : A = k.natAbs * U) : (if decide (k < 0) then -(A : Int) else (A : Int)) = k * U := by
  subst h
  by_cases c : k < 0
  · simp only [c, decide_true, if_true]
    have : (k.natAbs : Int) = -k := by omega
    rw [Int.natCast_mul, this, Int.neg_mul, Int.neg_neg]
  · simp only [c, decide_false, Bool.false_eq_true, if_false]
    have : (k.natAbs : Int) = k := by omega
    rw [Int.natCast_mul, this]
theorem add_int {f : Format} (hl : f.leastPlace ≤ 0) {x y : Nat} {a b : Int} (h1 : ValI f x a) (h2 : ValI f y b) : f.add x y = some (iw f (a + b)) := by
  obtain ⟨m, i, a1, a2, a3⟩ := h1
  obtain ⟨n, j, b1, b2, b3⟩ := h2
  have hU := Nat.two_pow_pos (0 - f.leastPlace).toNat
  generalize hUU : 2 ^ (0 - f.leastPlace).toNat = U at *
  have hD := Nat.two_pow_pos (min i j - f.leastPlace).toNat
  have hA : m * 2 ^ (i - min i j).toNat * 2 ^ (min i j - f.leastPlace).toNat = a.natAbs * U := by
    rw [← a3, Nat.mul_assoc, ← Nat.pow_add]; congr 2; omega
  have hB : n * 2 ^ (j - min i j).toNat * 2 ^ (min i j - f.leastPlace).toNat = b.natAbs * U := by
    rw [← b3, Nat.mul_assoc, ← Nat.pow_add]; congr 2; omega
  generalize hD' : 2 ^ (min i j - f.leastPlace).toNat = D at *
  generalize hA' : m * 2 ^ (i - min i j).toNat = A at hA
  generalize hB' : n * 2 ^ (j - min i j).toNat = B at hB
  have e1 : Ieee.signed (decide (a < 0)) m (i - min i j).toNat = if decide (a < 0) then -(A : Int) else A := by unfold Ieee.signed; rw [Nat.shiftLeft_eq, hA']
  have e2 : Ieee.signed (decide (b < 0)) n (j - min i j).toNat = if decide (b < 0) then -(B : Int) else B := by unfold Ieee.signed; rw [Nat.shiftLeft_eq, hB']
  have s1 : (if decide (a < 0) then -(A : Int) else A) * D = a * U := by
    rw [← sgn_nat a (A * D) U hA]
    by_cases c : a < 0 <;> simp [c, Int.neg_mul]
  have s2 : (if decide (b < 0) then -(B : Int) else B) * D = b * U := by
    rw [← sgn_nat b (B * D) U hB]
    by_cases c : b < 0 <;> simp [c, Int.neg_mul]
  unfold Format.add
  rw [a1, b1]
  simp only [Datum.sum]
  rw [e1, e2]
  generalize (if decide (a < 0) then -(A : Int) else (A : Int)) = p at *
  generalize (if decide (b < 0) then -(B : Int) else (B : Int)) = q at *
  have hs : (p + q) * D = (a + b) * U := by rw [Int.add_mul, Int.add_mul, s1, s2]
  have hDi : (0 : Int) < D := by omega
  have hUi : (0 : Int) < U := by omega
  have hz : p + q = 0 ↔ a + b = 0 := by
    constructor
    · intro h; rw [h, Int.zero_mul] at hs
      rcases Int.mul_eq_zero.1 hs.symm with h | h
      · exact h
      · omega
    · intro h; rw [h, Int.zero_mul] at hs
      rcases Int.mul_eq_zero.1 hs with h | h
      · exact h
      · omega
  have hlt : p + q < 0 ↔ a + b < 0 := by
    constructor
    · intro h
      have : (p + q) * D < 0 := Int.mul_neg_of_neg_of_pos h hDi
      rw [hs] at this
      exact Int.not_le.1 fun g => by have := Int.mul_nonneg g (Int.le_of_lt hUi); omega
    · intro h
      have : (a + b) * U < 0 := Int.mul_neg_of_neg_of_pos h hUi
      rw [← hs] at this
      exact Int.not_le.1 fun g => by have := Int.mul_nonneg g (Int.le_of_lt hDi); omega
  have hsgn : (if p + q = 0 then decide (a < 0) && decide (b < 0) else decide (p + q < 0)) = decide (a + b < 0) := by
    by_cases c : p + q = 0
    · rw [if_pos c]
      have := hz.1 c
      by_cases ca : a < 0
      · simp [ca, show ¬ b < 0 by omega, show ¬ a + b < 0 by omega]
      · simp [ca, show ¬ a + b < 0 by omega]
    · rw [if_neg c]
      exact decide_eq_decide.2 hlt
  rw [hsgn]
  show some (f.nearest _ _ _) = _
  rw [near_at (p := f.leastPlace) (N := (a + b).natAbs * U) (by omega) (by
    rw [hD']
    have := congrArg Int.natAbs hs
    rw [Int.natAbs_mul, Int.natAbs_mul, Int.natAbs_natCast, Int.natAbs_natCast] at this
    exact this), iw_least hl, hUU]
/-- Squares of integers. -/
theorem square_int {f : Format} (hl : f.leastPlace ≤ 0) {x : Nat} {a : Int} (h : ValI f x a) : f.mul x x = some (iw f (a * a)) := by
  obtain ⟨m, i, a1, a2, a3⟩ := h
  unfold Format.mul
  rw [a1]
  show some (f.nearest (decide (a < 0) ^^ decide (a < 0)) (m * m) (i + i)) = _
  have hsq : ¬ a * a < 0 := by
    have := Int.natAbs_mul_self (a := a); omega
  have key : f.nearest false (m * m) (i + i) = f.nearest false ((a * a).natAbs) 0 := by
    have e1 := nearest_shift f false (m * m) ((i - f.leastPlace).toNat + (i - f.leastPlace).toNat) (f.leastPlace + f.leastPlace)
    rw [show f.leastPlace + f.leastPlace + (((i - f.leastPlace).toNat + (i - f.leastPlace).toNat : Nat) : Int) = i + i by omega] at e1
    have e2 := nearest_shift f false ((a * a).natAbs) ((0 - f.leastPlace).toNat + (0 - f.leastPlace).toNat) (f.leastPlace + f.leastPlace)
    rw [show f.leastPlace + f.leastPlace + (((0 - f.leastPlace).toNat + (0 - f.leastPlace).toNat : Nat) : Int) = 0 by omega] at e2
    rw [← e1, ← e2]
    congr 1
    rw [Nat.pow_add, Nat.pow_add, Int.natAbs_mul, Nat.mul_mul_mul_comm m m, a3]
    exact Nat.mul_mul_mul_comm _ _ _ _
  rw [show (decide (a < 0) ^^ decide (a < 0)) = false by simp, key]
  unfold iw
  rw [show decide (a * a < 0) = false by simp [hsq]]
theorem valI_num {k : FloatKind} {x : Nat} {a : Int} (h : ValI k.format x a) : nanB k x = false := by
  obtain ⟨m, i, a1, _, _⟩ := h
  unfold nanB
  have : k.decode x = .number (decide (a < 0)) m i := a1
  rw [this]; rfl
theorem near_int {f g : Format} (hl : g.leastPlace ≤ 0) {m : Nat} {i a : Int} (a2 : g.leastPlace ≤ i) (a3 : m * 2 ^ (i - g.leastPlace).toNat = a.natAbs * 2 ^ (0 - g.leastPlace).toNat) : f.nearest (decide (a < 0)) m i = iw f a := by
  unfold iw
  rw [near_at (p := g.leastPlace) a2 a3, near_at (p := g.leastPlace) hl rfl]
theorem wid_int {x : Nat} {a : Int} (h : ValI F x a) : wid x = iw G a := by
  have n := valI_num (k := .f32) h
  obtain ⟨m, i, a1, a2, a3⟩ := h
  have hw := fcvt_wid x
  unfold fcvt at hw
  rw [if_neg (by rw [n]; simp)] at hw
  unfold floatToFloatBits at hw
  rw [if_neg (by decide)] at hw
  have hd : FloatKind.f32.decode x = .number (decide (a < 0)) m i := a1
  rw [hd] at hw
  dsimp only at hw
  split at hw
  · cases hw
  · have hw : G.nearest (decide (a < 0)) m i = wid x := Option.some.inj hw
    rw [← hw]; exact near_int (by rw [fL]; decide) a2 a3
theorem narrow_int {z : Nat} {a : Int} (h : ValI G z a) (hF : ValI F (iw F a) a) : fcvt .f64 .f32 z = some (iw F a) := by
  have n := valI_num (k := .f64) h
  obtain ⟨m, i, a1, a2, a3⟩ := h
  obtain ⟨m', i', b1, _, _⟩ := hF
  have hd : FloatKind.f64.decode z = .number (decide (a < 0)) m i := a1
  have he : FloatKind.f32.encode (.number (decide (a < 0)) m i) = iw F a := near_int (f := F) (by rw [gL]; decide) a2 a3
  have hi : (FloatKind.f32.decode (iw F a)).isInfinity = false := by
    have : FloatKind.f32.decode (iw F a) = .number (decide (a < 0)) m' i' := b1
    rw [this]; rfl
  unfold fcvt
  rw [if_neg (by rw [n]; simp)]
  unfold floatToFloatBits
  rw [if_neg (by decide), hd]
  dsimp only
  rw [he, hi]; rfl
theorem fint_iw (k : FloatKind) (n : Int) : fint k n = iw k.format n := rfl
theorem valI32 {k : Int} (h : k.natAbs < 16777216) : ValI F (iw F k) k := valI_iw (by rw [fL]; decide) (by rw [fB]; omega) (by rw [fL, fB, fI]; decide)
theorem valI64 {k : Int} (h : k.natAbs < 9007199254740992) : ValI G (iw G k) k := valI_iw (by rw [gL]; decide) (by rw [gB]; omega) (by rw [gL, gB, gI]; decide)
theorem fadd32 {a b : Int} (ha : a.natAbs < 16777216) (hb : b.natAbs < 16777216) : fop .add .f32 (fint .f32 a) (fint .f32 b) = fint .f32 (a + b) := by
  show (F.add (iw F a) (iw F b)).getD _ = _
  rw [add_int (by rw [fL]; decide) (valI32 ha) (valI32 hb)]; rfl
theorem fsq32 {a : Int} (ha : a.natAbs < 16777216) : fop .mul .f32 (fint .f32 a) (fint .f32 a) = fint .f32 (a * a) := by
  show (F.mul (iw F a) (iw F a)).getD _ = _
  rw [square_int (by rw [fL]; decide) (valI32 ha)]; rfl
theorem fadd64 {a b : Int} (ha : a.natAbs < 9007199254740992) (hb : b.natAbs < 9007199254740992) : fop .add .f64 (fint .f64 a) (fint .f64 b) = fint .f64 (a + b) := by
  show (G.add (iw G a) (iw G b)).getD _ = _
  rw [add_int (by rw [gL]; decide) (valI64 ha) (valI64 hb)]; rfl
theorem fsq64 {a : Int} (ha : a.natAbs < 9007199254740992) : fop .mul .f64 (fint .f64 a) (fint .f64 a) = fint .f64 (a * a) := by
  show (G.mul (iw G a) (iw G a)).getD _ = _
  rw [square_int (by rw [gL]; decide) (valI64 ha)]; rfl
theorem wid_fint {a : Int} (ha : a.natAbs < 16777216) : wid (fint .f32 a) = fint .f64 a := wid_int (valI32 ha)
theorem narrow_fint {a : Int} (ha : a.natAbs < 16777216) : fcvt .f64 .f32 (fint .f64 a) = some (fint .f32 a) := narrow_int (valI64 (by omega)) (valI32 ha)
end Go.Proofs.Ytfngkhkghjgmkaa
