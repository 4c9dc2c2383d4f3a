/- Operations on 64-bit floats, reckoned by whole numbers alone, for the kernel.
Conditions: none. -/
import Derived.Test.YtfngkhkghjgmkaaNum
import Derived.Test.YtfngkhkghjgmkaaNea
namespace Go.Awp
set_option linter.all false
open Go Ieee
set_option maxRecDepth 100000

/-- The place of the first digit, searched by halves. -/
def lgS : List Nat → Nat → Nat → Nat
  | [], _, a => a
  | k :: l, n, a => cond (Nat.ble (2 ^ k) n) (lgS l (n / 2 ^ k) (a + k)) (lgS l n a)
def lgC (n c : Nat) : Nat := cond (Nat.ble (2 ^ c) n && Nat.blt n (2 ^ (c + 1))) c n.log2
def lgF (n : Nat) : Nat := lgC n (lgS [64, 32, 16, 8, 4, 2, 1] n 0)
theorem lgC_eq (n c : Nat) : lgC n c = n.log2 := by
  unfold lgC
  cases h : Nat.ble (2 ^ c) n && Nat.blt n (2 ^ (c + 1)) with
  | false => rfl
  | true =>
    rw [Bool.and_eq_true, Nat.ble_eq, Nat.blt_eq] at h
    have a := log2_of_lt h.2
    have b : c ≤ n.log2 := (Nat.le_log2 (by have := Nat.two_pow_pos c; omega)).2 h.1
    rw [cond_true]; omega
theorem lgF_eq (n : Nat) : lgF n = n.log2 := lgC_eq n _
/-- The rounded number 'mag * 2 ^ (pl - 4000)', of 53 digits at least. -/
def nrL (mag pl l d : Nat) : Nat := (pl + l - 2978) * 4503599627370496 + (2 * mag + d - 1 + mag / d % 2) / (2 * d)
def nrF (mag pl : Nat) : Nat := nrL mag pl (lgF mag) (2 ^ (lgF mag - 52))

theorem f64_lp : FloatKind.f64.format.leastPlace = -1074 := by decide
theorem f64_fb : FloatKind.f64.format.fractionBits = 52 := rfl
theorem f64_bi : FloatKind.f64.format.binade = 4503599627370496 := by decide
theorem f64_sw : FloatKind.f64.format.signWeight = 9223372036854775808 := by decide +kernel
theorem f64_ir : FloatKind.f64.format.infRung = 2047 * 4503599627370496 := by decide +kernel

theorem rne_eq (n d : Nat) (neg : Bool) (h : d ≤ n.log2 + 2) : Toward.even.cut neg n d = (2 * n + 2 ^ d - 1 + n / 2 ^ d % 2) / (2 * 2 ^ d) := by
  unfold Toward.cut
  dsimp only
  rw [Nat.min_eq_left h, Nat.one_shiftLeft]
  have hp : 0 < 2 ^ d := Nat.two_pow_pos d
  generalize hg : 2 ^ d = g at *
  have hpar : g = 1 ∨ g % 2 = 0 := by
    cases d with
    | zero => left; exact hg.symm
    | succ d => right; rw [← hg, Nat.pow_succ, Nat.mul_mod_left]
  have hn := Nat.div_add_mod n g
  have hl := Nat.mod_lt n hp
  generalize n / g = q at *
  generalize n % g = r at *
  symm
  have key : ∀ b : Nat, b ≤ 1 → (b = 1 ↔ (g < 2 * r ∨ (g = 2 * r ∧ q % 2 = 1))) → (2 * n + g - 1 + q % 2) / (2 * g) = q + b := by
    intro b hb hiff
    have e : 2 * n + g - 1 + q % 2 = (2 * r + g - 1 + q % 2) + 2 * g * q := by
      have : 2 * n = 2 * g * q + 2 * r := by rw [← hn, Nat.mul_add, Nat.mul_assoc]
      omega
    rw [e, Nat.add_mul_div_left _ _ (by omega), Nat.add_comm]
    congr 1
    rcases Nat.lt_or_ge (2 * r + g - 1 + q % 2) (2 * g) with c | c
    · rw [Nat.div_eq_of_lt c]
      have : ¬ b = 1 := fun hb1 => by
        rcases hiff.1 hb1 with h1 | ⟨h1, h2⟩ <;> omega
      omega
    · rw [Nat.div_eq_of_lt_le (k := 1) (by omega) (by omega)]
      have : b = 1 := hiff.2 (by
        rcases hpar with h1 | h1
        · omega
        · rcases Nat.lt_or_ge g (2 * r) with h2 | h2
          · exact .inl h2
          · right; omega)
      omega
  refine key _ ?_ ?_
  · cases (decide (g < 2 * r) || (g == 2 * r && q % 2 == 1)) <;> decide
  · by_cases c1 : g < 2 * r
    · simp [c1]
    · by_cases c2 : g = 2 * r ∧ q % 2 = 1
      · simp [c1, c2.1.symm, c2.2]
      · have : ¬ (g = 2 * r ∧ q % 2 = 1) := c2
        simp only [c1, decide_false, Bool.false_or, false_or]
        by_cases c3 : g = 2 * r
        · have c4 : ¬ q % 2 = 1 := fun h => this ⟨c3, h⟩
          simp [c4]
        · simp [c3]

theorem near_F (neg : Bool) (mag pl : Nat) (hm : 4503599627370496 ≤ mag) (h1 : 2978 ≤ pl + mag.log2) (h2 : pl + mag.log2 ≤ 5000) :
    FloatKind.f64.format.nearest neg mag ((pl : Int) - 4000) = FloatKind.f64.format.word neg (nrF mag pl) := by
  have hL : 52 ≤ mag.log2 := (Nat.le_log2 (by omega)).2 hm
  unfold Format.nearest
  rw [if_neg (by omega), f64_lp, f64_bi, f64_ir, f64_fb]
  have hmax : max ((pl : Int) - 4000 + mag.log2 - (52 : Nat)) (-1074) = (pl : Int) - 4000 + mag.log2 - 52 := Int.max_eq_left (by omega)
  dsimp only
  rw [hmax]
  have e1 : ((pl : Int) - 4000 - ((pl : Int) - 4000 + mag.log2 - 52)).toNat = 0 := by omega
  have e2 : ((pl : Int) - 4000 + mag.log2 - 52 - ((pl : Int) - 4000)).toNat = mag.log2 - 52 := by omega
  have e3 : ((pl : Int) - 4000 + mag.log2 - 52 - -1074).toNat = pl + mag.log2 - 2978 := by omega
  rw [e1, e2, e3, Nat.shiftLeft_zero, rne_eq _ _ _ (by omega)]
  have hk : (2 * mag + 2 ^ (mag.log2 - 52) - 1 + mag / 2 ^ (mag.log2 - 52) % 2) / (2 * 2 ^ (mag.log2 - 52)) ≤ 2 * 4503599627370496 := by
    rw [← rne_eq _ _ neg (by omega)]
    refine cut_le (by omega) ?_
    have : mag < 2 ^ (mag.log2 + 1) := Nat.lt_log2_self
    have e : 2 ^ (mag.log2 + 1) = 2 * 4503599627370496 * 2 ^ (mag.log2 - 52) := by
      rw [show 2 * 4503599627370496 = 2 ^ 53 by decide, ← Nat.pow_add]; congr 1; omega
    omega
  unfold nrF nrL
  rw [lgF_eq]
  generalize (2 * mag + 2 ^ (mag.log2 - 52) - 1 + mag / 2 ^ (mag.log2 - 52) % 2) / (2 * 2 ^ (mag.log2 - 52)) = c at *
  obtain ⟨u, hu⟩ : ∃ u, u = pl + mag.log2 - 2978 := ⟨_, rfl⟩
  rw [← hu]
  have hu2 : u ≤ 2022 := by omega
  clear hu hmax e1 e2 e3
  exact congrArg _ (Nat.min_eq_left (by omega))

def exF (x : Nat) : Nat := x / 4503599627370496 % 2048
def maF (x : Nat) : Nat := 4503599627370496 + x % 4503599627370496
def sgF (x : Nat) : Nat := x / 9223372036854775808 % 2
def okF (x : Nat) : Bool := Nat.ble 600 (exF x) && Nat.ble (exF x) 1400
def wdF (s r : Nat) : Nat := s * 9223372036854775808 + r

theorem read_F {x : Nat} (h : okF x = true) : FloatKind.f64.format.read x = .number (sgF x == 1) (maF x) ((exF x : Int) - 1075) ∧ 600 ≤ exF x ∧ exF x ≤ 1400 := by
  unfold okF at h
  rw [Bool.and_eq_true, Nat.ble_eq, Nat.ble_eq] at h
  obtain ⟨h1, h2⟩ := h
  refine ⟨?_, h1, h2⟩
  unfold Format.read
  rw [f64_lp, f64_bi, f64_ir, f64_sw]
  dsimp only
  have e : x % 9223372036854775808 / 4503599627370496 = exF x := by
    unfold exF
    rw [show (9223372036854775808 : Nat) = 4503599627370496 * 2048 from rfl, Nat.mod_mul_right_div_self]
  have e2 : x % 9223372036854775808 % 4503599627370496 = x % 4503599627370496 := by
    rw [show (9223372036854775808 : Nat) = 4503599627370496 * 2048 from rfl]; exact Nat.mod_mul_right_mod ..
  have hd := Nat.div_add_mod (x % 9223372036854775808) 4503599627370496
  have hml := Nat.mod_lt (x % 9223372036854775808) (show 0 < 4503599627370496 by omega)
  rw [e] at hd
  rw [if_neg (by omega), if_pos (by omega), e, e2]
  unfold sgF maF
  congr 1
  omega

theorem word_F (b : Bool) (r : Nat) (s : Nat) (hs : s = b.toNat) : FloatKind.f64.format.word b r = wdF s r := by
  unfold Format.word wdF
  rw [f64_sw, hs]
  cases b <;> simp
theorem sgF_lt (x : Nat) : sgF x = (sgF x == 1).toNat := by
  have : sgF x < 2 := Nat.mod_lt _ (by omega)
  rcases (by omega : sgF x = 0 ∨ sgF x = 1) with h | h <;> rw [h] <;> rfl
theorem maF_lo (x : Nat) : 4503599627370496 ≤ maF x := by unfold maF; omega
theorem maF_hi (x : Nat) : maF x < 2 * 4503599627370496 := by
  unfold maF
  have := Nat.mod_lt x (show 0 < 4503599627370496 by omega)
  omega
theorem log2_eq {n k : Nat} (h1 : 2 ^ k ≤ n) (h2 : n < 2 ^ (k + 1)) : n.log2 = k := by
  have a := log2_of_lt h2
  have b : k ≤ n.log2 := (Nat.le_log2 (by have := Nat.two_pow_pos k; omega)).2 h1
  omega

theorem maF_log (x : Nat) : (maF x).log2 = 52 := by
  have a := maF_lo x
  have c := maF_hi x
  have e : (2 : Nat) ^ 52 = 4503599627370496 := by decide
  have e' : (2 : Nat) ^ (52 + 1) = 2 * 4503599627370496 := by decide
  exact log2_eq (by rw [e]; exact a) (by rw [e']; exact c)
theorem num_getD (f : Format) (s : Bool) (m : Nat) (e : Int) (x : Nat) : (Option.map f.write (some (Datum.number s m e))).getD x = f.nearest s m e := rfl
/-- The product. -/
def mulF (x y : Nat) : Nat := bif okF x && okF y then wdF ((sgF x + sgF y) % 2) (nrF (maF x * maF y) (exF x + exF y + 1850)) else fop .mul .f64 x y
theorem mulF_eq (x y : Nat) : fop .mul .f64 x y = mulF x y := by
  unfold mulF
  cases hc : okF x && okF y with
  | false => rfl
  | true =>
    rw [Bool.and_eq_true] at hc
    obtain ⟨hx, x1, x2⟩ := read_F hc.1
    obtain ⟨hy, y1, y2⟩ := read_F hc.2
    show (floatBits .mul .f64 x y).getD _ = _
    show (Option.map _ (Datum.product (FloatKind.f64.format.read x) (FloatKind.f64.format.read y))).getD _ = _
    rw [hx, hy]
    show FloatKind.f64.format.nearest _ (maF x * maF y) ((exF x : Int) - 1075 + ((exF y : Int) - 1075)) = _
    have ep : (exF x : Int) - 1075 + ((exF y : Int) - 1075) = ((exF x + exF y + 1850 : Nat) : Int) - 4000 := by omega
    have a := maF_lo x
    have b := maF_lo y
    have c := maF_hi x
    have d := maF_hi y
    have l1 : 4503599627370496 * 4503599627370496 ≤ maF x * maF y := Nat.mul_le_mul a b
    have l2 : maF x * maF y ≤ (2 * 4503599627370496) * (2 * 4503599627370496) := Nat.mul_le_mul (by omega) (by omega)
    have k1 : 104 ≤ (maF x * maF y).log2 := (Nat.le_log2 (by omega)).2 l1
    have k2 : (maF x * maF y).log2 ≤ 106 := log2_of_lt (by omega)
    rw [ep, near_F _ _ _ (by omega) (by omega) (by omega), cond_true]
    refine word_F _ _ _ ?_
    have s1 : sgF x < 2 := Nat.mod_lt _ (by omega)
    have s2 : sgF y < 2 := Nat.mod_lt _ (by omega)
    rcases (by omega : sgF x = 0 ∨ sgF x = 1) with h | h <;> rcases (by omega : sgF y = 0 ∨ sgF y = 1) with h' | h' <;> rw [h, h'] <;> rfl

/-- The quotient. -/
def quoM (m n : Nat) : Nat := 2 * (m * 2 ^ 54 / n) + cond (Nat.beq (m * 2 ^ 54 % n) 0) 0 1
theorem quoM_eq (s t : Bool) {m n : Nat} (i j : Int) (hn : n ≠ 0) (lm : m.log2 = 52) (ln : n.log2 = 52) : Datum.quotient 54 (.number s m i) (.number t n j) = some (.number (s ^^ t) (quoM m n) (i - j - 55)) := by
  unfold Datum.quotient quoM
  dsimp only
  rw [if_neg hn, lm, ln, Nat.shiftLeft_eq]
  have e1 : 54 + 52 - 52 = 54 := by decide
  rw [e1]
  generalize 2 ^ 54 = P
  have eb : (m * P % n != 0).toNat = cond (Nat.beq (m * P % n) 0) 0 1 := by
    cases h : Nat.beq (m * P % n) 0 with
    | true => rw [Nat.eq_of_beq_eq_true h]; rfl
    | false =>
      have := Nat.ne_of_beq_eq_false h
      simp [this]
  have ei : i - j - (54 : Nat) - 1 = i - j - 55 := by omega
  rw [eb, ei]
theorem quoM_lo {m n : Nat} (hm : 4503599627370496 ≤ m) (hn : n < 2 * 4503599627370496) (h0 : 0 < n) : 2 ^ 54 ≤ quoM m n := by
  unfold quoM
  have e : (2 : Nat) ^ 54 = 2 * 2 ^ 53 := by decide
  have : 2 ^ 53 ≤ m * 2 ^ 54 / n := (Nat.le_div_iff_mul_le h0).2 (by rw [e, Nat.mul_left_comm, ← Nat.mul_assoc, Nat.mul_comm]; exact Nat.mul_le_mul_right _ (by omega))
  omega
theorem quoM_hi {m n : Nat} (hm : m < 2 * 4503599627370496) (hn : 4503599627370496 ≤ n) : quoM m n < 2 ^ 57 := by
  unfold quoM
  have e : (2 : Nat) ^ 55 = 2 * 2 ^ 54 := by decide
  have e57 : (2 : Nat) ^ 57 = 4 * 2 ^ 55 := by decide
  have h1 : m * 2 ^ 54 / n < 2 ^ 55 := (Nat.div_lt_iff_lt_mul (by omega)).2 (by
    rw [e, Nat.mul_comm 2, Nat.mul_assoc, Nat.mul_comm m]
    exact Nat.mul_lt_mul_of_pos_left (by omega) (Nat.two_pow_pos _))
  have hb : cond (Nat.beq (m * 2 ^ 54 % n) 0) 0 1 ≤ 1 := by cases Nat.beq (m * 2 ^ 54 % n) 0 <;> decide
  have : 1 ≤ 2 ^ 55 := Nat.two_pow_pos _
  omega
def quoF (x y : Nat) : Nat := bif okF x && okF y then wdF ((sgF x + sgF y) % 2) (nrF (quoM (maF x) (maF y)) (exF x + 3945 - exF y)) else fop .quo .f64 x y
theorem quoF_eq (x y : Nat) : fop .quo .f64 x y = quoF x y := by
  unfold quoF
  cases hc : okF x && okF y with
  | false => rfl
  | true =>
    rw [Bool.and_eq_true] at hc
    obtain ⟨hx, x1, x2⟩ := read_F hc.1
    obtain ⟨hy, y1, y2⟩ := read_F hc.2
    have a := maF_lo x
    have b := maF_lo y
    have c := maF_hi x
    have d := maF_hi y
    have lx : (maF x).log2 = 52 := maF_log x
    have ly : (maF y).log2 = 52 := maF_log y
    show (floatBits .quo .f64 x y).getD _ = _
    show (Option.map _ (Datum.quotient 54 (FloatKind.f64.format.read x) (FloatKind.f64.format.read y))).getD _ = _
    rw [hx, hy, quoM_eq _ _ _ _ (by omega) lx ly, cond_true]
    have l1 := quoM_lo a d (by omega)
    have l2 := quoM_hi c b
    generalize quoM (maF x) (maF y) = q at *
    have ep : (exF x : Int) - 1075 - ((exF y : Int) - 1075) - 55 = ((exF x + 3945 - exF y : Nat) : Int) - 4000 := by omega
    rw [ep]
    have k3 : 4503599627370496 ≤ q := Nat.le_trans (by decide) l1
    have k1 : 54 ≤ q.log2 := (Nat.le_log2 (by clear l1 l2; omega)).2 l1
    have k2 : q.log2 ≤ 56 := log2_of_lt l2
    clear l1 l2
    rw [num_getD]
    refine (near_F _ _ _ k3 (by omega) (by omega)).trans ?_
    refine word_F _ _ _ ?_
    have s1 : sgF x < 2 := Nat.mod_lt _ (by omega)
    have s2 : sgF y < 2 := Nat.mod_lt _ (by omega)
    rcases (by omega : sgF x = 0 ∨ sgF x = 1) with h | h <;> rcases (by omega : sgF y = 0 ∨ sgF y = 1) with h' | h' <;> rw [h, h'] <;> rfl

/-- The rounded number of any size. -/
def nsF (mag pl : Nat) : Nat := bif Nat.blt mag 4503599627370496 then (pl + lgF mag - 2978) * 4503599627370496 + mag * 2 ^ (52 - lgF mag) else nrF mag pl
theorem near_S (neg : Bool) (mag pl : Nat) (h0 : mag ≠ 0) (h1 : 2978 ≤ pl + mag.log2) (h2 : pl + mag.log2 ≤ 5000) :
    FloatKind.f64.format.nearest neg mag ((pl : Int) - 4000) = FloatKind.f64.format.word neg (nsF mag pl) := by
  unfold nsF
  rw [lgF_eq]
  by_cases hm : mag < 4503599627370496
  · have hb : Nat.blt mag 4503599627370496 = true := by rw [Nat.blt_eq]; exact hm
    rw [hb, cond_true]
    have hL : mag.log2 ≤ 51 := log2_of_lt hm
    have hk : mag * 2 ^ (52 - mag.log2) < 2 * 4503599627370496 := by
      have : mag < 2 ^ (mag.log2 + 1) := Nat.lt_log2_self
      have h3 : mag * 2 ^ (52 - mag.log2) < 2 ^ (mag.log2 + 1) * 2 ^ (52 - mag.log2) := Nat.mul_lt_mul_of_pos_right this (Nat.two_pow_pos _)
      rw [← Nat.pow_add, show mag.log2 + 1 + (52 - mag.log2) = 53 by omega] at h3
      exact h3
    unfold Format.nearest
    rw [if_neg h0, f64_lp, f64_bi, f64_ir, f64_fb]
    have hmax : max ((pl : Int) - 4000 + mag.log2 - (52 : Nat)) (-1074) = (pl : Int) - 4000 + mag.log2 - 52 := Int.max_eq_left (by omega)
    dsimp only
    rw [hmax]
    have e1 : ((pl : Int) - 4000 - ((pl : Int) - 4000 + mag.log2 - 52)).toNat = 52 - mag.log2 := by omega
    have e2 : ((pl : Int) - 4000 + mag.log2 - 52 - ((pl : Int) - 4000)).toNat = 0 := by omega
    have e3 : ((pl : Int) - 4000 + mag.log2 - 52 - -1074).toNat = pl + mag.log2 - 2978 := by omega
    have ec : ∀ n : Nat, Toward.even.cut neg n 0 = n := by
      intro n
      rw [rne_eq _ _ _ (by omega), Nat.pow_zero, Nat.div_one]
      omega
    rw [e1, e2, e3, ec, Nat.shiftLeft_eq]
    generalize mag * 2 ^ (52 - mag.log2) = c at *
    obtain ⟨u, hu⟩ : ∃ u, u = pl + mag.log2 - 2978 := ⟨_, rfl⟩
    rw [← hu]
    have hu2 : u ≤ 2022 := by omega
    clear hu hmax e1 e2 e3 hb hm
    exact congrArg _ (Nat.min_eq_left (by omega))
  · have hb : Nat.blt mag 4503599627370496 = false := by
      rw [Bool.eq_false_iff]; intro h; rw [Nat.blt_eq] at h; exact hm h
    rw [hb, cond_false]
    exact near_F neg mag pl (by omega) h1 h2

/-- The difference of two magnitudes with their signs. -/
def dfF (s m t n pl : Nat) : Nat := bif Nat.beq s t then wdF s (nsF (m + n) pl) else bif Nat.beq m n then 0 else bif Nat.blt m n then wdF t (nsF (n - m) pl) else wdF s (nsF (m - n) pl)
theorem dfF_eq (s t : Bool) (m n pl : Nat) (hm : 0 < m) (hn : 0 < n) (h1 : 2978 ≤ pl) (hl : (m + n).log2 + pl ≤ 5000) :
    FloatKind.f64.format.nearest (if signed s m 0 + signed t n 0 = 0 then s && t else decide (signed s m 0 + signed t n 0 < 0)) (signed s m 0 + signed t n 0).natAbs ((pl : Int) - 4000) = dfF s.toNat m t.toNat n pl := by
  have lg : ∀ k, k ≤ m + n → k.log2 + pl ≤ 5000 := by
    intro k hk
    have : k.log2 ≤ (m + n).log2 := by
      by_cases k0 : k = 0
      · subst k0; simp
      · exact (Nat.le_log2 (by omega)).2 (Nat.le_trans (Nat.log2_self_le k0) hk)
    omega
  unfold dfF signed
  simp only [Nat.shiftLeft_zero]
  cases s <;> cases t
  · simp only [Bool.false_eq_true, if_false, Bool.toNat_false, Nat.beq_refl, cond_true]
    rw [if_neg (by omega), show ((m : Int) + n).natAbs = m + n by omega, show decide ((m : Int) + n < 0) = false by simp; omega, near_S _ _ _ (by omega) (by omega) (by have := lg (m + n) (by omega); omega)]
    exact word_F _ _ _ rfl
  · simp only [Bool.false_eq_true, if_false, if_true, Bool.toNat_false, Bool.toNat_true, show Nat.beq 0 1 = false from rfl, cond_false]
    by_cases c1 : m = n
    · subst c1
      rw [if_pos (by omega), show ((m : Int) + -m).natAbs = 0 by omega]
      simp only [Nat.beq_refl, cond_true]
      rfl
    · have hb : Nat.beq m n = false := by rw [Bool.eq_false_iff]; intro h; exact c1 (Nat.eq_of_beq_eq_true h)
      rw [if_neg (by omega), hb, cond_false]
      by_cases c2 : m < n
      · rw [show Nat.blt m n = true by rw [Nat.blt_eq]; exact c2, cond_true, show ((m : Int) + -n).natAbs = n - m by omega, show decide ((m : Int) + -n < 0) = true by simp; omega, near_S _ _ _ (by omega) (by omega) (by have := lg (n - m) (by omega); omega)]
        exact word_F _ _ _ rfl
      · rw [show Nat.blt m n = false by rw [Bool.eq_false_iff]; intro h; rw [Nat.blt_eq] at h; exact c2 h, cond_false, show ((m : Int) + -n).natAbs = m - n by omega, show decide ((m : Int) + -n < 0) = false by simp; omega, near_S _ _ _ (by omega) (by omega) (by have := lg (m - n) (by omega); omega)]
        exact word_F _ _ _ rfl
  · simp only [Bool.false_eq_true, if_false, if_true, Bool.toNat_false, Bool.toNat_true, show Nat.beq 1 0 = false from rfl, cond_false]
    by_cases c1 : m = n
    · subst c1
      rw [if_pos (by omega), show (-(m : Int) + m).natAbs = 0 by omega]
      simp only [Nat.beq_refl, cond_true]
      rfl
    · have hb : Nat.beq m n = false := by rw [Bool.eq_false_iff]; intro h; exact c1 (Nat.eq_of_beq_eq_true h)
      rw [if_neg (by omega), hb, cond_false]
      by_cases c2 : m < n
      · rw [show Nat.blt m n = true by rw [Nat.blt_eq]; exact c2, cond_true, show (-(m : Int) + n).natAbs = n - m by omega, show decide (-(m : Int) + n < 0) = false by simp; omega, near_S _ _ _ (by omega) (by omega) (by have := lg (n - m) (by omega); omega)]
        exact word_F _ _ _ rfl
      · rw [show Nat.blt m n = false by rw [Bool.eq_false_iff]; intro h; rw [Nat.blt_eq] at h; exact c2 h, cond_false, show (-(m : Int) + n).natAbs = m - n by omega, show decide (-(m : Int) + n < 0) = true by simp; omega, near_S _ _ _ (by omega) (by omega) (by have := lg (m - n) (by omega); omega)]
        exact word_F _ _ _ rfl
  · simp only [if_true, Bool.toNat_true, Nat.beq_refl, cond_true]
    rw [if_neg (by omega), show (-(m : Int) + -n).natAbs = m + n by omega, show decide (-(m : Int) + -n < 0) = true by simp; omega, near_S _ _ _ (by omega) (by omega) (by have := lg (m + n) (by omega); omega)]
    exact word_F _ _ _ rfl
theorem signed_up (s : Bool) (m up : Nat) : signed s m up = signed s (m * 2 ^ up) 0 := by
  unfold signed; rw [Nat.shiftLeft_eq, Nat.shiftLeft_zero]
def suF (x s y : Nat) : Nat := bif Nat.ble (exF y) (exF x) then dfF (sgF x) (maF x * 2 ^ (exF x - exF y)) s (maF y) (exF y + 2925) else dfF (sgF x) (maF x) s (maF y * 2 ^ (exF y - exF x)) (exF x + 2925)
theorem suF_eq (x y : Nat) (t : Bool) (hx : 600 ≤ exF x) (hx' : exF x ≤ 1400) (hy : 600 ≤ exF y) (hy' : exF y ≤ 1400) :
    ((Datum.sum (.number (sgF x == 1) (maF x) ((exF x : Int) - 1075)) (.number t (maF y) ((exF y : Int) - 1075))).map FloatKind.f64.format.write).getD (qnan .f64) = suF x t.toNat y := by
  unfold Datum.sum suF
  dsimp only
  rw [num_getD, signed_up, signed_up _ (maF y)]
  have a := maF_lo x
  have b := maF_lo y
  have c := maF_hi x
  have d := maF_hi y
  have lgm : ∀ (m k j : Nat), m < 2 * 4503599627370496 → j < 2 * 4503599627370496 → (m * 2 ^ k + j).log2 ≤ k + 54 := by
    intro m k j hm hj
    refine log2_of_lt ?_
    have h1 : m * 2 ^ k ≤ (2 * 4503599627370496) * 2 ^ k := Nat.mul_le_mul_right _ (by omega)
    have h2 : 2 ^ (k + 54 + 1) = (8 * 4503599627370496) * 2 ^ k := by
      rw [show k + 54 + 1 = 55 + k by omega, Nat.pow_add, show (2 : Nat) ^ 55 = 8 * 4503599627370496 by decide]
    have h3 : 1 ≤ 2 ^ k := Nat.two_pow_pos k
    have h4 : (2 * 4503599627370496) * 1 ≤ (2 * 4503599627370496) * 2 ^ k := Nat.mul_le_mul_left _ h3
    rw [h2]
    generalize 2 ^ k = K at *
    omega
  by_cases h : exF y ≤ exF x
  · rw [show Nat.ble (exF y) (exF x) = true by rw [Nat.ble_eq]; exact h, cond_true]
    rw [show min ((exF x : Int) - 1075) ((exF y : Int) - 1075) = (exF y : Int) - 1075 by omega]
    rw [show ((exF x : Int) - 1075 - ((exF y : Int) - 1075)).toNat = exF x - exF y by omega, show ((exF y : Int) - 1075 - ((exF y : Int) - 1075)).toNat = 0 by omega, Nat.pow_zero, Nat.mul_one]
    rw [show (exF y : Int) - 1075 = ((exF y + 2925 : Nat) : Int) - 4000 by omega]
    have l := lgm (maF x) (exF x - exF y) (maF y) c d
    rw [dfF_eq _ _ _ _ _ (Nat.mul_pos (by omega) (Nat.two_pow_pos _)) (by omega) (by omega) (by omega), ← sgF_lt]
  · rw [show Nat.ble (exF y) (exF x) = false by rw [Bool.eq_false_iff]; intro h'; rw [Nat.ble_eq] at h'; exact h h', cond_false]
    rw [show min ((exF x : Int) - 1075) ((exF y : Int) - 1075) = (exF x : Int) - 1075 by omega]
    rw [show ((exF y : Int) - 1075 - ((exF x : Int) - 1075)).toNat = exF y - exF x by omega, show ((exF x : Int) - 1075 - ((exF x : Int) - 1075)).toNat = 0 by omega, Nat.pow_zero, Nat.mul_one]
    rw [show (exF x : Int) - 1075 = ((exF x + 2925 : Nat) : Int) - 4000 by omega]
    have l := lgm (maF y) (exF y - exF x) (maF x) d c
    rw [dfF_eq _ _ _ _ _ (by omega) (Nat.mul_pos (by omega) (Nat.two_pow_pos _)) (by omega) (by rw [Nat.add_comm (maF x)]; omega), ← sgF_lt]

/-- The sum, the difference. -/
def addF (x y : Nat) : Nat := bif okF x && okF y then suF x (sgF y) y else fop .add .f64 x y
def subF (x y : Nat) : Nat := bif okF x && okF y then suF x (1 - sgF y) y else fop .sub .f64 x y
theorem addF_eq (x y : Nat) : fop .add .f64 x y = addF x y := by
  unfold addF
  cases hc : okF x && okF y with
  | false => rfl
  | true =>
    rw [Bool.and_eq_true] at hc
    obtain ⟨hx, x1, x2⟩ := read_F hc.1
    obtain ⟨hy, y1, y2⟩ := read_F hc.2
    show (Option.map _ (Datum.sum (FloatKind.f64.format.read x) (FloatKind.f64.format.read y))).getD _ = _
    rw [hx, hy, suF_eq x y _ x1 x2 y1 y2, cond_true, ← sgF_lt]
theorem subF_eq (x y : Nat) : fop .sub .f64 x y = subF x y := by
  unfold subF
  cases hc : okF x && okF y with
  | false => rfl
  | true =>
    rw [Bool.and_eq_true] at hc
    obtain ⟨hx, x1, x2⟩ := read_F hc.1
    obtain ⟨hy, y1, y2⟩ := read_F hc.2
    show (Option.map _ (Datum.sum (FloatKind.f64.format.read x) (FloatKind.f64.format.read y).opposite)).getD _ = _
    rw [hx, hy, Datum.opposite, suF_eq x y _ x1 x2 y1 y2, cond_true]
    have e : (!(sgF y == 1)).toNat = 1 - sgF y := by
      have : sgF y < 2 := Nat.mod_lt _ (by omega)
      rcases (by omega : sgF y = 0 ∨ sgF y = 1) with h | h <;> rw [h] <;> rfl
    rw [e]

/-- The whole root. -/
theorem rootFrom_ok (n : Nat) : ∀ (todo r : Nat), r * r ≤ n → n < (r + 2 ^ todo) * (r + 2 ^ todo) → Datum.rootFrom n todo r * Datum.rootFrom n todo r ≤ n ∧ n < (Datum.rootFrom n todo r + 1) * (Datum.rootFrom n todo r + 1)
  | 0, r, h1, h2 => ⟨h1, h2⟩
  | todo + 1, r, h1, h2 => by
    unfold Datum.rootFrom
    dsimp only
    rw [Nat.one_shiftLeft]
    by_cases c : (r + 2 ^ todo) * (r + 2 ^ todo) ≤ n
    · rw [if_pos c]
      refine rootFrom_ok n todo _ c ?_
      rw [Nat.pow_succ, Nat.mul_two, ← Nat.add_assoc] at h2
      exact h2
    · rw [if_neg c]
      exact rootFrom_ok n todo r h1 (by omega)
theorem root_uni {n a b : Nat} (a1 : a * a ≤ n) (a2 : n < (a + 1) * (a + 1)) (b1 : b * b ≤ n) (b2 : n < (b + 1) * (b + 1)) : a = b := by
  rcases Nat.lt_trichotomy a b with h | h | h
  · have := Nat.mul_le_mul (show a + 1 ≤ b by omega) (show a + 1 ≤ b by omega); omega
  · exact h
  · have := Nat.mul_le_mul (show b + 1 ≤ a by omega) (show b + 1 ≤ a by omega); omega
def newt (n : Nat) : Nat → Nat → Nat
  | 0, r => r
  | k + 1, r => newt n k ((r + n / r) / 2)
def rtC (n c : Nat) : Nat := bif Nat.ble (c * c) n && Nat.blt n ((c + 1) * (c + 1)) then c else bif Nat.ble ((c - 1) * (c - 1)) n && Nat.blt n ((c - 1 + 1) * (c - 1 + 1)) then c - 1 else Datum.rootFrom n (n.log2 / 2 + 1) 0
theorem rtC_eq (n c : Nat) : Datum.rootFrom n (n.log2 / 2 + 1) 0 = rtC n c := by
  have h2 : n < (0 + 2 ^ (n.log2 / 2 + 1)) * (0 + 2 ^ (n.log2 / 2 + 1)) := by
    rw [Nat.zero_add, ← Nat.pow_add]
    exact Nat.lt_of_lt_of_le Nat.lt_log2_self (Nat.pow_le_pow_right (by omega) (by omega))
  have h := rootFrom_ok n _ 0 (by omega) h2
  unfold rtC
  cases c1 : Nat.ble (c * c) n && Nat.blt n ((c + 1) * (c + 1)) with
  | true =>
    rw [Bool.and_eq_true, Nat.ble_eq, Nat.blt_eq] at c1
    exact root_uni h.1 h.2 c1.1 c1.2
  | false =>
    rw [cond_false]
    cases c2 : Nat.ble ((c - 1) * (c - 1)) n && Nat.blt n ((c - 1 + 1) * (c - 1 + 1)) with
    | true =>
      rw [Bool.and_eq_true, Nat.ble_eq, Nat.blt_eq] at c2
      exact root_uni h.1 h.2 c2.1 c2.2
    | false => rfl
def rtN (n : Nat) : Nat := rtC n (newt n 6 (2 ^ (lgF n / 2) + 2 ^ (lgF n / 2) / 4))
/-- The root. -/
def sqM (m b : Nat) : Nat := 2 * rtN (m * 2 ^ (56 + b)) + cond (Nat.beq (rtN (m * 2 ^ (56 + b)) * rtN (m * 2 ^ (56 + b))) (m * 2 ^ (56 + b))) 0 1
def sqrtF (x : Nat) : Nat := bif okF x && Nat.beq (sgF x) 0 then nrF (sqM (maF x) ((exF x + 1) % 2)) ((exF x - (exF x + 1) % 2 + 6867) / 2) else fsqrt x
theorem rtN_eq (n : Nat) : Datum.rootFrom n (n.log2 / 2 + 1) 0 = rtN n := rtC_eq n _
theorem rtN_ok (n : Nat) : rtN n * rtN n ≤ n ∧ n < (rtN n + 1) * (rtN n + 1) := by
  rw [← rtN_eq]
  refine rootFrom_ok n _ 0 (by omega) ?_
  rw [Nat.zero_add, ← Nat.pow_add]
  exact Nat.lt_of_lt_of_le Nat.lt_log2_self (Nat.pow_le_pow_right (by omega) (by omega))
theorem sqM_eq {m : Nat} {i : Int} {b : Nat} (hm : m ≠ 0) (lm : m.log2 = 52) (hb : ((i - (56 : Nat)) % 2).toNat = b) : Datum.root 54 (.number false m i) = some (.number false (sqM m b) ((i - ((56 + b : Nat) : Int)) / 2 - 1)) := by
  unfold Datum.root sqM
  dsimp only
  rw [if_neg hm, lm]
  have e1 : 2 * 54 - 52 = 56 := by decide
  rw [e1, hb]
  simp only [Bool.false_eq_true, if_false, rtN_eq, Nat.shiftLeft_eq]
  generalize m * 2 ^ (56 + b) = n
  have eb : (rtN n * rtN n != n).toNat = cond (Nat.beq (rtN n * rtN n) n) 0 1 := by
    cases h : Nat.beq (rtN n * rtN n) n with
    | true => rw [Nat.eq_of_beq_eq_true h]; simp
    | false =>
      have := Nat.ne_of_beq_eq_false h
      simp [this]
  rw [eb]
theorem sqM_lo {m b : Nat} (hm : 4503599627370496 ≤ m) : 2 ^ 54 ≤ sqM m b := by
  unfold sqM
  have h := (rtN_ok (m * 2 ^ (56 + b))).2
  have hn : 2 ^ 54 * 2 ^ 54 ≤ m * 2 ^ (56 + b) := by
    rw [← Nat.pow_add, show 54 + 54 = 52 + 56 by decide, Nat.pow_add]
    exact Nat.mul_le_mul hm (Nat.pow_le_pow_right (by omega) (by omega))
  generalize m * 2 ^ (56 + b) = n at *
  generalize rtN n = r at *
  have h3 : 2 ^ 54 ≤ r := by
    refine Nat.le_of_not_lt fun c => ?_
    have := Nat.mul_le_mul (show r + 1 ≤ 2 ^ 54 by omega) (show r + 1 ≤ 2 ^ 54 by omega)
    omega
  omega
theorem sqM_hi {m b : Nat} (hm : m < 2 * 4503599627370496) (hb : b ≤ 1) : sqM m b < 2 ^ 57 := by
  unfold sqM
  have h := (rtN_ok (m * 2 ^ (56 + b))).1
  have hn : m * 2 ^ (56 + b) ≤ 2 ^ 55 * 2 ^ 55 := by
    have h1 : m * 2 ^ (56 + b) ≤ 2 ^ 53 * 2 ^ 57 := Nat.mul_le_mul (Nat.le_of_lt hm) (Nat.pow_le_pow_right (by omega) (by omega))
    have h2 : (2 : Nat) ^ 53 * 2 ^ 57 = 2 ^ 55 * 2 ^ 55 := by rw [← Nat.pow_add]
    omega
  have hc : cond (Nat.beq (rtN (m * 2 ^ (56 + b)) * rtN (m * 2 ^ (56 + b))) (m * 2 ^ (56 + b))) 0 1 ≤ 1 := by
    cases Nat.beq (rtN (m * 2 ^ (56 + b)) * rtN (m * 2 ^ (56 + b))) (m * 2 ^ (56 + b)) <;> decide
  generalize m * 2 ^ (56 + b) = n at *
  generalize rtN n = r at *
  have h3 : r ≤ 2 ^ 55 := by
    refine Nat.le_of_not_lt fun c => ?_
    have := Nat.mul_lt_mul'' c c
    omega
  have e57 : (2 : Nat) ^ 57 = 4 * 2 ^ 55 := by decide
  have : 1 ≤ 2 ^ 55 := Nat.two_pow_pos _
  omega
theorem sqrtF_eq (x : Nat) : fsqrt x = sqrtF x := by
  unfold sqrtF
  cases hc : okF x && Nat.beq (sgF x) 0 with
  | false => rfl
  | true =>
    rw [Bool.and_eq_true] at hc
    obtain ⟨hx, x1, x2⟩ := read_F hc.1
    have h0 : sgF x = 0 := Nat.eq_of_beq_eq_true hc.2
    have a := maF_lo x
    have c := maF_hi x
    show (Option.map _ (Datum.root 54 (FloatKind.f64.format.read x))).getD _ = _
    obtain ⟨b, hb⟩ : ∃ b, b = (exF x + 1) % 2 := ⟨_, rfl⟩
    rw [hx, h0, show (0 == 1) = false from rfl, sqM_eq (b := b) (by omega) (maF_log x) (by omega), cond_true, ← hb]
    have l1 := sqM_lo (b := b) a
    have l2 := sqM_hi (b := b) c (by omega)
    generalize sqM (maF x) b = q at *
    have k3 : 4503599627370496 ≤ q := Nat.le_trans (by decide) l1
    have k1 : 54 ≤ q.log2 := (Nat.le_log2 (by clear l1 l2; omega)).2 l1
    have k2 : q.log2 ≤ 56 := log2_of_lt l2
    clear l1 l2
    rw [num_getD, show ((exF x : Int) - 1075 - ((56 + b : Nat) : Int)) / 2 - 1 = (((exF x - b + 6867) / 2 : Nat) : Int) - 4000 by omega]
    refine (near_F _ _ _ k3 (by omega) (by omega)).trans ?_
    exact (word_F _ _ 0 rfl).trans (by unfold wdF; omega)

/-- The same in the kernel's own numbers. -/
def l1G (n a : Nat) : Nat := cond (Nat.ble (nat_lit 2) n) (Nat.add a (nat_lit 1)) a
def l2G (n a : Nat) : Nat := cond (Nat.ble (nat_lit 4) n) (l1G (Nat.div n (nat_lit 4)) (Nat.add a (nat_lit 2))) (l1G n a)
def l4G (n a : Nat) : Nat := cond (Nat.ble (nat_lit 16) n) (l2G (Nat.div n (nat_lit 16)) (Nat.add a (nat_lit 4))) (l2G n a)
def l8G (n a : Nat) : Nat := cond (Nat.ble (nat_lit 256) n) (l4G (Nat.div n (nat_lit 256)) (Nat.add a (nat_lit 8))) (l4G n a)
def l16G (n a : Nat) : Nat := cond (Nat.ble (nat_lit 65536) n) (l8G (Nat.div n (nat_lit 65536)) (Nat.add a (nat_lit 16))) (l8G n a)
def l32G (n a : Nat) : Nat := cond (Nat.ble (nat_lit 4294967296) n) (l16G (Nat.div n (nat_lit 4294967296)) (Nat.add a (nat_lit 32))) (l16G n a)
def l64G (n a : Nat) : Nat := cond (Nat.ble (nat_lit 18446744073709551616) n) (l32G (Nat.div n (nat_lit 18446744073709551616)) (Nat.add a (nat_lit 64))) (l32G n a)
def lgCG (n c : Nat) : Nat := cond (and (Nat.ble (Nat.pow (nat_lit 2) c) n) (Nat.ble (Nat.succ n) (Nat.pow (nat_lit 2) (Nat.add c (nat_lit 1))))) c (Nat.log2 n)
def lgG (n : Nat) : Nat := lgCG n (l64G n (nat_lit 0))
def nrLG (m pl l d : Nat) : Nat := Nat.add (Nat.mul (Nat.sub (Nat.add pl l) (nat_lit 2978)) (nat_lit 4503599627370496)) (Nat.div (Nat.add (Nat.sub (Nat.add (Nat.mul (nat_lit 2) m) d) (nat_lit 1)) (Nat.mod (Nat.div m d) (nat_lit 2))) (Nat.mul (nat_lit 2) d))
def nrG (m pl : Nat) : Nat := nrLG m pl (lgG m) (Nat.pow (nat_lit 2) (Nat.sub (lgG m) (nat_lit 52)))
def exG (x : Nat) : Nat := Nat.mod (Nat.div x (nat_lit 4503599627370496)) (nat_lit 2048)
def maG (x : Nat) : Nat := Nat.add (nat_lit 4503599627370496) (Nat.mod x (nat_lit 4503599627370496))
def sgG (x : Nat) : Nat := Nat.mod (Nat.div x (nat_lit 9223372036854775808)) (nat_lit 2)
def okG (x : Nat) : Bool := and (Nat.ble (nat_lit 600) (exG x)) (Nat.ble (exG x) (nat_lit 1400))
def wdG (s r : Nat) : Nat := Nat.add (Nat.mul s (nat_lit 9223372036854775808)) r
def nsG (m pl : Nat) : Nat := cond (Nat.ble (Nat.succ m) (nat_lit 4503599627370496)) (Nat.add (Nat.mul (Nat.sub (Nat.add pl (lgG m)) (nat_lit 2978)) (nat_lit 4503599627370496)) (Nat.mul m (Nat.pow (nat_lit 2) (Nat.sub (nat_lit 52) (lgG m))))) (nrG m pl)
def dfG (s m t n pl : Nat) : Nat := cond (Nat.beq s t) (wdG s (nsG (Nat.add m n) pl)) (cond (Nat.beq m n) (nat_lit 0) (cond (Nat.ble (Nat.succ m) n) (wdG t (nsG (Nat.sub n m) pl)) (wdG s (nsG (Nat.sub m n) pl))))
def suG (x s y : Nat) : Nat := cond (Nat.ble (exG y) (exG x)) (dfG (sgG x) (Nat.mul (maG x) (Nat.pow (nat_lit 2) (Nat.sub (exG x) (exG y)))) s (maG y) (Nat.add (exG y) (nat_lit 2925))) (dfG (sgG x) (maG x) s (Nat.mul (maG y) (Nat.pow (nat_lit 2) (Nat.sub (exG y) (exG x)))) (Nat.add (exG x) (nat_lit 2925)))
def quMG (m n : Nat) : Nat := Nat.add (Nat.mul (nat_lit 2) (Nat.div (Nat.mul m (nat_lit 18014398509481984)) n)) (cond (Nat.beq (Nat.mod (Nat.mul m (nat_lit 18014398509481984)) n) (nat_lit 0)) (nat_lit 0) (nat_lit 1))
def mulG (x y : Nat) : Nat := cond (and (okG x) (okG y)) (wdG (Nat.mod (Nat.add (sgG x) (sgG y)) (nat_lit 2)) (nrG (Nat.mul (maG x) (maG y)) (Nat.add (Nat.add (exG x) (exG y)) (nat_lit 1850)))) (fop .mul .f64 x y)
def quoG (x y : Nat) : Nat := cond (and (okG x) (okG y)) (wdG (Nat.mod (Nat.add (sgG x) (sgG y)) (nat_lit 2)) (nrG (quMG (maG x) (maG y)) (Nat.sub (Nat.add (exG x) (nat_lit 3945)) (exG y)))) (fop .quo .f64 x y)
def addG (x y : Nat) : Nat := cond (and (okG x) (okG y)) (suG x (sgG y) y) (fop .add .f64 x y)
def subG (x y : Nat) : Nat := cond (and (okG x) (okG y)) (suG x (Nat.sub (nat_lit 1) (sgG y)) y) (fop .sub .f64 x y)
def nwG (n r : Nat) : Nat := Nat.div (Nat.add r (Nat.div n r)) (nat_lit 2)
def rtCG (n c : Nat) : Nat := cond (and (Nat.ble (Nat.mul c c) n) (Nat.ble (Nat.succ n) (Nat.mul (Nat.succ c) (Nat.succ c)))) c (rtC n c)
def rtG (n l : Nat) : Nat := rtCG n (nwG n (nwG n (nwG n (nwG n (nwG n (nwG n (Nat.add (Nat.pow (nat_lit 2) l) (Nat.div (Nat.pow (nat_lit 2) l) (nat_lit 4)))))))))
def sqNG (n r : Nat) : Nat := Nat.add (Nat.mul (nat_lit 2) r) (cond (Nat.beq (Nat.mul r r) n) (nat_lit 0) (nat_lit 1))
def sqMG (n : Nat) : Nat := sqNG n (rtG n (Nat.div (lgG n) (nat_lit 2)))
def sqrG (x b : Nat) : Nat := nrG (sqMG (Nat.mul (maG x) (Nat.pow (nat_lit 2) (Nat.add (nat_lit 56) b)))) (Nat.div (Nat.add (Nat.sub (exG x) b) (nat_lit 6867)) (nat_lit 2))
def sqrtG (x : Nat) : Nat := cond (and (okG x) (Nat.beq (sgG x) (nat_lit 0))) (sqrG x (Nat.mod (Nat.succ (exG x)) (nat_lit 2))) (fsqrt x)
theorem lgG_eq (n : Nat) : lgG n = n.log2 := lgC_eq n _
theorem lgG_F (n : Nat) : lgG n = lgF n := by rw [lgG_eq, lgF_eq]
theorem exG_F (x : Nat) : exG x = exF x := rfl
theorem maG_F (x : Nat) : maG x = maF x := rfl
theorem sgG_F (x : Nat) : sgG x = sgF x := rfl
theorem okG_F (x : Nat) : okG x = okF x := rfl
theorem wdG_F (s r : Nat) : wdG s r = wdF s r := rfl
theorem nrLG_F (m pl l d : Nat) : nrLG m pl l d = nrL m pl l d := rfl
theorem nrG_F (m pl : Nat) : nrG m pl = nrF m pl := by
  unfold nrG nrF; rw [nrLG_F, lgG_F]; rfl
theorem nsG_F (m pl : Nat) : nsG m pl = nsF m pl := by
  unfold nsG nsF; rw [nrG_F, lgG_F]; rfl
theorem dfG_F (s m t n pl : Nat) : dfG s m t n pl = dfF s m t n pl := by
  unfold dfG dfF; simp only [nsG_F, wdG_F]; rfl
theorem suG_F (x s y : Nat) : suG x s y = suF x s y := by
  unfold suG suF; simp only [dfG_F, exG_F, maG_F, sgG_F]; rfl
theorem p54 : (2 : Nat) ^ 54 = nat_lit 18014398509481984 := by decide
theorem quMG_F (m n : Nat) : quMG m n = quoM m n := by
  unfold quMG quoM; rw [p54]; rfl
theorem mulG_eq (x y : Nat) : fop .mul .f64 x y = mulG x y := by
  rw [mulF_eq]; unfold mulG mulF; simp only [nrG_F, okG_F, exG_F, maG_F, sgG_F, wdG_F]; rfl
theorem quoG_eq (x y : Nat) : fop .quo .f64 x y = quoG x y := by
  rw [quoF_eq]; unfold quoG quoF; simp only [nrG_F, okG_F, exG_F, maG_F, sgG_F, wdG_F, quMG_F]; rfl
theorem addG_eq (x y : Nat) : fop .add .f64 x y = addG x y := by
  rw [addF_eq]; unfold addG addF; simp only [suG_F, okG_F, sgG_F]
theorem subG_eq (x y : Nat) : fop .sub .f64 x y = subG x y := by
  rw [subF_eq]; unfold subG subF; simp only [suG_F, okG_F, sgG_F]; rfl
theorem rtCG_eq (n c : Nat) : rtN n = rtCG n c := by
  rw [← rtN_eq, rtC_eq n c]
  unfold rtCG
  cases h : and (Nat.ble (Nat.mul c c) n) (Nat.ble (Nat.succ n) (Nat.mul (Nat.succ c) (Nat.succ c))) with
  | false => rfl
  | true =>
    have h' : (Nat.ble (c * c) n && Nat.blt n ((c + 1) * (c + 1))) = true := h
    unfold rtC; rw [h', cond_true, cond_true]
theorem sqMG_F (m b : Nat) : sqMG (Nat.mul m (Nat.pow (nat_lit 2) (Nat.add (nat_lit 56) b))) = sqM m b := by
  unfold sqMG sqM rtG
  rw [← rtCG_eq]
  rfl
theorem sqrtG_eq (x : Nat) : fsqrt x = sqrtG x := by
  rw [sqrtF_eq]; unfold sqrtG sqrtF sqrG; simp only [nrG_F, okG_F, exG_F, maG_F, sgG_F, sqMG_F]; rfl

/-! 32-bit floats. -/
theorem f32_lp : FloatKind.f32.format.leastPlace = -149 := by decide
theorem f32_fb : FloatKind.f32.format.fractionBits = 23 := rfl
theorem f32_bi : FloatKind.f32.format.binade = 8388608 := by decide
theorem f32_sw : FloatKind.f32.format.signWeight = 2147483648 := by decide +kernel
theorem f32_ir : FloatKind.f32.format.infRung = 255 * 8388608 := by decide +kernel
def nrLH (m pl l d : Nat) : Nat := Nat.add (Nat.mul (Nat.sub (Nat.add pl l) (nat_lit 3874)) (nat_lit 8388608)) (Nat.div (Nat.add (Nat.sub (Nat.add (Nat.mul (nat_lit 2) m) d) (nat_lit 1)) (Nat.mod (Nat.div m d) (nat_lit 2))) (Nat.mul (nat_lit 2) d))
def nrH (m pl : Nat) : Nat := nrLH m pl (lgG m) (Nat.pow (nat_lit 2) (Nat.sub (lgG m) (nat_lit 23)))
def nsH (m pl : Nat) : Nat := cond (Nat.ble (Nat.succ m) (nat_lit 8388608)) (Nat.add (Nat.mul (Nat.sub (Nat.add pl (lgG m)) (nat_lit 3874)) (nat_lit 8388608)) (Nat.mul m (Nat.pow (nat_lit 2) (Nat.sub (nat_lit 23) (lgG m))))) (nrH m pl)
theorem near_H (neg : Bool) (mag pl : Nat) (h0 : mag ≠ 0) (h1 : 3874 ≤ pl + mag.log2) (h2 : pl + mag.log2 ≤ 4120) :
    FloatKind.f32.format.nearest neg mag ((pl : Int) - 4000) = FloatKind.f32.format.word neg (nsH mag pl) ∧ nsH mag pl < 255 * 8388608 := by
  unfold nsH nrH nrLH
  rw [lgG_eq]
  by_cases hm : mag < 8388608
  · have hb : Nat.ble (Nat.succ mag) (nat_lit 8388608) = true := by rw [Nat.ble_eq]; exact hm
    rw [hb, cond_true]
    show _ = FloatKind.f32.format.word neg ((pl + mag.log2 - 3874) * 8388608 + mag * 2 ^ (23 - mag.log2)) ∧ (pl + mag.log2 - 3874) * 8388608 + mag * 2 ^ (23 - mag.log2) < _
    have hL : mag.log2 ≤ 22 := log2_of_lt hm
    have hk : mag * 2 ^ (23 - mag.log2) < 2 * 8388608 := by
      have : mag < 2 ^ (mag.log2 + 1) := Nat.lt_log2_self
      have h3 : mag * 2 ^ (23 - mag.log2) < 2 ^ (mag.log2 + 1) * 2 ^ (23 - mag.log2) := Nat.mul_lt_mul_of_pos_right this (Nat.two_pow_pos _)
      rw [← Nat.pow_add, show mag.log2 + 1 + (23 - mag.log2) = 24 by omega] at h3
      exact h3
    unfold Format.nearest
    rw [if_neg h0, f32_lp, f32_bi, f32_ir, f32_fb]
    have hmax : max ((pl : Int) - 4000 + mag.log2 - (23 : Nat)) (-149) = (pl : Int) - 4000 + mag.log2 - 23 := Int.max_eq_left (by omega)
    dsimp only
    rw [hmax]
    have e1 : ((pl : Int) - 4000 - ((pl : Int) - 4000 + mag.log2 - 23)).toNat = 23 - mag.log2 := by omega
    have e2 : ((pl : Int) - 4000 + mag.log2 - 23 - ((pl : Int) - 4000)).toNat = 0 := by omega
    have e3 : ((pl : Int) - 4000 + mag.log2 - 23 - -149).toNat = pl + mag.log2 - 3874 := by omega
    have ec : ∀ n : Nat, Toward.even.cut neg n 0 = n := by
      intro n
      rw [rne_eq _ _ _ (by omega), Nat.pow_zero, Nat.div_one]
      omega
    rw [e1, e2, e3, ec, Nat.shiftLeft_eq]
    generalize mag * 2 ^ (23 - mag.log2) = c at *
    obtain ⟨u, hu⟩ : ∃ u, u = pl + mag.log2 - 3874 := ⟨_, rfl⟩
    rw [← hu]
    have hu2 : u ≤ 246 := by omega
    clear hu hmax e1 e2 e3 hb hm
    exact ⟨congrArg _ (Nat.min_eq_left (by omega)), by omega⟩
  · have hb : Nat.ble (Nat.succ mag) (nat_lit 8388608) = false := by
      rw [Bool.eq_false_iff]; intro h; rw [Nat.ble_eq] at h; exact hm h
    rw [hb, cond_false]
    have hL : 23 ≤ mag.log2 := (Nat.le_log2 (by omega)).2 (by omega)
    show _ = FloatKind.f32.format.word neg ((pl + mag.log2 - 3874) * 8388608 + (2 * mag + 2 ^ (mag.log2 - 23) - 1 + mag / 2 ^ (mag.log2 - 23) % 2) / (2 * 2 ^ (mag.log2 - 23))) ∧ (pl + mag.log2 - 3874) * 8388608 + (2 * mag + 2 ^ (mag.log2 - 23) - 1 + mag / 2 ^ (mag.log2 - 23) % 2) / (2 * 2 ^ (mag.log2 - 23)) < _
    unfold Format.nearest
    rw [if_neg (by omega), f32_lp, f32_bi, f32_ir, f32_fb]
    have hmax : max ((pl : Int) - 4000 + mag.log2 - (23 : Nat)) (-149) = (pl : Int) - 4000 + mag.log2 - 23 := Int.max_eq_left (by omega)
    dsimp only
    rw [hmax]
    have e1 : ((pl : Int) - 4000 - ((pl : Int) - 4000 + mag.log2 - 23)).toNat = 0 := by omega
    have e2 : ((pl : Int) - 4000 + mag.log2 - 23 - ((pl : Int) - 4000)).toNat = mag.log2 - 23 := by omega
    have e3 : ((pl : Int) - 4000 + mag.log2 - 23 - -149).toNat = pl + mag.log2 - 3874 := by omega
    rw [e1, e2, e3, Nat.shiftLeft_zero, rne_eq _ _ _ (by omega)]
    have hk : (2 * mag + 2 ^ (mag.log2 - 23) - 1 + mag / 2 ^ (mag.log2 - 23) % 2) / (2 * 2 ^ (mag.log2 - 23)) ≤ 2 * 8388608 := by
      rw [← rne_eq _ _ neg (by omega)]
      refine cut_le (by omega) ?_
      have : mag < 2 ^ (mag.log2 + 1) := Nat.lt_log2_self
      have e : 2 ^ (mag.log2 + 1) = 2 * 8388608 * 2 ^ (mag.log2 - 23) := by
        rw [show 2 * 8388608 = 2 ^ 24 by decide, ← Nat.pow_add]; congr 1; omega
      omega
    generalize (2 * mag + 2 ^ (mag.log2 - 23) - 1 + mag / 2 ^ (mag.log2 - 23) % 2) / (2 * 2 ^ (mag.log2 - 23)) = c at *
    obtain ⟨u, hu⟩ : ∃ u, u = pl + mag.log2 - 3874 := ⟨_, rfl⟩
    rw [← hu]
    have hu2 : u ≤ 246 := by omega
    clear hu hmax e1 e2 e3
    exact ⟨congrArg _ (Nat.min_eq_left (by omega)), by omega⟩

def exH (x : Nat) : Nat := Nat.mod (Nat.div x (nat_lit 8388608)) (nat_lit 256)
def maH (x : Nat) : Nat := Nat.add (nat_lit 8388608) (Nat.mod x (nat_lit 8388608))
def sgH (x : Nat) : Nat := Nat.mod (Nat.div x (nat_lit 2147483648)) (nat_lit 2)
def okH (x : Nat) : Bool := and (Nat.ble (nat_lit 70) (exH x)) (Nat.ble (exH x) (nat_lit 180))
def wdH (s r : Nat) : Nat := Nat.add (Nat.mul s (nat_lit 2147483648)) r
theorem read_H {x : Nat} (h : okH x = true) : FloatKind.f32.format.read x = .number (sgH x == 1) (maH x) ((exH x : Int) - 150) ∧ 70 ≤ exH x ∧ exH x ≤ 180 := by
  unfold okH at h
  have h := (Bool.and_eq_true _ _).mp h
  have h1 : 70 ≤ exH x := Nat.le_of_ble_eq_true h.1
  have h2 : exH x ≤ 180 := Nat.le_of_ble_eq_true h.2
  refine ⟨?_, h1, h2⟩
  unfold Format.read
  rw [f32_lp, f32_bi, f32_ir, f32_sw]
  dsimp only
  have e0 : exH x = x / 8388608 % 256 := rfl
  have e : x % 2147483648 / 8388608 = exH x := by
    rw [e0, show (2147483648 : Nat) = 8388608 * 256 from rfl, Nat.mod_mul_right_div_self]
  have e2 : x % 2147483648 % 8388608 = x % 8388608 := by
    rw [show (2147483648 : Nat) = 8388608 * 256 from rfl]; exact Nat.mod_mul_right_mod ..
  have hd := Nat.div_add_mod (x % 2147483648) 8388608
  have hml := Nat.mod_lt (x % 2147483648) (show 0 < 8388608 by omega)
  rw [e] at hd
  rw [if_neg (by omega), if_pos (by omega), e, e2]
  show Datum.number _ (8388608 + x % 8388608) _ = Datum.number (x / 2147483648 % 2 == 1) (8388608 + x % 8388608) _
  congr 1
  omega
theorem word_H (b : Bool) (r : Nat) (s : Nat) (hs : s = b.toNat) : FloatKind.f32.format.word b r = wdH s r := by
  show _ = s * 2147483648 + r
  unfold Format.word
  rw [f32_sw, hs]
  cases b <;> simp
theorem sgH_lt (x : Nat) : sgH x = (sgH x == 1).toNat := by
  have : sgH x < 2 := Nat.mod_lt _ (by decide)
  rcases (by omega : sgH x = 0 ∨ sgH x = 1) with h | h <;> rw [h] <;> rfl
theorem maH_lo (x : Nat) : 8388608 ≤ maH x := by
  show _ ≤ 8388608 + x % 8388608; omega
theorem maH_hi (x : Nat) : maH x < 2 * 8388608 := by
  show 8388608 + x % 8388608 < _
  have := Nat.mod_lt x (show 0 < 8388608 by omega)
  omega
theorem maH_log (x : Nat) : (maH x).log2 = 23 := by
  have a := maH_lo x
  have c := maH_hi x
  exact log2_eq (k := 23) a c
theorem fin_nan {k : FloatKind} {x : Nat} {s : Bool} {m : Nat} {e : Int} (h : k.format.read x = .number s m e) : nanB k x = false := by
  unfold nanB FloatKind.decode; rw [h]; rfl
theorem word_fin (k : FloatKind) (s : Bool) {r : Nat} (h : r < k.format.infRung) : (k.format.read (k.format.word s r)).isInfinity = false := by
  have hlt : r < k.format.signWeight := Nat.lt_trans h k.format.infRung_lt
  obtain ⟨m', e', g, _⟩ := read_small k.format (w := k.format.word s r) (by rw [word_mod k.format s hlt]; exact h)
  rw [g]; rfl
theorem wid_aux (c u : Nat) (h1 : c < 2 * 4503599627370496) (h2 : u ≤ 1075 * 4503599627370496) : u + c < 2047 * 4503599627370496 := by omega
/-- Conversions. -/
def widG (x : Nat) : Nat := cond (okH x) (wdG (sgH x) (nsG (maH x) (Nat.add (exH x) (nat_lit 3850)))) (wid x)
theorem widG_eq (x : Nat) : wid x = widG x := by
  unfold widG
  cases hc : okH x with
  | false => rfl
  | true =>
    obtain ⟨hx, x1, x2⟩ := read_H hc
    have a := maH_lo x
    have lg := maH_log x
    have hn := near_S (sgH x == 1) (maH x) (exH x + 3850) (by omega) (by omega) (by omega)
    have ep : (((exH x + 3850 : Nat) : Int) - 4000) = (exH x : Int) - 150 := by omega
    rw [ep] at hn
    unfold wid fcvt
    rw [fin_nan hx, if_neg (by decide)]
    unfold floatToFloatBits
    rw [if_neg (by decide), show FloatKind.f32.decode x = _ from hx]
    dsimp only
    have he : FloatKind.f64.encode (.number (sgH x == 1) (maH x) ((exH x : Int) - 150)) = FloatKind.f64.format.word (sgH x == 1) (nsF (maH x) (exH x + 3850)) := hn
    have hs : nsF (maH x) (exH x + 3850) < FloatKind.f64.format.infRung := by
      have hm := maH_hi x
      have hb : Nat.blt (maH x) 4503599627370496 = true := by rw [Nat.blt_eq]; omega
      have h1 : maH x * 2 ^ (52 - 23) < 2 * 8388608 * 2 ^ (52 - 23) := Nat.mul_lt_mul_of_pos_right hm (Nat.two_pow_pos _)
      have e : 2 * 8388608 * 2 ^ (52 - 23) = 2 * 4503599627370496 := by decide
      rw [e] at h1
      have h2 : (exH x + 3850 + 23 - 2978) * 4503599627370496 ≤ 1075 * 4503599627370496 := Nat.mul_le_mul_right _ (by omega)
      unfold nsF
      rw [hb, cond_true, lgF_eq, lg, f64_ir]
      exact wid_aux _ _ h1 h2
    rw [he, show (FloatKind.f64.decode (FloatKind.f64.format.word (sgH x == 1) (nsF (maH x) (exH x + 3850)))).isInfinity = false from word_fin .f64 _ hs]
    rw [cond_true, ← show nsG (maH x) (Nat.add (exH x) (nat_lit 3850)) = nsF (maH x) (exH x + 3850) from nsG_F _ _]
    simp only [Bool.false_eq_true, if_false, Option.getD_some]
    exact word_F _ _ _ (sgH_lt x)
def cvt32 (x : Nat) : Nat := (fcvt .f64 .f32 x).getD 0
def okC (x : Nat) : Bool := and (Nat.ble (nat_lit 960) (exG x)) (Nat.ble (exG x) (nat_lit 1080))
def cvtQ (x : Nat) : Nat := cond (okC x) (wdH (sgG x) (nsH (maG x) (Nat.add (exG x) (nat_lit 2925)))) (cvt32 x)
theorem okC_okF {x : Nat} (h : okC x = true) : okF x = true ∧ 960 ≤ exF x ∧ exF x ≤ 1080 := by
  have h := (Bool.and_eq_true _ _).mp h
  have h1 : 960 ≤ exF x := Nat.le_of_ble_eq_true h.1
  have h2 : exF x ≤ 1080 := Nat.le_of_ble_eq_true h.2
  refine ⟨?_, h1, h2⟩
  unfold okF
  rw [Bool.and_eq_true, Nat.ble_eq, Nat.ble_eq]
  omega
theorem fcvt_C {x : Nat} (h : okC x = true) : fcvt .f64 .f32 x = some (wdH (sgG x) (nsH (maG x) (Nat.add (exG x) (nat_lit 2925)))) := by
  obtain ⟨h0, x1, x2⟩ := okC_okF h
  obtain ⟨hx, _, _⟩ := read_F h0
  have a := maF_lo x
  have lg := maF_log x
  obtain ⟨hn, hs⟩ := near_H (sgF x == 1) (maF x) (exF x + 2925) (by omega) (by omega) (by omega)
  have ep : (((exF x + 2925 : Nat) : Int) - 4000) = (exF x : Int) - 1075 := by omega
  rw [ep] at hn
  unfold fcvt
  rw [fin_nan hx, if_neg (by decide)]
  unfold floatToFloatBits
  rw [if_neg (by decide), show FloatKind.f64.decode x = _ from hx]
  dsimp only
  have he : FloatKind.f32.encode (.number (sgF x == 1) (maF x) ((exF x : Int) - 1075)) = FloatKind.f32.format.word (sgF x == 1) (nsH (maF x) (exF x + 2925)) := hn
  rw [he, show (FloatKind.f32.decode (FloatKind.f32.format.word (sgF x == 1) (nsH (maF x) (exF x + 2925)))).isInfinity = false from word_fin .f32 _ (by rw [f32_ir]; exact hs)]
  simp only [Bool.false_eq_true, if_false]
  exact congrArg some (word_H _ _ _ (sgF_lt x))
theorem cvtQ_eq (x : Nat) : cvt32 x = cvtQ x := by
  unfold cvtQ
  cases hc : okC x with
  | false => rfl
  | true => rw [cond_true]; unfold cvt32; rw [fcvt_C hc]; rfl
theorem near_H1 (neg : Bool) (mag pl : Nat) (h0 : mag ≠ 0) (h1 : 3874 ≤ pl + mag.log2) (h2 : pl + mag.log2 ≤ 4120) : FloatKind.f32.format.nearest neg mag ((pl : Int) - 4000) = FloatKind.f32.format.word neg (nsH mag pl) := (near_H neg mag pl h0 h1 h2).1
def dfH (s m t n pl : Nat) : Nat := cond (Nat.beq s t) (wdH s (nsH (Nat.add m n) pl)) (cond (Nat.beq m n) (nat_lit 0) (cond (Nat.ble (Nat.succ m) n) (wdH t (nsH (Nat.sub n m) pl)) (wdH s (nsH (Nat.sub m n) pl))))
theorem dfH_eq (s t : Bool) (m n pl : Nat) (hm : 0 < m) (hn : 0 < n) (h1 : 3874 ≤ pl) (hl : (m + n).log2 + pl ≤ 4120) :
    FloatKind.f32.format.nearest (if signed s m 0 + signed t n 0 = 0 then s && t else decide (signed s m 0 + signed t n 0 < 0)) (signed s m 0 + signed t n 0).natAbs ((pl : Int) - 4000) = dfH s.toNat m t.toNat n pl := by
  have lg : ∀ k, k ≤ m + n → k.log2 + pl ≤ 4120 := by
    intro k hk
    have : k.log2 ≤ (m + n).log2 := by
      by_cases k0 : k = 0
      · subst k0; simp
      · exact (Nat.le_log2 (by omega)).2 (Nat.le_trans (Nat.log2_self_le k0) hk)
    omega
  show _ = bif Nat.beq s.toNat t.toNat then wdH s.toNat (nsH (m + n) pl) else bif Nat.beq m n then 0 else bif Nat.blt m n then wdH t.toNat (nsH (n - m) pl) else wdH s.toNat (nsH (m - n) pl)
  unfold signed
  simp only [Nat.shiftLeft_zero]
  cases s <;> cases t
  · simp only [Bool.false_eq_true, if_false, Bool.toNat_false, Nat.beq_refl, cond_true]
    rw [if_neg (by omega), show ((m : Int) + n).natAbs = m + n by omega, show decide ((m : Int) + n < 0) = false by simp; omega, near_H1 _ _ _ (by omega) (by omega) (by have := lg (m + n) (by omega); omega)]
    exact word_H _ _ _ rfl
  · simp only [Bool.false_eq_true, if_false, if_true, Bool.toNat_false, Bool.toNat_true, show Nat.beq 0 1 = false from rfl, cond_false]
    by_cases c1 : m = n
    · subst c1
      rw [if_pos (by omega), show ((m : Int) + -m).natAbs = 0 by omega]
      simp only [Nat.beq_refl, cond_true]
      rfl
    · have hb : Nat.beq m n = false := by rw [Bool.eq_false_iff]; intro h; exact c1 (Nat.eq_of_beq_eq_true h)
      rw [if_neg (by omega), hb, cond_false]
      by_cases c2 : m < n
      · rw [show Nat.blt m n = true by rw [Nat.blt_eq]; exact c2, cond_true, show ((m : Int) + -n).natAbs = n - m by omega, show decide ((m : Int) + -n < 0) = true by simp; omega, near_H1 _ _ _ (by omega) (by omega) (by have := lg (n - m) (by omega); omega)]
        exact word_H _ _ _ rfl
      · rw [show Nat.blt m n = false by rw [Bool.eq_false_iff]; intro h; rw [Nat.blt_eq] at h; exact c2 h, cond_false, show ((m : Int) + -n).natAbs = m - n by omega, show decide ((m : Int) + -n < 0) = false by simp; omega, near_H1 _ _ _ (by omega) (by omega) (by have := lg (m - n) (by omega); omega)]
        exact word_H _ _ _ rfl
  · simp only [Bool.false_eq_true, if_false, if_true, Bool.toNat_false, Bool.toNat_true, show Nat.beq 1 0 = false from rfl, cond_false]
    by_cases c1 : m = n
    · subst c1
      rw [if_pos (by omega), show (-(m : Int) + m).natAbs = 0 by omega]
      simp only [Nat.beq_refl, cond_true]
      rfl
    · have hb : Nat.beq m n = false := by rw [Bool.eq_false_iff]; intro h; exact c1 (Nat.eq_of_beq_eq_true h)
      rw [if_neg (by omega), hb, cond_false]
      by_cases c2 : m < n
      · rw [show Nat.blt m n = true by rw [Nat.blt_eq]; exact c2, cond_true, show (-(m : Int) + n).natAbs = n - m by omega, show decide (-(m : Int) + n < 0) = false by simp; omega, near_H1 _ _ _ (by omega) (by omega) (by have := lg (n - m) (by omega); omega)]
        exact word_H _ _ _ rfl
      · rw [show Nat.blt m n = false by rw [Bool.eq_false_iff]; intro h; rw [Nat.blt_eq] at h; exact c2 h, cond_false, show (-(m : Int) + n).natAbs = m - n by omega, show decide (-(m : Int) + n < 0) = true by simp; omega, near_H1 _ _ _ (by omega) (by omega) (by have := lg (m - n) (by omega); omega)]
        exact word_H _ _ _ rfl
  · simp only [if_true, Bool.toNat_true, Nat.beq_refl, cond_true]
    rw [if_neg (by omega), show (-(m : Int) + -n).natAbs = m + n by omega, show decide (-(m : Int) + -n < 0) = true by simp; omega, near_H1 _ _ _ (by omega) (by omega) (by have := lg (m + n) (by omega); omega)]
    exact word_H _ _ _ rfl
def suH (x s y : Nat) : Nat := cond (Nat.ble (exH y) (exH x)) (dfH (sgH x) (Nat.mul (maH x) (Nat.pow (nat_lit 2) (Nat.sub (exH x) (exH y)))) s (maH y) (Nat.add (exH y) (nat_lit 3850))) (dfH (sgH x) (maH x) s (Nat.mul (maH y) (Nat.pow (nat_lit 2) (Nat.sub (exH y) (exH x)))) (Nat.add (exH x) (nat_lit 3850)))
theorem suH_eq (x y : Nat) (t : Bool) (hx : 70 ≤ exH x) (hx' : exH x ≤ 180) (hy : 70 ≤ exH y) (hy' : exH y ≤ 180) :
    ((Datum.sum (.number (sgH x == 1) (maH x) ((exH x : Int) - 150)) (.number t (maH y) ((exH y : Int) - 150))).map FloatKind.f32.format.write).getD (qnan .f32) = suH x t.toNat y := by
  show _ = bif Nat.ble (exH y) (exH x) then dfH (sgH x) (maH x * 2 ^ (exH x - exH y)) t.toNat (maH y) (exH y + 3850) else dfH (sgH x) (maH x) t.toNat (maH y * 2 ^ (exH y - exH x)) (exH x + 3850)
  unfold Datum.sum
  dsimp only
  rw [num_getD, signed_up, signed_up _ (maH y)]
  have a := maH_lo x
  have b := maH_lo y
  have c := maH_hi x
  have d := maH_hi y
  have lgm : ∀ (m k j : Nat), m < 2 * 8388608 → j < 2 * 8388608 → (m * 2 ^ k + j).log2 ≤ k + 25 := by
    intro m k j hm hj
    refine log2_of_lt ?_
    have h1 : m * 2 ^ k ≤ (2 * 8388608) * 2 ^ k := Nat.mul_le_mul_right _ (by omega)
    have h2 : 2 ^ (k + 25 + 1) = (8 * 8388608) * 2 ^ k := by
      rw [show k + 25 + 1 = 26 + k by omega, Nat.pow_add, show (2 : Nat) ^ 26 = 8 * 8388608 by decide]
    have h3 : 1 ≤ 2 ^ k := Nat.two_pow_pos k
    have h4 : (2 * 8388608) * 1 ≤ (2 * 8388608) * 2 ^ k := Nat.mul_le_mul_left _ h3
    rw [h2]
    generalize 2 ^ k = K at *
    omega
  by_cases h : exH y ≤ exH x
  · rw [show Nat.ble (exH y) (exH x) = true by rw [Nat.ble_eq]; exact h, cond_true]
    rw [show min ((exH x : Int) - 150) ((exH y : Int) - 150) = (exH y : Int) - 150 by omega]
    rw [show ((exH x : Int) - 150 - ((exH y : Int) - 150)).toNat = exH x - exH y by omega, show ((exH y : Int) - 150 - ((exH y : Int) - 150)).toNat = 0 by omega, Nat.pow_zero, Nat.mul_one]
    rw [show (exH y : Int) - 150 = ((exH y + 3850 : Nat) : Int) - 4000 by omega]
    have l := lgm (maH x) (exH x - exH y) (maH y) c d
    rw [dfH_eq _ _ _ _ _ (Nat.mul_pos (by omega) (Nat.two_pow_pos _)) (by omega) (by omega) (by omega), ← sgH_lt]
  · rw [show Nat.ble (exH y) (exH x) = false by rw [Bool.eq_false_iff]; intro h'; rw [Nat.ble_eq] at h'; exact h h', cond_false]
    rw [show min ((exH x : Int) - 150) ((exH y : Int) - 150) = (exH x : Int) - 150 by omega]
    rw [show ((exH y : Int) - 150 - ((exH x : Int) - 150)).toNat = exH y - exH x by omega, show ((exH x : Int) - 150 - ((exH x : Int) - 150)).toNat = 0 by omega, Nat.pow_zero, Nat.mul_one]
    rw [show (exH x : Int) - 150 = ((exH x + 3850 : Nat) : Int) - 4000 by omega]
    have l := lgm (maH y) (exH y - exH x) (maH x) d c
    rw [dfH_eq _ _ _ _ _ (by omega) (Nat.mul_pos (by omega) (Nat.two_pow_pos _)) (by omega) (by rw [Nat.add_comm (maH x)]; omega), ← sgH_lt]

def addH (x y : Nat) : Nat := cond (and (okH x) (okH y)) (suH x (sgH y) y) (fop .add .f32 x y)
theorem addH_eq (x y : Nat) : fop .add .f32 x y = addH x y := by
  unfold addH
  cases hc : and (okH x) (okH y) with
  | false => rfl
  | true =>
    have hc := (Bool.and_eq_true _ _).mp hc
    obtain ⟨hx, x1, x2⟩ := read_H hc.1
    obtain ⟨hy, y1, y2⟩ := read_H hc.2
    show (Option.map _ (Datum.sum (FloatKind.f32.format.read x) (FloatKind.f32.format.read y))).getD _ = _
    rw [hx, hy, suH_eq x y _ x1 x2 y1 y2, cond_true, ← sgH_lt]
def mulH (x y : Nat) : Nat := cond (and (okH x) (okH y)) (wdH (Nat.mod (Nat.add (sgH x) (sgH y)) (nat_lit 2)) (nsH (Nat.mul (maH x) (maH y)) (Nat.add (Nat.add (exH x) (exH y)) (nat_lit 3700)))) (fop .mul .f32 x y)
theorem mulH_eq (x y : Nat) : fop .mul .f32 x y = mulH x y := by
  unfold mulH
  cases hc : and (okH x) (okH y) with
  | false => rfl
  | true =>
    have hc := (Bool.and_eq_true _ _).mp hc
    obtain ⟨hx, x1, x2⟩ := read_H hc.1
    obtain ⟨hy, y1, y2⟩ := read_H hc.2
    have a := maH_lo x
    have b := maH_lo y
    have c := maH_hi x
    have d := maH_hi y
    have l1 : 8388608 * 8388608 ≤ maH x * maH y := Nat.mul_le_mul a b
    have l2 : maH x * maH y < 2 ^ 48 := by
      have h : maH x * maH y < (2 * 8388608) * (2 * 8388608) := Nat.mul_lt_mul'' c d
      have e : (2 * 8388608) * (2 * 8388608) = 2 ^ 48 := by decide
      rw [← e]; exact h
    show (Option.map _ (Datum.product (FloatKind.f32.format.read x) (FloatKind.f32.format.read y))).getD _ = _
    rw [hx, hy]
    have ep : (exH x : Int) - 150 + ((exH y : Int) - 150) = ((exH x + exH y + 3700 : Nat) : Int) - 4000 := by omega
    have hp : Datum.product (.number (sgH x == 1) (maH x) ((exH x : Int) - 150)) (.number (sgH y == 1) (maH y) ((exH y : Int) - 150)) = some (.number ((sgH x == 1) ^^ (sgH y == 1)) (maH x * maH y) ((exH x : Int) - 150 + ((exH y : Int) - 150))) := rfl
    rw [hp, num_getD, ep]
    have k1 : 46 ≤ (maH x * maH y).log2 := (Nat.le_log2 (fun e => by rw [e] at l1; exact absurd l1 (by decide))).2 l1
    have k2 : (maH x * maH y).log2 ≤ 47 := log2_of_lt l2
    have k0 : maH x * maH y ≠ 0 := fun e => by rw [e] at l1; exact absurd l1 (by decide)
    refine (near_H1 _ _ _ k0 (by omega) (by omega)).trans ?_
    refine word_H _ _ _ ?_
    show (sgH x + sgH y) % 2 = _
    have s1 : sgH x < 2 := Nat.mod_lt _ (by decide)
    have s2 : sgH y < 2 := Nat.mod_lt _ (by decide)
    rcases (by omega : sgH x = 0 ∨ sgH x = 1) with h | h <;> rcases (by omega : sgH y = 0 ∨ sgH y = 1) with h' | h' <;> rw [h, h'] <;> rfl

/-- Nothing added to a number. -/
theorem sum_none (s t : Bool) {m : Nat} {i j : Int} (hm : 0 < m) (hj : j ≤ i) : Datum.sum (.number s m i) (.number t 0 j) = some (.number s (m * 2 ^ (i - j).toNat) j) := by
  unfold Datum.sum
  dsimp only
  rw [Int.min_eq_right hj, signed_up, signed_up t, Nat.zero_mul]
  have h0 : signed t 0 0 = 0 := by cases t <;> rfl
  have hp : 0 < m * 2 ^ (i - j).toNat := Nat.mul_pos hm (Nat.two_pow_pos _)
  rw [h0, Int.add_zero]
  generalize m * 2 ^ (i - j).toNat = n at *
  unfold signed
  rw [Nat.shiftLeft_zero]
  cases s
  · simp only [Bool.false_eq_true, if_false]
    rw [if_neg (by omega), show decide ((n : Int) < 0) = false from decide_eq_false (by omega), Int.natAbs_natCast]
  · simp only [if_true]
    rw [if_neg (by omega), show decide (-(n : Int) < 0) = true from decide_eq_true (by omega), Int.natAbs_neg, Int.natAbs_natCast]
theorem self_F {x : Nat} (h : okF x = true) (hx : x < 18446744073709551616) : FloatKind.f64.format.nearest (sgF x == 1) (maF x) ((exF x : Int) - 1075) = x := by
  obtain ⟨_, x1, x2⟩ := read_F h
  have a := maF_lo x
  have lg := maF_log x
  have ep : (exF x : Int) - 1075 = ((exF x + 2925 : Nat) : Int) - 4000 := by omega
  rw [ep, near_F _ _ _ a (by omega) (by omega), word_F _ _ _ (sgF_lt x)]
  unfold nrF nrL
  rw [lgF_eq, lg]
  have c : (2 * maF x + 2 ^ (52 - 52) - 1 + maF x / 2 ^ (52 - 52) % 2) / (2 * 2 ^ (52 - 52)) = maF x := by
    rw [Nat.sub_self, Nat.pow_zero, Nat.div_one]; omega
  rw [c]
  show sgF x * 9223372036854775808 + ((exF x + 2925 + 52 - 2978) * 4503599627370496 + maF x) = x
  have d1 : sgF x = x / 9223372036854775808 := by unfold sgF; omega
  have d2 : exF x = x / 4503599627370496 % 2048 := rfl
  have d3 : maF x = 4503599627370496 + x % 4503599627370496 := rfl
  rw [d3, d1]
  omega
theorem self_H {x : Nat} (h : okH x = true) (hx : x < 4294967296) : FloatKind.f32.format.nearest (sgH x == 1) (maH x) ((exH x : Int) - 150) = x := by
  obtain ⟨_, x1, x2⟩ := read_H h
  have a := maH_lo x
  have lg := maH_log x
  have ep : (exH x : Int) - 150 = ((exH x + 3850 : Nat) : Int) - 4000 := by omega
  have nb : Nat.ble (Nat.succ (maH x)) (nat_lit 8388608) = false := by
    rw [Bool.eq_false_iff]; intro h'; rw [Nat.ble_eq] at h'
    exact absurd (Nat.lt_of_lt_of_le (Nat.lt_succ_self _) h') (Nat.not_lt.2 a)
  rw [ep, near_H1 _ _ _ (fun e => by rw [e] at a; exact absurd a (by decide)) (by omega) (by omega), word_H _ _ _ (sgH_lt x)]
  unfold nsH nrH nrLH
  rw [lgG_eq, lg, nb, cond_false]
  show sgH x * 2147483648 + ((exH x + 3850 + 23 - 3874) * 8388608 + (2 * maH x + 2 ^ (23 - 23) - 1 + maH x / 2 ^ (23 - 23) % 2) / (2 * 2 ^ (23 - 23))) = x
  have c : (2 * maH x + 2 ^ (23 - 23) - 1 + maH x / 2 ^ (23 - 23) % 2) / (2 * 2 ^ (23 - 23)) = maH x := by
    rw [Nat.sub_self, Nat.pow_zero, Nat.div_one]; omega
  rw [c]
  have d1 : sgH x = x / 2147483648 % 2 := rfl
  have d2 : exH x = x / 8388608 % 256 := rfl
  have d3 : maH x = 8388608 + x % 8388608 := rfl
  rw [d3, d1]
  omega
theorem sub_zeroF {x : Nat} (h : okF x = true) (hx : x < 18446744073709551616) : fop .sub .f64 x 0 = x := by
  obtain ⟨hr, x1, x2⟩ := read_F h
  show (Option.map _ (Datum.sum (FloatKind.f64.format.read x) (FloatKind.f64.format.read 0).opposite)).getD _ = _
  rw [hr, show (FloatKind.f64.format.read 0).opposite = .number true 0 (-1074) by decide +kernel, sum_none _ _ (Nat.lt_of_lt_of_le (by decide) (maF_lo x)) (by omega), num_getD, nearest_shift]
  rw [show -1074 + (((exF x : Int) - 1075 - -1074).toNat : Int) = (exF x : Int) - 1075 by omega]
  exact self_F h hx
theorem add_zeroH {x : Nat} (h : okH x = true) (hx : x < 4294967296) : fop .add .f32 x 0 = x := by
  obtain ⟨hr, x1, x2⟩ := read_H h
  show (Option.map _ (Datum.sum (FloatKind.f32.format.read x) (FloatKind.f32.format.read 0))).getD _ = _
  rw [hr, show FloatKind.f32.format.read 0 = .number false 0 (-149) by decide +kernel, sum_none _ _ (Nat.lt_of_lt_of_le (by decide) (maH_lo x)) (by omega), num_getD, nearest_shift]
  rw [show -149 + (((exH x : Int) - 150 - -149).toNat : Int) = (exH x : Int) - 150 by omega]
  exact self_H h hx
def sub0G (x : Nat) : Nat := cond (and (okF x) (Nat.ble (Nat.succ x) (nat_lit 18446744073709551616))) x (fop .sub .f64 x 0)
theorem sub0G_eq (x : Nat) : fop .sub .f64 x 0 = sub0G x := by
  unfold sub0G
  cases h : and (okF x) (Nat.ble (Nat.succ x) (nat_lit 18446744073709551616)) with
  | false => rfl
  | true =>
    have h := (Bool.and_eq_true _ _).mp h
    exact sub_zeroF h.1 (Nat.le_of_ble_eq_true h.2)
def add0G (x : Nat) : Nat := cond (and (okH x) (Nat.ble (Nat.succ x) (nat_lit 4294967296))) x (fop .add .f32 x 0)
theorem add0G_eq (x : Nat) : fop .add .f32 x 0 = add0G x := by
  unfold add0G
  cases h : and (okH x) (Nat.ble (Nat.succ x) (nat_lit 4294967296)) with
  | false => rfl
  | true =>
    have h := (Bool.and_eq_true _ _).mp h
    exact add_zeroH h.1 (Nat.le_of_ble_eq_true h.2)
end Go.Awp
