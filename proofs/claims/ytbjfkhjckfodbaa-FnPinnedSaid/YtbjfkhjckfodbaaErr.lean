/- Rounded numbers as rational numbers: how far they are from what they round.
Conditions: none. -/
import Derived.Test.YtbjfkhjckfodbaaOrd
import Derived.Test.YtbjfkhjckfodbaaNea
namespace Go.Awp
set_option linter.all false
open Go Ieee
set_option maxRecDepth 100000

/-! Powers of two. -/
def p2 (e : Int) : Rat := (2 : Rat) ^ e
theorem p2_pos (e : Int) : 0 < p2 e := Rat.zpow_pos (by decide)
theorem p2_add (a b : Int) : p2 (a + b) = p2 a * p2 b := Rat.zpow_add (by decide) a b
theorem p2_nat (n : Nat) : p2 (n : Int) = ((2 ^ n : Nat) : Rat) := by
  unfold p2
  rw [Rat.zpow_natCast, Rat.natCast_pow]
  rfl
theorem p2_zero : p2 0 = 1 := by unfold p2; exact Rat.zpow_zero _
theorem p2_le {a b : Int} (h : a ≤ b) : p2 a ≤ p2 b := by
  obtain ⟨n, hn⟩ : ∃ n : Nat, b = a + n := ⟨(b - a).toNat, by omega⟩
  rw [hn, p2_add, p2_nat]
  have h1 : ((1 : Nat) : Rat) ≤ ((2 ^ n : Nat) : Rat) := Rat.natCast_le_natCast.2 (Nat.two_pow_pos n)
  have h2 := Rat.mul_le_mul_of_nonneg_left h1 (Rat.le_of_lt (p2_pos a))
  have h3 : ((1 : Nat) : Rat) = 1 := rfl
  rw [h3] at h2
  grind

/-- A whole number cut. -/
theorem cut_err (neg : Bool) (n d : Nat) : 2 * (Toward.even.cut neg n d * 2 ^ d) ≤ 2 * n + 2 ^ d ∧ 2 * n ≤ 2 * (Toward.even.cut neg n d * 2 ^ d) + 2 ^ d := by
  unfold Toward.cut
  dsimp only
  rw [Nat.one_shiftLeft]
  have hlt : n < 2 ^ (n.log2 + 1) := Nat.lt_log2_self
  rcases Nat.le_total d (n.log2 + 2) with c | c
  · rw [Nat.min_eq_left c]
    have hp : 0 < 2 ^ d := Nat.two_pow_pos d
    generalize 2 ^ d = g at *
    have hn := Nat.div_add_mod n g
    have hl := Nat.mod_lt n hp
    generalize n / g = q at *
    generalize n % g = r at *
    have e : ∀ b : Nat, (q + b) * g = g * q + b * g := fun b => by rw [Nat.add_mul, Nat.mul_comm q]
    rw [e]
    by_cases c1 : g < 2 * r
    · simp [c1]; omega
    · by_cases c2 : g = 2 * r ∧ q % 2 = 1
      · have : (decide (g < 2 * r) || (g == 2 * r && q % 2 == 1)) = true := by simp [c2.1, c2.2]
        rw [this]
        simp
        omega
      · have : (decide (g < 2 * r) || (g == 2 * r && q % 2 == 1)) = false := by
          rw [Bool.or_eq_false_iff]
          refine ⟨decide_eq_false c1, ?_⟩
          rw [Bool.eq_false_iff]
          intro h
          simp at h
          exact c2 h
        rw [this]
        simp
        omega
  · rw [Nat.min_eq_right c]
    have h2 : 2 ^ (n.log2 + 2) = 2 * 2 ^ (n.log2 + 1) := by rw [Nat.pow_succ]; omega
    have h3 : 2 ^ (n.log2 + 2) ≤ 2 ^ d := Nat.pow_le_pow_right (by decide) c
    rw [h2] at h3 ⊢
    have hq : n / (2 * 2 ^ (n.log2 + 1)) = 0 := Nat.div_eq_of_lt (by omega)
    have hr : n % (2 * 2 ^ (n.log2 + 1)) = n := Nat.mod_eq_of_lt (by omega)
    rw [hq, hr]
    generalize 2 ^ (n.log2 + 1) = g at *
    have : (decide (2 * g < 2 * n) || (2 * g == 2 * n && 0 % 2 == 1)) = false := by
      rw [Bool.or_eq_false_iff]
      exact ⟨decide_eq_false (by omega), by simp⟩
    rw [this]
    simp
    omega

theorem rung_mag (f : Format) (a k : Nat) (h1 : k ≤ 2 * f.binade) (h2 : a = 0 ∨ f.binade ≤ k) : rmag f (a * f.binade + k) = k * 2 ^ a := by
  have hB : 0 < f.binade := Nat.two_pow_pos _
  by_cases c : k < f.binade
  · have ha : a = 0 := by omega
    subst ha
    unfold rmag
    rw [Nat.zero_mul, Nat.zero_add, if_pos c]; simp
  · have hge : ¬ a * f.binade + k < f.binade := by omega
    unfold rmag
    rw [if_neg hge]
    by_cases c2 : k = 2 * f.binade
    · subst c2
      have e : a * f.binade + 2 * f.binade = f.binade * (a + 2) := by rw [Nat.mul_comm, Nat.mul_add, Nat.mul_comm 2]
      rw [e, Nat.mul_mod_right, Nat.mul_div_cancel_left _ hB, Nat.add_zero, show a + 2 - 1 = a + 1 by omega, Nat.pow_succ]
      rw [Nat.mul_comm 2 f.binade, Nat.mul_assoc, Nat.mul_comm 2]
    · obtain ⟨j, hj⟩ : ∃ j, k = f.binade + j := ⟨k - f.binade, by omega⟩
      subst hj
      have hjl : j < f.binade := by omega
      have e : a * f.binade + (f.binade + j) = j + f.binade * (a + 1) := by rw [Nat.mul_add, Nat.mul_comm a]; omega
      rw [e, Nat.add_mul_mod_self_left, Nat.mod_eq_of_lt hjl, Nat.add_mul_div_left _ _ hB, Nat.div_eq_of_lt hjl, Nat.zero_add, Nat.add_sub_cancel]

/-- What stands for a number: its sign, its digits, their place. -/
def sgi (s : Bool) (m : Nat) : Int := if s then -(m : Int) else m
def dv (s : Bool) (m : Nat) (e : Int) : Rat := (sgi s m : Rat) * p2 e
/-- A finite word and its number. -/
def Vl (f : Format) (x : Nat) (v : Rat) : Prop := ∃ (s : Bool) (m : Nat) (e : Int), f.read x = .number s m e ∧ f.leastPlace ≤ e ∧ v = dv s m e

theorem vl_word (f : Format) (s : Bool) {r : Nat} (h : r < f.infRung) : Vl f (f.word s r) (dv s (rmag f r) f.leastPlace) := by
  have hlt : r < f.signWeight := Nat.lt_trans h f.infRung_lt
  have hm := word_mod f s hlt
  obtain ⟨m, e, h1, h2, h3⟩ := read_rmag f (w := f.word s r) (by rw [hm]; exact h)
  have hs : (f.word s r / f.signWeight % 2 == 1) = s := by
    have hp : 0 < f.signWeight := Nat.two_pow_pos _
    unfold Format.word
    cases s
    · simp only [Bool.false_eq_true, if_false]
      rw [Nat.div_eq_of_lt hlt]; rfl
    · simp only [if_true]
      rw [Nat.add_div_left _ hp, Nat.div_eq_of_lt hlt]; rfl
  rw [hs] at h1
  rw [hm] at h3
  refine ⟨s, m, e, h1, h2, ?_⟩
  unfold dv
  obtain ⟨n, hn⟩ : ∃ n : Nat, e = f.leastPlace + n := ⟨(e - f.leastPlace).toNat, by omega⟩
  have h4 : m * 2 ^ n = rmag f r := by rw [← h3]; congr 2; omega
  rw [hn, p2_add, p2_nat, ← h4]
  have e1 : ((sgi s (m * 2 ^ n) : Int) : Rat) = (sgi s m : Rat) * ((2 ^ n : Nat) : Rat) := by
    unfold sgi
    cases s
    · simp only [Bool.false_eq_true, if_false]
      rw [show ((m * 2 ^ n : Nat) : Int) = (m : Int) * ((2 ^ n : Nat) : Int) from Int.natCast_mul _ _, Rat.intCast_mul]
      rfl
    · simp only [if_true]
      rw [show -((m * 2 ^ n : Nat) : Int) = (-(m : Int)) * ((2 ^ n : Nat) : Int) by rw [Int.natCast_mul, Int.neg_mul], Rat.intCast_mul]
      rfl
  rw [e1]
  grind

theorem mul_le_r {a b c : Rat} (h : a ≤ b) (hc : 0 ≤ c) : a * c ≤ b * c := Rat.mul_le_mul_of_nonneg_right h hc
theorem nat_mul_p2 (m n : Nat) (e : Int) : ((m * 2 ^ n : Nat) : Rat) * p2 e = (m : Rat) * p2 (e + n) := by
  rw [Rat.natCast_mul, p2_add, p2_nat]; grind
theorem sgi_mul (s : Bool) (m n : Nat) (e : Int) : dv s (m * 2 ^ n) e = dv s m (e + n) := by
  unfold dv
  have h := nat_mul_p2 m n e
  unfold sgi
  cases s
  · simp only [Bool.false_eq_true, if_false]
    exact h
  · simp only [if_true]
    have e1 : ((-((m * 2 ^ n : Nat) : Int) : Int) : Rat) = -((m * 2 ^ n : Nat) : Rat) := Rat.intCast_neg _
    have e2 : ((-(m : Int) : Int) : Rat) = -(m : Rat) := Rat.intCast_neg _
    rw [e1, e2]
    grind
theorem dv_sgn (s : Bool) (m : Nat) (e : Int) : dv s m e = (if s then -((m : Rat) * p2 e) else (m : Rat) * p2 e) := by
  unfold dv sgi
  cases s
  · rfl
  · simp only [if_true]
    have e2 : ((-(m : Int) : Int) : Rat) = -(m : Rat) := Rat.intCast_neg _
    rw [e2]; grind
/-- How far a rounded number is from what is rounded. -/
theorem near_err (f : Format) (s : Bool) (m : Nat) (p K : Int) (hK : m = 0 ∨ p + m.log2 ≤ K) (hl : f.leastPlace + f.fractionBits ≤ K) (hfin : ((K - f.fractionBits - f.leastPlace).toNat + 2) * f.binade < f.infRung) :
    ∃ v, Vl f (f.nearest s m p) v ∧ 2 * v ≤ 2 * dv s m p + ((m : Rat) * p2 p * p2 (-f.fractionBits) + p2 f.leastPlace) ∧ 2 * dv s m p ≤ 2 * v + ((m : Rat) * p2 p * p2 (-f.fractionBits) + p2 f.leastPlace) ∧ (m < 2 * f.binade → f.leastPlace ≤ p → v = dv s m p) := by
  have hB : 0 < f.binade := Nat.two_pow_pos _
  have hBe : f.binade = 2 ^ f.fractionBits := rfl
  by_cases h0 : m = 0
  · subst h0
    have hn : f.nearest s 0 p = f.word s 0 := by unfold Format.nearest; rw [if_pos rfl]
    have hi : 0 < f.infRung := by omega
    have hv := vl_word f s (r := 0) hi
    have hz : dv s (rmag f 0) f.leastPlace = 0 := by
      rw [rmag_zero, dv_sgn]
      have : ((0 : Nat) : Rat) = 0 := rfl
      rw [this]; split <;> grind
    have hz2 : dv s 0 p = 0 := by
      rw [dv_sgn]
      have : ((0 : Nat) : Rat) = 0 := rfl
      rw [this]; split <;> grind
    rw [hn]
    refine ⟨_, hv, ?_⟩
    rw [hz, hz2]
    have h1 := p2_pos f.leastPlace
    have : ((0 : Nat) : Rat) = 0 := rfl
    rw [this]
    refine ⟨?_, ?_, fun _ _ => rfl⟩ <;> grind
  · have hK := hK.resolve_left h0
    obtain ⟨last, hlast⟩ : ∃ last : Int, last = max (p + m.log2 - f.fractionBits) f.leastPlace := ⟨_, rfl⟩
    have l1 : p + m.log2 - f.fractionBits ≤ last := by omega
    have l2 : f.leastPlace ≤ last := by omega
    have l3 : last ≤ K - f.fractionBits := by omega
    obtain ⟨d, hd⟩ : ∃ d : Nat, d = (last - p).toNat := ⟨_, rfl⟩
    obtain ⟨u, hu⟩ : ∃ u : Nat, u = (p - last).toNat := ⟨_, rfl⟩
    obtain ⟨k, hk⟩ : ∃ k : Nat, k = Toward.even.cut s (m * 2 ^ u) d := ⟨_, rfl⟩
    have hn : f.nearest s m p = f.word s (min ((last - f.leastPlace).toNat * f.binade + k) f.infRung) := by
      unfold Format.nearest
      rw [if_neg h0]
      dsimp only
      rw [← hlast, ← hd, ← hu, Nat.shiftLeft_eq, ← hk]
    have hm : m < 2 ^ (m.log2 + 1) := Nat.lt_log2_self
    have hm2 : 2 ^ m.log2 ≤ m := Nat.log2_self_le h0
    have hk2 : k ≤ 2 * f.binade := by
      rw [hk]
      refine cut_le (by omega) ?_
      have h1 : m * 2 ^ u < 2 ^ (m.log2 + 1) * 2 ^ u := Nat.mul_lt_mul_of_pos_right hm (Nat.two_pow_pos _)
      rw [← Nat.pow_add] at h1
      have h2 : 2 * f.binade * 2 ^ d = 2 ^ (f.fractionBits + 1 + d) := by rw [hBe, Nat.pow_add, Nat.pow_succ]; congr 1; omega
      rw [h2]
      exact Nat.lt_of_lt_of_le h1 (Nat.pow_le_pow_right (by decide) (by omega))
    obtain ⟨c1, c2⟩ := cut_err s (m * 2 ^ u) d
    rw [← hk] at c1 c2
    have hk3 : (last - f.leastPlace).toNat = 0 ∨ f.binade ≤ k := by
      rcases Int.lt_or_le f.leastPlace last with g | g
      · right
        have hL : last = p + m.log2 - f.fractionBits := by omega
        have h2 : f.binade * 2 ^ d ≤ m * 2 ^ u := by
          have h3 : 2 ^ m.log2 * 2 ^ u ≤ m * 2 ^ u := Nat.mul_le_mul_right _ hm2
          rw [← Nat.pow_add] at h3
          rw [hBe, ← Nat.pow_add]
          exact Nat.le_trans (Nat.pow_le_pow_right (by decide) (by omega)) h3
        have hp : 0 < 2 ^ d := Nat.two_pow_pos d
        refine Nat.le_of_not_lt fun c => ?_
        have h4 : (k + 1) * 2 ^ d ≤ f.binade * 2 ^ d := Nat.mul_le_mul_right _ c
        rw [Nat.add_mul, Nat.one_mul] at h4
        omega
      · left; omega
    have hr := rung_mag f (last - f.leastPlace).toNat k hk2 hk3
    have hlt : (last - f.leastPlace).toNat * f.binade + k < f.infRung := by
      have h1 : (last - f.leastPlace).toNat * f.binade ≤ (K - f.fractionBits - f.leastPlace).toNat * f.binade := Nat.mul_le_mul_right _ (by omega)
      rw [Nat.add_mul] at hfin
      omega
    rw [hn, Nat.min_eq_left (Nat.le_of_lt hlt)]
    refine ⟨_, vl_word f s hlt, ?_⟩
    rw [hr, sgi_mul, show f.leastPlace + ((last - f.leastPlace).toNat : Int) = last by omega]
    -- the error
    obtain ⟨q, hq⟩ : ∃ q : Int, q = min p last := ⟨_, rfl⟩
    have q1 : q + d = last := by omega
    have q2 : q + u = p := by omega
    have hqp := Rat.le_of_lt (p2_pos q)
    have e1 : ((k * 2 ^ d : Nat) : Rat) * p2 q = (k : Rat) * p2 last := by rw [nat_mul_p2, q1]
    have e2 : ((m * 2 ^ u : Nat) : Rat) * p2 q = (m : Rat) * p2 p := by rw [nat_mul_p2, q2]
    have e3 : ((2 ^ d : Nat) : Rat) * p2 q = p2 last := by rw [← p2_nat, ← p2_add, show (d : Int) + q = last by omega]
    have r1 : (2 : Rat) * ((k * 2 ^ d : Nat) : Rat) ≤ 2 * ((m * 2 ^ u : Nat) : Rat) + ((2 ^ d : Nat) : Rat) := by
      have := Rat.natCast_le_natCast.2 c1
      rw [Rat.natCast_mul, Rat.natCast_add, Rat.natCast_mul 2 (m * 2 ^ u)] at this
      exact this
    have r2 : (2 : Rat) * ((m * 2 ^ u : Nat) : Rat) ≤ 2 * ((k * 2 ^ d : Nat) : Rat) + ((2 ^ d : Nat) : Rat) := by
      have := Rat.natCast_le_natCast.2 c2
      rw [Rat.natCast_mul, Rat.natCast_add, Rat.natCast_mul 2 (k * 2 ^ d)] at this
      exact this
    have s1 := mul_le_r r1 hqp
    have s2 := mul_le_r r2 hqp
    have t1 : 2 * ((k : Rat) * p2 last) ≤ 2 * ((m : Rat) * p2 p) + p2 last := by rw [← e1, ← e2, ← e3]; grind
    have t2 : 2 * ((m : Rat) * p2 p) ≤ 2 * ((k : Rat) * p2 last) + p2 last := by
      have := s2
      have g1 : 2 * ((m * 2 ^ u : Nat) : Rat) * p2 q = 2 * (((m * 2 ^ u : Nat) : Rat) * p2 q) := by grind
      have g2 : (2 * ((k * 2 ^ d : Nat) : Rat) + ((2 ^ d : Nat) : Rat)) * p2 q = 2 * (((k * 2 ^ d : Nat) : Rat) * p2 q) + ((2 ^ d : Nat) : Rat) * p2 q := by grind
      rw [g1, g2, e1, e2, e3] at this
      exact this
    have t3 : p2 last ≤ (m : Rat) * p2 p * p2 (-f.fractionBits) + p2 f.leastPlace := by
      have w1 : 0 ≤ (m : Rat) * p2 p * p2 (-f.fractionBits) := Rat.mul_nonneg (Rat.mul_nonneg (Rat.natCast_nonneg) (Rat.le_of_lt (p2_pos _))) (Rat.le_of_lt (p2_pos _))
      have w2 := p2_pos f.leastPlace
      rcases Int.lt_or_le f.leastPlace last with g | g
      · have hL : last = m.log2 + p + (-f.fractionBits) := by omega
        rw [hL, p2_add, p2_add, p2_nat]
        have h1 := Rat.natCast_le_natCast.2 hm2
        have h2 := mul_le_r (mul_le_r h1 (Rat.le_of_lt (p2_pos p))) (Rat.le_of_lt (p2_pos (-f.fractionBits)))
        grind
      · have : last = f.leastPlace := by omega
        rw [this]; grind
    have t4 : m < 2 * f.binade → f.leastPlace ≤ p → dv s k last = dv s m p := by
      intro g1 g2
      have g3 : m.log2 ≤ f.fractionBits := log2_of_lt (by rw [hBe] at g1; rw [Nat.pow_succ]; omega)
      have d0 : d = 0 := by omega
      rw [d0, Nat.pow_zero] at c1 c2
      have hkm : k = m * 2 ^ u := by omega
      rw [hkm, sgi_mul]
      congr 1
      omega
    refine ⟨?_, ?_, t4⟩
    · rw [dv_sgn, dv_sgn]
      cases s
      · simp only [Bool.false_eq_true, if_false]; grind
      · simp only [if_true]; grind
    · rw [dv_sgn, dv_sgn]
      cases s
      · simp only [Bool.false_eq_true, if_false]; grind
      · simp only [if_true]; grind

theorem p2_lt {a b : Int} (h : p2 a < p2 b) : a < b := by
  rcases Int.lt_or_le a b with c | c
  · exact c
  · have := p2_le c
    exact absurd h (Rat.not_lt.2 this)
theorem p2_two (a : Int) : p2 (a + 1) = 2 * p2 a := by
  rw [p2_add, show p2 1 = 2 by unfold p2; exact Rat.zpow_one _]; grind
theorem mag_nonneg (m : Nat) (p : Int) : 0 ≤ (m : Rat) * p2 p := Rat.mul_nonneg Rat.natCast_nonneg (Rat.le_of_lt (p2_pos _))
theorem dv_mag {s : Bool} {m : Nat} {p : Int} {B : Rat} (h1 : -B ≤ dv s m p) (h2 : dv s m p ≤ B) : (m : Rat) * p2 p ≤ B := by
  rw [dv_sgn] at h1 h2
  cases s
  · simpa using h2
  · simp only [if_true] at h1 h2; grind
theorem log_of_mag {m : Nat} {p K : Int} (h : (m : Rat) * p2 p ≤ p2 K) : m = 0 ∨ p + m.log2 ≤ K := by
  by_cases h0 : m = 0
  · exact .inl h0
  · right
    have h1 : ((2 ^ m.log2 : Nat) : Rat) ≤ (m : Rat) := Rat.natCast_le_natCast.2 (Nat.log2_self_le h0)
    have h2 := mul_le_r h1 (Rat.le_of_lt (p2_pos p))
    rw [← p2_nat, ← p2_add] at h2
    have h3 : p2 ((m.log2 : Int) + p) ≤ p2 K := Rat.le_trans h2 h
    rcases Int.lt_or_le K (p + m.log2) with c | c
    · have h4 : p2 (K + 1) ≤ p2 ((m.log2 : Int) + p) := p2_le (by omega)
      rw [p2_two] at h4
      have h5 := p2_pos K
      have : 2 * p2 K ≤ p2 K := Rat.le_trans h4 h3
      grind
    · exact c

/-- Twice the error of one rounding of a number of at most B. -/
def er2 (k : FloatKind) (B : Rat) : Rat := B * p2 (-k.format.fractionBits) + p2 k.format.leastPlace
theorem k_hl (k : FloatKind) : k.format.leastPlace + k.format.fractionBits ≤ (120 : Int) := by cases k <;> decide
theorem k_fin (k : FloatKind) : (((120 : Int) - k.format.fractionBits - k.format.leastPlace).toNat + 2) * k.format.binade < k.format.infRung := by cases k <;> decide +kernel
/-- A rounded number. -/
theorem vl_near (k : FloatKind) {s : Bool} {m : Nat} {p : Int} {B : Rat} (h1 : -B ≤ dv s m p) (h2 : dv s m p ≤ B) (hB : B ≤ p2 120) :
    ∃ v, Vl k.format (k.format.nearest s m p) v ∧ 2 * v ≤ 2 * dv s m p + er2 k B ∧ 2 * dv s m p ≤ 2 * v + er2 k B := by
  have hm := dv_mag h1 h2
  obtain ⟨v, hv, e1, e2, _⟩ := near_err k.format s m p 120 (log_of_mag (Rat.le_trans hm hB)) (k_hl k) (k_fin k)
  have h3 := mul_le_r hm (Rat.le_of_lt (p2_pos (-k.format.fractionBits)))
  refine ⟨v, hv, ?_, ?_⟩ <;> (unfold er2; grind)

/-- A number that the format has. -/
theorem vl_exact (k : FloatKind) {s : Bool} {m : Nat} {p : Int} (hm : m < 2 * k.format.binade) (hp : k.format.leastPlace ≤ p) (hB : (m : Rat) * p2 p ≤ p2 120) : Vl k.format (k.format.nearest s m p) (dv s m p) := by
  obtain ⟨v, hv, _, _, e⟩ := near_err k.format s m p 120 (log_of_mag hB) (k_hl k) (k_fin k)
  rw [← e hm hp]; exact hv
/-! Sums, differences, products. -/
theorem signed_sgi (s : Bool) (m u : Nat) : signed s m u = sgi s (m * 2 ^ u) := by
  unfold signed sgi; rw [Nat.shiftLeft_eq]
theorem sgi_rat (s : Bool) (m : Nat) (e : Int) : ((sgi s m : Int) : Rat) * p2 e = dv s m e := rfl
theorem dv_total (S : Bool) (t : Int) (e : Int) : dv (if t = 0 then S else decide (t < 0)) t.natAbs e = (t : Rat) * p2 e := by
  unfold dv
  congr 2
  unfold sgi
  by_cases h0 : t = 0
  · subst h0; simp
  · rw [if_neg h0]
    by_cases h1 : t < 0
    · rw [decide_eq_true h1]; simp only [if_true]; omega
    · rw [decide_eq_false h1]; simp only [Bool.false_eq_true, if_false]; omega
theorem sum_val {f : Format} {s t : Bool} {m n : Nat} {i j : Int} : ∃ S M P, Datum.sum (.number s m i) (.number t n j) = some (.number S M P) ∧ dv S M P = dv s m i + dv t n j := by
  refine ⟨_, _, _, rfl, ?_⟩
  rw [dv_total, signed_sgi, signed_sgi, Rat.intCast_add]
  have h1 := sgi_mul s m (i - min i j).toNat (min i j)
  have h2 := sgi_mul t n (j - min i j).toNat (min i j)
  rw [show min i j + ((i - min i j).toNat : Int) = i by omega] at h1
  rw [show min i j + ((j - min i j).toNat : Int) = j by omega] at h2
  unfold dv at h1 h2 ⊢
  rw [← h1, ← h2]
  grind
theorem vl_opp {f : Format} {y : Nat} {b : Rat} (h : Vl f y b) : ∃ t n j, (f.read y).opposite = .number t n j ∧ dv t n j = -b := by
  obtain ⟨t, n, j, h1, h2, h3⟩ := h
  refine ⟨!t, n, j, by rw [h1]; rfl, ?_⟩
  rw [h3, dv_sgn, dv_sgn]
  cases t
  · simp
  · simp
theorem num_getD' (f : Format) (s : Bool) (m : Nat) (e : Int) (x : Nat) : (Option.map f.write (some (Datum.number s m e))).getD x = f.nearest s m e := rfl
theorem fop_add (k : FloatKind) (x y : Nat) : fop .add k x y = (((k.format.read x).sum (k.format.read y)).map k.format.write).getD (qnan k) := rfl
theorem fop_sub (k : FloatKind) (x y : Nat) : fop .sub k x y = (((k.format.read x).sum (k.format.read y).opposite).map k.format.write).getD (qnan k) := rfl
theorem fop_mul (k : FloatKind) (x y : Nat) : fop .mul k x y = (((k.format.read x).product (k.format.read y)).map k.format.write).getD (qnan k) := rfl
theorem fop_quo (k : FloatKind) (x y : Nat) : fop .quo k x y = (((k.format.read x).quotient (k.format.fractionBits + 2) (k.format.read y)).map k.format.write).getD (qnan k) := rfl
theorem vl_add {k : FloatKind} {x y : Nat} {a b B : Rat} (hx : Vl k.format x a) (hy : Vl k.format y b) (h1 : -B ≤ a + b) (h2 : a + b ≤ B) (hB : B ≤ p2 120) :
    ∃ v, Vl k.format (fop .add k x y) v ∧ 2 * v ≤ 2 * (a + b) + er2 k B ∧ 2 * (a + b) ≤ 2 * v + er2 k B := by
  obtain ⟨s, m, i, r1, _, ha⟩ := hx
  obtain ⟨t, n, j, r2, _, hb⟩ := hy
  obtain ⟨S, M, P, e, he⟩ := sum_val (f := k.format) (s := s) (t := t) (m := m) (n := n) (i := i) (j := j)
  rw [fop_add, r1, r2, e, num_getD']
  rw [ha, hb, ← he] at h1 h2 ⊢
  exact vl_near k h1 h2 hB
theorem vl_sub {k : FloatKind} {x y : Nat} {a b B : Rat} (hx : Vl k.format x a) (hy : Vl k.format y b) (h1 : -B ≤ a - b) (h2 : a - b ≤ B) (hB : B ≤ p2 120) :
    ∃ v, Vl k.format (fop .sub k x y) v ∧ 2 * v ≤ 2 * (a - b) + er2 k B ∧ 2 * (a - b) ≤ 2 * v + er2 k B := by
  obtain ⟨s, m, i, r1, _, ha⟩ := hx
  obtain ⟨t, n, j, r2, hb⟩ := vl_opp hy
  obtain ⟨S, M, P, e, he⟩ := sum_val (f := k.format) (s := s) (t := t) (m := m) (n := n) (i := i) (j := j)
  rw [fop_sub, r1, r2, e, num_getD']
  have hs : a - b = dv S M P := by rw [he, ← ha, hb]; grind
  rw [hs] at h1 h2 ⊢
  exact vl_near k h1 h2 hB
theorem dv_mul (s t : Bool) (m n : Nat) (i j : Int) : dv (s ^^ t) (m * n) (i + j) = dv s m i * dv t n j := by
  rw [dv_sgn, dv_sgn, dv_sgn, Rat.natCast_mul, p2_add]
  cases s <;> cases t <;> simp <;> grind
theorem vl_mul {k : FloatKind} {x y : Nat} {a b B : Rat} (hx : Vl k.format x a) (hy : Vl k.format y b) (h1 : -B ≤ a * b) (h2 : a * b ≤ B) (hB : B ≤ p2 120) :
    ∃ v, Vl k.format (fop .mul k x y) v ∧ 2 * v ≤ 2 * (a * b) + er2 k B ∧ 2 * (a * b) ≤ 2 * v + er2 k B := by
  obtain ⟨s, m, i, r1, _, ha⟩ := hx
  obtain ⟨t, n, j, r2, _, hb⟩ := hy
  rw [fop_mul, r1, r2]
  have e : Datum.product (.number s m i) (.number t n j) = some (.number (s ^^ t) (m * n) (i + j)) := rfl
  rw [e, num_getD']
  rw [ha, hb, ← dv_mul] at h1 h2 ⊢
  exact vl_near k h1 h2 hB

/-! Order. -/
theorem order_val {k : FloatKind} {x y : Nat} {a b : Rat} (hx : Vl k.format x a) (hy : Vl k.format y b) : ∃ (A B : Int) (q : Int), ford k x y = some (compare A B) ∧ a = (A : Rat) * p2 q ∧ b = (B : Rat) * p2 q := by
  obtain ⟨s, m, i, r1, _, ha⟩ := hx
  obtain ⟨t, n, j, r2, _, hb⟩ := hy
  refine ⟨sgi s (m * 2 ^ (i - min i j).toNat), sgi t (n * 2 ^ (j - min i j).toNat), min i j, ?_, ?_, ?_⟩
  · unfold ford Format.order
    rw [r1, r2]
    show some (compare (signed s m (i - min i j).toNat) (signed t n (j - min i j).toNat)) = _
    rw [signed_sgi, signed_sgi]
  · rw [ha, sgi_rat, sgi_mul]; congr 1; omega
  · rw [hb, sgi_rat, sgi_mul]; congr 1; omega
theorem rat_lt_of {A B : Int} {q : Int} (h : (A : Rat) * p2 q < (B : Rat) * p2 q) : A < B := by
  rcases Int.lt_or_le A B with c | c
  · exact c
  · have h1 := mul_le_r (Rat.intCast_le_intCast.2 c) (Rat.le_of_lt (p2_pos q))
    exact absurd h (Rat.not_lt.2 h1)
theorem ford_lt_of {k : FloatKind} {x y : Nat} {a b : Rat} (hx : Vl k.format x a) (hy : Vl k.format y b) (h : a < b) : ford k x y = some .lt := by
  obtain ⟨A, B, q, e, ha, hb⟩ := order_val hx hy
  rw [ha, hb] at h
  have := rat_lt_of h
  rw [e]
  simp only [compare, compareOfLessAndEq, this, if_true]
theorem ford_gt_of {k : FloatKind} {x y : Nat} {a b : Rat} (hx : Vl k.format x a) (hy : Vl k.format y b) (h : b < a) : ford k x y = some .gt := by
  obtain ⟨A, B, q, e, ha, hb⟩ := order_val hx hy
  rw [ha, hb] at h
  have := rat_lt_of h
  rw [e]
  have h1 : ¬ A < B := by omega
  have h2 : ¬ A = B := by omega
  simp only [compare, compareOfLessAndEq, h1, h2, if_false]
theorem ford_eq_of {k : FloatKind} {x y : Nat} {a : Rat} (hx : Vl k.format x a) (hy : Vl k.format y a) : ford k x y = some .eq := by
  obtain ⟨A, B, q, e, ha, hb⟩ := order_val hx hy
  have hAB : A = B := by
    rcases Int.lt_trichotomy A B with c | c | c
    · exfalso
      have h1 : (A : Rat) < (B : Rat) := Rat.intCast_lt_intCast.2 c
      have h2 := Rat.mul_lt_mul_of_pos_right h1 (p2_pos q)
      rw [← ha, ← hb] at h2
      exact absurd h2 Rat.lt_irrefl
    · exact c
    · exfalso
      have h1 : (B : Rat) < (A : Rat) := Rat.intCast_lt_intCast.2 c
      have h2 := Rat.mul_lt_mul_of_pos_right h1 (p2_pos q)
      rw [← ha, ← hb] at h2
      exact absurd h2 Rat.lt_irrefl
  rw [e, hAB]
  simp only [compare, compareOfLessAndEq, Int.lt_irrefl, if_false, if_true]
theorem not_gt_of {k : FloatKind} {x y : Nat} {a b : Rat} (hx : Vl k.format x a) (hy : Vl k.format y b) (h : a ≤ b) : ¬ ford k x y = some .gt := by
  intro hg
  by_cases c : a = b
  · subst c; rw [ford_eq_of hx hy] at hg; cases hg
  · rw [ford_lt_of hx hy (by grind)] at hg; cases hg
theorem lt_of_ford {k : FloatKind} {x y : Nat} {a b : Rat} (hx : Vl k.format x a) (hy : Vl k.format y b) (h : ford k x y = some .lt) : a < b := by
  by_cases c : a < b
  · exact c
  · exfalso
    have c : b ≤ a := Rat.not_lt.1 c
    by_cases e : a = b
    · subst e; rw [ford_eq_of hx hy] at h; cases h
    · rw [ford_gt_of hx hy (by grind)] at h; cases h

/-! Opposites, literals, whole numbers. -/
theorem vl_nan {k : FloatKind} {x : Nat} {a : Rat} (h : Vl k.format x a) : nanB k x = false := by
  obtain ⟨s, m, e, h1, _⟩ := h
  unfold nanB FloatKind.decode; rw [h1]; rfl
theorem p2_neg (n : Nat) : p2 (-(n : Int)) * ((2 ^ n : Nat) : Rat) = 1 := by
  rw [← p2_nat, ← p2_add, show -(n : Int) + n = 0 by omega, p2_zero]
theorem vl_lit {f : Format} {x : Nat} {s : Bool} {m : Nat} {n : Nat} (h : f.read x = .number s m (-(n : Int))) (hl : f.leastPlace ≤ -(n : Int)) {v : Rat} (hv : v * ((2 ^ n : Nat) : Rat) = (sgi s m : Rat)) : Vl f x v := by
  refine ⟨s, m, _, h, hl, ?_⟩
  unfold dv
  have := p2_neg n
  rw [← hv]
  grind
theorem vl_zero32 : Vl FloatKind.f32.format 0 0 := vl_lit (n := 149) (s := false) (m := 0) (by decide +kernel) (by decide) (by decide +kernel)

/-! Quotients. -/
theorem le_of_mul_le {x y b : Rat} (hb : 0 < b) (h : x * b ≤ y * b) : x ≤ y := by
  refine Rat.not_lt.1 fun c => ?_
  have := Rat.mul_lt_mul_of_pos_right c hb
  exact absurd h (Rat.not_le.2 this)
theorem quo_nat (digits m n : Nat) (hn : n ≠ 0) : ∀ more, more = digits + n.log2 - m.log2 → (2 * (m * 2 ^ more / n) + (m * 2 ^ more % n != 0).toNat) * n ≤ 2 * (m * 2 ^ more) + n ∧ 2 * (m * 2 ^ more) ≤ (2 * (m * 2 ^ more / n) + (m * 2 ^ more % n != 0).toNat) * n + n ∧ (m ≠ 0 → n * 2 ^ digits ≤ 2 * (m * 2 ^ more)) ∧ (m = 0 → (2 * (m * 2 ^ more / n) + (m * 2 ^ more % n != 0).toNat) = 0) := by
  intro more hmore
  have hd := Nat.div_add_mod (m * 2 ^ more) n
  have hl := Nat.mod_lt (m * 2 ^ more) (Nat.pos_of_ne_zero hn)
  refine ⟨?_, ?_, fun hm => ?_, fun hm => ?_⟩
  · generalize m * 2 ^ more = D at *
    rw [Nat.add_mul, Nat.mul_assoc, Nat.mul_comm (D / n)]
    generalize n * (D / n) = Q at *
    cases hb : (D % n != 0)
    · simp; omega
    · simp; omega
  · generalize m * 2 ^ more = D at *
    rw [Nat.add_mul, Nat.mul_assoc, Nat.mul_comm (D / n)]
    generalize n * (D / n) = Q at *
    cases hb : (D % n != 0)
    · have : D % n = 0 := by simpa using hb
      simp; omega
    · simp; omega
  · have h1 : n < 2 ^ (n.log2 + 1) := Nat.lt_log2_self
    have h2 : 2 ^ m.log2 ≤ m := Nat.log2_self_le hm
    have h3 : 2 ^ m.log2 * 2 ^ more ≤ m * 2 ^ more := Nat.mul_le_mul_right _ h2
    have h4 : n * 2 ^ digits ≤ 2 ^ (n.log2 + 1) * 2 ^ digits := Nat.mul_le_mul_right _ (Nat.le_of_lt h1)
    rw [← Nat.pow_add] at h3 h4
    have h5 : 2 ^ (n.log2 + 1 + digits) ≤ 2 ^ (m.log2 + more + 1) := Nat.pow_le_pow_right (by decide) (by omega)
    rw [Nat.pow_succ] at h5
    omega
  · subst hm
    rw [Nat.zero_mul, Nat.zero_div, Nat.zero_mod]; rfl
theorem quo_fin1 {v d c B E F T : Rat} (h : 2 * v ≤ 2 * d + (2 * B * F + T)) (h2 : d ≤ c + B * E) (h3 : 4 * E = F) (hB : 0 ≤ B * E) : 2 * v ≤ 2 * c + (3 * B * F + T) := by
  have h4 : B * F = 4 * (B * E) := by rw [← h3]; grind
  have h5 : 2 * B * F = 2 * (B * F) := by grind
  have h6 : 3 * B * F = 3 * (B * F) := by grind
  rw [h5, h4] at h
  rw [h6, h4]
  grind
theorem quo_fin2 {v d c B E F T : Rat} (h : 2 * d ≤ 2 * v + (2 * B * F + T)) (h2 : c ≤ d + B * E) (h3 : 4 * E = F) (hB : 0 ≤ B * E) : 2 * c ≤ 2 * v + (3 * B * F + T) := by
  have h4 : B * F = 4 * (B * E) := by rw [← h3]; grind
  have h5 : 2 * B * F = 2 * (B * F) := by grind
  have h6 : 3 * B * F = 3 * (B * F) := by grind
  rw [h5, h4] at h
  rw [h6, h4]
  grind
theorem vl_quo {k : FloatKind} {x y : Nat} {a b c B : Rat} (hx : Vl k.format x a) (hy : Vl k.format y b) (hb : b ≠ 0) (hc : c * b = a) (h1 : -B ≤ c) (h2 : c ≤ B) (hB : 2 * B ≤ p2 120) :
    ∃ v, Vl k.format (fop .quo k x y) v ∧ 2 * v ≤ 2 * c + er2 k (3 * B) ∧ 2 * c ≤ 2 * v + er2 k (3 * B) := by
  obtain ⟨s, m, i, r1, _, ha⟩ := hx
  obtain ⟨t, n, j, r2, _, hb2⟩ := hy
  have hn : n ≠ 0 := by
    intro h0
    subst h0
    refine hb ?_
    rw [hb2, dv_sgn]
    have : ((0 : Nat) : Rat) = 0 := rfl
    rw [this]; split <;> grind
  rw [fop_quo, r1, r2]
  obtain ⟨more, hmore⟩ : ∃ more, more = k.format.fractionBits + 2 + n.log2 - m.log2 := ⟨_, rfl⟩
  obtain ⟨M, hM⟩ : ∃ M, M = 2 * (m * 2 ^ more / n) + (m * 2 ^ more % n != 0).toNat := ⟨_, rfl⟩
  have e : Datum.quotient (k.format.fractionBits + 2) (.number s m i) (.number t n j) = some (.number (s ^^ t) M (i - j - more - 1)) := by
    unfold Datum.quotient
    dsimp only
    rw [if_neg hn, Nat.shiftLeft_eq, ← hmore, ← hM]
  rw [e, num_getD']
  obtain ⟨q1, q2, q3, q4⟩ := quo_nat (k.format.fractionBits + 2) m n hn more hmore
  rw [← hM] at q1 q2 q4
  -- magnitudes
  obtain ⟨C, hC⟩ : ∃ C : Rat, C = if (s ^^ t) then -c else c := ⟨_, rfl⟩
  have hnb : 0 < (n : Rat) * p2 j := Rat.mul_pos (Rat.natCast_pos.2 (Nat.pos_of_ne_zero hn)) (p2_pos _)
  have hCA : C * ((n : Rat) * p2 j) = (m : Rat) * p2 i := by
    rw [ha, hb2, dv_sgn, dv_sgn] at hc
    rw [hC]
    cases s <;> cases t <;> simp at hc ⊢ <;> grind
  have hA := mag_nonneg m i
  have hC0 : 0 ≤ C := by
    refine le_of_mul_le hnb ?_
    rw [hCA]; grind
  have hCB : C ≤ B := by rw [hC]; split <;> grind
  -- the quotient's digits
  obtain ⟨w, hw⟩ : ∃ w : Int, w = i - more - 1 := ⟨_, rfl⟩
  have hwp := Rat.le_of_lt (p2_pos w)
  have w1 : ((M * n : Nat) : Rat) * p2 w = (M : Rat) * p2 (i - j - more - 1) * ((n : Rat) * p2 j) := by
    rw [Rat.natCast_mul, show w = (i - j - more - 1) + j by omega, p2_add]; grind
  have w2 : ((2 * (m * 2 ^ more) : Nat) : Rat) * p2 w = (m : Rat) * p2 i := by
    rw [show 2 * (m * 2 ^ more) = m * 2 ^ (more + 1) by rw [Nat.pow_succ]; grind, nat_mul_p2]
    congr 2; omega
  have g1 := mul_le_r (Rat.natCast_le_natCast.2 q1) hwp
  have g2 := mul_le_r (Rat.natCast_le_natCast.2 q2) hwp
  rw [Rat.natCast_add] at g1 g2
  have g3 : (n : Rat) * p2 w ≤ (m : Rat) * p2 i * p2 (-((k.format.fractionBits + 2 : Nat) : Int)) ∨ m = 0 := by
    by_cases hm : m = 0
    · exact .inr hm
    · left
      have g4 := mul_le_r (Rat.natCast_le_natCast.2 (q3 hm)) hwp
      rw [w2, Rat.natCast_mul] at g4
      have g5 := mul_le_r g4 (Rat.le_of_lt (p2_pos (-((k.format.fractionBits + 2 : Nat) : Int))))
      have g6 := p2_neg (k.format.fractionBits + 2)
      generalize p2 (-((k.format.fractionBits + 2 : Nat) : Int)) = E at *
      have : (n : Rat) * ((2 ^ (k.format.fractionBits + 2) : Nat) : Rat) * p2 w * E = (n : Rat) * p2 w := by
        have : (n : Rat) * ((2 ^ (k.format.fractionBits + 2) : Nat) : Rat) * p2 w * E = (n : Rat) * p2 w * (E * ((2 ^ (k.format.fractionBits + 2) : Nat) : Rat)) := by grind
        rw [this, g6]; grind
      rw [this] at g5; exact g5
  have hEp := p2_pos (-((k.format.fractionBits + 2 : Nat) : Int))
  have hEs : 4 * p2 (-((k.format.fractionBits + 2 : Nat) : Int)) = p2 (-k.format.fractionBits) := by
    rw [show -(k.format.fractionBits : Int) = (-((k.format.fractionBits + 2 : Nat) : Int)) + 1 + 1 by omega, p2_two, p2_two]; grind
  have hM1 : (M : Rat) * p2 (i - j - more - 1) ≤ C + C * p2 (-((k.format.fractionBits + 2 : Nat) : Int)) ∧ C ≤ (M : Rat) * p2 (i - j - more - 1) + C * p2 (-((k.format.fractionBits + 2 : Nat) : Int)) := by
    rcases g3 with g3 | g3
    · constructor
      · refine le_of_mul_le hnb ?_
        rw [← w1]
        have : (C + C * p2 (-((k.format.fractionBits + 2 : Nat) : Int))) * ((n : Rat) * p2 j) = C * ((n : Rat) * p2 j) + C * ((n : Rat) * p2 j) * p2 (-((k.format.fractionBits + 2 : Nat) : Int)) := by grind
        rw [this, hCA]
        grind
      · refine le_of_mul_le hnb ?_
        have : ((M : Rat) * p2 (i - j - more - 1) + C * p2 (-((k.format.fractionBits + 2 : Nat) : Int))) * ((n : Rat) * p2 j) = (M : Rat) * p2 (i - j - more - 1) * ((n : Rat) * p2 j) + C * ((n : Rat) * p2 j) * p2 (-((k.format.fractionBits + 2 : Nat) : Int)) := by grind
        rw [this, hCA, ← w1]
        grind
    · have hM0 := q4 g3
      have hz : ((0 : Nat) : Rat) = 0 := rfl
      have hCz : C = 0 := by
        have h0 : C * ((n : Rat) * p2 j) = 0 := by rw [hCA, g3, hz]; grind
        rcases Rat.mul_eq_zero.1 h0 with h | h
        · exact h
        · rw [h] at hnb; exact absurd hnb Rat.lt_irrefl
      rw [hM0, hCz, hz]
      constructor <;> grind
  generalize p2 (-((k.format.fractionBits + 2 : Nat) : Int)) = E at *
  have hE1 : C * E ≤ B * E := mul_le_r hCB (Rat.le_of_lt hEp)
  have hE2 : E ≤ 1 := by
    have h3 : p2 (-k.format.fractionBits) ≤ p2 0 := p2_le (by omega)
    rw [p2_zero] at h3
    grind
  have hB0 : 0 ≤ B := Rat.le_trans hC0 hCB
  have hE3 : B * E ≤ B := by
    have := Rat.mul_le_mul_of_nonneg_left hE2 hB0
    grind
  have hdv : dv (s ^^ t) M (i - j - more - 1) = if (s ^^ t) then -((M : Rat) * p2 (i - j - more - 1)) else (M : Rat) * p2 (i - j - more - 1) := dv_sgn _ _ _
  have hMn := mag_nonneg M (i - j - more - 1)
  obtain ⟨v, hv, v1, v2⟩ := vl_near k (s := s ^^ t) (m := M) (p := i - j - more - 1) (B := 2 * B) (by rw [hdv]; split <;> grind) (by rw [hdv]; split <;> grind) hB
  have hBE : 0 ≤ B * E := Rat.mul_nonneg hB0 (Rat.le_of_lt hEp)
  have d1 : dv (s ^^ t) M (i - j - more - 1) ≤ c + B * E := by
    rw [hdv]; clear v1 v2 hdv; rw [hC] at hM1 hE1; split at hM1 <;> simp_all <;> grind
  have d2 : c ≤ dv (s ^^ t) M (i - j - more - 1) + B * E := by
    rw [hdv]; clear v1 v2 hdv; rw [hC] at hM1 hE1; split at hM1 <;> simp_all <;> grind
  exact ⟨v, hv, quo_fin1 v1 d1 hEs hBE, quo_fin2 v2 d2 hEs hBE⟩

/-! Conversions. -/
theorem wid_near {x : Nat} {s : Bool} {m : Nat} {e : Int} (h : FloatKind.f32.format.read x = .number s m e) : wid x = FloatKind.f64.format.nearest s m e := by
  have hx := fcvt_wid x
  unfold fcvt at hx
  have hn : nanB .f32 x = false := by unfold nanB FloatKind.decode; rw [h]; rfl
  rw [hn, if_neg (by decide)] at hx
  unfold floatToFloatBits at hx
  rw [if_neg (by decide), show FloatKind.f32.decode x = _ from h] at hx
  dsimp only at hx
  split at hx
  · cases hx
  · exact (Option.some.inj hx).symm
theorem vl_wid {x : Nat} {a : Rat} (h : Vl FloatKind.f32.format x a) : Vl FloatKind.f64.format (wid x) a := by
  obtain ⟨s, m, e, h1, h2, h3⟩ := h
  have hp := read_parts (binade_le_inf .f32) h1
  have hb : FloatKind.f32.format.binade = 8388608 := by decide
  have hi : FloatKind.f32.format.infRung = 2139095040 := by decide +kernel
  have hl : FloatKind.f32.format.leastPlace = -149 := by decide
  rw [hb, hi, hl] at hp
  rw [hl] at h2
  obtain ⟨p1, p2', p3, _⟩ := hp
  have p4 : x % FloatKind.f32.format.signWeight / 8388608 < 255 := Nat.div_lt_of_lt_mul (by omega)
  have hlog := log2_of_lt (m := m) (k := 23) (by omega)
  rw [wid_near h1, h3]
  obtain ⟨v, hv, _, _, ex⟩ := near_err FloatKind.f64.format s m e 127 (.inr (by omega)) (by decide) (by decide +kernel)
  rw [← ex (by show m < 2 * 2 ^ 52; omega) (by show -1074 ≤ e; omega)]
  exact hv
theorem vl_fin {k : FloatKind} {x : Nat} {a : Rat} (h : Vl k.format x a) : (k.format.read x).isInfinity = false := by
  obtain ⟨s, m, e, h1, _⟩ := h
  rw [h1]; rfl
theorem vl_cvt {x : Nat} {a B : Rat} (hx : Vl FloatKind.f64.format x a) (h1 : -B ≤ a) (h2 : a ≤ B) (hB : B ≤ p2 120) :
    ∃ y v, fcvt .f64 .f32 x = some y ∧ Vl FloatKind.f32.format y v ∧ 2 * v ≤ 2 * a + er2 .f32 B ∧ 2 * a ≤ 2 * v + er2 .f32 B := by
  obtain ⟨s, m, e, r, _, ha⟩ := hx
  rw [ha] at h1 h2 ⊢
  obtain ⟨v, hv, e1, e2⟩ := vl_near .f32 h1 h2 hB
  refine ⟨_, v, ?_, hv, e1, e2⟩
  have hn : nanB .f64 x = false := by unfold nanB FloatKind.decode; rw [r]; rfl
  unfold fcvt
  rw [hn, if_neg (by decide)]
  unfold floatToFloatBits
  rw [if_neg (by decide), show FloatKind.f64.decode x = _ from r]
  dsimp only
  have hf : (FloatKind.f32.decode (FloatKind.f32.encode (.number s m e))).isInfinity = false := vl_fin (k := .f32) hv
  rw [hf]
  rfl

/-! Roots. -/
theorem rootFrom_in (n : Nat) : ∀ (todo r : Nat), r * r ≤ n → n < (r + 2 ^ todo) * (r + 2 ^ todo) → Datum.rootFrom n todo r * Datum.rootFrom n todo r ≤ n ∧ n < (Datum.rootFrom n todo r + 1) * (Datum.rootFrom n todo r + 1)
  | 0, r, h1, h2 => ⟨h1, h2⟩
  | todo + 1, r, h1, h2 => by
    unfold Datum.rootFrom
    dsimp only
    rw [Nat.one_shiftLeft]
    by_cases c : (r + 2 ^ todo) * (r + 2 ^ todo) ≤ n
    · rw [if_pos c]
      refine rootFrom_in n todo _ c ?_
      rw [Nat.pow_succ, Nat.mul_two, ← Nat.add_assoc] at h2
      exact h2
    · rw [if_neg c]
      exact rootFrom_in n todo r h1 (by omega)
theorem root_nat (digits n w M : Nat) (hn : 2 ^ (2 * digits) ≤ n) (hw : w = Datum.rootFrom n (n.log2 / 2 + 1) 0) (hM : M = 2 * w + (w * w != n).toNat) : M * M * 2 ^ digits ≤ 4 * n * 2 ^ digits + 4 * n ∧ 4 * n * 2 ^ digits ≤ M * M * 2 ^ digits + 4 * n := by
  obtain ⟨h1, h2⟩ := rootFrom_in n (n.log2 / 2 + 1) 0 (by omega) (by
    rw [Nat.zero_add, ← Nat.pow_add]
    exact Nat.lt_of_lt_of_le Nat.lt_log2_self (Nat.pow_le_pow_right (by omega) (by omega)))
  rw [← hw] at h1 h2
  have hwd : 2 ^ digits ≤ w := by
    refine Nat.le_of_not_lt fun c => ?_
    have h3 := Nat.mul_le_mul (show w + 1 ≤ 2 ^ digits by omega) (show w + 1 ≤ 2 ^ digits by omega)
    rw [← Nat.pow_add, show digits + digits = 2 * digits by omega] at h3
    omega
  have hww : w * 2 ^ digits ≤ n := Nat.le_trans (Nat.mul_le_mul_left w hwd) h1
  have e1 : (w + 1) * (w + 1) = w * w + 2 * w + 1 := by rw [Nat.add_mul, Nat.mul_add]; omega
  rw [e1] at h2
  by_cases hq : w * w = n
  · have hb : (w * w != n) = false := by simp [hq]
    rw [hb] at hM
    have hM : M = 2 * w := by simpa using hM
    have e2 : M * M = 4 * n := by rw [hM, ← hq, Nat.mul_mul_mul_comm]
    rw [e2]; omega
  · have hb : (w * w != n) = true := by simp [hq]
    rw [hb] at hM
    have hM : M = 2 * w + 1 := by simpa using hM
    have e2 : M * M = 4 * (w * w) + 4 * w + 1 := by
      rw [hM, Nat.add_mul, Nat.mul_add, Nat.mul_mul_mul_comm]; omega
    have h3 : M * M ≤ 4 * n + 4 * w := by rw [e2]; omega
    have h4 : 4 * n ≤ M * M + 4 * w := by rw [e2]; omega
    have h5 := Nat.mul_le_mul_right (2 ^ digits) h3
    have h6 := Nat.mul_le_mul_right (2 ^ digits) h4
    rw [Nat.add_mul, Nat.mul_assoc 4 w] at h5 h6
    omega
/-- The root of a 64-bit number, near. -/
theorem vl_sqrt {x : Nat} {a B : Rat} (hx : Vl FloatKind.f64.format x a) (h0 : 0 ≤ a) (hB0 : 0 ≤ B) (h2 : 4 * a ≤ B * B) (hB : B ≤ p2 120) :
    ∃ v R, Vl FloatKind.f64.format (fsqrt x) v ∧ 0 ≤ R ∧ R ≤ B ∧ R * R ≤ a + a * p2 (-54) ∧ a ≤ R * R + a * p2 (-54) ∧ 2 * v ≤ 2 * R + er2 .f64 B ∧ 2 * R ≤ 2 * v + er2 .f64 B := by
  obtain ⟨s, m, i, r, hl, ha⟩ := hx
  by_cases hm : m = 0
  · subst hm
    have hz : a = 0 := by
      rw [ha, dv_sgn]
      have : ((0 : Nat) : Rat) = 0 := rfl
      rw [this]; split <;> grind
    have hd : dv s 0 i = 0 := by rw [← ha]; exact hz
    obtain ⟨v, hv, e1, e2⟩ := vl_near .f64 (s := s) (m := 0) (p := i) (B := B) (by rw [hd]; grind) (by rw [hd]; exact hB0) hB
    refine ⟨v, 0, ?_, by grind, hB0, by rw [hz]; grind, by rw [hz]; grind, by rw [hd] at e1; exact e1, by rw [hd] at e2; exact e2⟩
    have : fsqrt x = FloatKind.f64.format.nearest s 0 i := by
      unfold fsqrt Format.sqrt
      rw [r]
      show (Option.map _ (Datum.root 54 (.number s 0 i))).getD _ = _
      have e : Datum.root 54 (.number s 0 i) = some (.number s 0 i) := rfl
      rw [e, num_getD']
    rw [this]; exact hv
  · have hs : s = false := by
      cases s
      · rfl
      · rw [ha, dv_sgn] at h0
        simp only [if_true] at h0
        have : 0 < (m : Rat) * p2 i := Rat.mul_pos (Rat.natCast_pos.2 (Nat.pos_of_ne_zero hm)) (p2_pos _)
        grind
    subst hs
    obtain ⟨more, hmore⟩ : ∃ more, more = 2 * 54 - m.log2 + ((i - ((2 * 54 - m.log2 : Nat) : Int)) % 2).toNat := ⟨_, rfl⟩
    obtain ⟨n, hn⟩ : ∃ n, n = m * 2 ^ more := ⟨_, rfl⟩
    obtain ⟨w, hw⟩ : ∃ w, w = Datum.rootFrom n (n.log2 / 2 + 1) 0 := ⟨_, rfl⟩
    obtain ⟨M, hM⟩ : ∃ M, M = 2 * w + (w * w != n).toNat := ⟨_, rfl⟩
    have hrt : Datum.root 54 (.number false m i) = some (.number false M ((i - more) / 2 - 1)) := by
      unfold Datum.root
      dsimp only
      rw [if_neg hm]
      simp only [Bool.false_eq_true, if_false]
      rw [← hmore, Nat.shiftLeft_eq, ← hn, ← hw, ← hM]
    have hn2 : 2 ^ (2 * 54) ≤ n := by
      have h3 : 2 ^ m.log2 * 2 ^ more ≤ m * 2 ^ more := Nat.mul_le_mul_right _ (Nat.log2_self_le hm)
      rw [← Nat.pow_add, ← hn] at h3
      exact Nat.le_trans (Nat.pow_le_pow_right (by decide) (by omega)) h3
    obtain ⟨q1, q2⟩ := root_nat 54 n w M hn2 hw hM
    have hpar : (i - more) % 2 = 0 := by omega
    obtain ⟨P, hP⟩ : ∃ P : Int, P = (i - more) / 2 - 1 := ⟨_, rfl⟩
    have hPP : P + P = i - more - 2 := by omega
    obtain ⟨R, hR⟩ : ∃ R : Rat, R = (M : Rat) * p2 P := ⟨_, rfl⟩
    have hR0 : 0 ≤ R := by rw [hR]; exact mag_nonneg _ _
    have hdvR : dv false M P = R := by rw [dv_sgn, hR]; rfl
    have hA : a = (m : Rat) * p2 i := by rw [ha, dv_sgn]; rfl
    have e54 := p2_neg 54
    have hE := p2_pos (-((54 : Nat) : Int))
    have hE' : p2 (-54) = p2 (-((54 : Nat) : Int)) := rfl
    rw [hE']
    generalize p2 (-((54 : Nat) : Int)) = E at *
    have hq := Rat.le_of_lt (p2_pos (i - more - 2))
    have k1 : ((M * M * 2 ^ 54 : Nat) : Rat) * p2 (i - more - 2) = R * R * ((2 ^ 54 : Nat) : Rat) := by
      rw [Rat.natCast_mul, Rat.natCast_mul, ← hPP, p2_add, hR]; grind
    have k2 : ((4 * n : Nat) : Rat) * p2 (i - more - 2) = a := by
      rw [hA, hn, show 4 * (m * 2 ^ more) = m * 2 ^ (more + 2) by rw [Nat.pow_add, show 2 ^ 2 = 4 from rfl, Nat.mul_left_comm, Nat.mul_comm 4], nat_mul_p2]
      congr 2; omega
    have k3 : ((4 * n * 2 ^ 54 : Nat) : Rat) * p2 (i - more - 2) = a * ((2 ^ 54 : Nat) : Rat) := by
      rw [Rat.natCast_mul, ← k2]; grind
    have g1 := mul_le_r (Rat.natCast_le_natCast.2 q1) hq
    have g2 := mul_le_r (Rat.natCast_le_natCast.2 q2) hq
    rw [Rat.natCast_add] at g1 g2
    have g3 : R * R * ((2 ^ 54 : Nat) : Rat) ≤ a * ((2 ^ 54 : Nat) : Rat) + a := by rw [← k1, ← k3]; grind
    have g4 : a * ((2 ^ 54 : Nat) : Rat) ≤ R * R * ((2 ^ 54 : Nat) : Rat) + a := by rw [← k1, ← k3]; grind
    have hR1 : R * R ≤ a + a * E := by
      have := mul_le_r g3 (Rat.le_of_lt hE)
      have z1 : R * R * ((2 ^ 54 : Nat) : Rat) * E = R * R * (E * ((2 ^ 54 : Nat) : Rat)) := by grind
      have z2 : (a * ((2 ^ 54 : Nat) : Rat) + a) * E = a * (E * ((2 ^ 54 : Nat) : Rat)) + a * E := by grind
      rw [z1, z2, e54] at this
      grind
    have hR2 : a ≤ R * R + a * E := by
      have := mul_le_r g4 (Rat.le_of_lt hE)
      have z1 : a * ((2 ^ 54 : Nat) : Rat) * E = a * (E * ((2 ^ 54 : Nat) : Rat)) := by grind
      have z2 : (R * R * ((2 ^ 54 : Nat) : Rat) + a) * E = R * R * (E * ((2 ^ 54 : Nat) : Rat)) + a * E := by grind
      rw [z1, z2, e54] at this
      grind
    have hE1 : E ≤ 1 := by
      have h3 : (1 : Rat) ≤ ((2 ^ 54 : Nat) : Rat) := by decide +kernel
      have := Rat.mul_le_mul_of_nonneg_left h3 (Rat.le_of_lt hE)
      rw [e54] at this
      grind
    have hRB : R ≤ B := by
      refine Rat.not_lt.1 fun c => ?_
      have h3 : B * B < R * R := by
        have c1 := Rat.mul_le_mul_of_nonneg_left (Rat.le_of_lt c) hB0
        have c2 := Rat.mul_lt_mul_of_pos_right c (show 0 < R by grind)
        grind
      have h4 : a * E ≤ a * 1 := Rat.mul_le_mul_of_nonneg_left hE1 h0
      grind
    obtain ⟨v, hv, e1, e2⟩ := vl_near .f64 (s := false) (m := M) (p := P) (B := B) (by rw [hdvR]; grind) (by rw [hdvR]; exact hRB) hB
    rw [hdvR] at e1 e2
    refine ⟨v, R, ?_, hR0, hRB, hR1, hR2, e1, e2⟩
    have : fsqrt x = FloatKind.f64.format.nearest false M P := by
      unfold fsqrt Format.sqrt
      rw [r]
      show (Option.map _ (Datum.root 54 (.number false m i))).getD _ = _
      rw [hrt, num_getD', hP]
    rw [this]; exact hv

/-! Exact results. -/
theorem dv_zero {s : Bool} {m : Nat} {p : Int} (h : dv s m p = 0) : m = 0 := by
  refine Classical.byContradiction fun c => ?_
  have hp : 0 < (m : Rat) * p2 p := Rat.mul_pos (Rat.natCast_pos.2 (Nat.pos_of_ne_zero c)) (p2_pos _)
  rw [dv_sgn] at h
  split at h <;> grind
theorem near_nil (k : FloatKind) (s : Bool) (p : Int) : Vl k.format (k.format.nearest s 0 p) 0 := by
  obtain ⟨v, hv, e1, e2, _⟩ := near_err k.format s 0 p 120 (.inl rfl) (k_hl k) (k_fin k)
  have hz : dv s 0 p = 0 := by
    rw [dv_sgn]
    have : ((0 : Nat) : Rat) = 0 := rfl
    rw [this]; split <;> grind
  have hn : k.format.nearest s 0 p = k.format.word s 0 := by unfold Format.nearest; rw [if_pos rfl]
  have hw := vl_word k.format s (r := 0) (Nat.pos_of_ne_zero (by cases k <;> decide +kernel))
  rw [rmag_zero] at hw
  have hz2 : dv s 0 k.format.leastPlace = 0 := by
    rw [dv_sgn]
    have : ((0 : Nat) : Rat) = 0 := rfl
    rw [this]; split <;> grind
  rw [hz2] at hw
  rw [hn]; exact hw
theorem p2_inj_nat {a b : Nat} {q : Int} (h : (a : Rat) * p2 q = (b : Rat) * p2 q) : a = b := by
  have h1 : (a : Rat) = (b : Rat) := by
    have hp := p2_pos q
    rcases Rat.mul_eq_zero.1 (show ((a : Rat) - (b : Rat)) * p2 q = 0 by grind) with c | c
    · grind
    · rw [c] at hp; exact absurd hp Rat.lt_irrefl
  exact Rat.natCast_inj.1 h1
/-- A result that the format has, whatever it was reckoned from. -/
theorem vl_has (k : FloatKind) {s : Bool} {m : Nat} {p : Int} {N : Int} {j : Nat} (h : dv s m p = (N : Rat) * p2 (-(j : Int))) (hN : N.natAbs < 2 * k.format.binade) (hj : k.format.leastPlace ≤ -(j : Int)) (hB : (N.natAbs : Rat) * p2 (-(j : Int)) ≤ p2 120) :
    Vl k.format (k.format.nearest s m p) ((N : Rat) * p2 (-(j : Int))) := by
  by_cases h0 : m = 0
  · subst h0
    have hz : dv s 0 p = 0 := by
      rw [dv_sgn]
      have : ((0 : Nat) : Rat) = 0 := rfl
      rw [this]; split <;> grind
    rw [← h, hz]
    exact near_nil k s p
  · have hpos : 0 < (m : Rat) * p2 p := Rat.mul_pos (Rat.natCast_pos.2 (Nat.pos_of_ne_zero h0)) (p2_pos _)
    have hjp := p2_pos (-(j : Int))
    have hsg : sgi s N.natAbs = N := by
      unfold sgi
      rw [dv_sgn] at h
      rcases Int.lt_trichotomy N 0 with c | c | c
      · have h1 : (N : Rat) < ((0 : Int) : Rat) := Rat.intCast_lt_intCast.2 c
        have h2 := Rat.mul_lt_mul_of_pos_right h1 hjp
        have h3 : ((0 : Int) : Rat) = 0 := rfl
        rw [h3] at h2
        cases s
        · simp only [Bool.false_eq_true, if_false] at h; grind
        · simp only [if_true]; omega
      · subst c
        have h3 : ((0 : Int) : Rat) = 0 := rfl
        rw [h3] at h
        split at h <;> grind
      · have h1 : ((0 : Int) : Rat) < (N : Rat) := Rat.intCast_lt_intCast.2 c
        have h2 := Rat.mul_lt_mul_of_pos_right h1 hjp
        have h3 : ((0 : Int) : Rat) = 0 := rfl
        rw [h3] at h2
        cases s
        · simp only [Bool.false_eq_true, if_false]; omega
        · simp only [if_true] at h; grind
    have hd : dv s N.natAbs (-(j : Int)) = (N : Rat) * p2 (-(j : Int)) := by unfold dv; rw [hsg]
    have hmag : (m : Rat) * p2 p = (N.natAbs : Rat) * p2 (-(j : Int)) := by
      have h5 : dv s m p = dv s N.natAbs (-(j : Int)) := by rw [hd, h]
      rw [dv_sgn, dv_sgn] at h5
      cases s
      · simpa using h5
      · simp only [if_true] at h5; grind
    obtain ⟨q, hq⟩ : ∃ q : Int, q = min p (-(j : Int)) := ⟨_, rfl⟩
    have e1 : m * 2 ^ (p - q).toNat = N.natAbs * 2 ^ (-(j : Int) - q).toNat := by
      refine p2_inj_nat (q := q) ?_
      rw [nat_mul_p2, nat_mul_p2, show q + ((p - q).toNat : Int) = p by omega, show q + ((-(j : Int) - q).toNat : Int) = -(j : Int) by omega]
      exact hmag
    have e2 : k.format.nearest s m p = k.format.nearest s N.natAbs (-(j : Int)) := by
      have a1 := nearest_shift k.format s m (p - q).toNat q
      have a2 := nearest_shift k.format s N.natAbs (-(j : Int) - q).toNat q
      rw [show q + ((p - q).toNat : Int) = p by omega] at a1
      rw [show q + ((-(j : Int) - q).toNat : Int) = -(j : Int) by omega] at a2
      rw [← a1, e1, a2]
    rw [e2, ← hd]
    exact vl_exact k hN hj hB
theorem vl_add_ex {k : FloatKind} {x y : Nat} {a b : Rat} {N : Int} {j : Nat} (hx : Vl k.format x a) (hy : Vl k.format y b) (h : a + b = (N : Rat) * p2 (-(j : Int))) (hN : N.natAbs < 2 * k.format.binade) (hj : k.format.leastPlace ≤ -(j : Int)) (hB : (N.natAbs : Rat) * p2 (-(j : Int)) ≤ p2 120) : Vl k.format (fop .add k x y) ((N : Rat) * p2 (-(j : Int))) := by
  obtain ⟨s, m, i, r1, _, ha⟩ := hx
  obtain ⟨t, n, l, r2, _, hb⟩ := hy
  obtain ⟨S, M, P, e, he⟩ := sum_val (f := k.format) (s := s) (t := t) (m := m) (n := n) (i := i) (j := l)
  rw [fop_add, r1, r2, e, num_getD']
  exact vl_has k (by rw [he, ← ha, ← hb]; exact h) hN hj hB
theorem vl_sub_ex {k : FloatKind} {x y : Nat} {a b : Rat} {N : Int} {j : Nat} (hx : Vl k.format x a) (hy : Vl k.format y b) (h : a - b = (N : Rat) * p2 (-(j : Int))) (hN : N.natAbs < 2 * k.format.binade) (hj : k.format.leastPlace ≤ -(j : Int)) (hB : (N.natAbs : Rat) * p2 (-(j : Int)) ≤ p2 120) : Vl k.format (fop .sub k x y) ((N : Rat) * p2 (-(j : Int))) := by
  obtain ⟨s, m, i, r1, _, ha⟩ := hx
  obtain ⟨t, n, l, r2, hb⟩ := vl_opp hy
  obtain ⟨S, M, P, e, he⟩ := sum_val (f := k.format) (s := s) (t := t) (m := m) (n := n) (i := i) (j := l)
  rw [fop_sub, r1, r2, e, num_getD']
  exact vl_has k (by rw [he, ← ha, hb, ← h]; grind) hN hj hB
theorem vl_mul_ex {k : FloatKind} {x y : Nat} {a b : Rat} {N : Int} {j : Nat} (hx : Vl k.format x a) (hy : Vl k.format y b) (h : a * b = (N : Rat) * p2 (-(j : Int))) (hN : N.natAbs < 2 * k.format.binade) (hj : k.format.leastPlace ≤ -(j : Int)) (hB : (N.natAbs : Rat) * p2 (-(j : Int)) ≤ p2 120) : Vl k.format (fop .mul k x y) ((N : Rat) * p2 (-(j : Int))) := by
  obtain ⟨s, m, i, r1, _, ha⟩ := hx
  obtain ⟨t, n, l, r2, _, hb⟩ := hy
  rw [fop_mul, r1, r2]
  have e : Datum.product (.number s m i) (.number t n l) = some (.number (s ^^ t) (m * n) (i + l)) := rfl
  rw [e, num_getD']
  exact vl_has k (by rw [dv_mul, ← ha, ← hb]; exact h) hN hj hB
/-- The root of a 32-bit number. -/
theorem vl_froot {x : Nat} {a B : Rat} (hx : Vl FloatKind.f32.format x a) (h0 : 0 ≤ a) (hB0 : 0 ≤ B) (h2 : 4 * a ≤ B * B) (hB : 2 * B + er2 .f64 B ≤ p2 120) :
    ∃ v R, Vl FloatKind.f32.format (froot x) v ∧ 0 ≤ R ∧ R ≤ B ∧ R * R ≤ a + a * p2 (-54) ∧ a ≤ R * R + a * p2 (-54) ∧ 2 * v ≤ 2 * R + (er2 .f64 B + er2 .f32 (B + er2 .f64 B)) ∧ 2 * R ≤ 2 * v + (er2 .f64 B + er2 .f32 (B + er2 .f64 B)) := by
  have hE : 0 ≤ er2 .f64 B := by
    unfold er2
    have h1 := Rat.mul_nonneg hB0 (Rat.le_of_lt (p2_pos (-FloatKind.f64.format.fractionBits)))
    have h2 := p2_pos FloatKind.f64.format.leastPlace
    grind
  obtain ⟨w, R, hw, R0, RB, q1, q2, e1, e2⟩ := vl_sqrt (vl_wid hx) h0 hB0 h2 (by grind)
  obtain ⟨y, v, hy, hv, f1, f2⟩ := vl_cvt hw (B := B + er2 .f64 B) (by grind) (by grind) (by grind)
  have : froot x = y := by unfold froot; rw [hy]; rfl
  rw [this]
  exact ⟨v, R, hv, R0, RB, q1, q2, by grind, by grind⟩
theorem vl_froot0 {x : Nat} (hx : Vl FloatKind.f32.format x 0) : Vl FloatKind.f32.format (froot x) 0 := by
  have h1 := vl_wid hx
  obtain ⟨s, m, i, r, _, ha⟩ := h1
  have hm := dv_zero ha.symm
  subst hm
  have h2 : fsqrt (wid x) = FloatKind.f64.format.nearest s 0 i := by
    unfold fsqrt Format.sqrt
    rw [r]
    show (Option.map _ (Datum.root 54 (.number s 0 i))).getD _ = _
    have e : Datum.root 54 (.number s 0 i) = some (.number s 0 i) := rfl
    rw [e, num_getD']
  have h3 : Vl FloatKind.f64.format (fsqrt (wid x)) 0 := by rw [h2]; exact near_nil .f64 s i
  obtain ⟨y, v, hy, hv, f1, f2⟩ := vl_cvt h3 (B := 0) (by decide) (by decide) (Rat.le_of_lt (p2_pos _))
  obtain ⟨s', m', e', r', _, ha'⟩ := h3
  have hm' := dv_zero ha'.symm
  subst hm'
  have hy2 : y = FloatKind.f32.format.nearest s' 0 e' := by
    have hn : nanB .f64 (fsqrt (wid x)) = false := by unfold nanB FloatKind.decode; rw [r']; rfl
    unfold fcvt at hy
    rw [hn, if_neg (by decide)] at hy
    unfold floatToFloatBits at hy
    rw [if_neg (by decide), show FloatKind.f64.decode (fsqrt (wid x)) = _ from r'] at hy
    dsimp only at hy
    split at hy
    · cases hy
    · exact (Option.some.inj hy).symm
  have : froot x = y := by unfold froot; rw [hy]; rfl
  rw [this, hy2]
  exact near_nil .f32 s' e'
end Go.Awp
