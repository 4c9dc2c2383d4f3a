/- The order of numbers is the order of their words; signs.
Conditions: none. -/
import Derived.Test.YtbjfkhjckfodbaaNea
import Derived.Test.YtbjfkhjckfodbaaEnt
namespace Go.Awp
set_option linter.all false
open Go Ieee

def rmag (f : Format) (r : Nat) : Nat := if r < f.binade then r else (f.binade + r % f.binade) * 2 ^ (r / f.binade - 1)
theorem read_rmag (f : Format) {w : Nat} (h : w % f.signWeight < f.infRung) :
    ∃ m e, f.read w = .number (w / f.signWeight % 2 == 1) m e ∧ f.leastPlace ≤ e ∧ m * 2 ^ (e - f.leastPlace).toNat = rmag f (w % f.signWeight) := by
  unfold Format.read rmag
  dsimp only
  by_cases c : w % f.signWeight < f.binade
  · rw [if_pos c, if_pos c]; exact ⟨_, _, rfl, Int.le_refl _, by simp⟩
  · rw [if_neg c, if_pos h, if_neg c]
    exact ⟨_, _, rfl, by omega, by congr 2; omega⟩
theorem rmag_succ (f : Format) (r : Nat) : rmag f r < rmag f (r + 1) := by
  have hb : 0 < f.binade := Nat.two_pow_pos _
  have hp : ∀ n, 0 < 2 ^ n := Nat.two_pow_pos
  unfold rmag
  have hdm := Nat.div_add_mod r f.binade
  have hlt := Nat.mod_lt r hb
  generalize hq : r / f.binade = q at *
  generalize ht : r % f.binade = t at *
  generalize f.binade = b at *
  by_cases c : t + 1 < b
  · have e1 : (r + 1) / b = q := by
      rw [← hdm, Nat.add_assoc, Nat.mul_add_div hb, Nat.div_eq_of_lt c]; omega
    have e2 : (r + 1) % b = t + 1 := by
      rw [← hdm, Nat.add_assoc, Nat.mul_add_mod, Nat.mod_eq_of_lt c]
    rw [e1, e2]
    by_cases hq0 : q = 0
    · subst hq0
      simp at hdm
      rw [if_pos (by omega), if_pos (by omega)]; omega
    · have : b ≤ b * q := Nat.le_mul_of_pos_right b (by omega)
      rw [if_neg (by omega), if_neg (by omega)]
      exact Nat.mul_lt_mul_of_pos_right (by omega) (hp _)
  · have ht' : t + 1 = b := by omega
    have e1 : (r + 1) / b = q + 1 := by
      have : r + 1 = b * (q + 1) := by rw [Nat.mul_add, ← hdm]; omega
      rw [this, Nat.mul_div_cancel_left _ hb]
    have e2 : (r + 1) % b = 0 := by
      have : r + 1 = b * (q + 1) := by rw [Nat.mul_add, ← hdm]; omega
      rw [this, Nat.mul_mod_right]
    rw [e1, e2]
    by_cases hq0 : q = 0
    · subst hq0
      simp at hdm
      rw [if_pos (by omega), if_neg (by omega)]; simp; omega
    · have : b ≤ b * q := Nat.le_mul_of_pos_right b (by omega)
      rw [if_neg (by omega), if_neg (by omega)]
      have e3 : 2 ^ (q + 1 - 1) = 2 * 2 ^ (q - 1) := by rw [← Nat.pow_succ']; congr 1; omega
      rw [e3, ← Nat.mul_assoc]
      exact Nat.mul_lt_mul_of_pos_right (by omega) (hp _)
theorem rmag_lt (f : Format) {r s : Nat} (h : r < s) : rmag f r < rmag f s := by
  induction s with
  | zero => omega
  | succ s ih =>
    by_cases c : r = s
    · subst c; exact rmag_succ f r
    · exact Nat.lt_trans (ih (by omega)) (rmag_succ f s)
theorem rmag_zero (f : Format) : rmag f 0 = 0 := by
  have h : 0 < f.binade := Nat.two_pow_pos _
  unfold rmag; rw [if_pos h]
def skey (s : Bool) (r : Nat) : Int := if s then -(r : Int) else r
theorem skey_lt {g : Nat → Nat} (h0 : g 0 = 0) (hg : ∀ r s, r < s → g r < g s) (s t : Bool) (a b : Nat) : skey s (g a) < skey t (g b) ↔ skey s a < skey t b := by
  have hz : ∀ a, 0 < a → 0 < g a := fun a ha => by have := hg 0 a ha; omega
  have hi : ∀ a b, g a < g b ↔ a < b := fun a b => ⟨fun h => by
    rcases Nat.lt_trichotomy a b with c | c | c
    · exact c
    · subst c; omega
    · have := hg b a c; omega, hg a b⟩
  have h1 := hi a b
  have h2 := hi b a
  have h3 := hz a
  have h4 := hz b
  cases s <;> cases t <;> simp only [skey, if_true, Bool.false_eq_true, if_false]
  · omega
  · omega
  · constructor
    · intro h
      rcases Nat.eq_zero_or_pos a with c | c
      · rcases Nat.eq_zero_or_pos b with d | d
        · subst c; subst d; omega
        · omega
      · omega
    · intro h
      rcases Nat.eq_zero_or_pos a with c | c
      · have := h4 (by omega); omega
      · have := h3 c; omega
  · omega
theorem cmp_congr {a b c d : Int} (h1 : a < b ↔ c < d) (h2 : b < a ↔ d < c) : compare a b = compare c d := by
  rw [Int.compare_eq_ite_lt, Int.compare_eq_ite_lt]
  by_cases x : a < b
  · rw [if_pos x, if_pos (h1.1 x)]
  · rw [if_neg x, if_neg (fun h => x (h1.2 h))]
    by_cases y : b < a
    · rw [if_pos y, if_pos (h2.1 y)]
    · rw [if_neg y, if_neg (fun h => y (h2.2 h))]
/-- A word's place among the numbers. -/
def keyW (k : FloatKind) (w : Nat) : Int := skey (w / k.format.signWeight % 2 == 1) (w % k.format.signWeight)
theorem signed_skey (s : Bool) (m i p : Nat) : Ieee.signed s m i * (2 ^ p : Nat) = skey s (m * 2 ^ (i + p)) := by
  unfold Ieee.signed skey
  rw [Nat.shiftLeft_eq, Nat.pow_add, ← Nat.mul_assoc]
  cases s <;> simp [Int.neg_mul]
theorem ford_key {k : FloatKind} {x y : Nat} (hx : nanB k x = false) (hy : nanB k y = false) : ford k x y = some (compare (keyW k x) (keyW k y)) := by
  rw [nanB_eq, decide_eq_false_iff_not] at hx hy
  have inf : ∀ w, w % k.format.signWeight = k.format.infRung → k.format.read w = .infinity (w / k.format.signWeight % 2 == 1) := by
    intro w h
    have hb := binade_le_inf k
    unfold Format.read
    dsimp only
    rw [if_neg (by omega), if_neg (by omega), if_pos h]
  unfold ford Format.order keyW
  by_cases cx : x % k.format.signWeight < k.format.infRung
  · obtain ⟨m, i, hm, hi, em⟩ := read_rmag k.format cx
    rw [hm]
    by_cases cy : y % k.format.signWeight < k.format.infRung
    · obtain ⟨n, j, hn, hj, en⟩ := read_rmag k.format cy
      rw [hn]
      simp only [Datum.order, Option.some.injEq]
      have hp : (0 : Int) < (2 ^ (min i j - k.format.leastPlace).toNat : Nat) := by exact_mod_cast Nat.two_pow_pos _
      have e1 := signed_skey (x / k.format.signWeight % 2 == 1) m (i - min i j).toNat (min i j - k.format.leastPlace).toNat
      have e2 := signed_skey (y / k.format.signWeight % 2 == 1) n (j - min i j).toNat (min i j - k.format.leastPlace).toNat
      rw [show (i - min i j).toNat + (min i j - k.format.leastPlace).toNat = (i - k.format.leastPlace).toNat by omega, em] at e1
      rw [show (j - min i j).toNat + (min i j - k.format.leastPlace).toNat = (j - k.format.leastPlace).toNat by omega, en] at e2
      have key := fun s t a b => skey_lt (rmag_zero k.format) (fun r s h => rmag_lt k.format h) s t a b
      refine cmp_congr ?_ ?_
      · rw [← key, ← e1, ← e2]
        exact (Int.mul_lt_mul_right hp).symm
      · rw [← key, ← e1, ← e2]
        exact (Int.mul_lt_mul_right hp).symm
    · have hyi : y % k.format.signWeight = k.format.infRung := by omega
      rw [inf y hyi, hyi]
      simp only [Datum.order, Option.some.injEq]
      rw [Int.compare_eq_ite_lt]
      cases hs : (x / k.format.signWeight % 2 == 1) <;> cases ht : (y / k.format.signWeight % 2 == 1) <;> simp only [skey, if_true, Bool.false_eq_true, if_false]
      · rw [if_pos (by omega)]
      · rw [if_neg (by omega), if_pos (by omega)]
      · rw [if_pos (by omega)]
      · rw [if_neg (by omega), if_pos (by omega)]
  · have hxi : x % k.format.signWeight = k.format.infRung := by omega
    rw [inf x hxi, hxi]
    by_cases cy : y % k.format.signWeight < k.format.infRung
    · obtain ⟨n, j, hn, hj, en⟩ := read_rmag k.format cy
      rw [hn]
      simp only [Datum.order, Option.some.injEq]
      rw [Int.compare_eq_ite_lt]
      cases hs : (x / k.format.signWeight % 2 == 1) <;> cases ht : (y / k.format.signWeight % 2 == 1) <;> simp only [skey, if_true, Bool.false_eq_true, if_false]
      · rw [if_neg (by omega), if_pos (by omega)]
      · rw [if_neg (by omega), if_pos (by omega)]
      · rw [if_pos (by omega)]
      · rw [if_pos (by omega)]
    · have hyi : y % k.format.signWeight = k.format.infRung := by omega
      have hpos : 0 < k.format.infRung := by cases k <;> decide +kernel
      rw [inf y hyi, hyi]
      simp only [Datum.order, Option.some.injEq]
      rw [Int.compare_eq_ite_lt]
      cases hs : (x / k.format.signWeight % 2 == 1) <;> cases ht : (y / k.format.signWeight % 2 == 1) <;> simp only [skey, if_true, Bool.false_eq_true, if_false]
      · rw [if_neg (by omega), if_neg (by omega)]; rfl
      · rw [if_neg (by omega), if_pos (by omega)]; rfl
      · rw [if_pos (by omega)]; rfl
      · rw [if_neg (by omega), if_neg (by omega)]; rfl
theorem ford_self {k : FloatKind} {x : Nat} (h : nanB k x = false) : ford k x x = some .eq := by rw [ford_key h h]; simp
/-- Words that compare equal and have one sign are one. -/
theorem word_parts (k : FloatKind) {x : Nat} (h : x < 2 ^ k.format.width) : x = (if (x / k.format.signWeight % 2 == 1) = true then k.format.signWeight else 0) + x % k.format.signWeight := by
  rw [width_eq] at h
  have hp : 0 < k.format.signWeight := Nat.two_pow_pos _
  have hd := Nat.div_add_mod x k.format.signWeight
  have hl : x / k.format.signWeight < 2 := Nat.div_lt_of_lt_mul (by rw [Nat.mul_comm]; exact h)
  generalize hq : x / k.format.signWeight = q at *
  rcases (show q = 0 ∨ q = 1 by omega) with rfl | rfl
  · simp at hd ⊢; omega
  · simp at hd ⊢; omega
def sgB (k : FloatKind) (x : Nat) : Bool := x / k.format.signWeight % 2 == 1
theorem same_word {k : FloatKind} {x y : Nat} (hx : x < 2 ^ k.format.width) (hy : y < 2 ^ k.format.width) (nx : nanB k x = false) (ny : nanB k y = false) : (ford k x y = some .eq ∧ sgB k x = sgB k y) ↔ x = y := by
  rw [ford_key nx ny]
  constructor
  · rintro ⟨h1, h2⟩
    have h1 : compare (keyW k x) (keyW k y) = .eq := by simpa using h1
    rw [Int.compare_eq_eq] at h1
    unfold sgB at h2
    unfold keyW at h1
    rw [h2] at h1
    have e : x % k.format.signWeight = y % k.format.signWeight := by
      cases hs : (y / k.format.signWeight % 2 == 1) <;> rw [hs] at h1 <;> simp only [skey, if_true, Bool.false_eq_true, if_false] at h1 <;> omega
    rw [word_parts k hx, word_parts k hy, h2, e]
  · rintro rfl
    exact ⟨by simp, rfl⟩
/-- A number told in 64 bits keeps its sign. -/
theorem wid_sign {x : Nat} (nx : nanB .f32 x = false) : nanB .f64 (wid x) = false ∧ wid x < 2 ^ FloatKind.f64.format.width ∧ sgB .f64 (wid x) = sgB .f32 x := by
  have hw := fcvt_wid x
  unfold fcvt at hw
  rw [if_neg (by rw [nx]; simp)] at hw
  have h1 := floatToFloatBits_num nx hw
  have sw : ∀ s r, r < FloatKind.f64.format.signWeight → sgB .f64 (FloatKind.f64.format.word s r) = s := by
    intro s r hr
    have hp : 0 < FloatKind.f64.format.signWeight := Nat.two_pow_pos _
    unfold sgB Format.word
    cases s with
    | false => simp [Nat.div_eq_of_lt hr]
    | true => simp [Nat.add_div_left _ hp, Nat.div_eq_of_lt hr]
  have rd : ∀ (s : Bool) (m : Nat) (e : Int), FloatKind.f32.format.read x = .number s m e → s = sgB .f32 x := by
    intro s m e h
    unfold Format.read at h
    dsimp only at h
    unfold sgB
    split at h
    · cases h; rfl
    · split at h
      · cases h; rfl
      · split at h <;> cases h
  have ri : ∀ (s : Bool), FloatKind.f32.format.read x = .infinity s → s = sgB .f32 x := by
    intro s h
    unfold Format.read at h
    dsimp only at h
    unfold sgB
    split at h
    · cases h
    · split at h
      · cases h
      · split at h <;> cases h; rfl
  have key : wid x < 2 ^ FloatKind.f64.format.width ∧ sgB .f64 (wid x) = sgB .f32 x := by
    unfold floatToFloatBits at hw
    rw [if_neg (by decide)] at hw
    cases hd : FloatKind.f32.decode x with
    | nan s t => rw [hd] at hw; cases hw
    | infinity s =>
      rw [hd] at hw
      have hw : some (FloatKind.f64.format.word s FloatKind.f64.format.infRung) = some (wid x) := hw
      have hw := Option.some.inj hw
      rw [← hw]
      exact ⟨FloatKind.f64.format.word_lt s FloatKind.f64.format.infRung_lt, by rw [sw _ _ FloatKind.f64.format.infRung_lt]; exact ri s hd⟩
    | number s m e =>
      rw [hd] at hw
      dsimp only at hw
      split at hw
      · cases hw
      · have hw : FloatKind.f64.format.nearest s m e = wid x := Option.some.inj hw
        rw [← hw]
        refine ⟨FloatKind.f64.format.nearest_lt s m e, ?_⟩
        have hp := read_parts (binade_le_inf .f32) hd
        have hb : FloatKind.f32.format.binade = 8388608 := by decide
        have hi : FloatKind.f32.format.infRung = 2139095040 := by decide +kernel
        have hl : FloatKind.f32.format.leastPlace = -149 := by decide
        rw [hb, hi, hl] at hp
        obtain ⟨p1, p2, p3, _⟩ := hp
        have p4 : x % FloatKind.f32.format.signWeight / 8388608 < 255 := Nat.div_lt_of_lt_mul (by omega)
        have hlog := log2_of_lt (m := m) (k := 23) (by omega)
        obtain ⟨r, h1, h2⟩ := nearest_rung FloatKind.f64.format s m e 127 (by omega) (by decide)
        have hr : r ≤ 1151 * 2 ^ 52 := h2
        show sgB .f64 (FloatKind.f64.format.nearest s m e) = _
        rw [h1, sw _ _ (Nat.lt_of_le_of_lt hr (by decide +kernel))]
        exact rd s m e hd
  exact ⟨h1, key.1, key.2⟩
end Go.Awp
