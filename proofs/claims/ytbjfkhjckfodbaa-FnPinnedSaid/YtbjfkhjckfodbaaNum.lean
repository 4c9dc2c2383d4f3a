/- Words of numbers: how great they come out; conversions and roots that always come to a number.
Conditions: none. -/
import Derived.Test.YtbjfkhjckfodbaaFlo
namespace Go.Awp
set_option linter.all false
open Go Ieee

theorem cut_le {neg : Bool} {n drop B : Nat} (hB : 1 ≤ B) (h : n < B * 2 ^ drop) : Toward.even.cut neg n drop ≤ B := by
  unfold Toward.cut
  dsimp only
  have hg : n < B * 1 <<< min drop (n.log2 + 2) := by
    rw [Nat.one_shiftLeft]
    rcases Nat.le_total drop (n.log2 + 2) with c | c
    · rw [Nat.min_eq_left c]; exact h
    · rw [Nat.min_eq_right c]
      have h1 : n < 2 ^ (n.log2 + 1) := Nat.lt_log2_self
      have h2 : 2 ^ (n.log2 + 2) = 2 * 2 ^ (n.log2 + 1) := by rw [Nat.pow_succ]; omega
      have h3 : 1 * 2 ^ (n.log2 + 2) ≤ B * 2 ^ (n.log2 + 2) := Nat.mul_le_mul_right _ hB
      omega
  have hlow : n / 1 <<< min drop (n.log2 + 2) < B := Nat.div_lt_of_lt_mul (by rw [Nat.mul_comm]; exact hg)
  have hone : ∀ b : Bool, b.toNat ≤ 1 := fun b => by cases b <;> decide
  have := hone (1 <<< min drop (n.log2 + 2) < 2 * (n % 1 <<< min drop (n.log2 + 2)) || (1 <<< min drop (n.log2 + 2) == 2 * (n % 1 <<< min drop (n.log2 + 2)) && n / 1 <<< min drop (n.log2 + 2) % 2 == 1))
  omega

/-- The rung of a rounded number, where the number is not too great. -/
theorem nearest_rung (f : Format) (neg : Bool) (mag : Nat) (place K : Int) (hK : place + mag.log2 ≤ K) (hl : f.leastPlace + f.fractionBits ≤ K) :
    ∃ r, f.nearest neg mag place = f.word neg r ∧ r ≤ ((K - f.fractionBits - f.leastPlace).toNat + 2) * f.binade := by
  unfold Format.nearest
  by_cases h0 : mag = 0
  · rw [if_pos h0]; exact ⟨0, rfl, Nat.zero_le _⟩
  · rw [if_neg h0]
    refine ⟨_, rfl, Nat.le_trans (Nat.min_le_left ..) ?_⟩
    have hlast1 : place + mag.log2 - f.fractionBits ≤ max (place + ↑mag.log2 - ↑f.fractionBits) f.leastPlace := Int.le_max_left ..
    have hlast2 : max (place + ↑mag.log2 - ↑f.fractionBits) f.leastPlace ≤ K - f.fractionBits := Int.max_le.2 ⟨by omega, by omega⟩
    generalize max (place + ↑mag.log2 - ↑f.fractionBits) f.leastPlace = last at hlast1 hlast2
    have hm : mag < 2 ^ (mag.log2 + 1) := Nat.lt_log2_self
    have hk : Toward.even.cut neg (mag <<< (place - last).toNat) (last - place).toNat ≤ 2 ^ (f.fractionBits + 1) := by
      refine cut_le (Nat.one_le_two_pow) ?_
      rw [Nat.shiftLeft_eq, ← Nat.pow_add]
      have h1 : mag * 2 ^ (place - last).toNat < 2 ^ (mag.log2 + 1) * 2 ^ (place - last).toNat := Nat.mul_lt_mul_of_pos_right hm (Nat.two_pow_pos _)
      rw [← Nat.pow_add] at h1
      exact Nat.lt_of_lt_of_le h1 (Nat.pow_le_pow_right (by omega) (by omega))
    have hb : 2 ^ (f.fractionBits + 1) = 2 * f.binade := by rw [Nat.pow_succ]; unfold Format.binade; omega
    have h2 : (last - f.leastPlace).toNat * f.binade ≤ (K - f.fractionBits - f.leastPlace).toNat * f.binade := Nat.mul_le_mul_right _ (by omega)
    rw [Nat.add_mul]
    omega

theorem word_mod (f : Format) (neg : Bool) {r : Nat} (h : r < f.signWeight) : f.word neg r % f.signWeight = r := by
  unfold Format.word
  split
  · rw [Nat.add_mod_left]; exact Nat.mod_eq_of_lt h
  · exact Nat.mod_eq_of_lt h
theorem binade_le_inf (k : FloatKind) : k.format.binade ≤ k.format.infRung := by cases k <;> decide +kernel
theorem read_small (f : Format) {w : Nat} (h : w % f.signWeight < f.infRung) : ∃ m e, f.read w = .number (w / f.signWeight % 2 == 1) m e ∧ m < 2 * f.binade ∧ e ≤ f.leastPlace + (w % f.signWeight / f.binade - 1 : Nat) ∧ f.leastPlace ≤ e := by
  have hp : 0 < f.binade := Nat.two_pow_pos _
  unfold Format.read
  dsimp only
  by_cases c : w % f.signWeight < f.binade
  · rw [if_pos c]; exact ⟨_, _, rfl, by omega, by omega, by omega⟩
  · rw [if_neg c, if_pos h]
    have := Nat.mod_lt (w % f.signWeight) hp
    exact ⟨_, _, rfl, by omega, by omega, by omega⟩

/-- A word of a number: its parts are not too great. -/
theorem read_parts {f : Format} (hb : f.binade ≤ f.infRung) {w : Nat} {s : Bool} {m : Nat} {e : Int} (h : f.read w = .number s m e) : m < 2 * f.binade ∧ e ≤ f.leastPlace + (w % f.signWeight / f.binade - 1 : Nat) ∧ w % f.signWeight < f.infRung ∧ f.leastPlace ≤ e := by
  by_cases c : w % f.signWeight < f.infRung
  · obtain ⟨m', e', h1, h2, h3, h4⟩ := read_small f c
    rw [h] at h1; cases h1
    exact ⟨h2, h3, c, h4⟩
  · unfold Format.read at h
    dsimp only at h
    rw [if_neg (by omega), if_neg c] at h
    split at h <;> cases h
theorem log2_of_lt {m k : Nat} (h : m < 2 ^ (k + 1)) : m.log2 ≤ k := by
  by_cases h0 : m = 0
  · subst h0; simp
  · have h1 : 2 ^ m.log2 ≤ m := Nat.log2_self_le h0
    have : 2 ^ m.log2 < 2 ^ (k + 1) := by omega
    have := (Nat.pow_lt_pow_iff_right (by omega : 1 < 2)).1 this
    omega

/-- A 32-bit number is one of 64 bits too. -/
theorem fcvt_wide (x : Nat) : ∃ y, fcvt .f32 .f64 x = some y := by
  unfold fcvt
  by_cases hn : nanB .f32 x = true
  · rw [if_pos hn]; exact ⟨_, rfl⟩
  · rw [if_neg hn]
    unfold floatToFloatBits
    rw [if_neg (by decide)]
    cases hd : FloatKind.f32.decode x with
    | nan s t => exact absurd (by unfold nanB; rw [hd]; rfl) hn
    | infinity s => exact ⟨_, rfl⟩
    | number s m e =>
      dsimp only
      have hp := read_parts (binade_le_inf .f32) hd
      have hb : FloatKind.f32.format.binade = 8388608 := by decide
      have hi : FloatKind.f32.format.infRung = 2139095040 := by decide +kernel
      have hl : FloatKind.f32.format.leastPlace = -149 := by decide
      rw [hb, hi, hl] at hp
      obtain ⟨p1, p2, p3, _⟩ := hp
      have p4 : x % FloatKind.f32.format.signWeight / 8388608 < 255 := Nat.div_lt_of_lt_mul (by omega)
      have hlog := log2_of_lt (m := m) (k := 23) (by omega)
      obtain ⟨r, h1, h2⟩ := nearest_rung FloatKind.f64.format s m e 127 (by omega) (by decide)
      have hr : r ≤ 1151 * 2 ^ 52 := h2
      have hf : (FloatKind.f64.decode (FloatKind.f64.encode (.number s m e))).isInfinity = false := by
        show (FloatKind.f64.format.read (FloatKind.f64.format.nearest s m e)).isInfinity = false
        rw [h1]
        have hm := word_mod FloatKind.f64.format s (r := r) (Nat.lt_of_le_of_lt hr (by decide +kernel))
        obtain ⟨m', e', g, _⟩ := read_small FloatKind.f64.format (w := FloatKind.f64.format.word s r) (by rw [hm]; exact Nat.lt_of_le_of_lt hr (by decide +kernel))
        rw [g]; rfl
      rw [hf]
      exact ⟨_, rfl⟩

/-- A 32-bit number as one of 64 bits. -/
def wid (x : Nat) : Nat := (fcvt .f32 .f64 x).getD 0
@[simp] theorem fcvt_wid (x : Nat) : fcvt .f32 .f64 x = some (wid x) := by
  obtain ⟨y, h⟩ := fcvt_wide x
  unfold wid; rw [h]; rfl

theorem rootFrom_le (n : Nat) : ∀ (todo root : Nat), root * root ≤ n → Datum.rootFrom n todo root * Datum.rootFrom n todo root ≤ n
  | 0, _, h => h
  | todo + 1, root, h => by
    unfold Datum.rootFrom
    dsimp only
    refine rootFrom_le n todo _ ?_
    split <;> assumption

theorem root_le {q : Nat} {d : Datum} {s : Bool} {m : Nat} {i : Int} (hd : d = .number s m i) {s' : Bool} {m' : Nat} {i' : Int} (h : d.root q = some (.number s' m' i')) : i' + m'.log2 ≤ (i + m.log2) / 2 + 2 ∨ m' = 0 := by
  subst hd
  unfold Datum.root at h
  dsimp only at h
  by_cases h0 : m = 0
  · rw [if_pos h0] at h; cases h; right; exact h0
  · rw [if_neg h0] at h
    cases s with
    | true => simp at h
    | false =>
      simp only [Bool.false_eq_true, if_false, Option.some.injEq, Datum.number.injEq] at h
      obtain ⟨_, h1, h2⟩ := h
      left
      generalize 2 * q - m.log2 + ((i - ↑(2 * q - m.log2)) % 2).toNat = more at h1 h2
      have hw := rootFrom_le (m <<< more) ((m <<< more).log2 / 2 + 1) 0 (Nat.zero_le _)
      generalize Datum.rootFrom (m <<< more) ((m <<< more).log2 / 2 + 1) 0 = whole at h1 hw
      have hm : m < 2 ^ (m.log2 + 1) := Nat.lt_log2_self
      have hn : m <<< more < 2 ^ (m.log2 + 1 + more) := by
        rw [Nat.shiftLeft_eq, Nat.pow_add]; exact Nat.mul_lt_mul_of_pos_right hm (Nat.two_pow_pos _)
      have ht : whole < 2 ^ ((m.log2 + 1 + more + 1) / 2) := by
        refine Nat.lt_of_not_le fun hc => ?_
        have h3 := Nat.mul_le_mul hc hc
        rw [← Nat.pow_add] at h3
        have h4 : 2 ^ (m.log2 + 1 + more) ≤ 2 ^ ((m.log2 + 1 + more + 1) / 2 + (m.log2 + 1 + more + 1) / 2) := Nat.pow_le_pow_right (by omega) (by omega)
        omega
      have hb : (whole * whole != m <<< more).toNat ≤ 1 := by cases (whole * whole != m <<< more) <;> decide
      have hm' : m' < 2 ^ ((m.log2 + 1 + more + 1) / 2 + 1) := by rw [Nat.pow_succ]; omega
      have := log2_of_lt hm'
      omega

/-- The root of a number, as a 32-bit number. -/
theorem fcvt_root (x : Nat) : ∃ y, fcvt .f64 .f32 (fsqrt (wid x)) = some y := by
  by_cases hs : FloatKind.f64.format.sqrt (wid x) = none
  · have : fsqrt (wid x) = qnan .f64 := by unfold fsqrt; rw [hs]; rfl
    rw [this]; exact ⟨qnan .f32, by decide +kernel⟩
  · obtain ⟨r, hr⟩ := Option.ne_none_iff_exists'.1 hs
    have e : fsqrt (wid x) = r := by unfold fsqrt; rw [hr]; rfl
    rw [e]
    unfold Format.sqrt at hr
    cases hd : FloatKind.f64.format.read (wid x) with
    | nan s t => rw [hd] at hr; simp [Datum.root] at hr
    | infinity s =>
      rw [hd] at hr
      cases s
      · simp [Datum.root] at hr; subst hr; exact ⟨FloatKind.f32.format.write (.infinity false), by decide +kernel⟩
      · simp [Datum.root] at hr
    | number s m i =>
      rw [hd] at hr
      cases hq : (Datum.number s m i).root (FloatKind.f64.format.fractionBits + 2) with
      | none => rw [hq] at hr; cases hr
      | some d =>
        rw [hq] at hr
        -- the number is not greater than one of 32 bits
        have hw : i + m.log2 ≤ 129 := by
          have hx := fcvt_wid x
          unfold fcvt at hx
          by_cases hn : nanB .f32 x = true
          · rw [if_pos hn] at hx
            have : wid x = qnan .f64 := (Option.some.inj hx).symm
            have h2 : (FloatKind.f64.format.read (qnan .f64)).isNaN = true := by decide +kernel
            rw [← this, hd] at h2
            cases h2
          · rw [if_neg hn] at hx
            unfold floatToFloatBits at hx
            rw [if_neg (by decide)] at hx
            cases hd' : FloatKind.f32.decode x with
            | nan s t => exact absurd (by unfold nanB; rw [hd']; rfl) hn
            | infinity s' =>
              rw [hd'] at hx
              have : wid x = FloatKind.f64.encode (.infinity s') := (Option.some.inj hx).symm
              have h2 : (FloatKind.f64.format.read (FloatKind.f64.encode (.infinity s'))).isInfinity = true := by cases s' <;> decide +kernel
              rw [← this, hd] at h2
              cases h2
            | number s' m' e' =>
              rw [hd'] at hx
              dsimp only at hx
              split at hx
              · cases hx
              · have hx' : FloatKind.f64.encode (.number s' m' e') = wid x := Option.some.inj hx
                have hp := read_parts (binade_le_inf .f32) hd'
                have hb : FloatKind.f32.format.binade = 8388608 := by decide
                have hi : FloatKind.f32.format.infRung = 2139095040 := by decide +kernel
                have hl : FloatKind.f32.format.leastPlace = -149 := by decide
                rw [hb, hi, hl] at hp
                obtain ⟨p1, p2, p3, _⟩ := hp
                have p4 : x % FloatKind.f32.format.signWeight / 8388608 < 255 := Nat.div_lt_of_lt_mul (by omega)
                have hlog := log2_of_lt (m := m') (k := 23) (by omega)
                obtain ⟨r', h1, h2⟩ := nearest_rung FloatKind.f64.format s' m' e' 127 (by omega) (by decide)
                have hr' : r' ≤ 1151 * 2 ^ 52 := h2
                have hx'' : wid x = FloatKind.f64.format.word s' r' := by rw [← hx', ← h1]; rfl
                rw [hx''] at hd
                have hp := read_parts (binade_le_inf .f64) hd
                rw [word_mod FloatKind.f64.format s' (r := r') (Nat.lt_of_le_of_lt hr' (by decide +kernel))] at hp
                have hb64 : FloatKind.f64.format.binade = 2 ^ 52 := by decide
                have hl64 : FloatKind.f64.format.leastPlace = -1074 := by decide
                rw [hb64, hl64] at hp
                obtain ⟨q1, q2, _, _⟩ := hp
                have q4 : r' / 2 ^ 52 ≤ 1151 := Nat.div_le_of_le_mul (by omega)
                have := log2_of_lt (m := m) (k := 52) (by omega)
                omega
        have hfin : ∀ (s' : Bool) (m' : Nat) (i' : Int), i' + m'.log2 ≤ 67 ∨ m' = 0 → ∃ y, fcvt .f64 .f32 (FloatKind.f64.format.write (.number s' m' i')) = some y := by
          intro s' m' i' hle
          have hr1 : ∃ r1, FloatKind.f64.format.nearest s' m' i' = FloatKind.f64.format.word s' r1 ∧ r1 ≤ 1091 * 2 ^ 52 := by
            rcases hle with hle | rfl
            · obtain ⟨r1, g1, g2⟩ := nearest_rung FloatKind.f64.format s' m' i' 67 hle (by decide)
              exact ⟨r1, g1, g2⟩
            · exact ⟨0, rfl, by omega⟩
          obtain ⟨r1, g1, g2⟩ := hr1
          show ∃ y, fcvt .f64 .f32 (FloatKind.f64.format.nearest s' m' i') = some y
          rw [g1]
          have hm1 := word_mod FloatKind.f64.format s' (r := r1) (Nat.lt_of_le_of_lt g2 (by decide +kernel))
          obtain ⟨m2, e2, k1, k2, k3, k4⟩ := read_small FloatKind.f64.format (w := FloatKind.f64.format.word s' r1) (by rw [hm1]; exact Nat.lt_of_le_of_lt g2 (by decide +kernel))
          rw [hm1] at k3
          have hb64 : FloatKind.f64.format.binade = 2 ^ 52 := by decide
          have hl64 : FloatKind.f64.format.leastPlace = -1074 := by decide
          rw [hb64, hl64] at k3
          rw [hb64] at k2
          have q4 : r1 / 2 ^ 52 ≤ 1091 := Nat.div_le_of_le_mul (by omega)
          have hlog := log2_of_lt (m := m2) (k := 52) (by omega)
          have hdec : FloatKind.f64.decode (FloatKind.f64.format.word s' r1) = .number (FloatKind.f64.format.word s' r1 / FloatKind.f64.format.signWeight % 2 == 1) m2 e2 := k1
          unfold fcvt
          have hnn : nanB .f64 (FloatKind.f64.format.word s' r1) = false := by unfold nanB; rw [hdec]; rfl
          rw [if_neg (by rw [hnn]; decide)]
          unfold floatToFloatBits
          rw [if_neg (by decide), hdec]
          dsimp only
          generalize (FloatKind.f64.format.word s' r1 / FloatKind.f64.format.signWeight % 2 == 1) = sg
          obtain ⟨r3, h1, h2⟩ := nearest_rung FloatKind.f32.format sg m2 e2 68 (by omega) (by decide)
          have hr3 : r3 ≤ 196 * 8388608 := h2
          have hf : (FloatKind.f32.decode (FloatKind.f32.encode (.number sg m2 e2))).isInfinity = false := by
            show (FloatKind.f32.format.read (FloatKind.f32.format.nearest sg m2 e2)).isInfinity = false
            rw [h1]
            have hm := word_mod FloatKind.f32.format sg (r := r3) (Nat.lt_of_le_of_lt hr3 (by decide +kernel))
            obtain ⟨m', e', g, _⟩ := read_small FloatKind.f32.format (w := FloatKind.f32.format.word sg r3) (by rw [hm]; exact Nat.lt_of_le_of_lt hr3 (by decide +kernel))
            rw [g]; rfl
          rw [hf]
          exact ⟨_, rfl⟩
        have hdn : ∃ s' m' i', d = .number s' m' i' := by
          unfold Datum.root at hq
          dsimp only at hq
          split at hq
          · cases hq; exact ⟨_, _, _, rfl⟩
          · split at hq
            · cases hq
            · cases hq; exact ⟨_, _, _, rfl⟩
        obtain ⟨s', m', i', rfl⟩ := hdn
        cases hr
        exact hfin s' m' i' ((root_le rfl hq).imp (fun h => by omega) id)
def froot (x : Nat) : Nat := (fcvt .f64 .f32 (fsqrt (wid x))).getD 0
@[simp] theorem fcvt_froot (x : Nat) : fcvt .f64 .f32 (fsqrt (wid x)) = some (froot x) := by
  obtain ⟨y, h⟩ := fcvt_root x
  unfold froot; rw [h]; rfl
end Go.Awp
