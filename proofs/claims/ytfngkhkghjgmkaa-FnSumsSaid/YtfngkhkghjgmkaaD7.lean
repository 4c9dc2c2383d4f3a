/- Halves of numbers of 64 bits; what is narrowed between two neighbours.
Conditions: none. -/
import Derived.Test.YtfngkhkghjgmkaaD6
namespace Go.Proofs.Ytfngkhkghjgmkaa
set_option linter.all false
open Go Go.Awp Ieee
set_option maxRecDepth 100000

theorem fop_half64 (x : Nat) : fop .quo .f64 x 4611686018427387904 = fop .mul .f64 4602678819172646912 x := by
  have r2 : FloatKind.f64.format.read 4611686018427387904 = .number false 4503599627370496 (-51) := by decide +kernel
  have rh : FloatKind.f64.format.read 4602678819172646912 = .number false 4503599627370496 (-53) := by decide +kernel
  show (FloatKind.f64.format.div x 4611686018427387904).getD _ = (FloatKind.f64.format.mul 4602678819172646912 x).getD _
  congr 1
  unfold Format.div Format.mul
  rw [r2, rh]
  cases hx : FloatKind.f64.format.read x with
  | nan s t => rfl
  | infinity s => cases s <;> rfl
  | number s m i =>
    simp only [Datum.quotient, Datum.product, Option.map_some]
    rw [if_neg (by decide)]
    simp only [Option.map_some, Option.some.injEq]
    show FloatKind.f64.format.nearest _ _ _ = FloatKind.f64.format.nearest _ _ _
    have hlog : m.log2 ≤ 52 := by
      have hp := read_parts (binade_le_inf .f64) hx
      have hb : FloatKind.f64.format.binade = 4503599627370496 := by decide +kernel
      rw [hb] at hp
      exact log2_of_lt (by omega)
    have hl : (4503599627370496 : Nat).log2 = 52 := by decide +kernel
    have hd : FloatKind.f64.format.fractionBits = 52 := rfl
    rw [hl, hd]
    generalize hmore : 52 + 2 + 52 - m.log2 = more
    have hmr : 54 ≤ more := by omega
    rw [Nat.shiftLeft_eq]
    have e1 : m * 2 ^ more = 4503599627370496 * (m * 2 ^ (more - 52)) := by
      have : 2 ^ more = 2 ^ 52 * 2 ^ (more - 52) := by rw [← Nat.pow_add]; congr 1; omega
      rw [this, Nat.mul_left_comm]
    rw [e1, Nat.mul_div_cancel_left _ (by decide), Nat.mul_mod_right]
    have e2 : 2 * (m * 2 ^ (more - 52)) + ((0 : Nat) != 0).toNat = m * 2 ^ (more - 51) := by
      have : 2 ^ (more - 51) = 2 * 2 ^ (more - 52) := by rw [← Nat.pow_succ']; congr 1; omega
      rw [this]; simp [Nat.mul_left_comm]
    rw [e2, nearest_shift, show (4503599627370496 : Nat) * m = m * 2 ^ 52 by rw [Nat.mul_comm], nearest_shift]
    congr 1
    · simp
    · omega
theorem val_half {z N : Nat} {s : Bool} (h : Val z s (2 * N)) (hr : Rp N) : Val (fop .quo .f64 z 4611686018427387904) s N := by
  obtain ⟨m, e, a1, a2, a3⟩ := h
  rw [fop_half64]
  have rh : G.read 4602678819172646912 = .number false 4503599627370496 (-53) := by decide +kernel
  show Val ((G.mul 4602678819172646912 z).getD _) s _
  unfold Format.mul
  rw [rh, a1]
  show Val (G.nearest (false ^^ s) (4503599627370496 * m) (-53 + e)) s N
  have e0 : (false ^^ s) = s := by cases s <;> rfl
  rw [e0, show (4503599627370496 : Nat) * m = m * 2 ^ 52 by rw [Nat.mul_comm], nearest_shift, show (-53 + e + ((52 : Nat) : Int)) = e - 1 by omega]
  have key : G.nearest s m (e - 1) = G.nearest s N G.leastPlace := by
    by_cases c : G.leastPlace + 1 ≤ e
    · refine near_at (by omega) ?_
      have : 2 ^ (e - G.leastPlace).toNat = 2 * 2 ^ (e - 1 - G.leastPlace).toNat := by rw [← Nat.pow_succ']; congr 1; omega
      rw [this, Nat.mul_left_comm] at a3
      exact Nat.eq_of_mul_eq_mul_left (by decide) a3
    · have he : e = G.leastPlace := by omega
      rw [he, show (G.leastPlace - G.leastPlace).toNat = 0 by omega, Nat.pow_zero, Nat.mul_one] at a3
      rw [a3, he, show 2 * N = N * 2 ^ 1 by omega, nearest_shift, show G.leastPlace - 1 + ((1 : Nat) : Int) = G.leastPlace by omega]
  rw [key]
  exact val_near hr
/-- What is narrowed: four times a number of 32 bits and some quarters of the way to the next. -/
theorem val_narrow {z r c : Nat} {s : Bool} (h : Val z s ((4 * rmag F r + c * gapR F r) * 2 ^ E3)) (hc : c ≤ 3) (hr : r + dlt c r < F.infRung) : fcvt .f64 .f32 z = some (F.word s (r + dlt c r)) := by
  obtain ⟨m, e, a1, a2, a3⟩ := h
  have hd : dlt c r ≤ 1 := by unfold dlt; split <;> omega
  have hn : nanB .f64 z = false := by
    unfold nanB
    have : FloatKind.f64.decode z = .number s m e := a1
    rw [this]; rfl
  have hw : F.nearest s m e = F.word s (r + dlt c r) := by
    rw [near_at a2 a3, nearest_shift, show G.leastPlace + ((E3 : Nat) : Int) = F.leastPlace - 2 by rw [gL, fL]; rfl]
    exact near_quarter F s (by decide) (by omega) hc
  have hlt : r + dlt c r < F.infRung := hr
  have hin : (FloatKind.f32.decode (F.word s (r + dlt c r))).isInfinity = false := by
    have hs : r + dlt c r < F.signWeight := Nat.lt_trans hlt F.infRung_lt
    obtain ⟨m', e', h1, _, _⟩ := read_rmag F (w := F.word s (r + dlt c r)) (by rw [word_mod F s hs]; exact hlt)
    have : FloatKind.f32.decode (F.word s (r + dlt c r)) = .number (F.word s (r + dlt c r) / F.signWeight % 2 == 1) m' e' := h1
    rw [this]; rfl
  unfold fcvt
  rw [if_neg (by rw [hn]; simp)]
  unfold floatToFloatBits
  rw [if_neg (by decide)]
  have : FloatKind.f64.decode z = .number s m e := a1
  rw [this]
  dsimp only
  have he : FloatKind.f32.encode (.number s m e) = F.word s (r + dlt c r) := hw
  rw [he, hin]; rfl
theorem rp_form {r k1 k2 : Nat} (h1 : k1 ≤ 16) (h2 : k2 ≤ 16) (hr : r < F.infRung) : Rp ((k1 * rmag F r + k2 * gapR F r) * 2 ^ E3) := by
  rw [fI] at hr
  by_cases c : r < F.binade
  · unfold gapR
    rw [rmag_low c, if_pos c]
    rw [fB] at c
    have : k1 * r ≤ 16 * 8388608 := Nat.mul_le_mul h1 (by omega)
    exact rp_of (by omega) (by decide)
  · unfold gapR
    rw [rmag_big c, if_neg c, fB]
    have hq : r / 8388608 < 255 := Nat.div_lt_of_lt_mul (by omega)
    have hm := Nat.mod_lt r (show 0 < 8388608 by decide)
    generalize r % 8388608 = t at *
    generalize r / 8388608 = q at *
    have : k1 * (8388608 + t) ≤ 16 * 16777216 := Nat.mul_le_mul h1 (by omega)
    rw [show k1 * ((8388608 + t) * 2 ^ (q - 1)) + k2 * 2 ^ (q - 1) = (k1 * (8388608 + t) + k2) * 2 ^ (q - 1) by rw [Nat.add_mul (k1 * _) k2, Nat.mul_assoc], Nat.mul_assoc, ← Nat.pow_add]
    have hE : E3 = 923 := rfl
    exact rp_of (by omega) (by omega)
theorem lin (k1 k2 R g P : Nat) : (k1 * R + k2 * g) * P = k1 * (R * P) + k2 * (g * P) := by rw [Nat.add_mul, Nat.mul_assoc, Nat.mul_assoc]
theorem four_pow (R a : Nat) : R * 2 ^ (a + 2) = 4 * (R * 2 ^ a) := by rw [Nat.pow_add, ← Nat.mul_assoc, Nat.mul_comm]
theorem E5_eq : E5 = E3 + 2 := rfl
theorem four923 (R : Nat) : R * 2 ^ E5 = 4 * (R * 2 ^ E3) := by rw [E5_eq, four_pow]
theorem gap_pos (r : Nat) : 0 < gapR F r := by
  unfold gapR; split
  · omega
  · exact Nat.two_pow_pos _
section
variable {z0 z1 zm r : Nat} {s t : Bool} (hr : r + 1 < F.infRung)
include hr
/-- The halves of sums of what stands for told numbers of quarters. -/
theorem half_sum {a1 a2 b1 b2 c1 c2 : Nat} (h0 : Val z0 s ((a1 * rmag F r + a2 * gapR F r) * 2 ^ E3)) (h1 : Val z1 t ((b1 * rmag F r + b2 * gapR F r) * 2 ^ E3)) (hst : s = t ∨ (a2 = 0 ∧ r = 0) ∧ 0 < b2)
    (e1 : a1 + b1 = 2 * c1) (e2 : a2 + b2 = 2 * c2) (l1 : c1 ≤ 8) (l2 : c2 ≤ 8) : Val (fop .quo .f64 (fop .add .f64 z0 z1) 4611686018427387904) t ((c1 * rmag F r + c2 * gapR F r) * 2 ^ E3) := by
  have hs : (a1 * rmag F r + a2 * gapR F r) * 2 ^ E3 + (b1 * rmag F r + b2 * gapR F r) * 2 ^ E3 = ((2 * c1) * rmag F r + (2 * c2) * gapR F r) * 2 ^ E3 := by
    rw [← e1, ← e2, lin, lin, lin, Nat.add_mul, Nat.add_mul]; omega
  have hs2 : ((2 * c1) * rmag F r + (2 * c2) * gapR F r) * 2 ^ E3 = 2 * ((c1 * rmag F r + c2 * gapR F r) * 2 ^ E3) := by
    rw [lin, lin, Nat.mul_assoc, Nat.mul_assoc]; omega
  have ha := val_add h0 h1 (by
    rcases hst with h | ⟨⟨h, h'⟩, h''⟩
    · exact .inl h
    · right
      subst h; subst h'
      rw [rmag_zero]
      refine ⟨by simp, ?_⟩
      have := gap_pos 0
      exact Nat.mul_pos (Nat.add_pos_right _ (Nat.mul_pos h'' this)) (Nat.two_pow_pos _)) (by rw [hs]; exact rp_form (by omega) (by omega) (by omega))
  rw [hs, hs2] at ha
  exact val_half ha (rp_form (by omega) (by omega) (by omega))
end
theorem val_here {z r : Nat} {s : Bool} (h : Val z s (rmag F r * 2 ^ E5)) : Val z s ((4 * rmag F r + 0 * gapR F r) * 2 ^ E3) := by
  rw [lin, Nat.zero_mul, Nat.add_zero, ← four923]; exact h
theorem val_there {z r : Nat} {s : Bool} (h : Val z s (rmag F (r + 1) * 2 ^ E5)) : Val z s ((4 * rmag F r + 4 * gapR F r) * 2 ^ E3) := by
  rw [rmag_next, four923] at h
  rw [← Nat.mul_add, Nat.mul_assoc]; exact h
theorem rung_here {r : Nat} (hr : r < F.infRung) {z : Nat} {s : Bool} (h : Val z s (rmag F r * 2 ^ E5)) : fcvt .f64 .f32 z = some (F.word s r) := by
  have := val_narrow (c := 0) (val_here h) (by omega) (by simpa [dlt] using hr)
  simpa [dlt] using this
theorem word_f (r : Nat) : F.word false r = r := rfl
theorem word_t (r : Nat) : F.word true r = 2147483648 + r := by
  show F.signWeight + r = _
  rw [fS]
theorem wid_pos {x : Nat} (h : x < 2139095040) : Val (wid x) false (rmag F x * 2 ^ E5) := by
  have := val_wid (x := x) (by omega) (num_of (by omega)) (by omega)
  rw [show x % 2147483648 = x by omega, show x / 2147483648 = 0 by omega] at this
  exact this
theorem wid_neg {p : Nat} (h : p < 2139095040) : Val (wid (2147483648 + p)) true (rmag F p * 2 ^ E5) := by
  have := val_wid (x := 2147483648 + p) (by omega) (num_of (by omega)) (by omega)
  rw [show (2147483648 + p) % 2147483648 = p by omega, show (2147483648 + p) / 2147483648 = 1 by omega] at this
  exact this
theorem dlt_le (c r : Nat) : dlt c r ≤ 1 := by unfold dlt; split <;> omega
def midF (x y : Nat) : Nat := fop .quo .f64 (fop .add .f64 (wid x) (wid y)) 4611686018427387904
def lowF (x y : Nat) : Nat := fop .quo .f64 (fop .add .f64 (wid x) (midF x y)) 4611686018427387904
def highF (x y : Nat) : Nat := fop .quo .f64 (fop .add .f64 (wid y) (midF x y)) 4611686018427387904
theorem self32 {x : Nat} (h : x ≤ 2139095040 ∨ 2147483648 ≤ x ∧ x ≤ 4286578688) : ford .f32 x x = some .eq := ford_self (num_of h)
theorem narrow_facts {x : Nat} (hx : x < 4294967296) (hf : x % 2147483648 < 2139095040) (hfy : nup x % 2147483648 < 2139095040) : ∃ em lw hg, fcvt .f64 .f32 (midF x (nup x)) = some em ∧ fcvt .f64 .f32 (lowF x (nup x)) = some lw ∧ fcvt .f64 .f32 (highF x (nup x)) = some hg ∧
    ford .f32 em (if x % 2 = 1 then nup x else x) = some .eq ∧ ford .f32 lw x = some .eq ∧ ford .f32 hg (nup x) = some .eq := by
  have n : nanB .f32 x = false := num_of (by omega)
  by_cases c1 : x < 2147483648
  · have ey : nup x = x + 1 := by unfold nup; rw [n]; simp [show ¬ x = 2139095040 by omega, c1]
    rw [ey] at hfy ⊢
    have hr : x + 1 < F.infRung := by rw [fI]; omega
    have h0 := val_here (wid_pos (x := x) (by omega))
    have h1 := val_there (wid_pos (x := x + 1) (by omega))
    have hm := half_sum hr (c1 := 4) (c2 := 2) h0 h1 (.inl rfl) (by omega) (by omega) (by omega) (by omega)
    have hl := half_sum hr (c1 := 4) (c2 := 1) h0 hm (.inl rfl) (by omega) (by omega) (by omega) (by omega)
    have hh := half_sum hr (c1 := 4) (c2 := 3) h1 hm (.inl rfl) (by omega) (by omega) (by omega) (by omega)
    have d2 := dlt_le 2 x
    have nm := val_narrow hm (by omega) (by omega)
    have nl := val_narrow hl (by omega) (by have := dlt_le 1 x; omega)
    have nh := val_narrow hh (by omega) (by have := dlt_le 3 x; omega)
    refine ⟨_, _, _, nm, nl, nh, ?_, ?_, ?_⟩
    · rw [word_f]
      by_cases o : x % 2 = 1
      · rw [if_pos o, show dlt 2 x = 1 by simp [dlt, o]]; exact self32 (by omega)
      · rw [if_neg o, show dlt 2 x = 0 by simp [dlt, o]]; exact self32 (by omega)
    · rw [word_f, show dlt 1 x = 0 by simp [dlt]]; exact self32 (by omega)
    · rw [word_f, show dlt 3 x = 1 by simp [dlt]]; exact self32 (by omega)
  · by_cases c2 : x = 2147483648
    · subst c2
      have ey : nup 2147483648 = 1 := by unfold nup; rw [n]; simp
      rw [ey]
      have hr : 0 + 1 < F.infRung := by rw [fI]; omega
      have h0 := val_here (wid_neg (p := 0) (by omega))
      have h1 := val_there (wid_pos (x := 0 + 1) (by omega))
      have hm := half_sum hr (c1 := 4) (c2 := 2) h0 h1 (.inr ⟨⟨rfl, rfl⟩, by omega⟩) (by omega) (by omega) (by omega) (by omega)
      have hl := half_sum hr (c1 := 4) (c2 := 1) h0 hm (.inr ⟨⟨rfl, rfl⟩, by omega⟩) (by omega) (by omega) (by omega) (by omega)
      have hh := half_sum hr (c1 := 4) (c2 := 3) h1 hm (.inl rfl) (by omega) (by omega) (by omega) (by omega)
      have nm := val_narrow hm (by omega) (by rw [fI]; decide)
      have nl := val_narrow hl (by omega) (by rw [fI]; decide)
      have nh := val_narrow hh (by omega) (by rw [fI]; decide)
      refine ⟨_, _, _, nm, nl, nh, ?_, ?_, ?_⟩
      · exact eq32 (by decide) (by decide) (num_of (by decide)) (num_of (by decide)) (by decide)
      · exact eq32 (by decide) (by decide) (num_of (by decide)) (num_of (by decide)) (by decide)
      · exact eq32 (by decide) (by decide) (num_of (by decide)) (num_of (by decide)) (by decide)
    · obtain ⟨r, rfl⟩ : ∃ r, x = 2147483648 + (r + 1) := ⟨x - 2147483649, by omega⟩
      have ey : nup (2147483648 + (r + 1)) = 2147483648 + r := by
        unfold nup; rw [n]
        simp only [Bool.false_eq_true, if_false]
        rw [if_neg (by omega), if_neg (by omega), if_neg (by omega)]; omega
      rw [ey]
      have hr : r + 1 < F.infRung := by rw [fI]; omega
      have h0 := val_there (wid_neg (p := r + 1) (by omega))
      have h1 := val_here (wid_neg (p := r) (by omega))
      have hm := half_sum hr (c1 := 4) (c2 := 2) h0 h1 (.inl rfl) (by omega) (by omega) (by omega) (by omega)
      have hl := half_sum hr (c1 := 4) (c2 := 3) h0 hm (.inl rfl) (by omega) (by omega) (by omega) (by omega)
      have hh := half_sum hr (c1 := 4) (c2 := 1) h1 hm (.inl rfl) (by omega) (by omega) (by omega) (by omega)
      have d2 := dlt_le 2 r
      have nm := val_narrow hm (by omega) (by omega)
      have nl := val_narrow hl (by omega) (by have := dlt_le 3 r; omega)
      have nh := val_narrow hh (by omega) (by have := dlt_le 1 r; omega)
      refine ⟨_, _, _, nm, nl, nh, ?_, ?_, ?_⟩
      · rw [word_t]
        by_cases o : r % 2 = 1
        · rw [if_neg (by omega), show dlt 2 r = 1 by simp [dlt, o]]; exact self32 (by omega)
        · rw [if_pos (by omega), show dlt 2 r = 0 by simp [dlt, o]]; exact self32 (by omega)
      · rw [word_t, show dlt 3 r = 1 by simp [dlt]]; exact self32 (by omega)
      · rw [word_t, show dlt 1 r = 0 by simp [dlt]]; exact self32 (by omega)
/-- A number of 32 bits is itself when it is narrowed. -/
theorem narrow_self {x : Nat} (hx : CanF .f32 x) : fcvt .f64 .f32 (wid x) = some x := by
  have hl : x < 4294967296 := hx.2
  cases n : nanB .f32 x with
  | true =>
    have e : wid x = qnan .f64 := by unfold wid fcvt; rw [if_pos n]; rfl
    rw [e]
    unfold fcvt
    rw [if_pos (nanB_qnan .f64), ← cn_nan n, hx.1]
  | false =>
    have hn := num_le hl n
    by_cases c1 : x = 2139095040
    · subst c1; decide +kernel
    · by_cases c2 : x = 4286578688
      · subst c2; decide +kernel
      · by_cases c3 : x < 2147483648
        · have := rung_here (r := x) (by rw [fI]; omega) (wid_pos (x := x) (by omega))
          rw [this, word_f]
        · obtain ⟨p, rfl⟩ : ∃ p, x = 2147483648 + p := ⟨x - 2147483648, by omega⟩
          have := rung_here (r := p) (by rw [fI]; omega) (wid_neg (p := p) (by omega))
          rw [this, word_t]
end Go.Proofs.Ytfngkhkghjgmkaa
