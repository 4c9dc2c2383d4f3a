/- Great numbers stay great; roots with errors for their size.
Conditions: none. -/
import Derived.Test.YtbjfkhjckfodbaaNer
namespace Go.Awp
set_option linter.all false
open Go Ieee
set_option maxRecDepth 100000

/-- The root of a 64-bit number, near for its size. -/
theorem vl_sqrtR {x : Nat} {a B : Rat} (hx : Vl FloatKind.f64.format x a) (h0 : 0 ≤ a) (hB0 : 0 ≤ B) (h2 : 4 * a ≤ B * B) (hB : B ≤ p2 120) :
    ∃ v R, Vl FloatKind.f64.format (fsqrt x) v ∧ 0 ≤ R ∧ R ≤ B ∧ R * R ≤ a + a * p2 (-54) ∧ a ≤ R * R + a * p2 (-54) ∧ 2 * v ≤ 2 * R + er2 .f64 R ∧ 2 * R ≤ 2 * v + er2 .f64 R := by
  obtain ⟨s, m, i, r, hl, ha⟩ := hx
  by_cases hm : m = 0
  · subst hm
    have hz : a = 0 := by
      rw [ha, dv_sgn]
      have : ((0 : Nat) : Rat) = 0 := rfl
      rw [this]; split <;> grind
    have hd : dv s 0 i = 0 := by rw [← ha]; exact hz
    obtain ⟨v, hv, e1, e2⟩ := vl_near .f64 (s := s) (m := 0) (p := i) (B := 0) (by rw [hd]; decide) (by rw [hd]; decide) (Rat.le_of_lt (p2_pos _))
    refine ⟨v, 0, ?_, by grind, hB0, by rw [hz]; grind, by rw [hz]; grind, by rw [hd] at e1; exact e1, by rw [hd] at e2; exact e2⟩
    have : fsqrt x = FloatKind.f64.format.nearest s 0 i := by
      unfold fsqrt Format.sqrt
      rw [r]
      show (Option.map _ (Datum.root 54 (.number s 0 i))).getD _ = _
      have e : Datum.root 54 (.number s 0 i) = some (.number s 0 i) := rfl
      rw [e, num_getD']
    rw [this]; exact hv
  · have hs : s = false := by
      cases s
      · rfl
      · rw [ha, dv_sgn] at h0
        simp only [if_true] at h0
        have : 0 < (m : Rat) * p2 i := Rat.mul_pos (Rat.natCast_pos.2 (Nat.pos_of_ne_zero hm)) (p2_pos _)
        grind
    subst hs
    obtain ⟨more, hmore⟩ : ∃ more, more = 2 * 54 - m.log2 + ((i - ((2 * 54 - m.log2 : Nat) : Int)) % 2).toNat := ⟨_, rfl⟩
    obtain ⟨n, hn⟩ : ∃ n, n = m * 2 ^ more := ⟨_, rfl⟩
    obtain ⟨w, hw⟩ : ∃ w, w = Datum.rootFrom n (n.log2 / 2 + 1) 0 := ⟨_, rfl⟩
    obtain ⟨M, hM⟩ : ∃ M, M = 2 * w + (w * w != n).toNat := ⟨_, rfl⟩
    have hrt : Datum.root 54 (.number false m i) = some (.number false M ((i - more) / 2 - 1)) := by
      unfold Datum.root
      dsimp only
      rw [if_neg hm]
      simp only [Bool.false_eq_true, if_false]
      rw [← hmore, Nat.shiftLeft_eq, ← hn, ← hw, ← hM]
    have hn2 : 2 ^ (2 * 54) ≤ n := by
      have h3 : 2 ^ m.log2 * 2 ^ more ≤ m * 2 ^ more := Nat.mul_le_mul_right _ (Nat.log2_self_le hm)
      rw [← Nat.pow_add, ← hn] at h3
      exact Nat.le_trans (Nat.pow_le_pow_right (by decide) (by omega)) h3
    obtain ⟨q1, q2⟩ := root_nat 54 n w M hn2 hw hM
    have hpar : (i - more) % 2 = 0 := by omega
    obtain ⟨P, hP⟩ : ∃ P : Int, P = (i - more) / 2 - 1 := ⟨_, rfl⟩
    have hPP : P + P = i - more - 2 := by omega
    obtain ⟨R, hR⟩ : ∃ R : Rat, R = (M : Rat) * p2 P := ⟨_, rfl⟩
    have hR0 : 0 ≤ R := by rw [hR]; exact mag_nonneg _ _
    have hdvR : dv false M P = R := by rw [dv_sgn, hR]; rfl
    have hA : a = (m : Rat) * p2 i := by rw [ha, dv_sgn]; rfl
    have e54 := p2_neg 54
    have hE := p2_pos (-((54 : Nat) : Int))
    have hE' : p2 (-54) = p2 (-((54 : Nat) : Int)) := rfl
    rw [hE']
    generalize p2 (-((54 : Nat) : Int)) = E at *
    have hq := Rat.le_of_lt (p2_pos (i - more - 2))
    have k1 : ((M * M * 2 ^ 54 : Nat) : Rat) * p2 (i - more - 2) = R * R * ((2 ^ 54 : Nat) : Rat) := by
      rw [Rat.natCast_mul, Rat.natCast_mul, ← hPP, p2_add, hR]; grind
    have k2 : ((4 * n : Nat) : Rat) * p2 (i - more - 2) = a := by
      rw [hA, hn, show 4 * (m * 2 ^ more) = m * 2 ^ (more + 2) by rw [Nat.pow_add, show 2 ^ 2 = 4 from rfl, Nat.mul_left_comm, Nat.mul_comm 4], nat_mul_p2]
      congr 2; omega
    have k3 : ((4 * n * 2 ^ 54 : Nat) : Rat) * p2 (i - more - 2) = a * ((2 ^ 54 : Nat) : Rat) := by
      rw [Rat.natCast_mul, ← k2]; grind
    have g1 := mul_le_r (Rat.natCast_le_natCast.2 q1) hq
    have g2 := mul_le_r (Rat.natCast_le_natCast.2 q2) hq
    rw [Rat.natCast_add] at g1 g2
    have g3 : R * R * ((2 ^ 54 : Nat) : Rat) ≤ a * ((2 ^ 54 : Nat) : Rat) + a := by rw [← k1, ← k3]; grind
    have g4 : a * ((2 ^ 54 : Nat) : Rat) ≤ R * R * ((2 ^ 54 : Nat) : Rat) + a := by rw [← k1, ← k3]; grind
    have hR1 : R * R ≤ a + a * E := by
      have := mul_le_r g3 (Rat.le_of_lt hE)
      have z1 : R * R * ((2 ^ 54 : Nat) : Rat) * E = R * R * (E * ((2 ^ 54 : Nat) : Rat)) := by grind
      have z2 : (a * ((2 ^ 54 : Nat) : Rat) + a) * E = a * (E * ((2 ^ 54 : Nat) : Rat)) + a * E := by grind
      rw [z1, z2, e54] at this
      grind
    have hR2 : a ≤ R * R + a * E := by
      have := mul_le_r g4 (Rat.le_of_lt hE)
      have z1 : a * ((2 ^ 54 : Nat) : Rat) * E = a * (E * ((2 ^ 54 : Nat) : Rat)) := by grind
      have z2 : (R * R * ((2 ^ 54 : Nat) : Rat) + a) * E = R * R * (E * ((2 ^ 54 : Nat) : Rat)) + a * E := by grind
      rw [z1, z2, e54] at this
      grind
    have hE1 : E ≤ 1 := by
      have h3 : (1 : Rat) ≤ ((2 ^ 54 : Nat) : Rat) := by decide +kernel
      have := Rat.mul_le_mul_of_nonneg_left h3 (Rat.le_of_lt hE)
      rw [e54] at this
      grind
    have hRB : R ≤ B := by
      refine Rat.not_lt.1 fun c => ?_
      have h3 : B * B < R * R := by
        have c1 := Rat.mul_le_mul_of_nonneg_left (Rat.le_of_lt c) hB0
        have c2 := Rat.mul_lt_mul_of_pos_right c (show 0 < R by grind)
        grind
      have h4 : a * E ≤ a * 1 := Rat.mul_le_mul_of_nonneg_left hE1 h0
      grind
    obtain ⟨v, hv, e1, e2⟩ := vl_near .f64 (s := false) (m := M) (p := P) (B := R) (by rw [hdvR]; grind) (by rw [hdvR]; grind) (Rat.le_trans hRB hB)
    rw [hdvR] at e1 e2
    refine ⟨v, R, ?_, hR0, hRB, hR1, hR2, e1, e2⟩
    have : fsqrt x = FloatKind.f64.format.nearest false M P := by
      unfold fsqrt Format.sqrt
      rw [r]
      show (Option.map _ (Datum.root 54 (.number false m i))).getD _ = _
      rw [hrt, num_getD', hP]
    rw [this]; exact hv


theorem vl_frootR {x : Nat} {a B : Rat} (hx : Vl FloatKind.f32.format x a) (h0 : 0 ≤ a) (hB0 : 0 ≤ B) (h2 : 4 * a ≤ B * B) (hB : 2 * B ≤ p2 119) :
    ∃ v R, Vl FloatKind.f32.format (froot x) v ∧ 0 ≤ R ∧ R ≤ B ∧ R * R ≤ a + a * p2 (-54) ∧ a ≤ R * R + a * p2 (-54) ∧ v ≤ R + R * (1 / 10000000) + p2 (-149) ∧ R ≤ v + R * (1 / 10000000) + p2 (-149) := by
  have h119 : p2 120 = 2 * p2 119 := p2_two 119
  have hp := p2_pos 119
  obtain ⟨w, R, hw, R0, RB, q1, q2, e1, e2⟩ := vl_sqrtR (vl_wid hx) h0 hB0 h2 (by grind)
  have hE : er2 .f64 R = R * p2 (-52) + p2 (-1074) := rfl
  have h52 : p2 (-52) ≤ 1 / 1000000000000 := by have := c52; have := c40; grind
  have m52 := Rat.mul_le_mul_of_nonneg_left h52 R0
  have z52 := Rat.mul_nonneg R0 (Rat.le_of_lt (p2_pos (-52)))
  have h1074 : p2 (-1074) * 1024 ≤ p2 (-149) := by
    have h1 : p2 (-159) * p2 10 = p2 (-149) := by rw [← p2_add]; rfl
    have h10 : p2 10 = 1024 := p2_nat 10
    rw [h10] at h1
    have : p2 (-1074) ≤ p2 (-159) := p2_le (by decide)
    grind
  have hz := p2_pos (-1074)
  have h149 : p2 (-149) ≤ p2 119 := p2_le (by decide)
  obtain ⟨B2, hB2⟩ : ∃ B2 : Rat, B2 = R * (1 + 1 / 1000000000000) + p2 (-1074) := ⟨_, rfl⟩
  obtain ⟨y, v, hy, hv, f1, f2⟩ := vl_cvt hw (B := B2) (by grind) (by grind) (by grind)
  have hF : er2 .f32 B2 = B2 * p2 (-23) + p2 (-149) := rfl
  have h23 : p2 (-23) ≤ 12 / 100000000 := by have := c23; grind
  have hB20 : 0 ≤ B2 := by grind
  have m23 := Rat.mul_le_mul_of_nonneg_left h23 hB20
  have : froot x = y := by unfold froot; rw [hy]; rfl
  rw [this]
  refine ⟨v, R, hv, R0, RB, q1, q2, ?_, ?_⟩ <;> grind
/-- At least 2 to the power of K, perhaps infinite. -/
def Ge (K : Int) (x : Nat) : Prop := ∃ r : Nat, x = r ∧ (K + 127) * 8388608 ≤ (r : Int) ∧ r ≤ 255 * 8388608
/-- Not below nothing, perhaps infinite, no not-a-number. -/
def Nn (x : Nat) : Prop := x ≤ 255 * 8388608
theorem Ge.nn {K : Int} {x : Nat} (h : Ge K x) : Nn x := by obtain ⟨r, rfl, _, h⟩ := h; exact h
theorem b_lp : FloatKind.f32.format.leastPlace = -149 := by decide
theorem b_fb : FloatKind.f32.format.fractionBits = 23 := rfl
theorem b_bi : FloatKind.f32.format.binade = 8388608 := by decide
theorem b_sw : FloatKind.f32.format.signWeight = 2147483648 := by decide +kernel
theorem b_ir : FloatKind.f32.format.infRung = 255 * 8388608 := by decide +kernel
theorem word_pos (f : Format) (r : Nat) : f.word false r = r := by unfold Format.word; simp only [Bool.false_eq_true, if_false]
theorem near_pos (m : Nat) (p : Int) : FloatKind.f32.format.nearest false m p = if m = 0 then 0 else min ((max (p + m.log2 - (23 : Nat)) (-149) - -149).toNat * 8388608 + Toward.even.cut false (m <<< (p - max (p + m.log2 - (23 : Nat)) (-149)).toNat) (max (p + m.log2 - (23 : Nat)) (-149) - p).toNat) (255 * 8388608) := by
  unfold Format.nearest
  rw [b_lp, b_bi, b_ir, b_fb]
  dsimp only
  rw [word_pos, word_pos]
theorem near_Nn (m : Nat) (p : Int) : Nn (FloatKind.f32.format.nearest false m p) := by
  rw [near_pos]
  unfold Nn
  split
  · exact Nat.zero_le _
  · exact Nat.min_le_right _ _
theorem near_Ge {m : Nat} {p K : Int} (h0 : m ≠ 0) (hK : K ≤ p + m.log2) (hl : -126 ≤ K) (hu : K ≤ 127) : Ge K (FloatKind.f32.format.nearest false m p) := by
  refine ⟨_, rfl, ?_, near_Nn m p⟩
  rw [near_pos, if_neg h0]
  obtain ⟨last, hlast⟩ : ∃ last : Int, last = max (p + m.log2 - (23 : Nat)) (-149) := ⟨_, rfl⟩
  rw [← hlast]
  obtain ⟨d, hd⟩ : ∃ d : Nat, d = (last - p).toNat := ⟨_, rfl⟩
  obtain ⟨u, hu'⟩ : ∃ u : Nat, u = (p - last).toNat := ⟨_, rfl⟩
  rw [← hd, ← hu', Nat.shiftLeft_eq]
  obtain ⟨c1, c2⟩ := cut_err false (m * 2 ^ u) d
  have hm2 : 2 ^ m.log2 ≤ m := Nat.log2_self_le h0
  have hL : last = p + m.log2 - 23 := by omega
  have h2 : 8388608 * 2 ^ d ≤ m * 2 ^ u := by
    have h3 : 2 ^ m.log2 * 2 ^ u ≤ m * 2 ^ u := Nat.mul_le_mul_right _ hm2
    rw [← Nat.pow_add] at h3
    rw [show (8388608 : Nat) = 2 ^ 23 from rfl, ← Nat.pow_add]
    exact Nat.le_trans (Nat.pow_le_pow_right (by decide) (by omega)) h3
  have hp : 0 < 2 ^ d := Nat.two_pow_pos d
  obtain ⟨k, hk⟩ : ∃ k : Nat, k = Toward.even.cut false (m * 2 ^ u) d := ⟨_, rfl⟩
  rw [← hk] at c1 c2 ⊢
  have hkB : 8388608 ≤ k := by
    refine Nat.le_of_not_lt fun c => ?_
    have h4 : (k + 1) * 2 ^ d ≤ 8388608 * 2 ^ d := Nat.mul_le_mul_right _ c
    rw [Nat.add_mul, Nat.one_mul] at h4
    omega
  have h5 : (K + 126).toNat * 8388608 ≤ (last - -149).toNat * 8388608 := Nat.mul_le_mul_right _ (by omega)
  have h6 : ((K + 126).toNat : Int) = K + 126 := by omega
  obtain ⟨z, hz⟩ : ∃ z, z = (last - -149).toNat * 8388608 + k := ⟨_, rfl⟩
  rw [← hz]
  have h7 : (K + 127) * 8388608 ≤ (z : Int) := by
    have : (((K + 126).toNat * 8388608 : Nat) : Int) = (K + 126) * 8388608 := by rw [Int.natCast_mul, h6]; rfl
    omega
  have h8 : (K + 127) * 8388608 ≤ 255 * 8388608 := by omega
  rcases Nat.le_total z (255 * 8388608) with g | g
  · rw [Nat.min_eq_left g]; exact h7
  · rw [Nat.min_eq_right g]; omega

/-! What finite and small ends tell of their beginnings. -/
theorem fop_isnan {op : BinOp} {k : FloatKind} {x y : Nat} (h : nanB k (fop op k x y) = true) : fop op k x y = qnan k := by
  unfold fop at h ⊢
  cases hf : floatBits op k x y with
  | none => rfl
  | some r =>
    rw [hf] at h
    have := floatBits_num hf
    simp only [Option.getD_some] at h
    rw [this] at h; cases h
theorem fop_parts {op : BinOp} {k : FloatKind} {x y : Nat} (h : nanB k (fop op k x y) = false) : nanB k x = false ∧ nanB k y = false := by
  constructor
  · cases hx : nanB k x with
    | false => rfl
    | true =>
      unfold fop at h
      rw [floatBits_nan_l hx] at h
      simp only [Option.getD_none] at h
      rw [nanB_qnan] at h; cases h
  · cases hy : nanB k y with
    | false => rfl
    | true =>
      unfold fop at h
      rw [floatBits_nan_r hy] at h
      simp only [Option.getD_none] at h
      rw [nanB_qnan] at h; cases h
theorem read_cases (x : Nat) (h : nanB .f32 x = false) : (∃ s, FloatKind.f32.format.read x = .infinity s) ∨ ∃ s m e, FloatKind.f32.format.read x = .number s m e ∧ -149 ≤ e := by
  unfold nanB FloatKind.decode at h
  cases hd : FloatKind.f32.format.read x with
  | nan s t => rw [hd] at h; cases h
  | infinity s => exact .inl ⟨s, rfl⟩
  | number s m e =>
    have := (read_parts (binade_le_inf .f32) hd).2.2.2
    rw [b_lp] at this
    exact .inr ⟨s, m, e, rfl, this⟩
theorem read_pos {x : Nat} (h : Nn x) : FloatKind.f32.format.read x = .infinity false ∨ ∃ m e, FloatKind.f32.format.read x = .number false m e ∧ (8388608 ≤ x → m ≠ 0 ∧ e + m.log2 = (x / 8388608 : Nat) - 127) := by
  unfold Nn at h
  have h1 : x % 2147483648 = x := Nat.mod_eq_of_lt (by omega)
  have h2 : x / 2147483648 = 0 := Nat.div_eq_of_lt (by omega)
  unfold Format.read
  rw [b_lp, b_bi, b_ir, b_sw, h1, h2]
  dsimp only
  by_cases c : x < 8388608
  · rw [if_pos c]; exact .inr ⟨_, _, rfl, fun h => by omega⟩
  · rw [if_neg c]
    by_cases c2 : x < 255 * 8388608
    · rw [if_pos c2]
      refine .inr ⟨_, _, rfl, fun _ => ⟨by omega, ?_⟩⟩
      have hm := Nat.mod_lt x (show 0 < 8388608 by decide)
      have hl : (8388608 + x % 8388608).log2 = 23 := by
        have l1 := log2_of_lt (m := 8388608 + x % 8388608) (k := 23) (by omega)
        have l2 : 23 ≤ (8388608 + x % 8388608).log2 := (Nat.le_log2 (by omega)).2 (by show 8388608 ≤ _; omega)
        omega
      rw [hl]
      have : 1 ≤ x / 8388608 := by omega
      omega
    · rw [if_neg c2, if_pos (by omega)]; exact .inl rfl
theorem read_Ge {K : Int} {x : Nat} (h : Ge K x) (hK : -126 ≤ K) : FloatKind.f32.format.read x = .infinity false ∨ ∃ m e, FloatKind.f32.format.read x = .number false m e ∧ m ≠ 0 ∧ K ≤ e + m.log2 := by
  obtain ⟨r, rfl, h1, h2⟩ := h
  rcases read_pos (x := x) h2 with h3 | ⟨m, e, h3, h4⟩
  · exact .inl h3
  · obtain ⟨h5, h6⟩ := h4 (by omega)
    refine .inr ⟨m, e, h3, h5, ?_⟩
    rw [h6]
    have : (K + 127).toNat ≤ x / 8388608 := (Nat.le_div_iff_mul_le (by decide)).2 (by
      have : (((K + 127).toNat * 8388608 : Nat) : Int) = (K + 127) * 8388608 := by
        rw [Int.natCast_mul, Int.toNat_of_nonneg (by omega)]; rfl
      omega)
    omega
theorem inf_word : FloatKind.f32.format.write (.infinity false) = 2139095040 := by decide +kernel
theorem inf_getD' (f : Format) (s : Bool) (x : Nat) : (Option.map f.write (some (Datum.infinity s))).getD x = f.write (.infinity s) := rfl
theorem inf_getD (x : Nat) : (Option.map FloatKind.f32.format.write (some (Datum.infinity false))).getD x = 2139095040 := by rw [inf_getD', inf_word]
theorem inf_Nn : Nn 2139095040 := by unfold Nn; omega
theorem inf_Ge4 : Ge 4 2139095040 := ⟨_, rfl, by omega, by omega⟩
theorem sum_ii : Datum.sum (.infinity false) (.infinity false) = some (.infinity false) := rfl
theorem sum_in (m : Nat) (e : Int) : Datum.sum (.infinity false) (.number false m e) = some (.infinity false) := rfl
theorem sum_ni (m : Nat) (e : Int) : Datum.sum (.number false m e) (.infinity false) = some (.infinity false) := rfl
theorem sq_Nn {x : Nat} (h : nanB .f32 x = false) : Nn (fop .mul .f32 x x) := by
  rw [fop_mul]
  rcases read_cases x h with ⟨s, hr⟩ | ⟨s, m, e, hr, _⟩
  · rw [hr]
    have e1 : Datum.product (.infinity s) (.infinity s) = some (.infinity false) := by
      show some (Datum.infinity (s ^^ s)) = _
      rw [Bool.xor_self]
    rw [e1, inf_getD]
    exact inf_Nn
  · rw [hr]
    have e1 : Datum.product (.number s m e) (.number s m e) = some (.number false (m * m) (e + e)) := by
      show some (Datum.number (s ^^ s) (m * m) (e + e)) = _
      rw [Bool.xor_self]
    rw [e1, num_getD']
    exact near_Nn _ _
theorem sq_Ge {x : Nat} (h : nanB .f32 x = false) (hb : (∃ s, FloatKind.f32.format.read x = .infinity s) ∨ ∃ s m e, FloatKind.f32.format.read x = .number s m e ∧ m ≠ 0 ∧ 2 ≤ e + m.log2) : Ge 4 (fop .mul .f32 x x) := by
  rw [fop_mul]
  rcases hb with ⟨s, hr⟩ | ⟨s, m, e, hr, h0, h2⟩
  · rw [hr]
    have e1 : Datum.product (.infinity s) (.infinity s) = some (.infinity false) := by
      show some (Datum.infinity (s ^^ s)) = _
      rw [Bool.xor_self]
    rw [e1, inf_getD]
    exact inf_Ge4
  · rw [hr]
    have e1 : Datum.product (.number s m e) (.number s m e) = some (.number false (m * m) (e + e)) := by
      show some (Datum.number (s ^^ s) (m * m) (e + e)) = _
      rw [Bool.xor_self]
    rw [e1, num_getD']
    have hm := Nat.log2_self_le h0
    have hl : m.log2 + m.log2 ≤ (m * m).log2 := (Nat.le_log2 (Nat.mul_ne_zero h0 h0)).2 (by rw [Nat.pow_add]; exact Nat.mul_le_mul hm hm)
    exact near_Ge (Nat.mul_ne_zero h0 h0) (by omega) (by decide) (by decide)
theorem sum_pos_read {m n : Nat} {i j : Int} : ∃ (S : Bool) (M : Nat), Datum.sum (.number false m i) (.number false n j) = some (.number S M (min i j)) ∧ M = m * 2 ^ (i - min i j).toNat + n * 2 ^ (j - min i j).toNat ∧ S = false := by
  refine ⟨_, _, rfl, ?_, ?_⟩
  · rw [signed_sgi, signed_sgi]
    unfold sgi
    simp only [Bool.false_eq_true, if_false]
    rw [← Int.natCast_add, Int.natAbs_natCast]
  · rw [signed_sgi, signed_sgi]
    unfold sgi
    simp only [Bool.false_eq_true, if_false, Bool.and_false]
    rw [← Int.natCast_add]
    split
    · rfl
    · exact decide_eq_false (by omega)
theorem add_Nn {x y : Nat} (hx : Nn x) (hy : Nn y) : Nn (fop .add .f32 x y) := by
  rw [fop_add]
  rcases read_pos hx with r1 | ⟨m, i, r1, _⟩
  · rcases read_pos hy with r2 | ⟨n, j, r2, _⟩
    · rw [r1, r2, sum_ii, inf_getD]; exact inf_Nn
    · rw [r1, r2, sum_in, inf_getD]; exact inf_Nn
  · rcases read_pos hy with r2 | ⟨n, j, r2, _⟩
    · rw [r1, r2, sum_ni, inf_getD]; exact inf_Nn
    · obtain ⟨S, M, e, _, hS⟩ := sum_pos_read (m := m) (n := n) (i := i) (j := j)
      rw [r1, r2, e, num_getD', hS]
      exact near_Nn _ _
theorem add_Ge {x y : Nat} (h : (Ge 4 x ∧ Nn y) ∨ (Nn x ∧ Ge 4 y)) : Ge 4 (fop .add .f32 x y) := by
  have hx : Nn x := by rcases h with h | h; exact h.1.nn; exact h.1
  have hy : Nn y := by rcases h with h | h; exact h.2; exact h.2.nn
  have big : ∀ (a b : Nat) (i q : Int), a ≠ 0 → 4 ≤ i + a.log2 → q ≤ i → 4 ≤ q + (a * 2 ^ (i - q).toNat + b).log2 := by
    intro a b i q h0 h1 h2
    have h3 : 2 ^ (a.log2 + (i - q).toNat) ≤ a * 2 ^ (i - q).toNat + b := by
      rw [Nat.pow_add]
      exact Nat.le_trans (Nat.mul_le_mul_right _ (Nat.log2_self_le h0)) (Nat.le_add_right _ _)
    have hp : 0 < a * 2 ^ (i - q).toNat := Nat.mul_pos (Nat.pos_of_ne_zero h0) (Nat.two_pow_pos _)
    have := (Nat.le_log2 (by omega)).2 h3
    omega
  rw [fop_add]
  rcases read_pos hx with r1 | ⟨m, i, r1, _⟩
  · rcases read_pos hy with r2 | ⟨n, j, r2, _⟩
    · rw [r1, r2, sum_ii, inf_getD]; exact inf_Ge4
    · rw [r1, r2, sum_in, inf_getD]; exact inf_Ge4
  · rcases read_pos hy with r2 | ⟨n, j, r2, _⟩
    · rw [r1, r2, sum_ni, inf_getD]; exact inf_Ge4
    · obtain ⟨S, M, e, hM, hS⟩ := sum_pos_read (m := m) (n := n) (i := i) (j := j)
      rw [r1, r2, e, num_getD', hS]
      have hb : M ≠ 0 ∧ 4 ≤ min i j + M.log2 := by
        rcases h with ⟨h, _⟩ | ⟨_, h⟩
        · rcases read_Ge h (by decide) with g | ⟨m', i', g, g1, g2⟩
          · rw [r1] at g; cases g
          · rw [r1] at g; cases g
            have hb := big m (n * 2 ^ (j - min i j).toNat) i (min i j) g1 g2 (by omega)
            have hp : 0 < m * 2 ^ (i - min i j).toNat := Nat.mul_pos (Nat.pos_of_ne_zero g1) (Nat.two_pow_pos _)
            rw [hM]
            exact ⟨by omega, hb⟩
        · rcases read_Ge h (by decide) with g | ⟨m', i', g, g1, g2⟩
          · rw [r2] at g; cases g
          · rw [r2] at g; cases g
            have hb := big n (m * 2 ^ (i - min i j).toNat) j (min i j) g1 g2 (by omega)
            have hp : 0 < n * 2 ^ (j - min i j).toNat := Nat.mul_pos (Nat.pos_of_ne_zero g1) (Nat.two_pow_pos _)
            rw [hM, Nat.add_comm]
            exact ⟨by omega, hb⟩
      exact near_Ge hb.1 hb.2 (by decide) (by decide)

theorem froot_inf : froot 2139095040 = 2139095040 := by decide +kernel
theorem froot_nan : froot 2143289344 = 2143289344 := by decide +kernel
theorem froot_Ge {x : Nat} (h : Ge 4 x) : froot x = 2139095040 ∨ ∃ v, Vl FloatKind.f32.format (froot x) v ∧ 3 ≤ v := by
  by_cases hx : x = 2139095040
  · subst hx; exact .inl froot_inf
  · right
    rcases read_Ge h (by decide) with g | ⟨m, e, g, g1, g2⟩
    · exfalso
      obtain ⟨r, rfl, h1, h2⟩ := h
      rcases read_pos (x := x) h2 with k | ⟨m, e, k, _⟩
      · have hlt : x < 255 * 8388608 := by omega
        have h1' : x % 2147483648 = x := Nat.mod_eq_of_lt (by omega)
        have k2 := g
        unfold Format.read at k2
        rw [b_bi, b_ir, b_sw, h1'] at k2
        dsimp only at k2
        rw [if_neg (by omega), if_pos hlt] at k2
        cases k2
      · rw [k] at g; cases g
    · have hp := read_parts (binade_le_inf .f32) g
      rw [b_bi, b_ir, b_lp, b_sw] at hp
      obtain ⟨p1, p2', p3, p4⟩ := hp
      have p5 : x % 2147483648 / 8388608 < 255 := Nat.div_lt_of_lt_mul (by omega)
      have hv : Vl FloatKind.f32.format x (dv false m e) := ⟨false, m, e, g, by rw [b_lp]; exact p4, rfl⟩
      have hd : dv false m e = (m : Rat) * p2 e := by rw [dv_sgn]; rfl
      rw [hd] at hv
      have a1 : p2 4 ≤ (m : Rat) * p2 e := by
        have h1 : ((2 ^ m.log2 : Nat) : Rat) ≤ (m : Rat) := Rat.natCast_le_natCast.2 (Nat.log2_self_le g1)
        have h2 := mul_le_r h1 (Rat.le_of_lt (p2_pos e))
        rw [← p2_nat, ← p2_add] at h2
        exact Rat.le_trans (p2_le (by omega)) h2
      have a2 : (m : Rat) * p2 e ≤ p2 128 := by
        have h1 : (m : Rat) ≤ ((2 ^ 24 : Nat) : Rat) := Rat.natCast_le_natCast.2 (by omega)
        have h2 := mul_le_r h1 (Rat.le_of_lt (p2_pos e))
        rw [← p2_nat, ← p2_add] at h2
        exact Rat.le_trans h2 (p2_le (by omega))
      have e4 : p2 4 = 16 := p2_nat 4
      have e130 : p2 65 * p2 65 = 4 * p2 128 := by
        rw [← p2_add, show (65 : Int) + 65 = 128 + 1 + 1 by decide, p2_two, p2_two]; grind
      have e119 : 2 * p2 65 ≤ p2 119 := by rw [← p2_two]; exact p2_le (by decide)
      rw [e4] at a1
      obtain ⟨v, R, hR, R0, RB, q1, q2, v1, v2⟩ := vl_frootR hv (by grind) (Rat.le_of_lt (p2_pos 65)) (by rw [e130]; grind) e119
      refine ⟨v, hR, ?_⟩
      have t54 : p2 (-54) ≤ 1 / 1000000000000 := by have := c54; have := c40; grind
      have m54 := Rat.mul_le_mul_of_nonneg_left t54 (show 0 ≤ (m : Rat) * p2 e by grind)
      have t149 : p2 (-149) ≤ 1 / 1000000000000 := by have := c149; have := c40; grind
      have R3 : 39 / 10 ≤ R := by
        refine Rat.not_lt.1 fun c => ?_
        have d1 := Rat.mul_le_mul_of_nonneg_left (Rat.le_of_lt c) R0
        have d2 := mul_le_r (Rat.le_of_lt c) (show (0 : Rat) ≤ 39 / 10 by decide +kernel)
        grind
      grind
theorem ford_inf {y : Nat} {b : Rat} (hy : Vl FloatKind.f32.format y b) : ford .f32 2139095040 y = some .gt := by
  obtain ⟨t, n, j, r, _⟩ := hy
  unfold ford Format.order
  rw [r, show FloatKind.f32.format.read 2139095040 = .infinity false by decide +kernel]
  rfl
/-- A length that is less than 2 has parts that are not more than 4. -/
theorem small_parts {x y z rad : Nat} {ρ : Rat} (hr : Vl FloatKind.f32.format rad ρ) (hρ : ρ ≤ 2) (h : ford .f32 (froot (fop .add .f32 (fop .add .f32 (fop .mul .f32 x x) (fop .mul .f32 y y)) (fop .mul .f32 z z))) rad = some .lt) :
    ∀ w, w = x ∨ w = y ∨ w = z → ∃ v, Vl FloatKind.f32.format w v ∧ -4 ≤ v ∧ v ≤ 4 := by
  have nS : nanB .f32 (fop .add .f32 (fop .add .f32 (fop .mul .f32 x x) (fop .mul .f32 y y)) (fop .mul .f32 z z)) = false := by
    cases hn : nanB .f32 (fop .add .f32 (fop .add .f32 (fop .mul .f32 x x) (fop .mul .f32 y y)) (fop .mul .f32 z z)) with
    | false => rfl
    | true =>
      rw [fop_isnan hn] at h
      have e : froot (qnan .f32) = qnan .f32 := froot_nan
      rw [e, ford_nan_l (nanB_qnan .f32)] at h
      cases h
  obtain ⟨n1, n2⟩ := fop_parts nS
  obtain ⟨n3, n4⟩ := fop_parts n1
  have nx := (fop_parts n3).1
  have ny := (fop_parts n4).1
  have nz := (fop_parts n2).1
  have noGe : ¬ Ge 4 (fop .add .f32 (fop .add .f32 (fop .mul .f32 x x) (fop .mul .f32 y y)) (fop .mul .f32 z z)) := by
    intro g
    rcases froot_Ge g with g | ⟨v, hv, v3⟩
    · rw [g, ford_inf hr] at h; cases h
    · rw [ford_gt_of hv hr (by grind)] at h; cases h
  have key : ∀ w, nanB .f32 w = false → ¬ Ge 4 (fop .mul .f32 w w) → ∃ v, Vl FloatKind.f32.format w v ∧ -4 ≤ v ∧ v ≤ 4 := by
    intro w hn hg
    rcases read_cases w hn with ⟨s, hr⟩ | ⟨s, m, e, hr, he⟩
    · exact absurd (sq_Ge hn (.inl ⟨s, hr⟩)) hg
    · refine ⟨dv s m e, ⟨s, m, e, hr, by rw [b_lp]; exact he, rfl⟩, ?_⟩
      have hm : (m : Rat) * p2 e ≤ 4 := by
        by_cases h0 : m = 0
        · subst h0
          have : ((0 : Nat) : Rat) = 0 := rfl
          rw [this]; grind
        · have hl : e + m.log2 ≤ 1 := by
            rcases Int.lt_or_le 1 (e + m.log2) with c | c
            · exact absurd (sq_Ge hn (.inr ⟨s, m, e, hr, h0, by omega⟩)) hg
            · exact c
          have h1 : (m : Rat) ≤ ((2 ^ (m.log2 + 1) : Nat) : Rat) := Rat.natCast_le_natCast.2 (Nat.le_of_lt Nat.lt_log2_self)
          have h2 := mul_le_r h1 (Rat.le_of_lt (p2_pos e))
          rw [← p2_nat, ← p2_add] at h2
          have h3 : p2 (((m.log2 + 1 : Nat) : Int) + e) ≤ p2 2 := p2_le (by omega)
          have h4 : p2 2 = 4 := p2_nat 2
          rw [h4] at h3
          exact Rat.le_trans h2 h3
      have hn := mag_nonneg m e
      rw [dv_sgn]
      split <;> constructor <;> grind
  have sx := sq_Nn nx
  have sy := sq_Nn ny
  have sz := sq_Nn nz
  intro w hw
  rcases hw with rfl | rfl | rfl
  · exact key _ nx fun g => noGe (add_Ge (.inl ⟨add_Ge (.inl ⟨g, sy⟩), sz⟩))
  · exact key _ ny fun g => noGe (add_Ge (.inl ⟨add_Ge (.inr ⟨sx, g⟩), sz⟩))
  · exact key _ nz fun g => noGe (add_Ge (.inr ⟨add_Nn sx sy, g⟩))

/-- A rounded number that is small was small. -/
theorem near_mag {s : Bool} {m : Nat} {p : Int} {v : Rat} (h : Vl FloatKind.f32.format (FloatKind.f32.format.nearest s m p) v) : ∃ w, Vl FloatKind.f32.format (FloatKind.f32.format.nearest false m p) w ∧ 0 ≤ w ∧ (v = w ∨ v = -w) := by
  have key : ∀ r : Nat, r ≤ FloatKind.f32.format.infRung → Vl FloatKind.f32.format (FloatKind.f32.format.word s r) v → ∃ w, Vl FloatKind.f32.format (FloatKind.f32.format.word false r) w ∧ 0 ≤ w ∧ (v = w ∨ v = -w) := by
    intro r hr hv
    rcases Nat.lt_or_ge r FloatKind.f32.format.infRung with c | c
    · have e := vl_uniq hv (vl_word FloatKind.f32.format s c)
      refine ⟨_, vl_word FloatKind.f32.format false c, ?_, ?_⟩
      · rw [dv_sgn]; exact mag_nonneg _ _
      · rw [e, dv_sgn, dv_sgn]
        cases s
        · left; rfl
        · right; rfl
    · exfalso
      have e : r = FloatKind.f32.format.infRung := Nat.le_antisymm hr c
      subst e
      obtain ⟨t, m', e', r1, _⟩ := hv
      have h1 : FloatKind.f32.format.read (FloatKind.f32.format.word s FloatKind.f32.format.infRung) = .infinity s := by cases s <;> decide +kernel
      rw [h1] at r1; cases r1
  by_cases h0 : m = 0
  · subst h0
    have e : ∀ t, FloatKind.f32.format.nearest t 0 p = FloatKind.f32.format.word t 0 := fun t => by unfold Format.nearest; rw [if_pos rfl]
    rw [e] at h ⊢
    exact key 0 (Nat.zero_le _) h
  · have e : ∀ t, FloatKind.f32.format.nearest t m p = FloatKind.f32.format.word t (min ((max (p + m.log2 - FloatKind.f32.format.fractionBits) FloatKind.f32.format.leastPlace - FloatKind.f32.format.leastPlace).toNat * FloatKind.f32.format.binade + Toward.even.cut false (m <<< (p - max (p + m.log2 - FloatKind.f32.format.fractionBits) FloatKind.f32.format.leastPlace).toNat) (max (p + m.log2 - FloatKind.f32.format.fractionBits) FloatKind.f32.format.leastPlace - p).toNat) FloatKind.f32.format.infRung) := fun t => by
      unfold Format.nearest
      rw [if_neg h0]
      have hc : ∀ (n d : Nat), Toward.even.cut t n d = Toward.even.cut false n d := fun n d => by unfold Toward.cut; rfl
      dsimp only
      rw [hc]
    rw [e] at h ⊢
    exact key _ (Nat.min_le_right ..) h
theorem near_small {s : Bool} {m : Nat} {p : Int} {v : Rat} (h : Vl FloatKind.f32.format (FloatKind.f32.format.nearest s m p) v) (h1 : -4 ≤ v) (h2 : v ≤ 4) : (m : Rat) * p2 p ≤ 8 := by
  obtain ⟨w, hw, w0, hor⟩ := near_mag h
  have w4 : w ≤ 4 := by rcases hor with h | h <;> grind
  by_cases h0 : m = 0
  · subst h0
    have : ((0 : Nat) : Rat) = 0 := rfl
    rw [this]; grind
  · rcases Int.lt_or_le (p + m.log2) 3 with c | c
    · have k1 : (m : Rat) ≤ ((2 ^ (m.log2 + 1) : Nat) : Rat) := Rat.natCast_le_natCast.2 (Nat.le_of_lt Nat.lt_log2_self)
      have k2 := mul_le_r k1 (Rat.le_of_lt (p2_pos p))
      rw [← p2_nat, ← p2_add] at k2
      have k3 : p2 (((m.log2 + 1 : Nat) : Int) + p) ≤ p2 3 := p2_le (by omega)
      have k4 : p2 3 = 8 := p2_nat 3
      rw [k4] at k3
      exact Rat.le_trans k2 k3
    · exfalso
      have g := near_Ge (K := 3) h0 c (by decide) (by decide)
      rcases read_Ge g (by decide) with r | ⟨m', e', r, r1, r2⟩
      · obtain ⟨t, m', e', r1, _⟩ := hw
        rw [r] at r1; cases r1
      · obtain ⟨t, m2, e2, r3, _, hv⟩ := hw
        rw [r] at r3; cases r3
        have k1 : ((2 ^ m'.log2 : Nat) : Rat) ≤ (m' : Rat) := Rat.natCast_le_natCast.2 (Nat.log2_self_le r1)
        have k2 := mul_le_r k1 (Rat.le_of_lt (p2_pos e'))
        rw [← p2_nat, ← p2_add] at k2
        have k3 : p2 3 ≤ p2 ((m'.log2 : Int) + e') := p2_le (by omega)
        have k4 : p2 3 = 8 := p2_nat 3
        rw [k4] at k3
        have k5 : dv false m' e' = (m' : Rat) * p2 e' := by rw [dv_sgn]; rfl
        rw [k5] at hv
        have : (8 : Rat) ≤ w := by rw [hv]; exact Rat.le_trans k3 k2
        grind
/-- A difference of a number and 1 or -1 that is small is nothing or not too small. -/
theorem unit_gap {p c : Nat} {C v : Rat} (hc : Vl FloatKind.f32.format c C) (hC : C = 1 ∨ C = -1) (hw : Vl FloatKind.f32.format (fop .sub .f32 p c) v) (h1 : -4 ≤ v) (h2 : v ≤ 4) : v = 0 ∨ p2 (-25) ≤ v ∨ v ≤ -p2 (-25) := by
  have hn : nanB .f32 p = false := (fop_parts (vl_nan (k := .f32) hw)).1
  obtain ⟨t, n, j, rc, hcv⟩ := vl_opp hc
  rcases read_cases p hn with ⟨s, hr⟩ | ⟨s, m, e, hr, he⟩
  · exfalso
    rw [fop_sub, hr, rc] at hw
    have e1 : Datum.sum (.infinity s) (.number t n j) = some (.infinity s) := rfl
    rw [e1, inf_getD'] at hw
    obtain ⟨t', m', e', r1, _⟩ := hw
    have h3 : FloatKind.f32.format.read (FloatKind.f32.format.write (.infinity s)) = .infinity s := by cases s <;> decide +kernel
    rw [h3] at r1; cases r1
  · obtain ⟨S, M, B, e1, he1⟩ := sum_val (f := FloatKind.f32.format) (s := s) (t := t) (m := m) (n := n) (i := e) (j := j)
    have hw2 := hw
    rw [fop_sub, hr, rc, e1, num_getD'] at hw2
    have hm8 := near_small hw2 h1 h2
    have hP : Vl FloatKind.f32.format p (dv s m e) := ⟨s, m, e, hr, by rw [b_lp]; exact he, rfl⟩
    have hdv : dv S M B = dv s m e - C := by rw [he1, hcv]; grind
    have hb1 : -8 ≤ dv s m e - C := by rw [← hdv, dv_sgn]; have := mag_nonneg M B; split <;> grind
    have hb2 : dv s m e - C ≤ 8 := by rw [← hdv, dv_sgn]; have := mag_nonneg M B; split <;> grind
    have t149 : p2 (-149) * 16 ≤ p2 (-26) := by
      have h16 : p2 4 = 16 := p2_nat 4
      have : p2 (-149) * p2 4 = p2 (-145) := by rw [← p2_add]; rfl
      rw [h16] at this
      rw [this]; exact p2_le (by decide)
    have t24 : p2 (-24) = 2 * p2 (-25) := by rw [← p2_two]; rfl
    have t25 : p2 (-25) = 2 * p2 (-26) := by rw [← p2_two]; rfl
    have t26 := p2_pos (-26)
    have c' := c120
    have t23 : p2 (-23) ≤ 12 / 100000000 := by have := c23; grind
    by_cases g : dv s m e = C
    · left
      have h3 : Vl FloatKind.f32.format (fop .sub .f32 p c) (((0 : Int) : Rat) * p2 (-((0 : Nat) : Int))) := by
        refine vl_sub_ex (k := .f32) hP hc ?_ (by show (0 : Nat) < 16777216; omega) (by decide) ?_
        · have : ((0 : Int) : Rat) = 0 := rfl
          rw [this]; grind
        · have h0 : (((0 : Int).natAbs : Nat) : Rat) = 0 := rfl
          rw [h0]; grind
      rw [vl_uniq hw h3]
      have : ((0 : Int) : Rat) = 0 := rfl
      rw [this]; grind
    · right
      -- the exact difference is not too small
      have gap : p2 (-24) ≤ dv s m e - C ∨ dv s m e - C ≤ -p2 (-24) := by
        refine Classical.byContradiction fun hcon => ?_
        have q1 : dv s m e - C < p2 (-24) := by
          refine Rat.not_le.1 fun h => hcon (.inl h)
        have q2 : -p2 (-24) < dv s m e - C := by
          refine Rat.not_le.1 fun h => hcon (.inr h)
        have hp24 : p2 (-24) ≤ 1 / 4 := by
          have : p2 (-24) ≤ p2 (-2) := p2_le (by decide)
          have h4 : p2 (-2) * 4 = 1 := p2_neg 2
          grind
        have hmag : 1 / 2 < (m : Rat) * p2 e := by
          rw [dv_sgn] at q1 q2
          have := mag_nonneg m e
          rcases hC with rfl | rfl <;> split at q1 <;> grind
        have hml := (read_parts (binade_le_inf .f32) hr).1
        rw [b_bi] at hml
        have hm1 : (m : Rat) ≤ ((2 ^ 24 : Nat) : Rat) := Rat.natCast_le_natCast.2 (by omega)
        have hm2 := mul_le_r hm1 (Rat.le_of_lt (p2_pos e))
        rw [← p2_nat, ← p2_add] at hm2
        have he2 : -24 ≤ e := by
          have h4 : p2 (-1) * 2 = 1 := p2_neg 1
          have h5 : p2 (-1) < p2 (((24 : Nat) : Int) + e) := by grind
          have := p2_lt h5
          omega
        obtain ⟨u, hu⟩ : ∃ u : Nat, e = -24 + (u : Int) := ⟨(e + 24).toNat, by omega⟩
        have hd1 : dv s m e = ((sgi s (m * 2 ^ u) : Int) : Rat) * p2 (-24) := by rw [sgi_rat, sgi_mul, hu]
        have hC1 : ∃ z : Int, C = (z : Rat) * p2 (-24) := by
          have h24 : p2 (-24) * ((2 ^ 24 : Nat) : Rat) = 1 := p2_neg 24
          rcases hC with rfl | rfl
          · exact ⟨((2 ^ 24 : Nat) : Int), by show (1 : Rat) = ((2 ^ 24 : Nat) : Rat) * p2 (-24); grind⟩
          · refine ⟨-((2 ^ 24 : Nat) : Int), ?_⟩
            rw [Rat.intCast_neg]
            show (-1 : Rat) = -((2 ^ 24 : Nat) : Rat) * p2 (-24)
            grind
        obtain ⟨z, hz⟩ := hC1
        generalize sgi s (m * 2 ^ u) = y at hd1
        have hyz : y - z = 0 := by
          have k1 : ((y - z : Int) : Rat) * p2 (-24) = dv s m e - C := by rw [hd1, hz, Rat.intCast_sub]; grind
          have k2 : ((y - z : Int) : Rat) * p2 (-24) < ((1 : Int) : Rat) * p2 (-24) := by
            rw [k1]
            have : ((1 : Int) : Rat) = 1 := rfl
            rw [this]; grind
          have k3 : ((-1 : Int) : Rat) * p2 (-24) < ((y - z : Int) : Rat) * p2 (-24) := by
            rw [k1]
            have : ((-1 : Int) : Rat) = -1 := rfl
            rw [this]; grind
          have := rat_lt_of k2
          have := rat_lt_of k3
          omega
        refine g ?_
        have : y = z := by omega
        rw [hd1, hz, this]
      rcases gap with gap | gap
      · left
        obtain ⟨u, hu, u1, u2⟩ := vl_sub (k := .f32) hP hc (B := dv s m e - C) (by grind) (by grind) (by grind)
        rw [vl_uniq hw hu]
        have hE : er2 .f32 (dv s m e - C) = (dv s m e - C) * p2 (-23) + p2 (-149) := rfl
        have m23 := Rat.mul_le_mul_of_nonneg_left t23 (show 0 ≤ dv s m e - C by grind)
        grind
      · right
        obtain ⟨u, hu, u1, u2⟩ := vl_sub (k := .f32) hP hc (B := -(dv s m e - C)) (by grind) (by grind) (by grind)
        rw [vl_uniq hw hu]
        have hE : er2 .f32 (-(dv s m e - C)) = (-(dv s m e - C)) * p2 (-23) + p2 (-149) := rfl
        have m23 := Rat.mul_le_mul_of_nonneg_left t23 (show 0 ≤ -(dv s m e - C) by grind)
        grind
end Go.Awp
