/- Plain law: places in eighths, how long a thread is, what it pulls.
Conditions: none. -/
import Derived.Test.YtbjfkhjckfodbaaNer
import Derived.Test.YtbjfkhjckfodbaaSA
namespace Go.Proofs.Ytbjfkhjckfodbaa
set_option linter.all false
open Go Go.Awp
set_option maxRecDepth 100000
set_option maxHeartbeats 4000000

/-- A number in eighths. -/
def vl8 (w : Nat) (n : Int) : Bool := match FloatKind.f32.format.read w with
  | .number s m e => decide (e ≤ 0) && decide (-149 ≤ e) && decide (sgi s m * 8 = n * ((2 ^ (-e).toNat : Nat) : Int))
  | _ => false
abbrev V8 (w : Nat) (n : Int) : Prop := Vl FloatKind.f32.format w ((n : Rat) * p2 (-3))
theorem vl8_ok {w : Nat} {n : Int} (h : vl8 w n = true) : V8 w n := by
  unfold vl8 at h
  split at h
  · rename_i s m e he
    simp only [Bool.and_eq_true, decide_eq_true_eq] at h
    obtain ⟨⟨h1, h2⟩, h3⟩ := h
    obtain ⟨k, hk⟩ : ∃ k : Nat, e = -(k : Int) := ⟨(-e).toNat, by omega⟩
    subst hk
    rw [show (- -(k : Int)).toNat = k by omega] at h3
    refine vl_lit (n := k) he (by show -149 ≤ _; omega) ?_
    have h4 : ((sgi s m * 8 : Int) : Rat) = ((n * ((2 ^ k : Nat) : Int) : Int) : Rat) := by rw [h3]
    rw [Rat.intCast_mul, Rat.intCast_mul] at h4
    have h5 : p2 (-3) * 8 = 1 := p2_neg 3
    have h6 : ((8 : Int) : Rat) = 8 := rfl
    have h7 : ((((2 ^ k : Nat) : Int)) : Rat) = ((2 ^ k : Nat) : Rat) := rfl
    rw [h6, h7] at h4
    generalize ((2 ^ k : Nat) : Rat) = z at *
    have : (n : Rat) * p2 (-3) * z = (n : Rat) * z * p2 (-3) := by grind
    rw [this, ← h4]
    grind
  · cases h
/-- The places of the drawn cloth are in eighths. -/
theorem pl8_tab : ((List.range 9).all fun i => ((List.range 5).all fun u => vl8 (fop .add .f32 (g22.pl.getD i (0, 0, 0)).1 (dX u)) (8 * (i % 3 : Nat) + u - 2) && vl8 (fop .add .f32 (g22.pl.getD i (0, 0, 0)).2.1 (dX u)) (8 * (i / 3 : Nat) + u - 2)) && ((List.range 9).all fun w => vl8 (fop .add .f32 (g22.pl.getD i (0, 0, 0)).2.2 (dZ w)) (2 * w - 8))) = true := by decide +kernel
structure P8 (p : V) (x y z : Int) : Prop where
  vx : V8 p.1 x
  vy : V8 p.2.1 y
  vz : V8 p.2.2 z
  x1 : -2 ≤ x ∧ x ≤ 18
  y1 : -2 ≤ y ∧ y ≤ 18
  z1 : -8 ≤ z ∧ z ≤ 8
theorem r8_p8 {P : List V} {L : List Int} (h : R8n 9 P L) {i : Nat} (hi : i < P.length) : ∃ x y z, P8 P[i] x y z := by
  have hP : P.length = 9 := by rw [h.len]; exact g22_len
  have h2 : i < g22.pl.length := by rw [← h.len]; exact hi
  obtain ⟨u, v, w, hu, hv, hw, e⟩ := h.old i hi h2 (by omega)
  have ht := List.all_eq_true.1 pl8_tab i (List.mem_range.2 (by omega))
  rw [Bool.and_eq_true] at ht
  have t1 := List.all_eq_true.1 ht.1 u (List.mem_range.2 hu)
  have t2 := List.all_eq_true.1 ht.1 v (List.mem_range.2 hv)
  have t3 := List.all_eq_true.1 ht.2 w (List.mem_range.2 hw)
  rw [Bool.and_eq_true] at t1 t2
  have eg : g22.pl.getD i (0, 0, 0) = g22.pl[i] := by rw [List.getD_eq_getElem?_getD, List.getElem?_eq_getElem h2]; rfl
  rw [eg] at t1 t2 t3
  rw [e]
  exact ⟨_, _, _, vl8_ok t1.1, vl8_ok t2.2, vl8_ok t3, by omega, by omega, by omega⟩
theorem e8_sub {a b : Nat} {m n : Int} (ha : V8 a m) (hb : V8 b n) (h : -20 ≤ m - n ∧ m - n ≤ 20) : V8 (fop .sub .f32 a b) (m - n) := by
  refine vl_sub_ex (j := 3) ha hb ?_ (by show (m - n).natAbs < 16777216; omega) (by decide) ?_
  · rw [Rat.intCast_sub]; show _ = _ * p2 (-3); grind
  · have h1 : ((m - n).natAbs : Rat) ≤ ((20 : Nat) : Rat) := Rat.natCast_le_natCast.2 (by omega)
    have h2 : p2 (-((3 : Nat) : Int)) ≤ p2 0 := p2_le (by decide)
    have h3 := mul_le_r h1 (Rat.le_of_lt (p2_pos (-((3 : Nat) : Int))))
    rw [p2_zero] at h2
    have h4 : ((20 : Nat) : Rat) = 20 := rfl
    have := c120
    rw [h4] at h3
    grind
/-- The square of a length, in sixty-fourths. -/
abbrev V64 (w : Nat) (n : Int) : Prop := Vl FloatKind.f32.format w ((n : Rat) * p2 (-6))
theorem bd64 {n : Int} (h : n.natAbs ≤ 2000) : (n.natAbs : Rat) * p2 (-((6 : Nat) : Int)) ≤ p2 120 := by
  have h1 : (n.natAbs : Rat) ≤ ((2000 : Nat) : Rat) := Rat.natCast_le_natCast.2 h
  have h2 : p2 (-((6 : Nat) : Int)) ≤ p2 0 := p2_le (by decide)
  have h3 := mul_le_r h1 (Rat.le_of_lt (p2_pos (-((6 : Nat) : Int))))
  rw [p2_zero] at h2
  have h4 : ((2000 : Nat) : Rat) = 2000 := rfl
  have := c120
  rw [h4] at h3
  grind
theorem sq_le {n : Int} (h : -20 ≤ n ∧ n ≤ 20) : 0 ≤ n * n ∧ n * n ≤ 400 := by
  have h1 : 0 ≤ (20 - n) * (20 + n) := Int.mul_nonneg (by omega) (by omega)
  have h2 : (20 - n) * (20 + n) = 400 - n * n := by grind
  have h3 : 0 ≤ n * n := by
    rcases Int.le_total 0 n with c | c
    · exact Int.mul_nonneg c c
    · have := Int.mul_nonneg (show 0 ≤ -n by omega) (show 0 ≤ -n by omega)
      have e : -n * -n = n * n := by grind
      omega
  omega
theorem e8_sq {a : Nat} {n : Int} (ha : V8 a n) (h : -20 ≤ n ∧ n ≤ 20) : V64 (fop .mul .f32 a a) (n * n) := by
  have hs := sq_le h
  refine vl_mul_ex (j := 6) ha ha ?_ (by show (n * n).natAbs < 16777216; omega) (by decide) (bd64 (by omega))
  rw [Rat.intCast_mul, show p2 (-((6 : Nat) : Int)) = p2 (-3) * p2 (-3) by rw [← p2_add]; rfl]
  grind
theorem e64_add {a b : Nat} {m n : Int} (ha : V64 a m) (hb : V64 b n) (h : 0 ≤ m ∧ 0 ≤ n ∧ m + n ≤ 2000) : V64 (fop .add .f32 a b) (m + n) := by
  refine vl_add_ex (j := 6) ha hb ?_ (by show (m + n).natAbs < 16777216; omega) (by decide) (bd64 (by omega))
  rw [Rat.intCast_add]; show _ = _ * p2 (-6); grind
structure D8 (v : V) (x y z : Int) : Prop where
  vx : V8 v.1 x
  vy : V8 v.2.1 y
  vz : V8 v.2.2 z
  x1 : -20 ≤ x ∧ x ≤ 20
  y1 : -20 ≤ y ∧ y ≤ 20
  z1 : -20 ≤ z ∧ z ≤ 20
theorem p8_sub {p q : V} {x y z x' y' z' : Int} (h : P8 p x y z) (h' : P8 q x' y' z') : D8 (vsub p q) (x - x') (y - y') (z - z') := by
  have a1 := h.x1; have a2 := h.y1; have a3 := h.z1
  have b1 := h'.x1; have b2 := h'.y1; have b3 := h'.z1
  exact ⟨e8_sub h.vx h'.vx (by omega), e8_sub h.vy h'.vy (by omega), e8_sub h.vz h'.vz (by omega), by omega, by omega, by omega⟩
theorem d8_inner {v : V} {x y z : Int} (h : D8 v x y z) : V64 (vinner v v) (x * x + y * y + z * z) := by
  have h1 := sq_le h.x1; have h2 := sq_le h.y1; have h3 := sq_le h.z1
  exact e64_add (e64_add (e8_sq h.vx h.x1) (e8_sq h.vy h.y1) (by omega)) (e8_sq h.vz h.z1) (by omega)
/-- How long it is. -/
theorem d8_long {v : V} {x y z : Int} (h : D8 v x y z) : (x * x + y * y + z * z = 0 → Vl FloatKind.f32.format (vlong v) 0) ∧
    (0 < x * x + y * y + z * z → ∃ R : Rat, Nr (vlong v) R (7 / 10000000) ∧ 1249 / 10000 ≤ R ∧ R ≤ 11 ∧ R * R ≤ ((x * x + y * y + z * z : Int) : Rat) * (1 / 64) * (1 + 1 / 1000000000000) ∧ ((x * x + y * y + z * z : Int) : Rat) * (1 / 64) * (1 - 1 / 1000000000000) ≤ R * R) := by
  have hi := d8_inner h
  have h1 := sq_le h.x1; have h2 := sq_le h.y1; have h3 := sq_le h.z1
  have h64 : p2 (-6) * 64 = 1 := p2_neg 6
  refine ⟨fun h0 => ?_, fun h0 => ?_⟩
  · rw [h0] at hi
    have : ((0 : Int) : Rat) * p2 (-6) = 0 := by have : ((0 : Int) : Rat) = 0 := rfl; rw [this]; grind
    have hi : Vl FloatKind.f32.format (vinner v v) (((0 : Int) : Rat) * p2 (-6)) := hi
    rw [this] at hi
    exact vl_froot0 hi
  · have hM : x * x + y * y + z * z ≤ 1200 := by omega
    generalize x * x + y * y + z * z = M at *
    have m1 : ((1 : Int) : Rat) ≤ (M : Rat) := Rat.intCast_le_intCast.2 (by omega)
    have m2 : (M : Rat) ≤ ((1200 : Int) : Rat) := Rat.intCast_le_intCast.2 (by omega)
    have i1 : ((1 : Int) : Rat) = 1 := rfl
    have i2 : ((1200 : Int) : Rat) = 1200 := rfl
    rw [i1] at m1
    rw [i2] at m2
    have ea : (M : Rat) * p2 (-6) = (M : Rat) * (1 / 64) := by
      have : p2 (-6) = 1 / 64 := by grind
      rw [this]
    have hi : Vl FloatKind.f32.format (vinner v v) ((M : Rat) * p2 (-6)) := hi
    rw [ea] at hi
    obtain ⟨R, hR, R0, RB, q1, q2⟩ := nr_root hi (B := 9) (by grind) (by decide) (by grind) (by decide)
    refine ⟨R, hR.mono (by grind), ?_, by grind, by grind, by grind⟩
    refine Rat.not_lt.1 fun c => ?_
    have c1 := Rat.mul_le_mul_of_nonneg_left (Rat.le_of_lt c) R0
    have c2 := mul_le_r (Rat.le_of_lt c) (show (0 : Rat) ≤ 1249 / 10000 by decide +kernel)
    grind
end Go.Proofs.Ytbjfkhjckfodbaa
