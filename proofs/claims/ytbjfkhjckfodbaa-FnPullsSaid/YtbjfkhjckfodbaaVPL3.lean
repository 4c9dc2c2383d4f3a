/- Plain law: what pulling a thread makes of the two places.
Conditions: none. -/
import Derived.Test.YtbjfkhjckfodbaaVPL2
namespace Go.Proofs.Ytbjfkhjckfodbaa
set_option linter.all false
open Go Go.Awp
set_option maxRecDepth 100000
set_option maxHeartbeats 4000000

theorem vl_001 : ∃ v : Rat, Vl FloatKind.f64.format 4562254508917369340 v ∧ 99 / 100000 ≤ v := ⟨(4611686018427388 : Rat) / ((2 ^ 62 : Nat) : Rat), vl_lit (n := 62) (s := false) (m := 4611686018427388) (by decide +kernel) (by decide) (by decide +kernel), by decide +kernel⟩
theorem vl_zero64 : Vl FloatKind.f64.format 0 0 := vl_lit (n := 1074) (s := false) (m := 0) (by decide +kernel) (by decide) (by decide +kernel)
/-- A gap that is small enough. -/
theorem gap_ok {x y : Nat} {v w e : Rat} (hx : Nr x v e) (hy : Vl FloatKind.f32.format y w) (h1 : v + e ≤ w + 98 / 100000) (h2 : w + e ≤ v + 98 / 100000) : ¬ ford .f64 (fmax .f64 (fop .sub .f64 (wid x) (wid y)) (fop .sub .f64 (wid y) (wid x))) 4562254508917369340 = some .gt := by
  obtain ⟨u, hu, u1, u2⟩ := hx
  have c := c120
  have e64 := er64_le (B := 1) (by decide +kernel)
  obtain ⟨a, ha, a1, a2⟩ := vl_sub (vl_wid hu) (vl_wid hy) (B := 1) (by grind) (by grind) (by grind)
  obtain ⟨b, hb, b1, b2⟩ := vl_sub (vl_wid hy) (vl_wid hu) (B := 1) (by grind) (by grind) (by grind)
  obtain ⟨m, hm, hor⟩ := vl_max ha hb
  obtain ⟨k, hk, k1⟩ := vl_001
  refine not_gt_of hm hk ?_
  rcases hor with h | h <;> rw [h] <;> grind
theorem less_ok {x : Nat} {e : Rat} (hx : Nr x 0 e) (he : e ≤ 98 / 100000) : ford .f64 (wid x) 4562254508917369340 = some .lt := by
  obtain ⟨u, hu, u1, u2⟩ := hx
  obtain ⟨k, hk, k1⟩ := vl_001
  exact ford_lt_of (vl_wid hu) hk (by grind)
theorem sqn (x : Rat) : 0 ≤ x * x := by
  by_cases h : 0 ≤ x
  · exact Rat.mul_nonneg h h
  · have := Rat.mul_nonneg (show 0 ≤ -x by grind) (show 0 ≤ -x by grind)
    grind
theorem v8_bd {n : Int} {w : Nat} (hw : V8 w n) (h : -20 ≤ n ∧ n ≤ 20) : Vl FloatKind.f32.format w ((n : Rat) * (1 / 8)) ∧ -(5 / 2) ≤ (n : Rat) * (1 / 8) ∧ (n : Rat) * (1 / 8) ≤ 5 / 2 := by
  have h5 : p2 (-3) * 8 = 1 := p2_neg 3
  have h6 : p2 (-3) = 1 / 8 := by grind
  have h1 : ((-20 : Int) : Rat) ≤ (n : Rat) := Rat.intCast_le_intCast.2 h.1
  have h2 : (n : Rat) ≤ ((20 : Int) : Rat) := Rat.intCast_le_intCast.2 h.2
  have h3 : ((-20 : Int) : Rat) = -20 := rfl
  have h4 : ((20 : Int) : Rat) = 20 := rfl
  rw [h3] at h1
  rw [h4] at h2
  have hw : Vl FloatKind.f32.format w ((n : Rat) * p2 (-3)) := hw
  rw [h6] at hw
  exact ⟨hw, by grind, by grind⟩
/-- All that is known of two places of a thread. -/
structure Two (p q : V) : Prop where
  nul : vlong (vsub q p) = vlong (vsub q p) → (Vl FloatKind.f32.format (vlong (vsub q p)) 0 ∧ Vl FloatKind.f32.format (vlong (vsub p q)) 0) ∨
    (∃ R, Nr (vlong (vsub q p)) R (7 / 10000000) ∧ 1249 / 10000 ≤ R ∧ (∃ R', Nr (vlong (vsub p q)) R' (7 / 10000000) ∧ 1249 / 10000 ≤ R') ∧
      finB (fop .quo .f32 (fop .sub .f32 (vlong (vsub q p)) 1065353216) (vlong (vsub q p))) = true ∧
      (∀ s, s = fop .quo .f32 (fop .sub .f32 (vlong (vsub q p)) 1065353216) (vlong (vsub q p)) →
        Nr (vlong (vsub (vadd p (vscale (vsub q p) (fop .mul .f32 1056964608 s))) (vsub q (vscale (vsub q p) (fop .mul .f32 1056964608 s))))) 1 (7 / 10000) ∧
        Nr (vlong (vsub (vadd p q) (vadd (vadd p (vscale (vsub q p) (fop .mul .f32 1056964608 s))) (vsub q (vscale (vsub q p) (fop .mul .f32 1056964608 s)))))) 0 (5 / 10000) ∧
        Nr (vlong (vsub (vadd p (vscale (vsub q p) s)) q)) 1 (7 / 10000) ∧
        Nr (vlong (vsub p (vsub q (vscale (vsub q p) s)))) 1 (7 / 10000)))
theorem nr_finB {x : Nat} {v e : Rat} (h : Nr x v e) : finB x = true := by
  obtain ⟨u, hu, _⟩ := h
  have h1 : Vl FloatKind.f32.format (fop .sub .f32 x x) (((0 : Int) : Rat) * p2 (-((0 : Nat) : Int))) := by
    refine vl_sub_ex hu hu ?_ (by show (0 : Nat) < 16777216; omega) (by decide) ?_
    · have : ((0 : Int) : Rat) = 0 := rfl
      rw [this]; grind
    · have := c120
      have h0 : (((0 : Int).natAbs : Nat) : Rat) = 0 := rfl
      rw [h0]; grind
  have h2 : ((0 : Int) : Rat) * p2 (-((0 : Nat) : Int)) = 0 := by
    have : ((0 : Int) : Rat) = 0 := rfl
    rw [this]; grind
  rw [h2] at h1
  unfold finB
  rw [ford_eq_of h1 vl_zero32]; rfl
theorem two_ok {p q : V} {x y z x' y' z' : Int} (hp : P8 p x y z) (hq : P8 q x' y' z') : Two p q := by
  have hd := p8_sub hq hp
  have hd2 := p8_sub hp hq
  refine ⟨fun _ => ?_⟩
  have eM : (x - x') * (x - x') + (y - y') * (y - y') + (z - z') * (z - z') = (x' - x) * (x' - x) + (y' - y) * (y' - y) + (z' - z) * (z' - z) := by grind
  obtain ⟨l1, l2⟩ := d8_long hd
  obtain ⟨k1, k2⟩ := d8_long hd2
  rw [eM] at k1 k2
  have s1 := sq_le hd.x1; have s2 := sq_le hd.y1; have s3 := sq_le hd.z1
  by_cases h0 : (x' - x) * (x' - x) + (y' - y) * (y' - y) + (z' - z) * (z' - z) = 0
  · exact .inl ⟨l1 h0, k1 h0⟩
  · right
    have hpos : 0 < (x' - x) * (x' - x) + (y' - y) * (y' - y) + (z' - z) * (z' - z) := by omega
    obtain ⟨R, hR, R1, _⟩ := l2 hpos
    obtain ⟨R', hR', R1', _⟩ := k2 hpos
    obtain ⟨W, W0, W9, hs, w1, w2⟩ := pull_share hd hpos
    refine ⟨R, hR, R1, ⟨R', hR', R1'⟩, nr_finB hs, fun s es => ?_⟩
    rw [← es] at hs
    obtain ⟨vx, bx1, bx2⟩ := v8_bd hd.vx hd.x1
    obtain ⟨vy, by1, by2⟩ := v8_bd hd.vy hd.y1
    obtain ⟨vz, bz1, bz2⟩ := v8_bd hd.vz hd.z1
    have px := hp.x1; have py := hp.y1; have pz := hp.z1
    have qx := hq.x1; have qy := hq.y1; have qz := hq.z1
    obtain ⟨ax, ax1, ax2⟩ := v8_bd hp.vx (by omega)
    obtain ⟨ay, ay1, ay2⟩ := v8_bd hp.vy (by omega)
    obtain ⟨az, az1, az2⟩ := v8_bd hp.vz (by omega)
    obtain ⟨cx, cx1, cx2⟩ := v8_bd hq.vx (by omega)
    obtain ⟨cy, cy1, cy2⟩ := v8_bd hq.vy (by omega)
    obtain ⟨cz, cz1, cz2⟩ := v8_bd hq.vz (by omega)
    have ex : ((x' - x : Int) : Rat) * (1 / 8) = (x' : Rat) * (1 / 8) - (x : Rat) * (1 / 8) := by rw [Rat.intCast_sub]; grind
    have ey : ((y' - y : Int) : Rat) * (1 / 8) = (y' : Rat) * (1 / 8) - (y : Rat) * (1 / 8) := by rw [Rat.intCast_sub]; grind
    have ez : ((z' - z : Int) : Rat) * (1 / 8) = (z' : Rat) * (1 / 8) - (z : Rat) * (1 / 8) := by rw [Rat.intCast_sub]; grind
    have eM2 : (((x' - x) * (x' - x) + (y' - y) * (y' - y) + (z' - z) * (z' - z) : Int) : Rat) * (1 / 64) * (W * W) = ((x' - x : Int) : Rat) * (1 / 8) * W * (((x' - x : Int) : Rat) * (1 / 8) * W) + ((y' - y : Int) : Rat) * (1 / 8) * W * (((y' - y : Int) : Rat) * (1 / 8) * W) + ((z' - z : Int) : Rat) * (1 / 8) * W * (((z' - z : Int) : Rat) * (1 / 8) * W) := by
      rw [Rat.intCast_add, Rat.intCast_add, Rat.intCast_mul, Rat.intCast_mul, Rat.intCast_mul]; grind
    rw [eM2] at w1 w2
    generalize ((x' - x : Int) : Rat) * (1 / 8) = X at *
    generalize ((y' - y : Int) : Rat) * (1 / 8) = Y at *
    generalize ((z' - z : Int) : Rat) * (1 / 8) = Z at *
    generalize (x : Rat) * (1 / 8) = A1 at *
    generalize (y : Rat) * (1 / 8) = A2 at *
    generalize (z : Rat) * (1 / 8) = A3 at *
    generalize (x' : Rat) * (1 / 8) = B1 at *
    generalize (y' : Rat) * (1 / 8) = B2 at *
    generalize (z' : Rat) * (1 / 8) = B3 at *
    have nx := sqn (X * W)
    have ny := sqn (Y * W)
    have nz := sqn (Z * W)
    have u1 := sq_bd (x := X * W) (c := 1001 / 1000) (by decide +kernel) (by grind)
    have u2 := sq_bd (x := Y * W) (c := 1001 / 1000) (by decide +kernel) (by grind)
    have u3 := sq_bd (x := Z * W) (c := 1001 / 1000) (by decide +kernel) (by grind)
    have fl : ∀ {a b c : Nat}, Nr a (-(X * (1 - (1 - W)))) (165 / 1000000) → Nr b (-(Y * (1 - (1 - W)))) (165 / 1000000) → Nr c (-(Z * (1 - (1 - W)))) (165 / 1000000) → Nr (vlong (a, b, c)) 1 (7 / 10000) := by
      intro a b c ha hb hc
      have e1 : -(X * (1 - (1 - W))) = -(X * W) := by grind
      have e2 : -(Y * (1 - (1 - W))) = -(Y * W) := by grind
      have e3 : -(Z * (1 - (1 - W))) = -(Z * W) := by grind
      rw [e1] at ha
      rw [e2] at hb
      rw [e3] at hc
      exact fin_long ha hb hc (by grind) (by grind) (by grind) (by grind) (by grind)
    have hq2 := nr_mul (nr_vl vl_half) hs (V := 1 / 2) (W := 8) (by decide +kernel) (by decide +kernel) (by grind) (by grind) (by decide +kernel) (by decide +kernel) (g := 31 / 1000000) (by decide +kernel) (by decide +kernel)
    have hq2 : Nr (fop .mul .f32 1056964608 s) ((1 - W) / 2) (31 / 1000000) := hq2.to (by grind) (by grind)
    have t1 := pull_two ax cx vx ex (by grind) (by grind) (by grind) (c := 1 - W) (by grind) hq2
    have t2 := pull_two ay cy vy ey (by grind) (by grind) (by grind) (c := 1 - W) (by grind) hq2
    have t3 := pull_two az cz vz ez (by grind) (by grind) (by grind) (c := 1 - W) (by grind) hq2
    have mid : ∀ {wa wb r : Nat} {A B : Rat}, Vl FloatKind.f32.format wa A → Vl FloatKind.f32.format wb B → -(5 / 2) ≤ A → A ≤ 5 / 2 → -(5 / 2) ≤ B → B ≤ 5 / 2 → Nr r (A + B) (165 / 1000000) → Nr (fop .sub .f32 (fop .add .f32 wa wb) r) 0 (2 / 10000) := by
      intro wa wb r A B ha hb a1 a2 b1 b2 hr
      have m1 := nr_add (nr_vl ha) (nr_vl hb) (B := 5) (by grind) (by grind) (by decide +kernel) (by decide +kernel) (g := 1 / 1000000) (by decide +kernel) (by decide +kernel)
      have m2 := nr_sub m1 hr (B := 1) (by grind) (by grind) (by decide +kernel) (by decide +kernel) (g := 2 / 10000) (by decide +kernel) (by decide +kernel)
      exact m2.to (by grind) (by grind)
    refine ⟨fl t1.1 t2.1 t3.1, fin_nil (mid ax cx ax1 ax2 cx1 cx2 t1.2) (mid ay cy ay1 ay2 cy1 cy2 t2.2) (mid az cz az1 az2 cz1 cz2 t3.2), ?_, ?_⟩
    · exact fl (pull_a ax cx vx ex (by grind) (by grind) (by grind) (by grind) hs) (pull_a ay cy vy ey (by grind) (by grind) (by grind) (by grind) hs) (pull_a az cz vz ez (by grind) (by grind) (by grind) (by grind) hs)
    · exact fl (pull_b ax cx vx ex (by grind) (by grind) (by grind) (by grind) hs) (pull_b ay cy vy ey (by grind) (by grind) (by grind) (by grind) hs) (pull_b az cz vz ez (by grind) (by grind) (by grind) (by grind) hs)
end Go.Proofs.Ytbjfkhjckfodbaa
