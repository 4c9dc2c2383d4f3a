/- The law of angles.
Conditions: none. -/
import Derived.Test.YtfngkhkghjgmkaaVB6
import Derived.Test.YtfngkhkghjgmkaaO0
namespace Go.Proofs.Ytfngkhkghjgmkaa
set_option linter.all false
open Go Go.Awp
set_option maxRecDepth 100000
set_option maxHeartbeats 4000000
set_option pp.deepTerms true

theorem c_b10At129 (l : List Nat) (m k : Nat) (hk : k ≤ 1) (hm : m = l.length) (hl : l.length ≤ 1048576) (hb : ∀ b ∈ l, b < 256) : FnSpec Try.prog 22 [.view false (cBy l) m, .int .i64 (k : Nat), .int .i64 129] [] fun av H => H = [] ∧ av.flats = true ∧ ∃ n : Nat, n < 129 ∧ av = .int .i64 (n : Nat) := by
  subst hm
  by_cases c : k < l.length
  · have hx := hb _ (List.getElem_mem c)
    have hx2 : IntKind.i64.wrap ((l[k] : Nat) : Int) = ((l[k] : Nat) : Int) := wrap64 (by omega) (by omega)
    have ht : ((l[k] : Nat) : Int).tmod 129 = ((l[k] % 129 : Nat) : Int) := rfl
    refine FnSpec.walkF dr_ok Try.func22 rfl (by kernel_rfl) rfl rfl rfl (by simp) ?_
    simp [c, hx2, ht]
    exact ⟨l[k] % 129, Nat.mod_lt _ (by decide), by simp⟩
  · have h1 : IntKind.i64.wrap ((k : Int) * 37) = ((k * 37 : Nat) : Int) := by rw [wrap64 (by omega) (by omega)]; simp
    have h2 : IntKind.i64.wrap ((k : Int) * 37 + 11) = ((k * 37 + 11 : Nat) : Int) := by rw [wrap64 (by omega) (by omega)]; simp
    have ht : ((k * 37 + 11 : Nat) : Int).tmod 129 = (((k * 37 + 11) % 129 : Nat) : Int) := rfl
    simp at h2 ht
    refine FnSpec.walkF dr_ok Try.func22 rfl (by kernel_rfl) rfl rfl rfl (by simp) ?_
    simp [c, h1, h2, ht]
    exact ⟨(k * 37 + 11) % 129, Nat.mod_lt _ (by decide), by simp⟩
theorem c_b10Gap (a b : Nat) : Fun Try.prog 37 [.flt .f64 a, .flt .f64 b] [] (.flt .f64 (gapW a b)) [] := by
  unfold gapW
  refine FnSpec.walkF dr_ok Try.func37 rfl (by kernel_rfl) rfl rfl rfl (by simp) ?_
  by_cases c : ford .f64 a b = some .lt
  · simp [c]
  · simp [c]
theorem subB_zero : subB 0 = false ∧ subB 2147483648 = false := by constructor <;> decide +kernel
theorem canF_flush {z w : Nat} (hz : CanF .f32 z) (h : if subB z then (w = 0 ∨ w = 2147483648) else w = z) : CanF .f32 w ∧ subB w = false ∧ (subB z = true → ¬ z = w) ∧ (subB z = false → z = w) := by
  cases hs : subB z with
  | true =>
    rw [hs] at h
    have hne : subB w = false := by
      rcases h with rfl | rfl
      · exact subB_zero.1
      · exact subB_zero.2
    refine ⟨?_, hne, (fun _ e => by rw [e, hne] at hs; cases hs), (fun h => by cases h)⟩
    rcases h with rfl | rfl
    · exact ⟨by decide +kernel, by decide +kernel⟩
    · exact ⟨by decide +kernel, by decide +kernel⟩
  | false =>
    rw [hs] at h
    have h : w = z := h
    subst h
    exact ⟨hz, hs, fun h => by (have h' : false = true := h; cases h'), fun _ => rfl⟩
theorem law_FnAngles (l m : List Nat) (hb : ∀ b ∈ l, b < 256) (hb' : ∀ b ∈ m, b < 256) (h1 : l.length ≤ maxLen) (h2 : m.length ≤ maxLen) : FnSpec Try.prog 7 [.view false (cBy l) l.length, .view false (cBy m) m.length] [] fun av _ => av = .bool true := by
  refine FnSpec.walkF dr_ok Try.func7 rfl (by kernel_rfl) rfl rfl rfl (by simp) ?_
  simp
  (first | refine callG_r ?_ | refine callD_r ?_); simp; (first | refine callN_flat (by with_reducible first | exact c_b10Long l m h1 h2) rfl ?_ | refine callN_new (by with_reducible first | exact c_b10Long l m h1 h2) ?_ | refine callM_flat (by with_reducible first | exact c_b10Long l m h1 h2) rfl ?_ | refine callM_new (by with_reducible first | exact c_b10Long l m h1 h2) ?_)
  simp
  intro q1 q2
  refine callG_r ?_
  simp
  refine callN_rel (c_b10At129 l _ 0 (by omega) rfl (by omega) hb) ?_
  rintro _ ⟨i, hi, rfl⟩
  have hw1 : IntKind.i64.wrap ((i : Int) - 64) = (i : Int) - 64 := wrap64 (by omega) (by omega)
  simp [hw1]
  refine callG_r ?_
  simp
  refine callN_rel (c_b10At129 l _ 1 (by omega) rfl (by omega) hb) ?_
  rintro _ ⟨j, hj, rfl⟩
  have hw2 : IntKind.i64.wrap ((j : Int) - 64) = (j : Int) - 64 := wrap64 (by omega) (by omega)
  simp [hw2]
  have hx : fop .quo .f32 (fint .f32 ((i : Int) - 64)) 1098907648 = ofI i := rfl
  have hy : fop .quo .f32 (fint .f32 ((j : Int) - 64)) 1098907648 = ofI j := rfl
  rw [hx, hy]
  have hg := good_all hi hj
  generalize ofI i = x at *
  generalize ofI j = y at *
  rcases hg with ⟨rfl, rfl⟩ | ⟨hz, g⟩
  · have z0 : ford .f32 (fop .sub .f32 0 0) 0 = some .eq := by decide +kernel
    have z1 : fneg .f32 0 = 2147483648 := by decide +kernel
    have z2 : ford .f32 (fop .sub .f32 2147483648 2147483648) 0 = some .eq := by decide +kernel
    have z3 : ford .f32 0 0 = some .eq := by decide +kernel
    have z4 : ford .f32 2147483648 0 = some .eq := by decide +kernel
    (first | refine callG_r ?_ | refine callD_r ?_); simp; (first | refine callN_flat (by with_reducible first | exact c_AngleZero z0 z0 z3 z3) rfl ?_ | refine callN_new (by with_reducible first | exact c_AngleZero z0 z0 z3 z3) ?_ | refine callM_flat (by with_reducible first | exact c_AngleZero z0 z0 z3 z3) rfl ?_ | refine callM_new (by with_reducible first | exact c_AngleZero z0 z0 z3 z3) ?_)
    simp [z1]
    (first | refine callG_r ?_ | refine callD_r ?_); simp; (first | refine callN_flat (by with_reducible first | exact c_AngleZero z0 z2 z3 z4) rfl ?_ | refine callN_new (by with_reducible first | exact c_AngleZero z0 z2 z3 z4) ?_ | refine callM_flat (by with_reducible first | exact c_AngleZero z0 z2 z3 z4) rfl ?_ | refine callM_new (by with_reducible first | exact c_AngleZero z0 z2 z3 z4) ?_)
    simp [z3]
  · obtain ⟨a, b, ha, hb2, P, hab⟩ := g.ab
    have k1 := c_AngleTurns g.x1 g.y1 g.x2 g.y2 (fun e1 e2 => hz ⟨e1, e2⟩) ha
    have k2 := c_AngleTurns g.x1 g.y3 g.x2 g.y4 (fun e1 e2 => hz ⟨e1, g.y5 e2⟩) hb2
    have k3 := c_SineTurns P.s1.lt P.s1.nn P.s1.ff P.s1.sm P.s1.ti P.s1.cv
    have k4 := c_SineTurns P.s2.lt P.s2.nn P.s2.ff P.s2.sm P.s2.ti P.s2.cv
    have el : froot (fop .add .f32 (fop .add .f32 (fop .mul .f32 x x) (fop .mul .f32 y y)) (fop .mul .f32 0 0)) = lngG x y := by
      unfold lngG
      rw [show fop .mul .f32 0 0 = 0 by decide +kernel, add0G_eq, addH_eq, mulH_eq, mulH_eq, ← cvtQ_eq, ← sqrtG_eq, ← widG_eq]
      rfl
    have k5 := c_longXY x y
    rw [el] at k5
    have Pn1 := P.n1
    have Pn2 := P.n2
    have Ple := P.le
    have Pge := P.ge
    clear ha hb2 P
    generalize cvtQ (sn a) = sa at *
    generalize cvtQ (sn (fop .add .f32 a 1048576000)) = sc at *
    generalize lngG x y = lw at *
    (first | refine callG_r ?_ | refine callD_r ?_); simp; (first | refine callN_flat (by with_reducible first | exact k1) rfl ?_ | refine callN_new (by with_reducible first | exact k1) ?_ | refine callM_flat (by with_reducible first | exact k1) rfl ?_ | refine callM_new (by with_reducible first | exact k1) ?_)
    simp
    (first | refine callG_r ?_ | refine callD_r ?_); simp; (first | refine callN_flat (by with_reducible first | exact k2) rfl ?_ | refine callN_new (by with_reducible first | exact k2) ?_ | refine callM_flat (by with_reducible first | exact k2) rfl ?_ | refine callM_new (by with_reducible first | exact k2) ?_)
    simp
    have hz' : ford .f32 x 0 = some .eq → ¬ ford .f32 y 0 = some .eq := fun e1 e2 => hz ⟨e1, e2⟩
    rcases Pge with Pge | Pge
    · by_cases ex : ford .f32 x 0 = some .eq
      · have ey0 := hz' ex
        simp [ex, ey0]
        (first | refine callG_r ?_ | refine callD_r ?_); simp; (first | refine callN_flat (by with_reducible first | exact k5) rfl ?_ | refine callN_new (by with_reducible first | exact k5) ?_ | refine callM_flat (by with_reducible first | exact k5) rfl ?_ | refine callM_new (by with_reducible first | exact k5) ?_)
        simp
        (first | refine callG_r ?_ | refine callD_r ?_); simp; (first | refine callN_flat (by with_reducible first | exact k3) rfl ?_ | refine callN_new (by with_reducible first | exact k3) ?_ | refine callM_flat (by with_reducible first | exact k3) rfl ?_ | refine callM_new (by with_reducible first | exact k3) ?_)
        simp
        (first | refine callG_r ?_ | refine callD_r ?_); simp; (first | refine callN_flat (by with_reducible first | exact k4) rfl ?_ | refine callN_new (by with_reducible first | exact k4) ?_ | refine callM_flat (by with_reducible first | exact k4) rfl ?_ | refine callM_new (by with_reducible first | exact k4) ?_)
        simp [Pge, Ple]
        (first | refine callG_r ?_ | refine callD_r ?_); simp; (first | refine callN_flat (by with_reducible first | exact c_b10Gap _ _) rfl ?_ | refine callN_new (by with_reducible first | exact c_b10Gap _ _) ?_ | refine callM_flat (by with_reducible first | exact c_b10Gap _ _) rfl ?_ | refine callM_new (by with_reducible first | exact c_b10Gap _ _) ?_)
        simp [Pn1]
        (first | refine callG_r ?_ | refine callD_r ?_); simp; (first | refine callN_flat (by with_reducible first | exact c_b10Gap _ _) rfl ?_ | refine callN_new (by with_reducible first | exact c_b10Gap _ _) ?_ | refine callM_flat (by with_reducible first | exact c_b10Gap _ _) rfl ?_ | refine callM_new (by with_reducible first | exact c_b10Gap _ _) ?_)
        simp [Pn2]
        by_cases ey : ford .f32 y 0 = some .eq
        · simp [ey]
          refine callG_r ?_
          simp
          refine callN_rel (c_B10Number m _ rfl (by omega) hb') ?_
          rintro _ ⟨z, hzc, rfl⟩
          obtain ⟨w, hw, hF⟩ := c_Flush (x := z)
          obtain ⟨w1, w2, w3, w4⟩ := canF_flush hzc hw
          simp
          (first | refine callG_r ?_ | refine callD_r ?_); simp; (first | refine callN_flat (by with_reducible first | exact hF) rfl ?_ | refine callN_new (by with_reducible first | exact hF) ?_ | refine callM_flat (by with_reducible first | exact hF) rfl ?_ | refine callM_new (by with_reducible first | exact hF) ?_)
          simp
          (first | refine callG_r ?_ | refine callD_r ?_); simp; (first | refine callN_flat (by with_reducible first | exact c_IsSubnormal w) rfl ?_ | refine callN_new (by with_reducible first | exact c_IsSubnormal w) ?_ | refine callM_flat (by with_reducible first | exact c_IsSubnormal w) rfl ?_ | refine callM_new (by with_reducible first | exact c_IsSubnormal w) ?_)
          simp [w2]
          (first | refine callG_r ?_ | refine callD_r ?_); simp; (first | refine callN_flat (by with_reducible first | exact c_IsSubnormal z) rfl ?_ | refine callN_new (by with_reducible first | exact c_IsSubnormal z) ?_ | refine callM_flat (by with_reducible first | exact c_IsSubnormal z) rfl ?_ | refine callM_new (by with_reducible first | exact c_IsSubnormal z) ?_)
          simp
          (first | refine callG_r ?_ | refine callD_r ?_); simp; (first | refine callN_flat (by with_reducible first | exact c_specSameNumber hzc w1) rfl ?_ | refine callN_new (by with_reducible first | exact c_specSameNumber hzc w1) ?_ | refine callM_flat (by with_reducible first | exact c_specSameNumber hzc w1) rfl ?_ | refine callM_new (by with_reducible first | exact c_specSameNumber hzc w1) ?_)
          simp
          cases hs : subB z with
          | true => simp [w3 hs]
          | false => simp [w4 hs]
        · simp [ey, hab ey]
          refine callG_r ?_
          simp
          refine callN_rel (c_B10Number m _ rfl (by omega) hb') ?_
          rintro _ ⟨z, hzc, rfl⟩
          obtain ⟨w, hw, hF⟩ := c_Flush (x := z)
          obtain ⟨w1, w2, w3, w4⟩ := canF_flush hzc hw
          simp
          (first | refine callG_r ?_ | refine callD_r ?_); simp; (first | refine callN_flat (by with_reducible first | exact hF) rfl ?_ | refine callN_new (by with_reducible first | exact hF) ?_ | refine callM_flat (by with_reducible first | exact hF) rfl ?_ | refine callM_new (by with_reducible first | exact hF) ?_)
          simp
          (first | refine callG_r ?_ | refine callD_r ?_); simp; (first | refine callN_flat (by with_reducible first | exact c_IsSubnormal w) rfl ?_ | refine callN_new (by with_reducible first | exact c_IsSubnormal w) ?_ | refine callM_flat (by with_reducible first | exact c_IsSubnormal w) rfl ?_ | refine callM_new (by with_reducible first | exact c_IsSubnormal w) ?_)
          simp [w2]
          (first | refine callG_r ?_ | refine callD_r ?_); simp; (first | refine callN_flat (by with_reducible first | exact c_IsSubnormal z) rfl ?_ | refine callN_new (by with_reducible first | exact c_IsSubnormal z) ?_ | refine callM_flat (by with_reducible first | exact c_IsSubnormal z) rfl ?_ | refine callM_new (by with_reducible first | exact c_IsSubnormal z) ?_)
          simp
          (first | refine callG_r ?_ | refine callD_r ?_); simp; (first | refine callN_flat (by with_reducible first | exact c_specSameNumber hzc w1) rfl ?_ | refine callN_new (by with_reducible first | exact c_specSameNumber hzc w1) ?_ | refine callM_flat (by with_reducible first | exact c_specSameNumber hzc w1) rfl ?_ | refine callM_new (by with_reducible first | exact c_specSameNumber hzc w1) ?_)
          simp
          cases hs : subB z with
          | true => simp [w3 hs]
          | false => simp [w4 hs]
      · simp [ex]
        (first | refine callG_r ?_ | refine callD_r ?_); simp; (first | refine callN_flat (by with_reducible first | exact k5) rfl ?_ | refine callN_new (by with_reducible first | exact k5) ?_ | refine callM_flat (by with_reducible first | exact k5) rfl ?_ | refine callM_new (by with_reducible first | exact k5) ?_)
        simp
        (first | refine callG_r ?_ | refine callD_r ?_); simp; (first | refine callN_flat (by with_reducible first | exact k3) rfl ?_ | refine callN_new (by with_reducible first | exact k3) ?_ | refine callM_flat (by with_reducible first | exact k3) rfl ?_ | refine callM_new (by with_reducible first | exact k3) ?_)
        simp
        (first | refine callG_r ?_ | refine callD_r ?_); simp; (first | refine callN_flat (by with_reducible first | exact k4) rfl ?_ | refine callN_new (by with_reducible first | exact k4) ?_ | refine callM_flat (by with_reducible first | exact k4) rfl ?_ | refine callM_new (by with_reducible first | exact k4) ?_)
        simp [Pge, Ple]
        (first | refine callG_r ?_ | refine callD_r ?_); simp; (first | refine callN_flat (by with_reducible first | exact c_b10Gap _ _) rfl ?_ | refine callN_new (by with_reducible first | exact c_b10Gap _ _) ?_ | refine callM_flat (by with_reducible first | exact c_b10Gap _ _) rfl ?_ | refine callM_new (by with_reducible first | exact c_b10Gap _ _) ?_)
        simp [Pn1]
        (first | refine callG_r ?_ | refine callD_r ?_); simp; (first | refine callN_flat (by with_reducible first | exact c_b10Gap _ _) rfl ?_ | refine callN_new (by with_reducible first | exact c_b10Gap _ _) ?_ | refine callM_flat (by with_reducible first | exact c_b10Gap _ _) rfl ?_ | refine callM_new (by with_reducible first | exact c_b10Gap _ _) ?_)
        simp [Pn2]
        by_cases ey : ford .f32 y 0 = some .eq
        · simp [ey]
          refine callG_r ?_
          simp
          refine callN_rel (c_B10Number m _ rfl (by omega) hb') ?_
          rintro _ ⟨z, hzc, rfl⟩
          obtain ⟨w, hw, hF⟩ := c_Flush (x := z)
          obtain ⟨w1, w2, w3, w4⟩ := canF_flush hzc hw
          simp
          (first | refine callG_r ?_ | refine callD_r ?_); simp; (first | refine callN_flat (by with_reducible first | exact hF) rfl ?_ | refine callN_new (by with_reducible first | exact hF) ?_ | refine callM_flat (by with_reducible first | exact hF) rfl ?_ | refine callM_new (by with_reducible first | exact hF) ?_)
          simp
          (first | refine callG_r ?_ | refine callD_r ?_); simp; (first | refine callN_flat (by with_reducible first | exact c_IsSubnormal w) rfl ?_ | refine callN_new (by with_reducible first | exact c_IsSubnormal w) ?_ | refine callM_flat (by with_reducible first | exact c_IsSubnormal w) rfl ?_ | refine callM_new (by with_reducible first | exact c_IsSubnormal w) ?_)
          simp [w2]
          (first | refine callG_r ?_ | refine callD_r ?_); simp; (first | refine callN_flat (by with_reducible first | exact c_IsSubnormal z) rfl ?_ | refine callN_new (by with_reducible first | exact c_IsSubnormal z) ?_ | refine callM_flat (by with_reducible first | exact c_IsSubnormal z) rfl ?_ | refine callM_new (by with_reducible first | exact c_IsSubnormal z) ?_)
          simp
          (first | refine callG_r ?_ | refine callD_r ?_); simp; (first | refine callN_flat (by with_reducible first | exact c_specSameNumber hzc w1) rfl ?_ | refine callN_new (by with_reducible first | exact c_specSameNumber hzc w1) ?_ | refine callM_flat (by with_reducible first | exact c_specSameNumber hzc w1) rfl ?_ | refine callM_new (by with_reducible first | exact c_specSameNumber hzc w1) ?_)
          simp
          cases hs : subB z with
          | true => simp [w3 hs]
          | false => simp [w4 hs]
        · simp [ey, hab ey]
          refine callG_r ?_
          simp
          refine callN_rel (c_B10Number m _ rfl (by omega) hb') ?_
          rintro _ ⟨z, hzc, rfl⟩
          obtain ⟨w, hw, hF⟩ := c_Flush (x := z)
          obtain ⟨w1, w2, w3, w4⟩ := canF_flush hzc hw
          simp
          (first | refine callG_r ?_ | refine callD_r ?_); simp; (first | refine callN_flat (by with_reducible first | exact hF) rfl ?_ | refine callN_new (by with_reducible first | exact hF) ?_ | refine callM_flat (by with_reducible first | exact hF) rfl ?_ | refine callM_new (by with_reducible first | exact hF) ?_)
          simp
          (first | refine callG_r ?_ | refine callD_r ?_); simp; (first | refine callN_flat (by with_reducible first | exact c_IsSubnormal w) rfl ?_ | refine callN_new (by with_reducible first | exact c_IsSubnormal w) ?_ | refine callM_flat (by with_reducible first | exact c_IsSubnormal w) rfl ?_ | refine callM_new (by with_reducible first | exact c_IsSubnormal w) ?_)
          simp [w2]
          (first | refine callG_r ?_ | refine callD_r ?_); simp; (first | refine callN_flat (by with_reducible first | exact c_IsSubnormal z) rfl ?_ | refine callN_new (by with_reducible first | exact c_IsSubnormal z) ?_ | refine callM_flat (by with_reducible first | exact c_IsSubnormal z) rfl ?_ | refine callM_new (by with_reducible first | exact c_IsSubnormal z) ?_)
          simp
          (first | refine callG_r ?_ | refine callD_r ?_); simp; (first | refine callN_flat (by with_reducible first | exact c_specSameNumber hzc w1) rfl ?_ | refine callN_new (by with_reducible first | exact c_specSameNumber hzc w1) ?_ | refine callM_flat (by with_reducible first | exact c_specSameNumber hzc w1) rfl ?_ | refine callM_new (by with_reducible first | exact c_specSameNumber hzc w1) ?_)
          simp
          cases hs : subB z with
          | true => simp [w3 hs]
          | false => simp [w4 hs]
    · by_cases ex : ford .f32 x 0 = some .eq
      · have ey0 := hz' ex
        simp [ex, ey0]
        (first | refine callG_r ?_ | refine callD_r ?_); simp; (first | refine callN_flat (by with_reducible first | exact k5) rfl ?_ | refine callN_new (by with_reducible first | exact k5) ?_ | refine callM_flat (by with_reducible first | exact k5) rfl ?_ | refine callM_new (by with_reducible first | exact k5) ?_)
        simp
        (first | refine callG_r ?_ | refine callD_r ?_); simp; (first | refine callN_flat (by with_reducible first | exact k3) rfl ?_ | refine callN_new (by with_reducible first | exact k3) ?_ | refine callM_flat (by with_reducible first | exact k3) rfl ?_ | refine callM_new (by with_reducible first | exact k3) ?_)
        simp
        (first | refine callG_r ?_ | refine callD_r ?_); simp; (first | refine callN_flat (by with_reducible first | exact k4) rfl ?_ | refine callN_new (by with_reducible first | exact k4) ?_ | refine callM_flat (by with_reducible first | exact k4) rfl ?_ | refine callM_new (by with_reducible first | exact k4) ?_)
        simp [Pge, Ple]
        (first | refine callG_r ?_ | refine callD_r ?_); simp; (first | refine callN_flat (by with_reducible first | exact c_b10Gap _ _) rfl ?_ | refine callN_new (by with_reducible first | exact c_b10Gap _ _) ?_ | refine callM_flat (by with_reducible first | exact c_b10Gap _ _) rfl ?_ | refine callM_new (by with_reducible first | exact c_b10Gap _ _) ?_)
        simp [Pn1]
        (first | refine callG_r ?_ | refine callD_r ?_); simp; (first | refine callN_flat (by with_reducible first | exact c_b10Gap _ _) rfl ?_ | refine callN_new (by with_reducible first | exact c_b10Gap _ _) ?_ | refine callM_flat (by with_reducible first | exact c_b10Gap _ _) rfl ?_ | refine callM_new (by with_reducible first | exact c_b10Gap _ _) ?_)
        simp [Pn2]
        by_cases ey : ford .f32 y 0 = some .eq
        · simp [ey]
          refine callG_r ?_
          simp
          refine callN_rel (c_B10Number m _ rfl (by omega) hb') ?_
          rintro _ ⟨z, hzc, rfl⟩
          obtain ⟨w, hw, hF⟩ := c_Flush (x := z)
          obtain ⟨w1, w2, w3, w4⟩ := canF_flush hzc hw
          simp
          (first | refine callG_r ?_ | refine callD_r ?_); simp; (first | refine callN_flat (by with_reducible first | exact hF) rfl ?_ | refine callN_new (by with_reducible first | exact hF) ?_ | refine callM_flat (by with_reducible first | exact hF) rfl ?_ | refine callM_new (by with_reducible first | exact hF) ?_)
          simp
          (first | refine callG_r ?_ | refine callD_r ?_); simp; (first | refine callN_flat (by with_reducible first | exact c_IsSubnormal w) rfl ?_ | refine callN_new (by with_reducible first | exact c_IsSubnormal w) ?_ | refine callM_flat (by with_reducible first | exact c_IsSubnormal w) rfl ?_ | refine callM_new (by with_reducible first | exact c_IsSubnormal w) ?_)
          simp [w2]
          (first | refine callG_r ?_ | refine callD_r ?_); simp; (first | refine callN_flat (by with_reducible first | exact c_IsSubnormal z) rfl ?_ | refine callN_new (by with_reducible first | exact c_IsSubnormal z) ?_ | refine callM_flat (by with_reducible first | exact c_IsSubnormal z) rfl ?_ | refine callM_new (by with_reducible first | exact c_IsSubnormal z) ?_)
          simp
          (first | refine callG_r ?_ | refine callD_r ?_); simp; (first | refine callN_flat (by with_reducible first | exact c_specSameNumber hzc w1) rfl ?_ | refine callN_new (by with_reducible first | exact c_specSameNumber hzc w1) ?_ | refine callM_flat (by with_reducible first | exact c_specSameNumber hzc w1) rfl ?_ | refine callM_new (by with_reducible first | exact c_specSameNumber hzc w1) ?_)
          simp
          cases hs : subB z with
          | true => simp [w3 hs]
          | false => simp [w4 hs]
        · simp [ey, hab ey]
          refine callG_r ?_
          simp
          refine callN_rel (c_B10Number m _ rfl (by omega) hb') ?_
          rintro _ ⟨z, hzc, rfl⟩
          obtain ⟨w, hw, hF⟩ := c_Flush (x := z)
          obtain ⟨w1, w2, w3, w4⟩ := canF_flush hzc hw
          simp
          (first | refine callG_r ?_ | refine callD_r ?_); simp; (first | refine callN_flat (by with_reducible first | exact hF) rfl ?_ | refine callN_new (by with_reducible first | exact hF) ?_ | refine callM_flat (by with_reducible first | exact hF) rfl ?_ | refine callM_new (by with_reducible first | exact hF) ?_)
          simp
          (first | refine callG_r ?_ | refine callD_r ?_); simp; (first | refine callN_flat (by with_reducible first | exact c_IsSubnormal w) rfl ?_ | refine callN_new (by with_reducible first | exact c_IsSubnormal w) ?_ | refine callM_flat (by with_reducible first | exact c_IsSubnormal w) rfl ?_ | refine callM_new (by with_reducible first | exact c_IsSubnormal w) ?_)
          simp [w2]
          (first | refine callG_r ?_ | refine callD_r ?_); simp; (first | refine callN_flat (by with_reducible first | exact c_IsSubnormal z) rfl ?_ | refine callN_new (by with_reducible first | exact c_IsSubnormal z) ?_ | refine callM_flat (by with_reducible first | exact c_IsSubnormal z) rfl ?_ | refine callM_new (by with_reducible first | exact c_IsSubnormal z) ?_)
          simp
          (first | refine callG_r ?_ | refine callD_r ?_); simp; (first | refine callN_flat (by with_reducible first | exact c_specSameNumber hzc w1) rfl ?_ | refine callN_new (by with_reducible first | exact c_specSameNumber hzc w1) ?_ | refine callM_flat (by with_reducible first | exact c_specSameNumber hzc w1) rfl ?_ | refine callM_new (by with_reducible first | exact c_specSameNumber hzc w1) ?_)
          simp
          cases hs : subB z with
          | true => simp [w3 hs]
          | false => simp [w4 hs]
      · simp [ex]
        (first | refine callG_r ?_ | refine callD_r ?_); simp; (first | refine callN_flat (by with_reducible first | exact k5) rfl ?_ | refine callN_new (by with_reducible first | exact k5) ?_ | refine callM_flat (by with_reducible first | exact k5) rfl ?_ | refine callM_new (by with_reducible first | exact k5) ?_)
        simp
        (first | refine callG_r ?_ | refine callD_r ?_); simp; (first | refine callN_flat (by with_reducible first | exact k3) rfl ?_ | refine callN_new (by with_reducible first | exact k3) ?_ | refine callM_flat (by with_reducible first | exact k3) rfl ?_ | refine callM_new (by with_reducible first | exact k3) ?_)
        simp
        (first | refine callG_r ?_ | refine callD_r ?_); simp; (first | refine callN_flat (by with_reducible first | exact k4) rfl ?_ | refine callN_new (by with_reducible first | exact k4) ?_ | refine callM_flat (by with_reducible first | exact k4) rfl ?_ | refine callM_new (by with_reducible first | exact k4) ?_)
        simp [Pge, Ple]
        (first | refine callG_r ?_ | refine callD_r ?_); simp; (first | refine callN_flat (by with_reducible first | exact c_b10Gap _ _) rfl ?_ | refine callN_new (by with_reducible first | exact c_b10Gap _ _) ?_ | refine callM_flat (by with_reducible first | exact c_b10Gap _ _) rfl ?_ | refine callM_new (by with_reducible first | exact c_b10Gap _ _) ?_)
        simp [Pn1]
        (first | refine callG_r ?_ | refine callD_r ?_); simp; (first | refine callN_flat (by with_reducible first | exact c_b10Gap _ _) rfl ?_ | refine callN_new (by with_reducible first | exact c_b10Gap _ _) ?_ | refine callM_flat (by with_reducible first | exact c_b10Gap _ _) rfl ?_ | refine callM_new (by with_reducible first | exact c_b10Gap _ _) ?_)
        simp [Pn2]
        by_cases ey : ford .f32 y 0 = some .eq
        · simp [ey]
          refine callG_r ?_
          simp
          refine callN_rel (c_B10Number m _ rfl (by omega) hb') ?_
          rintro _ ⟨z, hzc, rfl⟩
          obtain ⟨w, hw, hF⟩ := c_Flush (x := z)
          obtain ⟨w1, w2, w3, w4⟩ := canF_flush hzc hw
          simp
          (first | refine callG_r ?_ | refine callD_r ?_); simp; (first | refine callN_flat (by with_reducible first | exact hF) rfl ?_ | refine callN_new (by with_reducible first | exact hF) ?_ | refine callM_flat (by with_reducible first | exact hF) rfl ?_ | refine callM_new (by with_reducible first | exact hF) ?_)
          simp
          (first | refine callG_r ?_ | refine callD_r ?_); simp; (first | refine callN_flat (by with_reducible first | exact c_IsSubnormal w) rfl ?_ | refine callN_new (by with_reducible first | exact c_IsSubnormal w) ?_ | refine callM_flat (by with_reducible first | exact c_IsSubnormal w) rfl ?_ | refine callM_new (by with_reducible first | exact c_IsSubnormal w) ?_)
          simp [w2]
          (first | refine callG_r ?_ | refine callD_r ?_); simp; (first | refine callN_flat (by with_reducible first | exact c_IsSubnormal z) rfl ?_ | refine callN_new (by with_reducible first | exact c_IsSubnormal z) ?_ | refine callM_flat (by with_reducible first | exact c_IsSubnormal z) rfl ?_ | refine callM_new (by with_reducible first | exact c_IsSubnormal z) ?_)
          simp
          (first | refine callG_r ?_ | refine callD_r ?_); simp; (first | refine callN_flat (by with_reducible first | exact c_specSameNumber hzc w1) rfl ?_ | refine callN_new (by with_reducible first | exact c_specSameNumber hzc w1) ?_ | refine callM_flat (by with_reducible first | exact c_specSameNumber hzc w1) rfl ?_ | refine callM_new (by with_reducible first | exact c_specSameNumber hzc w1) ?_)
          simp
          cases hs : subB z with
          | true => simp [w3 hs]
          | false => simp [w4 hs]
        · simp [ey, hab ey]
          refine callG_r ?_
          simp
          refine callN_rel (c_B10Number m _ rfl (by omega) hb') ?_
          rintro _ ⟨z, hzc, rfl⟩
          obtain ⟨w, hw, hF⟩ := c_Flush (x := z)
          obtain ⟨w1, w2, w3, w4⟩ := canF_flush hzc hw
          simp
          (first | refine callG_r ?_ | refine callD_r ?_); simp; (first | refine callN_flat (by with_reducible first | exact hF) rfl ?_ | refine callN_new (by with_reducible first | exact hF) ?_ | refine callM_flat (by with_reducible first | exact hF) rfl ?_ | refine callM_new (by with_reducible first | exact hF) ?_)
          simp
          (first | refine callG_r ?_ | refine callD_r ?_); simp; (first | refine callN_flat (by with_reducible first | exact c_IsSubnormal w) rfl ?_ | refine callN_new (by with_reducible first | exact c_IsSubnormal w) ?_ | refine callM_flat (by with_reducible first | exact c_IsSubnormal w) rfl ?_ | refine callM_new (by with_reducible first | exact c_IsSubnormal w) ?_)
          simp [w2]
          (first | refine callG_r ?_ | refine callD_r ?_); simp; (first | refine callN_flat (by with_reducible first | exact c_IsSubnormal z) rfl ?_ | refine callN_new (by with_reducible first | exact c_IsSubnormal z) ?_ | refine callM_flat (by with_reducible first | exact c_IsSubnormal z) rfl ?_ | refine callM_new (by with_reducible first | exact c_IsSubnormal z) ?_)
          simp
          (first | refine callG_r ?_ | refine callD_r ?_); simp; (first | refine callN_flat (by with_reducible first | exact c_specSameNumber hzc w1) rfl ?_ | refine callN_new (by with_reducible first | exact c_specSameNumber hzc w1) ?_ | refine callM_flat (by with_reducible first | exact c_specSameNumber hzc w1) rfl ?_ | refine callM_new (by with_reducible first | exact c_specSameNumber hzc w1) ?_)
          simp
          cases hs : subB z with
          | true => simp [w3 hs]
          | false => simp [w4 hs]
end Go.Proofs.Ytfngkhkghjgmkaa
