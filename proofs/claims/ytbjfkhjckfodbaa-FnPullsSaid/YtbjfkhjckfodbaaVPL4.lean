/- The law of pulls.
Conditions: none. -/
import Derived.Test.YtbjfkhjckfodbaaVPL3
import Derived.Test.YtbjfkhjckfodbaaSC
namespace Go.Proofs.Ytbjfkhjckfodbaa
set_option linter.all false
open Go Go.Awp
set_option maxRecDepth 100000
set_option maxHeartbeats 16000000
set_option pp.deepTerms true

theorem inB_nat2 {n m : Int} (h : inB n 0 m = true) : ∃ k : Nat, n = k ∧ (k : Int) ≤ m := by
  simp [inB] at h
  exact ⟨n.toNat, by omega, by omega⟩
-- a thread
def pulC (c : Clo) (n : Int) : Clo := pullC c (c.th.getD n.toNat (0, 0, 0))
theorem pulC_small {c : Clo} {n : Int} (hs : c.Small) : (pulC c n).Small := by
  obtain ⟨h1, h2, h3⟩ := pullC_rest c (c.th.getD n.toNat (0, 0, 0))
  have h0 := pullC_pl c (c.th.getD n.toNat (0, 0, 0))
  exact ⟨by show (pullC c _).pl.length ≤ _; rw [h0]; exact hs.pl, by show (pullC c _).ol.length ≤ _; rw [h1]; exact hs.ol, by show (pullC c _).th.length ≤ _; rw [h2]; exact hs.th, by show (pullC c _).pin.length ≤ _; rw [h3]; exact hs.pin⟩
theorem c_PullThread (c : Clo) (n : Int) (hs : c.Small) (hv : (vldC c && inB n 0 ((c.th.length : Int) - 1)) = true) : Fun Try.prog 11 [c.av, .int .i64 n] [] (.tup [(pulC c n).own 0, .bool true]) (pulC c n).mem := by
  simp only [Bool.and_eq_true] at hv
  obtain ⟨hv, hr⟩ := hv
  have hvl := vld_len hv
  obtain ⟨k, rfl, hk⟩ := inB_nat2 hr
  have b : k < c.th.length := by omega
  have e : pulC c k = pullC c c.th[k] := by simp [pulC, b]
  rw [e]
  have hw : IntKind.i64.wrap ((c.th.length : Int) - 1) = (c.th.length : Int) - 1 := wrap64 (by omega) (by omega)
  refine FnSpec.walk dr_ok Try.func11 rfl (by kernel_rfl) rfl rfl rfl (by simp) ?_
  simp
  (first | refine callG_r ?_ | refine callD_r ?_); simp; (first | refine callN_flat (by with_reducible first | exact c_ValidCloth c hs) rfl ?_ | refine callN_new (by with_reducible first | exact c_ValidCloth c hs) ?_ | refine callM_flat (by with_reducible first | exact c_ValidCloth c hs) rfl ?_ | refine callM_new (by with_reducible first | exact c_ValidCloth c hs) ?_)
  simp [hv, hw]
  (first | refine callG_r ?_ | refine callD_r ?_); simp; (first | refine callN_flat (by with_reducible first | exact c_within _ _ _) rfl ?_ | refine callN_new (by with_reducible first | exact c_within _ _ _) ?_ | refine callM_flat (by with_reducible first | exact c_within _ _ _) rfl ?_ | refine callM_new (by with_reducible first | exact c_within _ _ _) ?_)
  simp [hr]
  (first | refine callG_r ?_ | refine callD_r ?_); simp; (first | refine callN_flat (by with_reducible first | exact c_copyCloth c hs) rfl ?_ | refine callN_new (by with_reducible first | exact c_copyCloth c hs) ?_ | refine callM_flat (by with_reducible first | exact c_copyCloth c hs) rfl ?_ | refine callM_new (by with_reducible first | exact c_copyCloth c hs) ?_)
  simp [b]
  (first | refine callG_r ?_ | refine callD_r ?_); simp; (first | refine callN_flat (by with_reducible first | exact c_pins c hs hvl.1 (vld_pins hv)) rfl ?_ | refine callN_new (by with_reducible first | exact c_pins c hs hvl.1 (vld_pins hv)) ?_ | refine callM_flat (by with_reducible first | exact c_pins c hs hvl.1 (vld_pins hv)) rfl ?_ | refine callM_new (by with_reducible first | exact c_pins c hs hvl.1 (vld_pins hv)) ?_)
  simp
  (first | refine callG_on true [6, 2, 3, 4, 5] ?_ | refine callD_on true [6, 2, 3, 4, 5] ?_); simp; (first | refine callN_fun (by with_reducible exact c_pull c c.th[k] c.pl.length c.pl.length hs rfl rfl (vld_th hv _ (List.getElem_mem b))) (by simp) ?_ | refine callMD_fun (by with_reducible exact c_pull c c.th[k] c.pl.length c.pl.length hs rfl rfl (vld_th hv _ (List.getElem_mem b))) (by simp) ?_)
  simp
  (refine endG_keepT [(some 2, 0), (some 3, 0), (some 4, 0), (some 5, 0)] ?_ ?_ ?_ ?_ ?_ ?_ ?_ ⟨rfl, rfl⟩ ?_ <;> simp)
theorem g22_thr : (gridC 2 2 1065353216).th.all (thrB 9) = true ∧ (gridC 2 2 1065353216).th.length ≤ 256 := by decide +kernel
theorem drawn_vld {C : Clo} (h : R8n 9 C.pl C.pin) (h1 : C.ol = g22.ol) (h2 : C.th = g22.th) : vldC C = true := by
  have hP : C.pl.length = 9 := by rw [h.len]; exact g22_len
  have ho : g22.ol.length = 9 := g22_ol
  unfold vldC
  simp only [hP, h1, h2, ho, Bool.and_eq_true, decide_eq_true_eq]
  exact ⟨⟨⟨⟨by omega, trivial⟩, g22_thr.2⟩, g22_thr.1⟩, h.pin⟩
theorem drawn_small {C : Clo} (h : R8n 9 C.pl C.pin) (h1 : C.ol = g22.ol) (h2 : C.th = g22.th) : C.Small := by
  have hP : C.pl.length = 9 := by rw [h.len]; exact g22_len
  have ho : g22.ol.length = 9 := g22_ol
  have ht : g22.th.length ≤ 256 := g22_thr.2
  have := h.few
  exact ⟨by omega, by rw [h1]; omega, by rw [h2]; omega, by omega⟩
theorem pl_can {P : List V} {L : List Int} (h : R8n 9 P L) : ∀ p ∈ P, CanV p := by
  intro p hp
  obtain ⟨i, hi, rfl⟩ := List.getElem_of_mem hp
  have h9 : (gridC 2 2 1065353216).pl.length = 9 := g22_len
  have hP : P.length = 9 := by rw [h.len]; exact h9
  obtain ⟨u, v, w, _, _, _, e⟩ := h.old i hi (by show i < (gridC 2 2 1065353216).pl.length; omega) (by omega)
  rw [e]
  have key : ∀ a b : Nat, CanF .f32 (fop .add .f32 a b) := fun a b => by
    unfold fop
    cases h : floatBits .add .f32 a b with
    | some r =>
      have hw := floatBits_wf h
      have hl : r < 4294967296 := by simpa [Lit.wf] using hw
      exact ⟨cn_num (floatBits_num h), hl⟩
    | none => exact ⟨cn_nan (nanB_qnan .f32), qnan_lt .f32⟩
  exact ⟨key _ _, key _ _, key _ _⟩
theorem c_r8Apart (v w : V) : Fun Try.prog 13 [aV v, aV w] [] (.flt .f64 (wid (vlong (vsub v w)))) [] := by
  obtain ⟨v1, v2, v3⟩ := v
  obtain ⟨w1, w2, w3⟩ := w
  refine FnSpec.walkF dr_ok Try.func13 rfl (by kernel_rfl) rfl rfl rfl (by simp) ?_
  simp
  (first | refine callG_r ?_ | refine callD_r ?_); simp; (first | refine callN_flat (by with_reducible first | exact c_less _ _ _ _ _ _) rfl ?_ | refine callN_new (by with_reducible first | exact c_less _ _ _ _ _ _) ?_ | refine callM_flat (by with_reducible first | exact c_less _ _ _ _ _ _) rfl ?_ | refine callM_new (by with_reducible first | exact c_less _ _ _ _ _ _) ?_)
  simp
  (first | refine callG_r ?_ | refine callD_r ?_); simp; (first | refine callN_flat (by with_reducible first | exact c_long _ _ _) rfl ?_ | refine callN_new (by with_reducible first | exact c_long _ _ _) ?_ | refine callM_flat (by with_reducible first | exact c_long _ _ _) rfl ?_ | refine callM_new (by with_reducible first | exact c_long _ _ _) ?_)
  simp
theorem c_r8Gap (a b : Nat) : Fun Try.prog 16 [.flt .f64 a, .flt .f64 b] [] (.flt .f64 (fmax .f64 (fop .sub .f64 a b) (fop .sub .f64 b a))) [] := by
  refine FnSpec.walkF dr_ok Try.func16 rfl (by kernel_rfl) rfl rfl rfl (by simp) ?_
  simp
theorem c_SameVectorE {v : V} (hv : CanV v) : Fun Try.prog 12 [aV v, aV v] [] (.bool true) [] := by
  have h := c_SameVector hv hv
  rw [decide_eq_true rfl] at h
  exact h
theorem th_one : (gridC 2 2 1065353216).th.all (fun t => t.2.2 == 1065353216 && decide (0 ≤ t.1) && decide (t.1 < 9) && decide (0 ≤ t.2.1) && decide (t.2.1 < 9) && !(t.1 == t.2.1)) = true ∧ (gridC 2 2 1065353216).th.length = 12 := by decide +kernel
theorem th_at {C : Clo} (h2 : C.th = g22.th) {k : Nat} (hk : k < C.th.length) : ∃ a b : Nat, C.th[k] = ((a : Int), (b : Int), 1065353216) ∧ a < 9 ∧ b < 9 ∧ a ≠ b := by
  have hm : C.th[k] ∈ (gridC 2 2 1065353216).th := by
    have e : (gridC 2 2 1065353216).th[k]? = some C.th[k] := by rw [← show C.th = (gridC 2 2 1065353216).th from h2, List.getElem?_eq_getElem hk]
    exact List.mem_of_getElem? e
  have h := List.all_eq_true.1 th_one.1 _ hm
  simp only [Bool.and_eq_true, decide_eq_true_eq, beq_iff_eq, Bool.not_eq_true', beq_eq_false_iff_ne] at h
  obtain ⟨⟨⟨⟨⟨e1, e2⟩, e3⟩, e4⟩, e5⟩, e6⟩ := h
  generalize C.th[k] = t at *
  obtain ⟨x, y, z⟩ := t
  simp only at e1 e2 e3 e4 e5 e6
  subst e1
  refine ⟨x.toNat, y.toNat, ?_, by omega, by omega, by omega⟩
  rw [Int.toNat_of_nonneg e2, Int.toNat_of_nonneg e4]
/-- What a pull has made. -/
structure Pulled (C N : Clo) (a b : Nat) (ha : a < C.pl.length) (hb : b < C.pl.length) : Prop where
  len : N.pl.length = C.pl.length
  oth : ∀ (i : Nat) (h : i < C.pl.length) (h2 : i < N.pl.length), i ≠ a → i ≠ b → N.pl[i] = C.pl[i]
  alt : (N = C ∧ (((a : Int) ∈ C.pin ∧ (b : Int) ∈ C.pin) ∨ ford .f64 (wid (vlong (vsub C.pl[a] C.pl[b]))) 0 = some .eq)) ∨
    (¬ ((a : Int) ∈ C.pin ∧ (b : Int) ∈ C.pin) ∧ ¬ ford .f64 (wid (vlong (vsub C.pl[a] C.pl[b]))) 0 = some .eq ∧
      ∃ na nb : V, N.pl[a]? = some na ∧ N.pl[b]? = some nb ∧ ¬ ford .f64 (fmax .f64 (fop .sub .f64 (wid (vlong (vsub na nb))) (wid 1065353216)) (fop .sub .f64 (wid 1065353216) (wid (vlong (vsub na nb))))) 4562254508917369340 = some .gt ∧
        ((a : Int) ∉ C.pin → (b : Int) ∉ C.pin → ford .f64 (wid (vlong (vsub (vadd C.pl[a] C.pl[b]) (vadd na nb)))) 4562254508917369340 = some .lt))
theorem pulled_ok {C : Clo} {a b : Nat} (ha : a < C.pl.length) (hb : b < C.pl.length) (hab : a ≠ b) (h : Two C.pl[a] C.pl[b]) : Pulled C (pullC C ((a : Int), (b : Int), 1065353216)) a b ha hb := by
  obtain ⟨e1, e2, e3, e4⟩ := pullC_at (lg := 1065353216) ha hb
  have hlen := pullC_pl C ((a : Int), (b : Int), 1065353216)
  have hd : pullC C ((a : Int), (b : Int), 1065353216) = if ford .f32 (vlong (vsub C.pl[b] C.pl[a])) 0 = some .eq ∨ finB (fop .quo .f32 (fop .sub .f32 (vlong (vsub C.pl[b] C.pl[a])) 1065353216) (vlong (vsub C.pl[b] C.pl[a]))) = false then C else { C with pl := pull2 C ((a : Int), (b : Int), 1065353216) } := by
    unfold pullC; rw [e3, e4]
  have hp2 : pull2 C ((a : Int), (b : Int), 1065353216) = (if (b : Int) ∉ C.pin then (pull1 C ((a : Int), (b : Int), 1065353216)).set b (vsub C.pl[b] (vscale (vsub C.pl[b] C.pl[a]) (pullQ C ((a : Int), (b : Int), 1065353216)))) else pull1 C ((a : Int), (b : Int), 1065353216)) := by
    unfold pull2; rw [e2, e3]; simp only [Int.toNat_natCast]
  have hp1 : pull1 C ((a : Int), (b : Int), 1065353216) = (if (a : Int) ∉ C.pin then C.pl.set a (vadd C.pl[a] (vscale (vsub C.pl[b] C.pl[a]) (pullQ C ((a : Int), (b : Int), 1065353216)))) else C.pl) := by
    unfold pull1; rw [e1, e3]; simp only [Int.toNat_natCast]
  obtain ⟨s, hs⟩ : ∃ s, s = fop .quo .f32 (fop .sub .f32 (vlong (vsub C.pl[b] C.pl[a])) 1065353216) (vlong (vsub C.pl[b] C.pl[a])) := ⟨_, rfl⟩
  have hq : pullQ C ((a : Int), (b : Int), 1065353216) = if (a : Int) ∉ C.pin ∧ (b : Int) ∉ C.pin then fop .mul .f32 1056964608 s else s := by
    unfold pullQ; rw [e4, ← hs]
  refine ⟨hlen, fun i hi h2 na nb => ?_, ?_⟩
  · have : (pullC C ((a : Int), (b : Int), 1065353216)).pl[i]? = C.pl[i]? := by
      rw [hd]
      split
      · rfl
      · show (pull2 C ((a : Int), (b : Int), 1065353216))[i]? = _
        rw [hp2, hp1]
        split <;> split <;> simp [List.getElem?_set, Ne.symm na, Ne.symm nb]
    rw [List.getElem?_eq_getElem h2, List.getElem?_eq_getElem hi] at this
    exact Option.some.inj this
  · rcases h.nul rfl with ⟨z1, z2⟩ | ⟨R, hR, R1, ⟨R', hR', R1'⟩, hfin, hall⟩
    · left
      refine ⟨?_, .inr (ford_eq_of (vl_wid z2) vl_zero64)⟩
      rw [hd, if_pos (.inl (ford_eq_of z1 vl_zero32))]
    · have d0 : ¬ ford .f32 (vlong (vsub C.pl[b] C.pl[a])) 0 = some .eq := by
        obtain ⟨u, hu, u1, u2⟩ := hR
        rw [ford_gt_of hu vl_zero32 (by grind)]; intro h; cases h
      have b0 : ¬ ford .f64 (wid (vlong (vsub C.pl[a] C.pl[b]))) 0 = some .eq := by
        obtain ⟨u, hu, u1, u2⟩ := hR'
        rw [ford_gt_of (vl_wid hu) vl_zero64 (by grind)]; intro h; cases h
      have hne : ¬ (ford .f32 (vlong (vsub C.pl[b] C.pl[a])) 0 = some .eq ∨ finB (fop .quo .f32 (fop .sub .f32 (vlong (vsub C.pl[b] C.pl[a])) 1065353216) (vlong (vsub C.pl[b] C.pl[a]))) = false) := by
        rintro (h | h)
        · exact d0 h
        · rw [hfin] at h; cases h
      rw [if_neg hne] at hd
      obtain ⟨f1, f2, f3, f4⟩ := hall s hs
      by_cases pa : (a : Int) ∈ C.pin
      · by_cases pb : (b : Int) ∈ C.pin
        · left
          refine ⟨?_, .inl ⟨pa, pb⟩⟩
          rw [hd, hp2, hp1]
          simp [pa, pb]
        · right
          rw [hq] at hp2 hp1
          simp only [pa, pb, not_true_eq_false, false_and, if_false, not_false_eq_true, if_true] at hp1 hp2
          rw [hp1] at hp2
          refine ⟨fun h => pb h.2, b0, C.pl[a], _, ?_, ?_, gap_ok f4 vl_one (by decide +kernel) (by decide +kernel), fun h => absurd pa h⟩
          · rw [hd]; show (pull2 C ((a : Int), (b : Int), 1065353216))[a]? = _
            rw [hp2, List.getElem?_set_ne (Ne.symm hab), List.getElem?_eq_getElem ha]
          · rw [hd]; show (pull2 C ((a : Int), (b : Int), 1065353216))[b]? = _
            rw [hp2, List.getElem?_set_self hb]
      · by_cases pb : (b : Int) ∈ C.pin
        · right
          rw [hq] at hp2 hp1
          simp only [pa, pb, not_true_eq_false, and_false, if_false, not_false_eq_true, if_true] at hp1 hp2
          rw [hp1] at hp2
          refine ⟨fun h => pa h.1, b0, _, C.pl[b], ?_, ?_, gap_ok f3 vl_one (by decide +kernel) (by decide +kernel), fun _ h => absurd pb h⟩
          · rw [hd]; show (pull2 C ((a : Int), (b : Int), 1065353216))[a]? = _
            rw [hp2, List.getElem?_set_self ha]
          · rw [hd]; show (pull2 C ((a : Int), (b : Int), 1065353216))[b]? = _
            rw [hp2, List.getElem?_set_ne hab, List.getElem?_eq_getElem hb]
        · right
          rw [hq] at hp2 hp1
          simp only [pa, pb, and_self, not_false_eq_true, if_true] at hp1 hp2
          rw [hp1] at hp2
          refine ⟨fun h => pa h.1, b0, _, _, ?_, ?_, gap_ok f1 vl_one (by decide +kernel) (by decide +kernel), fun _ _ => less_ok f2 (by decide +kernel)⟩
          · rw [hd]; show (pull2 C ((a : Int), (b : Int), 1065353216))[a]? = _
            rw [hp2, List.getElem?_set_ne (Ne.symm hab), List.getElem?_set_self ha]
          · rw [hd]; show (pull2 C ((a : Int), (b : Int), 1065353216))[b]? = _
            rw [hp2, List.getElem?_set_self (by rw [List.length_set]; exact hb)]
theorem ol_can : (gridC 2 2 1065353216).ol.all (fun v => (cn .f32 v.1 == v.1 && decide (v.1 < 4294967296)) && (cn .f32 v.2.1 == v.2.1 && decide (v.2.1 < 4294967296)) && (cn .f32 v.2.2 == v.2.2 && decide (v.2.2 < 4294967296))) = true := by decide +kernel
theorem drawn_can {C : Clo} (h : R8n 9 C.pl C.pin) (h1 : C.ol = g22.ol) (h2 : C.th = g22.th) : C.Can := by
  refine ⟨pl_can h, fun v hv => ?_, fun t ht => ?_, fun p hp => ?_⟩
  · rw [h1] at hv
    have := List.all_eq_true.1 ol_can v hv
    simp only [Bool.and_eq_true, beq_iff_eq, decide_eq_true_eq] at this
    exact ⟨this.1.1, this.1.2, this.2⟩
  · obtain ⟨k, hk, rfl⟩ := List.getElem_of_mem ht
    obtain ⟨a, b, e, ha, hb, _⟩ := th_at h2 hk
    rw [e]
    refine ⟨⟨?_, ?_⟩, ⟨?_, ?_⟩, ?_, ?_⟩
    · show (-9223372036854775808 : Int) ≤ a; omega
    · show (a : Int) ≤ 9223372036854775807; omega
    · show (-9223372036854775808 : Int) ≤ b; omega
    · show (b : Int) ≤ 9223372036854775807; omega
    · show cn .f32 1065353216 = 1065353216; decide +kernel
    · show 1065353216 < 2 ^ FloatKind.f32.format.width; decide +kernel
  · have hq := vld_pins (drawn_vld h h1 h2) p hp
    have hP : C.pl.length = 9 := by rw [h.len]; exact g22_len
    constructor <;> omega
theorem law_FnPulls (l m0 : List Nat) (hb : ∀ b ∈ l, b < 256) (hb' : ∀ b ∈ m0, b < 256) (h1 : l.length ≤ maxLen) (h2 : m0.length ≤ maxLen) : FnSpec Try.prog 3 [.view false (cBy l) l.length, .view false (cBy m0) m0.length] [] fun av _ => av = .bool true := by
  refine FnSpec.walkF dr_ok Try.func3 rfl (by kernel_rfl) rfl rfl rfl (by simp) ?_
  simp
  (first | refine callG_r ?_ | refine callD_r ?_); simp; (first | refine callN_flat (by with_reducible first | exact c_r8Long l m0 h1 h2) rfl ?_ | refine callN_new (by with_reducible first | exact c_r8Long l m0 h1 h2) ?_ | refine callM_flat (by with_reducible first | exact c_r8Long l m0 h1 h2) rfl ?_ | refine callM_new (by with_reducible first | exact c_r8Long l m0 h1 h2) ?_)
  simp
  intro q1 q2
  refine callG_on false [] ?_; simp; refine callN_all (by with_reducible exact c_R8Cloth l _ rfl (by omega) hb) ?_; rintro _ _ ⟨C, hR, ho, ht, rfl, rfl⟩; refine ⟨fun e => (by cases e), ?_⟩; simp
  have hP : C.pl.length = 9 := by rw [hR.len]; exact g22_len
  have hT : C.th.length = 12 := by rw [ht]; exact th_one.2
  have hvc := drawn_vld hR ho ht
  have hs := drawn_small hR ho ht
  obtain ⟨k, hkT, hck⟩ := c_r8AtK m0 0 C.th.length hb' (by omega) (by omega) (by omega)
  have hck' : Fun Try.prog 10 [.view false (cBy m0) m0.length, .int .i64 0, .int .i64 C.th.length] [] (.int .i64 k) [] := hck
  obtain ⟨a, b, eT, ha9, hb9, hab⟩ := th_at ht hkT
  have hca : a < C.pl.length := by omega
  have hcb : b < C.pl.length := by omega
  have kP := c_PullThread C k hs (by rw [hvc]; simp [inB]; omega)
  have ePC : pulC C k = pullC C ((a : Int), (b : Int), 1065353216) := by
    unfold pulC
    rw [Int.toNat_natCast, List.getD_eq_getElem?_getD, List.getElem?_eq_getElem hkT, Option.getD_some, eT]
  rw [ePC] at kP
  have pk := pulled_ok hca hcb hab (by
    obtain ⟨x, y, z, p1⟩ := r8_p8 hR hca
    obtain ⟨x', y', z', p2⟩ := r8_p8 hR hcb
    exact two_ok p1 p2)
  have hNs : (pullC C ((a : Int), (b : Int), 1065353216)).Small := by have h := pulC_small (n := k) hs; rw [ePC] at h; exact h
  generalize pullC C ((a : Int), (b : Int), 1065353216) = N at *
  obtain ⟨nlen, noth, nalt⟩ := pk
  (first | refine callG_r ?_ | refine callD_r ?_); simp; (first | refine callN_flat (by with_reducible first | exact hck') rfl ?_ | refine callN_new (by with_reducible first | exact hck') ?_ | refine callM_flat (by with_reducible first | exact hck') rfl ?_ | refine callM_new (by with_reducible first | exact hck') ?_)
  simp [hkT, eT]
  (first | refine callG_r ?_ | refine callD_r ?_); simp; (first | refine callN_flat (by with_reducible first | exact kP) rfl ?_ | refine callN_new (by with_reducible first | exact kP) ?_ | refine callM_flat (by with_reducible first | exact kP) rfl ?_ | refine callM_new (by with_reducible first | exact kP) ?_)
  simp [nlen]
  have hcan := pl_can hR
  refine loopG_of (α := Nat) (fun i => i ≤ C.pl.length) (fun i => C.pl.length - i) (fun i => [(10, .int .i64 i), (8, .ptr 10 0), (7, .ptr 5 0), (5, .ptr 4 0)])
    (fun i => [.blk true false 38 (cVs C.pl), .blk true false 38 (cVs C.ol), .blk true false 33 (cTs C.th), .blk true false 2 (cIs C.pin),
      .blk true true 28 [.slc 0 0 C.pl.length 3, .slc 1 0 C.ol.length 3, .slc 2 0 C.th.length 3, .slc 3 0 C.pin.length 1], .blk true true 33 [.int .i64 a, .int .i64 b, .flt .f32 1065353216],
      .blk true false 38 (cVs N.pl), .blk true false 38 (cVs N.ol), .blk true false 33 (cTs N.th), .blk true false 2 (cIs N.pin),
      .blk true true 28 [.slc 6 0 C.pl.length 3, .slc 7 0 N.ol.length 3, .slc 8 0 N.th.length 3, .slc 9 0 N.pin.length 1]]) 0 (by simp) ?_ fun i hi => ?_
  · (refine weak_gc [(some 0, 0), (some 1, 0), (some 2, 0), (some 3, 0), (some 4, 0), (some 5, 0), (some 6, 0), (some 7, 0), (some 8, 0), (some 9, 0), (some 10, 0)] ?_ ?_ ?_ ?_ ?_ <;> simp)
  have hwi := nat_wrap (k := i) (by omega)
  by_cases c : i < C.pl.length
  · have cN : i < N.pl.length := by omega
    by_cases ia : i = a
    · subst ia
      simp [c, hwi]
      refine loopK_next (i + 1) (by omega) (by omega) ?_
      (refine weak_gc [(some 0, 0), (some 1, 0), (some 2, 0), (some 3, 0), (some 4, 0), (some 5, 0), (some 6, 0), (some 7, 0), (some 8, 0), (some 9, 0), (some 10, 0)] ?_ ?_ ?_ ?_ ?_ <;> simp [hwi])
    · have iaI : ¬ (i : Int) = (a : Int) := by omega
      by_cases ib : i = b
      · subst ib
        simp [c, hwi, ia, iaI]
        refine loopK_next (i + 1) (by omega) (by omega) ?_
        (refine weak_gc [(some 0, 0), (some 1, 0), (some 2, 0), (some 3, 0), (some 4, 0), (some 5, 0), (some 6, 0), (some 7, 0), (some 8, 0), (some 9, 0), (some 10, 0)] ?_ ?_ ?_ ?_ ?_ <;> simp [hwi])
      · have ibI : ¬ (i : Int) = (b : Int) := by omega
        have e := noth i c cN ia ib
        have hv : CanV C.pl[i] := hcan _ (List.getElem_mem c)
        simp [c, cN, hwi, ia, iaI, ib, ibI, nlen, e]
        (first | refine callG_r ?_ | refine callD_r ?_); simp; (first | refine callN_flat (by with_reducible first | exact c_SameVectorE hv) rfl ?_ | refine callN_new (by with_reducible first | exact c_SameVectorE hv) ?_ | refine callM_flat (by with_reducible first | exact c_SameVectorE hv) rfl ?_ | refine callM_new (by with_reducible first | exact c_SameVectorE hv) ?_)
        simp [hwi]
        refine loopK_next (i + 1) (by omega) (by omega) ?_
        (refine weak_gc [(some 0, 0), (some 1, 0), (some 2, 0), (some 3, 0), (some 4, 0), (some 5, 0), (some 6, 0), (some 7, 0), (some 8, 0), (some 9, 0), (some 10, 0)] ?_ ?_ ?_ ?_ ?_ <;> simp [hwi])
  have hi2 : i = C.pl.length := by omega
  subst hi2
  have hna : a < N.pl.length := by omega
  have hnb : b < N.pl.length := by omega
  simp [hca, hcb]
  (first | refine callG_r ?_ | refine callD_r ?_); simp; (first | refine callN_flat (by with_reducible first | exact c_r8Apart _ _) rfl ?_ | refine callN_new (by with_reducible first | exact c_r8Apart _ _) ?_ | refine callM_flat (by with_reducible first | exact c_r8Apart _ _) rfl ?_ | refine callM_new (by with_reducible first | exact c_r8Apart _ _) ?_)
  simp [hca, hcb, hna, hnb, nlen]
  (first | refine callG_r ?_ | refine callD_r ?_); simp; (first | refine callN_flat (by with_reducible first | exact c_r8Apart _ _) rfl ?_ | refine callN_new (by with_reducible first | exact c_r8Apart _ _) ?_ | refine callM_flat (by with_reducible first | exact c_r8Apart _ _) rfl ?_ | refine callM_new (by with_reducible first | exact c_r8Apart _ _) ?_)
  simp
  (first | refine callG_r ?_ | refine callD_r ?_); simp; (first | refine callN_flat (by with_reducible first | exact c_r8In _ _ hs.pin) rfl ?_ | refine callN_new (by with_reducible first | exact c_r8In _ _ hs.pin) ?_ | refine callM_flat (by with_reducible first | exact c_r8In _ _ hs.pin) rfl ?_ | refine callM_new (by with_reducible first | exact c_r8In _ _ hs.pin) ?_)
  simp
  (first | refine callG_r ?_ | refine callD_r ?_); simp; (first | refine callN_flat (by with_reducible first | exact c_r8In _ _ hs.pin) rfl ?_ | refine callN_new (by with_reducible first | exact c_r8In _ _ hs.pin) ?_ | refine callM_flat (by with_reducible first | exact c_r8In _ _ hs.pin) rfl ?_ | refine callM_new (by with_reducible first | exact c_r8In _ _ hs.pin) ?_)
  have hA : (C.pin.any fun x => x == (a : Int)) = decide ((a : Int) ∈ C.pin) := by rw [Bool.eq_iff_iff]; simp
  have hB : (C.pin.any fun x => x == (b : Int)) = decide ((b : Int) ∈ C.pin) := by rw [Bool.eq_iff_iff]; simp
  rw [hA, hB]
  have kSame := c_SameCloth C C hs hs (drawn_can hR ho ht) (drawn_can hR ho ht)
  rw [show sameC C C = true by simp [sameC]] at kSame
  rcases nalt with ⟨hNC, hz⟩ | ⟨np, nz, na', nb', e1, e2, gp, ml⟩
  · subst hNC
    rcases hz with ⟨pa, pb⟩ | hz
    · simp [pa, pb]
      (first | refine callG_r ?_ | refine callD_r ?_); simp; (first | refine callN_flat (by with_reducible first | exact kSame) rfl ?_ | refine callN_new (by with_reducible first | exact kSame) ?_ | refine callM_flat (by with_reducible first | exact kSame) rfl ?_ | refine callM_new (by with_reducible first | exact kSame) ?_)
      simp
    · by_cases pa : (a : Int) ∈ N.pin
      · by_cases pb : (b : Int) ∈ N.pin
        · simp [pa, pb, hz]
          (first | refine callG_r ?_ | refine callD_r ?_); simp; (first | refine callN_flat (by with_reducible first | exact kSame) rfl ?_ | refine callN_new (by with_reducible first | exact kSame) ?_ | refine callM_flat (by with_reducible first | exact kSame) rfl ?_ | refine callM_new (by with_reducible first | exact kSame) ?_)
          simp
        · simp [pa, pb, hz]
          (first | refine callG_r ?_ | refine callD_r ?_); simp; (first | refine callN_flat (by with_reducible first | exact kSame) rfl ?_ | refine callN_new (by with_reducible first | exact kSame) ?_ | refine callM_flat (by with_reducible first | exact kSame) rfl ?_ | refine callM_new (by with_reducible first | exact kSame) ?_)
          simp
      · simp [pa, hz]
        (first | refine callG_r ?_ | refine callD_r ?_); simp; (first | refine callN_flat (by with_reducible first | exact kSame) rfl ?_ | refine callN_new (by with_reducible first | exact kSame) ?_ | refine callM_flat (by with_reducible first | exact kSame) rfl ?_ | refine callM_new (by with_reducible first | exact kSame) ?_)
        simp
  · rw [List.getElem?_eq_getElem hna] at e1
    rw [List.getElem?_eq_getElem hnb] at e2
    have e1 := Option.some.inj e1
    have e2 := Option.some.inj e2
    subst e1
    subst e2
    by_cases pa : (a : Int) ∈ C.pin
    · have pb : (b : Int) ∉ C.pin := fun h => np ⟨pa, h⟩
      simp [pa, pb, nz]
      (first | refine callG_r ?_ | refine callD_r ?_); simp; (first | refine callN_flat (by with_reducible first | exact c_r8Gap _ _) rfl ?_ | refine callN_new (by with_reducible first | exact c_r8Gap _ _) ?_ | refine callM_flat (by with_reducible first | exact c_r8Gap _ _) rfl ?_ | refine callM_new (by with_reducible first | exact c_r8Gap _ _) ?_)
      simp [gp]
    · by_cases pb : (b : Int) ∈ C.pin
      · simp [pa, pb, nz]
        (first | refine callG_r ?_ | refine callD_r ?_); simp; (first | refine callN_flat (by with_reducible first | exact c_r8Gap _ _) rfl ?_ | refine callN_new (by with_reducible first | exact c_r8Gap _ _) ?_ | refine callM_flat (by with_reducible first | exact c_r8Gap _ _) rfl ?_ | refine callM_new (by with_reducible first | exact c_r8Gap _ _) ?_)
        simp [gp]
      · have ml' := ml pa pb
        simp [pa, pb, nz]
        (first | refine callG_r ?_ | refine callD_r ?_); simp; (first | refine callN_flat (by with_reducible first | exact c_r8Gap _ _) rfl ?_ | refine callN_new (by with_reducible first | exact c_r8Gap _ _) ?_ | refine callM_flat (by with_reducible first | exact c_r8Gap _ _) rfl ?_ | refine callM_new (by with_reducible first | exact c_r8Gap _ _) ?_)
        simp [gp, hca, hcb]
        (first | refine callG_r ?_ | refine callD_r ?_); simp; (first | refine callN_flat (by with_reducible first | exact c_add _ _ _ _ _ _) rfl ?_ | refine callN_new (by with_reducible first | exact c_add _ _ _ _ _ _) ?_ | refine callM_flat (by with_reducible first | exact c_add _ _ _ _ _ _) rfl ?_ | refine callM_new (by with_reducible first | exact c_add _ _ _ _ _ _) ?_)
        simp [hna, hnb, nlen, hca, hcb]
        (first | refine callG_r ?_ | refine callD_r ?_); simp; (first | refine callN_flat (by with_reducible first | exact c_add _ _ _ _ _ _) rfl ?_ | refine callN_new (by with_reducible first | exact c_add _ _ _ _ _ _) ?_ | refine callM_flat (by with_reducible first | exact c_add _ _ _ _ _ _) rfl ?_ | refine callM_new (by with_reducible first | exact c_add _ _ _ _ _ _) ?_)
        simp
        (first | refine callG_r ?_ | refine callD_r ?_); simp; (first | refine callN_flat (by with_reducible first | exact c_r8Apart _ _) rfl ?_ | refine callN_new (by with_reducible first | exact c_r8Apart _ _) ?_ | refine callM_flat (by with_reducible first | exact c_r8Apart _ _) rfl ?_ | refine callM_new (by with_reducible first | exact c_r8Apart _ _) ?_)
        simp
        exact ml'
end Go.Proofs.Ytbjfkhjckfodbaa
