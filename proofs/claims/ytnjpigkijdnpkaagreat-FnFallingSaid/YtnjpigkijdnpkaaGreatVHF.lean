/- The law of falling.
Conditions: none. -/
import Derived.Test.YtnjpigkijdnpkaaGreatGA
import Derived.Test.YtnjpigkijdnpkaaGreatG6
namespace Go.Proofs.YtnjpigkijdnpkaaGreat
set_option linter.all false
open Go Go.Awp
set_option maxRecDepth 100000
set_option maxHeartbeats 16000000
set_option pp.deepTerms true

theorem canV_cells {l : List V} (h : ∀ a ∈ cVs l, canA 4 a) : ∀ v ∈ l, CanV v := by
  intro v hv
  have hm : ∀ a ∈ [AV.flt .f32 v.1, .flt .f32 v.2.1, .flt .f32 v.2.2], a ∈ cVs l := fun a ha => List.mem_flatMap.2 ⟨v, hv, ha⟩
  exact ⟨h (.flt .f32 v.1) (hm _ (by simp)), h (.flt .f32 v.2.1) (hm _ (by simp)), h (.flt .f32 v.2.2) (hm _ (by simp))⟩
theorem c_B10BodyC (l : List Nat) (n : Nat) (hn : n = l.length) (hl : l.length ≤ 1048576) (hb : ∀ b ∈ l, b < 256) :
    FnSpec Tryz.prog 7 [.view false (cBy l) n] [] fun av H => ∃ b : Bod, vldB b = true ∧ 4 ≤ b.me.pl.length ∧ (∀ v ∈ b.me.pl, CanV v) ∧ H = b.cpm ∧ av = b.cp 0 := by
  refine (c_B10Body l n hn hl hb).canR.mono ?_
  rintro _ _ ⟨⟨b, h1, h2, rfl, rfl⟩, _, hc⟩
  exact ⟨b, h1, h2, canV_cells (hc 0 _ _ _ _ rfl), rfl, rfl⟩
theorem vld_smallB {b : Bod} (h : vldB b = true) : b.Small := by
  obtain ⟨hm, hpl, htr, hsp, hww⟩ := vldB_of h
  exact ⟨vld_small hm, by omega, by omega⟩
theorem runD_vld {held : List Int} {s : Nat} : ∀ (n : Nat) {b : Bod} {E : List Nat}, vldB b = true → vldB (runD held s n b E).1 = true
  | 0, b, E, h => h
  | n + 1, b, E, h => by
    rw [runD_succ]
    split
    · exact runD_vld n (downR_vld h)
    · exact h
theorem turnD_vld {held : List Int} {s : Nat} : ∀ (n : Nat) {b : Bod} {way : List V} {c : Nat}, vldB b = true → way.length = b.me.pl.length → vldB (turnD held s n b way c).1 = true
  | 0, b, way, c, h, _ => h
  | n + 1, b, way, c, h, hl => by
    have hF : (freeL (frcB b) held).length = b.me.pl.length := by rw [freeL_len, frcB_len]
    rw [turnD_succ]
    split
    · exact turnD_vld n (stepA_vld h hl) (by rw [nextW_len, freeL_len, frcB_len])
    · split
      · exact turnD_vld n (stepA_vld h hF) (by rw [nextW_len, freeL_len, frcB_len])
      · exact h
theorem law_FnFalling (l m0 : List Nat) (hb : ∀ b ∈ l, b < 256) (hb' : ∀ b ∈ m0, b < 256) (h1 : l.length ≤ maxLen) (h2 : m0.length ≤ maxLen) : FnSpec Tryz.prog 3 [.view false (cBy l) l.length, .view false (cBy m0) m0.length] [] fun av _ => av = .bool true := by
  refine FnSpec.walkF dr_ok Tryz.func3 rfl (by kernel_rfl) rfl rfl rfl (by simp) ?_
  simp
  (first | refine callG_r ?_ | refine callD_r ?_); simp; (first | refine callN_flat (by with_reducible first | exact c_b10Long l m0 h1 h2) rfl ?_ | refine callN_new (by with_reducible first | exact c_b10Long l m0 h1 h2) ?_ | refine callM_flat (by with_reducible first | exact c_b10Long l m0 h1 h2) rfl ?_ | refine callM_new (by with_reducible first | exact c_b10Long l m0 h1 h2) ?_)
  simp
  intro q1 q2
  refine callG_on false [] ?_; simp; refine callN_all (by with_reducible exact c_B10BodyC l _ rfl q1 hb) ?_; rintro _ _ ⟨b, hv, hn4, hcan, rfl, rfl⟩; refine ⟨fun e => (by cases e), ?_⟩; simp
  have hs := vld_smallB hv
  obtain ⟨hm, hpl, htr, hsp, hww⟩ := vldB_of hv
  refine callG_on true [] ?_
  simp
  refine callN_all (by with_reducible exact c_B10Held m0 _ rfl b q2 hb' (by omega) hpl) ?_
  rintro _ _ ⟨L, hL, hL3, rfl, rfl⟩
  refine ⟨fun _ => (by simp), ?_⟩
  simp
  obtain ⟨x, hx, hcx⟩ := c_b10AtK m0 0 8 hb' q2 (by omega) (by omega) (by omega)
  have hcx' : Fun Tryz.prog 9 [.view false (cBy m0) m0.length, .int .i64 0, .int .i64 8] [] (.int .i64 x) [] := hcx
  obtain ⟨n, hn, hcn⟩ := c_b10AtK m0 1 5 hb' q2 (by omega) (by omega) (by omega)
  have hcn' : Fun Tryz.prog 9 [.view false (cBy m0) m0.length, .int .i64 1, .int .i64 5] [] (.int .i64 n) [] := hcn
  have hwx : IntKind.i64.wrap (1 + (x : Int)) = 1 + (x : Int) := wrap64 (by omega) (by omega)
  obtain ⟨hfin, hov⟩ := finH_ok x (List.mem_range.2 hx)
  (first | refine callG_r ?_ | refine callD_r ?_); simp; (first | refine callN_flat (by with_reducible first | exact hcx') rfl ?_ | refine callN_new (by with_reducible first | exact hcx') ?_ | refine callM_flat (by with_reducible first | exact hcx') rfl ?_ | refine callM_new (by with_reducible first | exact hcx') ?_)
  simp [hwx]
  generalize fop .quo .f32 (fint .f32 (1 + (x : Int))) 1090519040 = S at *
  (first | refine callG_r ?_ | refine callD_r ?_); simp; (first | refine callN_flat (by with_reducible first | exact hcn') rfl ?_ | refine callN_new (by with_reducible first | exact hcn') ?_ | refine callM_flat (by with_reducible first | exact hcn') rfl ?_ | refine callM_new (by with_reducible first | exact hcn') ?_)
  simp
  have hvH : vldH b L = true := by unfold vldH; rw [hv, hL]; rfl
  obtain ⟨_, hp⟩ := pins_of hvH
  have hh : L.length ≤ 1048576 := by omega
  have kR := c_RunDown b L S n hs hh hvH hov (by omega)
  have kS := c_StepDown b L S hs hh hvH hov
  have kT := c_TurnDown b L S n hs hh hvH hov (by omega)
  have oR := runD_ok hfin n (held := L) (b := b) (E0 := []) hcan hp trivial
  have oS := downR_ok hcan hp hfin
  have oT := turnD_ok hfin n (held := L) (b := b) (way := freeL (frcB b) L) (c := 0) (by rw [freeL_len, frcB_len]) hcan hp zn_free
  have oM := fun h => runD_some (n := n) hfin hcan hp h
  simp only [List.nil_append] at oR
  have vR := runD_vld (held := L) (s := S) n (E := [enB b]) hv
  have vD := downR_vld (held := L) (s := S) hv
  have vT := turnD_vld (held := L) (s := S) n (way := freeL (frcB b) L) (c := 0) hv (by rw [freeL_len, frcB_len])
  generalize runD L S n b [enB b] = R at *
  generalize downR b L S = D at *
  generalize turnD L S n b (freeL (frcB b) L) 0 = T at *
  obtain ⟨RB, RE⟩ := R
  obtain ⟨DB, Dh, Df⟩ := D
  obtain ⟨TB, Tc⟩ := T
  have sR := vld_smallB vR
  have sD := vld_smallB vD
  have sT := vld_smallB vT
  obtain ⟨rk, ⟨RX, rx1, rx2⟩, ⟨RY, ry⟩, rd⟩ := oR
  obtain ⟨dk, df, dfell, dstay⟩ := oS
  obtain ⟨tk, tf, tfell, tstay⟩ := oT
  simp only at kR kS kT oM vR vD vT sR sD sT rk rx1 ry rd dk df dfell dstay tk tf tfell tstay
  have hRE0 : RE[0]? = some (enB b) := by rw [rx1]; rfl
  have hREl : 1 ≤ RE.length := by rw [rx1]; simp
  have hREn : RE.length ≤ n + 1 := by rw [rx1]; simp; omega
  have hREe : RE[RE.length - 1]? = some (enB RB) := by rw [ry]; simp
  clear rx1 rx2 ry
  (first | refine callG_r ?_ | refine callD_r ?_); simp; (first | refine callN_flat (by with_reducible first | exact kR) rfl ?_ | refine callN_new (by with_reducible first | exact kR) ?_ | refine callM_flat (by with_reducible first | exact kR) rfl ?_ | refine callM_new (by with_reducible first | exact kR) ?_)
  simp
  (first | refine callG_r ?_ | refine callD_r ?_); simp; (first | refine callN_flat (by with_reducible first | exact kS) rfl ?_ | refine callN_new (by with_reducible first | exact kS) ?_ | refine callM_flat (by with_reducible first | exact kS) rfl ?_ | refine callM_new (by with_reducible first | exact kS) ?_)
  simp
  (first | refine callG_r ?_ | refine callD_r ?_); simp; (first | refine callN_flat (by with_reducible first | exact kT) rfl ?_ | refine callN_new (by with_reducible first | exact kT) ?_ | refine callM_flat (by with_reducible first | exact kT) rfl ?_ | refine callM_new (by with_reducible first | exact kT) ?_)
  simp
  have hwn : IntKind.i64.wrap ((n : Int) + 1) = (n : Int) + 1 := wrap64 (by omega) (by omega)
  refine ⟨fun _ => ⟨fun _ => ?_, by rw [hwn]; omega⟩, by omega⟩
  have pR : ∀ p ∈ L, 0 ≤ p ∧ p < RB.me.pl.length := by rw [rk.len]; exact hp
  have pD : ∀ p ∈ L, 0 ≤ p ∧ p < DB.me.pl.length := by rw [dk.len]; exact hp
  have pT : ∀ p ∈ L, 0 ≤ p ∧ p < TB.me.pl.length := by rw [tk.len]; exact hp
  (first | refine callG_r ?_ | refine callD_r ?_); simp; (first | refine callN_flat (by with_reducible first | exact c_IsHeld b L hs hh) rfl ?_ | refine callN_new (by with_reducible first | exact c_IsHeld b L hs hh) ?_ | refine callM_flat (by with_reducible first | exact c_IsHeld b L hs hh) rfl ?_ | refine callM_new (by with_reducible first | exact c_IsHeld b L hs hh) ?_)
  simp [hvH]
  (first | refine callG_r ?_ | refine callD_r ?_); simp; (first | refine callN_flat (by with_reducible first | exact c_b10Kept b RB L rk.len.symm (by rw [rk.len]; exact hpl) hh pR rk.alk) rfl ?_ | refine callN_new (by with_reducible first | exact c_b10Kept b RB L rk.len.symm (by rw [rk.len]; exact hpl) hh pR rk.alk) ?_ | refine callM_flat (by with_reducible first | exact c_b10Kept b RB L rk.len.symm (by rw [rk.len]; exact hpl) hh pR rk.alk) rfl ?_ | refine callM_new (by with_reducible first | exact c_b10Kept b RB L rk.len.symm (by rw [rk.len]; exact hpl) hh pR rk.alk) ?_)
  simp
  (first | refine callG_r ?_ | refine callD_r ?_); simp; (first | refine callN_flat (by with_reducible first | exact c_b10Kept b DB L dk.len.symm (by rw [dk.len]; exact hpl) hh pD dk.alk) rfl ?_ | refine callN_new (by with_reducible first | exact c_b10Kept b DB L dk.len.symm (by rw [dk.len]; exact hpl) hh pD dk.alk) ?_ | refine callM_flat (by with_reducible first | exact c_b10Kept b DB L dk.len.symm (by rw [dk.len]; exact hpl) hh pD dk.alk) rfl ?_ | refine callM_new (by with_reducible first | exact c_b10Kept b DB L dk.len.symm (by rw [dk.len]; exact hpl) hh pD dk.alk) ?_)
  simp
  (first | refine callG_r ?_ | refine callD_r ?_); simp; (first | refine callN_flat (by with_reducible first | exact c_b10Kept b TB L tk.len.symm (by rw [tk.len]; exact hpl) hh pT tk.alk) rfl ?_ | refine callN_new (by with_reducible first | exact c_b10Kept b TB L tk.len.symm (by rw [tk.len]; exact hpl) hh pT tk.alk) ?_ | refine callM_flat (by with_reducible first | exact c_b10Kept b TB L tk.len.symm (by rw [tk.len]; exact hpl) hh pT tk.alk) rfl ?_ | refine callM_new (by with_reducible first | exact c_b10Kept b TB L tk.len.symm (by rw [tk.len]; exact hpl) hh pT tk.alk) ?_)
  have dfI : (Dh : Int) ≤ 20 := by omega
  have tcI : (Tc : Int) ≤ n := by omega
  have tcN : Tc ≤ n := by omega
  simp [dfI, tcI, df, tcN]
  (first | refine callG_r ?_ | refine callD_r ?_); simp; (first | refine callN_flat (by with_reducible first | exact c_EnergyOf b hs hv) rfl ?_ | refine callN_new (by with_reducible first | exact c_EnergyOf b hs hv) ?_ | refine callM_flat (by with_reducible first | exact c_EnergyOf b hs hv) rfl ?_ | refine callM_new (by with_reducible first | exact c_EnergyOf b hs hv) ?_)
  simp
  (first | refine callG_r ?_ | refine callD_r ?_); simp; (first | refine callN_flat (by with_reducible first | exact c_EnergyOf RB sR vR) rfl ?_ | refine callN_new (by with_reducible first | exact c_EnergyOf RB sR vR) ?_ | refine callM_flat (by with_reducible first | exact c_EnergyOf RB sR vR) rfl ?_ | refine callM_new (by with_reducible first | exact c_EnergyOf RB sR vR) ?_)
  simp
  (first | refine callG_r ?_ | refine callD_r ?_); simp; (first | refine callN_flat (by with_reducible first | exact c_EnergyOf DB sD vD) rfl ?_ | refine callN_new (by with_reducible first | exact c_EnergyOf DB sD vD) ?_ | refine callM_flat (by with_reducible first | exact c_EnergyOf DB sD vD) rfl ?_ | refine callM_new (by with_reducible first | exact c_EnergyOf DB sD vD) ?_)
  simp
  (first | refine callG_r ?_ | refine callD_r ?_); simp; (first | refine callN_flat (by with_reducible first | exact c_EnergyOf TB sT vT) rfl ?_ | refine callN_new (by with_reducible first | exact c_EnergyOf TB sT vT) ?_ | refine callM_flat (by with_reducible first | exact c_EnergyOf TB sT vT) rfl ?_ | refine callM_new (by with_reducible first | exact c_EnergyOf TB sT vT) ?_)
  have h0l : 0 < RE.length := by omega
  have h1l : RE.length - 1 < RE.length := by omega
  have e0 : RE[0] = enB b := by rw [List.getElem?_eq_getElem h0l] at hRE0; exact Option.some.inj hRE0
  have e1 : RE[RE.length - 1] = enB RB := by rw [List.getElem?_eq_getElem h1l] at hREe; exact Option.some.inj hREe
  have hlw : IntKind.i64.wrap ((RE.length : Int) - 1) = ((RE.length - 1 : Nat) : Int) := by rw [wrap64 (by omega) (by omega)]; omega
  simp [h0l, h1l, e0, hlw]
  (first | refine callG_r ?_ | refine callD_r ?_); simp; (first | refine callN_flat (by with_reducible first | exact c_specSameE _) rfl ?_ | refine callN_new (by with_reducible first | exact c_specSameE _) ?_ | refine callM_flat (by with_reducible first | exact c_specSameE _) rfl ?_ | refine callM_new (by with_reducible first | exact c_specSameE _) ?_)
  simp [h0l, h1l, e0, e1, hlw]
  (first | refine callG_r ?_ | refine callD_r ?_); simp; (first | refine callN_flat (by with_reducible first | exact c_specSameE _) rfl ?_ | refine callN_new (by with_reducible first | exact c_specSameE _) ?_ | refine callM_flat (by with_reducible first | exact c_specSameE _) rfl ?_ | refine callM_new (by with_reducible first | exact c_specSameE _) ?_)
  simp
  refine loopG_of (α := Nat) (fun i => 1 ≤ i ∧ i ≤ RE.length) (fun i => RE.length - i) (fun i => [(27, .int .i64 i), (25, .flt .f32 (enB TB)), (23, .flt .f32 (enB DB)), (19, .flt .f32 (enB b)), (17, .int .i64 Tc), (16, .ptr 21 0), (14, .bool Df), (12, .ptr 16 0), (10, .slc 10 0 RE.length 1), (8, .int .i64 n), (5, .ptr 4 0)])
    (fun _ => b.cpm ++ [.blk true true 34 [.slc 0 0 b.me.pl.length 3, .slc 1 0 b.me.tr.length 1, .slc 2 0 b.sp.length 4, .flt .f32 b.film, .flt .f32 b.bend, .slc 3 0 b.w.length 1, .flt .f32 b.fall.1, .flt .f32 b.fall.2.1, .flt .f32 b.fall.2.2], .blk true false 2 (cIs L)] ++ RB.cpm ++ [.blk true false 29 (cFs RE), .blk true true 34 [.slc 6 0 RB.me.pl.length 3, .slc 7 0 RB.me.tr.length 1, .slc 8 0 RB.sp.length 4, .flt .f32 RB.film, .flt .f32 RB.bend, .slc 9 0 RB.w.length 1, .flt .f32 RB.fall.1, .flt .f32 RB.fall.2.1, .flt .f32 RB.fall.2.2]] ++ DB.cpm ++ [.blk true true 34 [.slc 12 0 DB.me.pl.length 3, .slc 13 0 DB.me.tr.length 1, .slc 14 0 DB.sp.length 4, .flt .f32 DB.film, .flt .f32 DB.bend, .slc 15 0 DB.w.length 1, .flt .f32 DB.fall.1, .flt .f32 DB.fall.2.1, .flt .f32 DB.fall.2.2]] ++ TB.cpm ++ [.blk true true 34 [.slc 17 0 TB.me.pl.length 3, .slc 18 0 TB.me.tr.length 1, .slc 19 0 TB.sp.length 4, .flt .f32 TB.film, .flt .f32 TB.bend, .slc 20 0 TB.w.length 1, .flt .f32 TB.fall.1, .flt .f32 TB.fall.2.1, .flt .f32 TB.fall.2.2]]) 1 ⟨Nat.le_refl _, h0l⟩ ?_ fun i hi => ?_
  · (refine weak_gc [(some 0, 0), (some 1, 0), (some 2, 0), (some 3, 0), (some 4, 0), (some 5, 0), (some 6, 0), (some 7, 0), (some 8, 0), (some 9, 0), (some 10, 0), (some 11, 0), (some 12, 0), (some 13, 0), (some 14, 0), (some 15, 0), (some 16, 0), (some 17, 0), (some 18, 0), (some 19, 0), (some 20, 0), (some 21, 0)] ?_ ?_ ?_ ?_ ?_ <;> simp)
  obtain ⟨i1, i2⟩ := hi
  have hwi := nat_wrap (k := i) (by omega)
  by_cases c : i < RE.length
  · obtain ⟨j, rfl⟩ : ∃ j, i = j + 1 := ⟨i - 1, by omega⟩
    have cj : j < RE.length := by omega
    have hd := desc_at rd j c
    have hwj : IntKind.i64.wrap (((j + 1 : Nat) : Int) - 1) = (j : Int) := by rw [wrap64 (by omega) (by omega)]; omega
    have hwj2 : IntKind.i64.wrap ((j : Int) + 1 - 1) = (j : Int) := by rw [wrap64 (by omega) (by omega)]; omega
    have cI : (j : Int) + 1 < RE.length := by omega
    have hwj3 : IntKind.i64.wrap (j : Int) = (j : Int) := wrap64 (by omega) (by omega)
    have cp : (0 : Int) ≤ (j : Int) + 1 := by omega
    have hwi2 : IntKind.i64.wrap ((j : Int) + 1 + 1) = (j : Int) + 1 + 1 := wrap64 (by omega) (by omega)
    simp [c, cj, cI, hwj, hwj2, hwj3, cp, hd, hwi]
    refine loopK_next (j + 1 + 1) (by omega) ⟨by omega, by omega⟩ ?_
    (refine weak_gc [(some 0, 0), (some 1, 0), (some 2, 0), (some 3, 0), (some 4, 0), (some 5, 0), (some 6, 0), (some 7, 0), (some 8, 0), (some 9, 0), (some 10, 0), (some 11, 0), (some 12, 0), (some 13, 0), (some 14, 0), (some 15, 0), (some 16, 0), (some 17, 0), (some 18, 0), (some 19, 0), (some 20, 0), (some 21, 0)] ?_ ?_ ?_ ?_ ?_ <;> simp [hwi2])
  · obtain rfl : i = RE.length := by omega
    have hM : ¬ n = 0 → Df = decide (1 < RE.length) := fun h => (oM (by omega)).symm
    cases Df with
    | true =>
      have g1 := dfell rfl
      by_cases cT : Tc = 0
      · have hTB := tstay cT
        subst hTB
        simp [g1, cT]
        (first | refine callG_r ?_ | refine callD_r ?_); simp; (first | refine callN_flat (by with_reducible first | exact c_SameBodyE TB hs) rfl ?_ | refine callN_new (by with_reducible first | exact c_SameBodyE TB hs) ?_ | refine callM_flat (by with_reducible first | exact c_SameBodyE TB hs) rfl ?_ | refine callM_new (by with_reducible first | exact c_SameBodyE TB hs) ?_)
        simp
        intro h0
        have := of_decide_eq_true (hM h0).symm
        omega
      · have g2 := tfell (by omega)
        have cT2 : 0 < Tc := by omega
        have cT3 : (0 : Int) < Tc := by omega
        simp [g1, g2, cT, cT2, cT3]
        intro h0
        have := of_decide_eq_true (hM h0).symm
        omega
    | false =>
      have hDB := dstay rfl
      have g1 := lt_irr (enB b)
      subst hDB
      simp [g1]
      (first | refine callG_r ?_ | refine callD_r ?_); simp; (first | refine callN_flat (by with_reducible first | exact c_SameBodyE DB hs) rfl ?_ | refine callN_new (by with_reducible first | exact c_SameBodyE DB hs) ?_ | refine callM_flat (by with_reducible first | exact c_SameBodyE DB hs) rfl ?_ | refine callM_new (by with_reducible first | exact c_SameBodyE DB hs) ?_)
      by_cases cT : Tc = 0
      · have hTB := tstay cT
        subst hTB
        simp [g1, cT]
        (first | refine callG_r ?_ | refine callD_r ?_); simp; (first | refine callN_flat (by with_reducible first | exact c_SameBodyE TB hs) rfl ?_ | refine callN_new (by with_reducible first | exact c_SameBodyE TB hs) ?_ | refine callM_flat (by with_reducible first | exact c_SameBodyE TB hs) rfl ?_ | refine callM_new (by with_reducible first | exact c_SameBodyE TB hs) ?_)
        simp
        intro h0
        have := of_decide_eq_false (hM h0).symm
        omega
      · have g2 := tfell (by omega)
        have cT2 : 0 < Tc := by omega
        have cT3 : (0 : Int) < Tc := by omega
        simp [g1, g2, cT, cT2, cT3]
        intro h0
        have := of_decide_eq_false (hM h0).symm
        omega
end Go.Proofs.YtnjpigkijdnpkaaGreat
