/- The law of motions.
Conditions: none. -/
import Derived.Test.YtnjpigkijdnpkaaGreatGA
import Derived.Test.YtnjpigkijdnpkaaGreatG6
namespace Go.Proofs.YtnjpigkijdnpkaaGreat
set_option linter.all false
open Go Go.Awp
set_option maxRecDepth 100000
set_option maxHeartbeats 16000000
set_option pp.deepTerms true

theorem canV_cells {l : List V} (h : ∀ a ∈ cVs l, canA 4 a) : ∀ v ∈ l, CanV v := by
  intro v hv
  have hm : ∀ a ∈ [AV.flt .f32 v.1, .flt .f32 v.2.1, .flt .f32 v.2.2], a ∈ cVs l := fun a ha => List.mem_flatMap.2 ⟨v, hv, ha⟩
  exact ⟨h (.flt .f32 v.1) (hm _ (by simp)), h (.flt .f32 v.2.1) (hm _ (by simp)), h (.flt .f32 v.2.2) (hm _ (by simp))⟩
theorem c_B10BodyC (l : List Nat) (n : Nat) (hn : n = l.length) (hl : l.length ≤ 1048576) (hb : ∀ b ∈ l, b < 256) :
    FnSpec Tryz.prog 7 [.view false (cBy l) n] [] fun av H => ∃ b : Bod, vldB b = true ∧ 4 ≤ b.me.pl.length ∧ (∀ v ∈ b.me.pl, CanV v) ∧ H = b.cpm ∧ av = b.cp 0 := by
  refine (c_B10Body l n hn hl hb).canR.mono ?_
  rintro _ _ ⟨⟨b, h1, h2, rfl, rfl⟩, _, hc⟩
  exact ⟨b, h1, h2, canV_cells (hc 0 _ _ _ _ rfl), rfl, rfl⟩
theorem vld_smallB {b : Bod} (h : vldB b = true) : b.Small := by
  obtain ⟨hm, hpl, htr, hsp, hww⟩ := vldB_of h
  exact ⟨vld_small hm, by omega, by omega⟩
theorem c_BareBody (m : Msh) (hs : m.Small) (hv : vldM m = true) : Fun Tryz.prog 25 [m.av] [] (.tup [.agg [.slc 0 0 m.pl.length 3, .slc 1 0 m.tr.length 1, .nils, .flt .f32 0, .flt .f32 0, .slc 2 0 m.pl.length 1, .flt .f32 0, .flt .f32 0, .flt .f32 0], .bool true])
    [.blk true false 32 (cVs m.pl), .blk true false 36 (cRs true m.tr), .blk true false 29 (cFs (List.replicate m.pl.length 0))] := by
  have hp := vld64 hv
  have ht : m.tr.length ≤ 128 := by
    unfold vldM at hv
    simp only [Bool.and_eq_true, decide_eq_true_eq] at hv
    exact hv.1.2
  refine FnSpec.walk dr_ok Tryz.func25 rfl (by kernel_rfl) rfl rfl rfl (by simp) ?_
  simp
  (first | refine callG_r ?_ | refine callD_r ?_); simp; (first | refine callN_flat (by with_reducible first | exact c_ValidMesh m hs) rfl ?_ | refine callN_new (by with_reducible first | exact c_ValidMesh m hs) ?_ | refine callM_flat (by with_reducible first | exact c_ValidMesh m hs) rfl ?_ | refine callM_new (by with_reducible first | exact c_ValidMesh m hs) ?_)
  simp [hv]
  (first | refine callG_r ?_ | refine callD_r ?_); simp; (first | refine callN_flat (by with_reducible first | exact c_copyMesh m hs ht) rfl ?_ | refine callN_new (by with_reducible first | exact c_copyMesh m hs ht) ?_ | refine callM_flat (by with_reducible first | exact c_copyMesh m hs ht) rfl ?_ | refine callM_new (by with_reducible first | exact c_copyMesh m hs ht) ?_)
  simp
  refine ⟨by omega, by omega, ?_⟩
  (refine endG_keepT [(some 2, 0), (some 3, 0), (some 4, 0)] ?_ ?_ ?_ ?_ ?_ ?_ ?_ ⟨rfl, rfl⟩ ?_ <;> simp)
theorem c_specSameVE (v : V) : Fun Tryz.prog 23 [aV v, aV v] [] (.bool true) [] := fn_can fun hc => by
  obtain ⟨x, y, z⟩ := v
  have h : CanV (x, y, z) := by
    have := hc (aV (x, y, z)) (by simp)
    simp only [aV, canA, List.mem_cons, List.not_mem_nil, or_false, forall_eq_or_imp, forall_eq] at this
    exact this
  refine FnSpec.walkF dr_ok Tryz.func23 rfl (by kernel_rfl) rfl rfl rfl (by simp) ?_
  simp
  (first | refine callG_r ?_ | refine callD_r ?_); simp; (first | refine callN_flat (by with_reducible first | exact c_l01VSame h h) rfl ?_ | refine callN_new (by with_reducible first | exact c_l01VSame h h) ?_ | refine callM_flat (by with_reducible first | exact c_l01VSame h h) rfl ?_ | refine callM_new (by with_reducible first | exact c_l01VSame h h) ?_)
  simp
theorem c_b10VListE (l : List V) (n : Nat) (hn : l.length = n) (hl : n ≤ 1048576) : Fun Tryz.prog 22 [.view false (cVs l) n, .view false (cVs l) n] [] (.bool true) [] := by
  refine FnSpec.walkF dr_ok Tryz.func22 rfl (by kernel_rfl) rfl rfl rfl (by simp) ?_
  simp
  refine loopG_of (α := Nat) (fun k => k ≤ n) (fun k => n - k) (fun k => [(13, .int .i64 k), (12, .int .i64 n), (0, .view false (cVs l) n), (1, .view false (cVs l) n)]) (fun _ => []) 0 (by simp) ?_ fun k hk => ?_
  · refine weak_UH rfl ?_
    simp
  have hw := nat_wrap (k := k) (by omega)
  by_cases c : k < n
  · have c1 : k < l.length := by omega
    simp [c, c1, hw]
    (first | refine callG_r ?_ | refine callD_r ?_); simp; (first | refine callN_flat (by with_reducible first | exact c_specSameVE _) rfl ?_ | refine callN_new (by with_reducible first | exact c_specSameVE _) ?_ | refine callM_flat (by with_reducible first | exact c_specSameVE _) rfl ?_ | refine callM_new (by with_reducible first | exact c_specSameVE _) ?_)
    simp [hw]
    refine loopK_next (k + 1) (by omega) (by omega) ?_
    refine weak_UH rfl ?_
    simp [hw]
  · obtain rfl : k = n := by omega
    simp
theorem runM_pre {held : List Int} {mass damp tick : Nat} : ∀ (n : Nat) (m : Mot) (E : List Nat), ∃ T, (runM held mass damp tick n m E).2 = E ++ T
  | 0, m, E => ⟨[], by show E = _; simp⟩
  | n + 1, m, E => by
    obtain ⟨T, hT⟩ := runM_pre n (stpM m held mass damp tick) (E ++ [enB (stpM m held mass damp tick).bo])
    exact ⟨enB (stpM m held mass damp tick).bo :: T, by rw [runM_succ, hT]; simp⟩
theorem bare_vld {m : Msh} (hv : vldM m = true) : vldB (bareB m) = true := by
  unfold vldB
  simp [hv]
theorem law_FnMotions (l m0 : List Nat) (hb : ∀ b ∈ l, b < 256) (hb' : ∀ b ∈ m0, b < 256) (h1 : l.length ≤ maxLen) (h2 : m0.length ≤ maxLen) : FnSpec Tryz.prog 4 [.view false (cBy l) l.length, .view false (cBy m0) m0.length] [] fun av _ => av = .bool true := by
  refine FnSpec.walkF dr_ok Tryz.func4 rfl (by kernel_rfl) rfl rfl rfl (by simp) ?_
  simp
  (first | refine callG_r ?_ | refine callD_r ?_); simp; (first | refine callN_flat (by with_reducible first | exact c_b10Long l m0 h1 h2) rfl ?_ | refine callN_new (by with_reducible first | exact c_b10Long l m0 h1 h2) ?_ | refine callM_flat (by with_reducible first | exact c_b10Long l m0 h1 h2) rfl ?_ | refine callM_new (by with_reducible first | exact c_b10Long l m0 h1 h2) ?_)
  simp
  intro q1 q2
  refine callG_on false [] ?_; simp; refine callN_all (by with_reducible exact c_B10BodyC l _ rfl q1 hb) ?_; rintro _ _ ⟨b, hv, hn4, hcan, rfl, rfl⟩; refine ⟨fun e => (by cases e), ?_⟩; simp
  have hs := vld_smallB hv
  obtain ⟨hm, hpl, htr, hsp, hww⟩ := vldB_of hv
  refine callG_on true [] ?_
  simp
  refine callN_all (by with_reducible exact c_B10Held m0 _ rfl b q2 hb' (by omega) hpl) ?_
  rintro _ _ ⟨L, hL, hL3, rfl, rfl⟩
  refine ⟨fun _ => (by simp), ?_⟩
  simp
  obtain ⟨n, hn, hcn⟩ := c_b10AtK m0 0 4 hb' q2 (by omega) (by omega) (by omega)
  have hcn' : Fun Tryz.prog 9 [.view false (cBy m0) m0.length, .int .i64 0, .int .i64 4] [] (.int .i64 n) [] := hcn
  (first | refine callG_r ?_ | refine callD_r ?_); simp; (first | refine callN_flat (by with_reducible first | exact hcn') rfl ?_ | refine callN_new (by with_reducible first | exact hcn') ?_ | refine callM_flat (by with_reducible first | exact hcn') rfl ?_ | refine callM_new (by with_reducible first | exact hcn') ?_)
  simp
  have hvH : vldH b L = true := by unfold vldH; rw [hv, hL]; rfl
  obtain ⟨_, hp⟩ := pins_of hvH
  have hh : L.length ≤ 1048576 := by omega
  obtain ⟨Z, hZ⟩ : ∃ Z : List V, Z = List.replicate b.me.pl.length (0, 0, 0) := ⟨_, rfl⟩
  have hZl : Z.length = b.me.pl.length := by rw [hZ]; simp
  have k1 := c_StillMotion b hs hv
  rw [← hZ] at k1
  have hov : overB 1073741824 = true ∧ overB 1040187392 = true := by constructor <;> decide +kernel
  have k2 := c_RunMotion (Mot.mk b Z) L 1073741824 1056964608 1040187392 n hs hvH hZl hh hov.1 hov.2 (by omega)
  have k3 := c_ValidMotion (Mot.mk b Z) hs (by show Z.length ≤ _; omega)
  have hvm : vldMo (Mot.mk b Z) = true := by unfold vldMo; rw [hv, decide_eq_true (show (Mot.mk b Z).sp.length = (Mot.mk b Z).bo.me.pl.length from hZl)]; rfl
  rw [hvm] at k3
  have ok := runM_ok (held := L) (mass := 1073741824) (damp := 1056964608) n (m := Mot.mk b Z) (E := []) hs hv hZl hcan hp
  simp only [Mot.av, Mot.cells, Mot.cp, Mot.cpc, Mot.cpm, hZl] at k1 k2 k3
  obtain ⟨okp, ole, osl, osp, osm, ovl⟩ := ok
  generalize hR : runM L 1073741824 1056964608 1040187392 n (Mot.mk b Z) [] = R at *
  obtain ⟨⟨RB, RS⟩, RE⟩ := R
  simp only [List.length_nil, Nat.zero_add] at okp ole osl osp osm ovl k2
  simp only [osl] at k2
  have htZ : Z.take b.me.pl.length = Z := List.take_of_length_le (by omega)
  (first | refine callG_r ?_ | refine callD_r ?_); simp; (first | refine callN_flat (by with_reducible first | exact k1) rfl ?_ | refine callN_new (by with_reducible first | exact k1) ?_ | refine callM_flat (by with_reducible first | exact k1) rfl ?_ | refine callM_new (by with_reducible first | exact k1) ?_)
  simp
  (first | refine callG_r ?_ | refine callD_r ?_)
  simp [htZ]
  (first | refine callN_flat (by with_reducible exact k2) rfl ?_ | refine callN_new (by with_reducible exact k2) ?_ | refine callM_flat (by with_reducible exact k2) rfl ?_ | refine callM_new (by with_reducible exact k2) ?_)
  simp
  have pR : ∀ p ∈ L, 0 ≤ p ∧ p < RB.me.pl.length := by rw [okp.len]; exact hp
  (first | refine callG_r ?_ | refine callD_r ?_)
  simp [htZ]
  (first | refine callN_flat (by with_reducible exact k3) rfl ?_ | refine callN_new (by with_reducible exact k3) ?_ | refine callM_flat (by with_reducible exact k3) rfl ?_ | refine callM_new (by with_reducible exact k3) ?_)
  simp
  (first | refine callG_r ?_ | refine callD_r ?_); simp; (first | refine callN_flat (by with_reducible first | exact c_b10Kept b RB L okp.len.symm (by rw [okp.len]; exact hpl) hh pR okp.alk) rfl ?_ | refine callN_new (by with_reducible first | exact c_b10Kept b RB L okp.len.symm (by rw [okp.len]; exact hpl) hh pR okp.alk) ?_ | refine callM_flat (by with_reducible first | exact c_b10Kept b RB L okp.len.symm (by rw [okp.len]; exact hpl) hh pR okp.alk) rfl ?_ | refine callM_new (by with_reducible first | exact c_b10Kept b RB L okp.len.symm (by rw [okp.len]; exact hpl) hh pR okp.alk) ?_)
  have osl' : RS.length = b.me.pl.length := osl
  have ole' : RE.length = n := ole
  simp [ole']
  refine loopG_of (α := Mot × Nat) (fun x => x.2 ≤ n ∧ runM L 1073741824 1056964608 1040187392 (n - x.2) x.1 (RE.take x.2) = (Mot.mk RB RS, RE) ∧ x.1.bo.Small ∧ vldB x.1.bo = true ∧ x.1.bo.me.pl.length = b.me.pl.length ∧ x.1.sp.length = b.me.pl.length) (fun x => n - x.2)
    (fun x => [(14, .int .i64 x.2), (13, .ptr 13 0), (11, .slc 6 0 n 1), (10, .ptr 7 0), (7, .int .i64 n), (6, .slc 0 0 L.length 1), (0, .view false (cBy l) l.length), (1, .view false (cBy m0) m0.length)])
    (fun x => [.blk true false 2 (cIs L), .blk true false 32 (cVs RB.me.pl), .blk true false 36 (cRs true RB.me.tr), .blk true false 88 (cSs RB.sp), .blk true false 29 (cFs RB.w), .blk true false 32 (cVs RS), .blk true false 29 (cFs RE), .blk true true 52 ((Mot.mk RB RS).cpc 1)] ++ x.1.cpm ++ [.blk true true 52 (x.1.cpc 8)])
    (Mot.mk b Z, 0) ⟨Nat.zero_le _, hR, hs, hv, rfl, hZl⟩ ?_ fun x hx => ?_
  · (refine weak_gc [(some 5, 0), (some 12, 0), (some 13, 0), (some 14, 0), (some 15, 0), (some 16, 0), (some 17, 0), (some 18, 0), (some 6, 0), (some 7, 0), (some 8, 0), (some 9, 0), (some 10, 0), (some 19, 0)] ?_ ?_ ?_ ?_ ?_ <;> simp [osl', hZl])
  obtain ⟨N, k⟩ := x
  obtain ⟨hk, he, hsN, hvN, hlN, hlS⟩ := hx
  simp only at hk he hsN hvN hlN hlS
  have hw := nat_wrap (k := k) (by omega)
  by_cases c : k < n
  · have hvHN : vldH N.bo L = true := by unfold vldH; rw [hvN, hlN]; unfold vldH at hvH; rw [hv] at hvH; exact hvH
    have kS := c_StepMotion N L 1073741824 1056964608 1040187392 hsN hvHN (by omega) hh hov.1 hov.2
    have d1 := stpM_len N L 1073741824 1056964608 1040187392
    have d2 := stpM_spl N L 1073741824 1056964608 1040187392
    have d3 := stpM_small (held := L) (mass := 1073741824) (damp := 1056964608) (tick := 1040187392) hsN
    have d4 := stpM_vld (held := L) (mass := 1073741824) (damp := 1056964608) (tick := 1040187392) hvN
    obtain ⟨m', hm2⟩ : ∃ m', n - k = m' + 1 := ⟨n - k - 1, by omega⟩
    have hm3 : n - (k + 1) = m' := by omega
    rw [hm2, runM_succ] at he
    generalize stpM N L 1073741824 1056964608 1040187392 = S at *
    obtain ⟨T, hT⟩ := runM_pre (held := L) (mass := 1073741824) (damp := 1056964608) (tick := 1040187392) m' S (RE.take k ++ [enB S.bo])
    rw [he] at hT
    have hT : RE = RE.take k ++ [enB S.bo] ++ T := hT
    have hkl : k < RE.length := by omega
    have hek : RE[k] = enB S.bo := by
      have h0 : RE[k]? = some (enB S.bo) := by
        have h : RE[k]? = (RE.take k ++ [enB S.bo] ++ T)[k]? := congrArg (fun l => l[k]?) hT
        rw [h, List.append_assoc, List.getElem?_append_right (by rw [List.length_take]; omega), List.length_take, Nat.min_eq_left (by omega), Nat.sub_self]
        rfl
      rw [List.getElem?_eq_getElem hkl] at h0
      exact Option.some.inj h0
    have htk : RE.take (k + 1) = RE.take k ++ [enB S.bo] := by rw [List.take_succ_eq_append_getElem hkl, hek]
    rw [← htk] at he
    simp [c]
    (first | refine callG_r ?_ | refine callD_r ?_); simp; (first | refine callN_flat (by with_reducible first | exact kS) rfl ?_ | refine callN_new (by with_reducible first | exact kS) ?_ | refine callM_flat (by with_reducible first | exact kS) rfl ?_ | refine callM_new (by with_reducible first | exact kS) ?_)
    simp [c]
    (first | refine callG_r ?_ | refine callD_r ?_); simp; (first | refine callN_flat (by with_reducible first | exact c_EnergyOf S.bo d3 d4) rfl ?_ | refine callN_new (by with_reducible first | exact c_EnergyOf S.bo d3 d4) ?_ | refine callM_flat (by with_reducible first | exact c_EnergyOf S.bo d3 d4) rfl ?_ | refine callM_new (by with_reducible first | exact c_EnergyOf S.bo d3 d4) ?_)
    simp [c, hek, hkl, hw]
    (first | refine callG_r ?_ | refine callD_r ?_); simp; (first | refine callN_flat (by with_reducible first | exact c_specSameE _) rfl ?_ | refine callN_new (by with_reducible first | exact c_specSameE _) ?_ | refine callM_flat (by with_reducible first | exact c_specSameE _) rfl ?_ | refine callM_new (by with_reducible first | exact c_specSameE _) ?_)
    simp [hw]
    refine loopK_next (S, k + 1) (by simp only; omega) ⟨by simp only; omega, by simp only; rw [hm3]; exact he, d3, d4, by simp only; omega, by simp only; omega⟩ ?_
    (refine weak_gc [(some 0, 0), (some 1, 0), (some 2, 0), (some 3, 0), (some 4, 0), (some 5, 0), (some 6, 0), (some 7, 0), (some 14, 0), (some 15, 0), (some 16, 0), (some 17, 0), (some 18, 0), (some 13, 0)] ?_ ?_ ?_ ?_ ?_ <;> simp [hw])
  obtain rfl : k = n := by omega
  rw [Nat.sub_self] at he
  have hN : N = Mot.mk RB RS := (Prod.mk.inj he).1
  subst hN
  simp
  (first | refine callG_r ?_ | refine callD_r ?_); simp; (first | refine callN_flat (by with_reducible first | exact c_SameBodyE RB osm) rfl ?_ | refine callN_new (by with_reducible first | exact c_SameBodyE RB osm) ?_ | refine callM_flat (by with_reducible first | exact c_SameBodyE RB osm) rfl ?_ | refine callM_new (by with_reducible first | exact c_SameBodyE RB osm) ?_)
  simp
  (first | refine callG_r ?_ | refine callD_r ?_); simp; (first | refine callN_flat (by with_reducible first | exact c_b10VListE RS RS.length rfl (by omega)) rfl ?_ | refine callN_new (by with_reducible first | exact c_b10VListE RS RS.length rfl (by omega)) ?_ | refine callM_flat (by with_reducible first | exact c_b10VListE RS RS.length rfl (by omega)) rfl ?_ | refine callM_new (by with_reducible first | exact c_b10VListE RS RS.length rfl (by omega)) ?_)
  simp
  refine ⟨fun hk0 => ?_, fun hk0 => ?_⟩
  · have osp' := osp hk0
    refine loopG_of (α := Nat) (fun j => j ≤ L.length) (fun j => L.length - j) (fun j => [(130, .int .i64 j), (129, .int .i64 L.length), (128, .slc 0 0 L.length 1), (10, .ptr 7 0), (6, .slc 0 0 L.length 1), (0, .view false (cBy l) l.length)])
      (fun j => [.blk true false 2 (cIs L), .blk true false 32 (cVs RB.me.pl), .blk true false 36 (cRs true RB.me.tr), .blk true false 88 (cSs RB.sp), .blk true false 29 (cFs RB.w), .blk true false 32 (cVs RS), .blk true false 29 (cFs RE), .blk true true 52 ((Mot.mk RB RS).cpc 1)]) 0 (by simp) ?_ fun j hj => ?_
    · (refine weak_gc [(some 0, 0), (some 1, 0), (some 2, 0), (some 3, 0), (some 4, 0), (some 5, 0), (some 6, 0), (some 7, 0)] ?_ ?_ ?_ ?_ ?_ <;> simp)
    have hwj := nat_wrap (k := j) (by omega)
    by_cases c2 : j < L.length
    · have hpk := pR _ (List.getElem_mem c2)
      have hz := osp' _ (List.getElem_mem c2)
      obtain ⟨p, he2⟩ : ∃ p : Nat, L[j] = (p : Int) := ⟨L[j].toNat, by omega⟩
      rw [he2] at hpk hz
      have hpS : p < RS.length := by have := okp.len; omega
      rw [Int.toNat_natCast, List.getD_eq_getElem?_getD, List.getElem?_eq_getElem hpS, Option.getD_some] at hz
      simp [c2, he2, hwj, hpS, hz]
      (first | refine callG_r ?_ | refine callD_r ?_); simp; (first | refine callN_flat (by with_reducible first | exact c_specSameVE (0, 0, 0)) rfl ?_ | refine callN_new (by with_reducible first | exact c_specSameVE (0, 0, 0)) ?_ | refine callM_flat (by with_reducible first | exact c_specSameVE (0, 0, 0)) rfl ?_ | refine callM_new (by with_reducible first | exact c_specSameVE (0, 0, 0)) ?_)
      simp [hwj]
      refine loopK_next (j + 1) (by omega) (by omega) ?_
      (refine weak_gc [(some 0, 0), (some 1, 0), (some 2, 0), (some 3, 0), (some 4, 0), (some 5, 0), (some 6, 0), (some 7, 0)] ?_ ?_ ?_ ?_ ?_ <;> simp [hwj])
    obtain rfl : j = L.length := by omega
    simp
    refine callG_on false [] ?_; simp; refine callN_all (by with_reducible exact c_B10Smooth l _ rfl q1 hb) ?_; rintro _ _ ⟨s, hsm, rfl, rfl⟩; refine ⟨fun e => (by cases e), ?_⟩; simp
    have vsm := hsm.vld
    have ssm : s.me.Small := vld_small vsm
    (first | refine callG_r ?_ | refine callD_r ?_); simp; (first | refine callN_flat (by with_reducible first | exact c_BareBody s.me ssm vsm) rfl ?_ | refine callN_new (by with_reducible first | exact c_BareBody s.me ssm vsm) ?_ | refine callM_flat (by with_reducible first | exact c_BareBody s.me ssm vsm) rfl ?_ | refine callM_new (by with_reducible first | exact c_BareBody s.me ssm vsm) ?_)
    simp
    have bv := bare_vld vsm
    have bs := vld_smallB bv
    have k4 := c_StillMotion (bareB s.me) bs bv
    simp only [Mot.cp, Mot.cpc, Mot.cpm, Bod.av, Bod.cells, cSs_nil, List.length_nil, List.length_replicate] at k4
    (first | refine callG_r ?_ | refine callD_r ?_); simp; (first | refine callN_flat (by with_reducible first | exact k4) rfl ?_ | refine callN_new (by with_reducible first | exact k4) ?_ | refine callM_flat (by with_reducible first | exact k4) rfl ?_ | refine callM_new (by with_reducible first | exact k4) ?_)
    simp
    have bvH : vldH (bareB s.me) [] = true := by unfold vldH; rw [bv]; rfl
    have o1 : overB 1065353216 = true := by decide +kernel
    have o3 : overB 1077936128 = true := by decide +kernel
    have k5 := c_StepMotion (stillM s.me) [] 1065353216 1065353216 1065353216 bs bvH (by simp) (by decide) o1 o1
    have e5 := still_energy hsm
    have t5 := fun (i : Nat) hi hi2 => still_stays (i := i) hsm hi hi2
    have l5 := stpM_len (stillM s.me) [] 1065353216 1065353216 1065353216
    have l6 := stpM_spl (stillM s.me) [] 1065353216 1065353216 1065353216
    have s5 := stpM_small (m := stillM s.me) (held := []) (mass := 1065353216) (damp := 1065353216) (tick := 1065353216) bs
    have v5 := stpM_vld (m := stillM s.me) (held := []) (mass := 1065353216) (damp := 1065353216) (tick := 1065353216) bv
    generalize stpM (stillM s.me) [] 1065353216 1065353216 1065353216 = Q at *
    have l5 : Q.bo.me.pl.length = s.me.pl.length := l5
    have l6 : Q.sp.length = s.me.pl.length := l6
    have k6 := c_SpeedEnergy Q 1077936128 s5 v5 (by omega) o3
    have hsl := vld64 vsm
    simp only [Mot.av, Mot.cells, bareB, cSs_nil, cIs_nil, List.length_nil, List.length_replicate] at k5
    (first | refine callG_r ?_ | refine callD_r ?_); simp; (first | refine callN_flat (by with_reducible first | exact k5) rfl ?_ | refine callN_new (by with_reducible first | exact k5) ?_ | refine callM_flat (by with_reducible first | exact k5) rfl ?_ | refine callM_new (by with_reducible first | exact k5) ?_)
    simp
    (first | refine callG_r ?_ | refine callD_r ?_); simp; (first | refine callN_flat (by with_reducible first | exact k6) rfl ?_ | refine callN_new (by with_reducible first | exact k6) ?_ | refine callM_flat (by with_reducible first | exact k6) rfl ?_ | refine callM_new (by with_reducible first | exact k6) ?_)
    simp [e5, l5]
    refine loopG_of (α := Nat) (fun i => i ≤ s.me.pl.length) (fun i => s.me.pl.length - i) (fun i => [(201, .int .i64 i), (200, .int .i64 s.me.pl.length), (25, .ptr 10 0), (20, .ptr 4 0)])
      (fun i => s.cpm ++ [.blk true true 34 [.slc 0 0 s.me.pl.length 3, .slc 1 0 s.me.tr.length 1, .slc 2 0 s.sp.length 4, .flt .f32 s.film, .flt .f32 s.bend, .slc 3 0 s.w.length 1, .flt .f32 s.fall.1, .flt .f32 s.fall.2.1, .flt .f32 s.fall.2.2]] ++ Q.cpm ++ [.blk true true 52 (Q.cpc 5)]) 0 (by simp) ?_ fun i hi => ?_
    · (refine weak_gc [(some 8, 0), (some 9, 0), (some 10, 0), (some 11, 0), (some 12, 0), (some 23, 0), (some 24, 0), (some 25, 0), (some 26, 0), (some 27, 0), (some 28, 0)] ?_ ?_ ?_ ?_ ?_ <;> simp [l5])
    have hwi := nat_wrap (k := i) (by omega)
    by_cases c3 : i < s.me.pl.length
    · have c4 : i < Q.bo.me.pl.length := by omega
      have hva := t5 i c3 c4
      simp [c3, c4, hwi]
      (first | refine callG_r ?_ | refine callD_r ?_); simp; (first | refine callN_flat (by with_reducible first | exact c_b10VAlike hva) rfl ?_ | refine callN_new (by with_reducible first | exact c_b10VAlike hva) ?_ | refine callM_flat (by with_reducible first | exact c_b10VAlike hva) rfl ?_ | refine callM_new (by with_reducible first | exact c_b10VAlike hva) ?_)
      simp [hwi]
      refine loopK_next (i + 1) (by omega) (by omega) ?_
      (refine weak_gc [(some 0, 0), (some 1, 0), (some 2, 0), (some 3, 0), (some 4, 0), (some 5, 0), (some 6, 0), (some 7, 0), (some 8, 0), (some 9, 0), (some 10, 0)] ?_ ?_ ?_ ?_ ?_ <;> simp [hwi])
    obtain rfl : i = s.me.pl.length := by omega
    simp
  · skip
    refine callG_on false [] ?_; simp; refine callN_all (by with_reducible exact c_B10Smooth l _ rfl q1 hb) ?_; rintro _ _ ⟨s, hsm, rfl, rfl⟩; refine ⟨fun e => (by cases e), ?_⟩; simp
    have vsm := hsm.vld
    have ssm : s.me.Small := vld_small vsm
    (first | refine callG_r ?_ | refine callD_r ?_); simp; (first | refine callN_flat (by with_reducible first | exact c_BareBody s.me ssm vsm) rfl ?_ | refine callN_new (by with_reducible first | exact c_BareBody s.me ssm vsm) ?_ | refine callM_flat (by with_reducible first | exact c_BareBody s.me ssm vsm) rfl ?_ | refine callM_new (by with_reducible first | exact c_BareBody s.me ssm vsm) ?_)
    simp
    have bv := bare_vld vsm
    have bs := vld_smallB bv
    have k4 := c_StillMotion (bareB s.me) bs bv
    simp only [Mot.cp, Mot.cpc, Mot.cpm, Bod.av, Bod.cells, cSs_nil, List.length_nil, List.length_replicate] at k4
    (first | refine callG_r ?_ | refine callD_r ?_); simp; (first | refine callN_flat (by with_reducible first | exact k4) rfl ?_ | refine callN_new (by with_reducible first | exact k4) ?_ | refine callM_flat (by with_reducible first | exact k4) rfl ?_ | refine callM_new (by with_reducible first | exact k4) ?_)
    simp
    have bvH : vldH (bareB s.me) [] = true := by unfold vldH; rw [bv]; rfl
    have o1 : overB 1065353216 = true := by decide +kernel
    have o3 : overB 1077936128 = true := by decide +kernel
    have k5 := c_StepMotion (stillM s.me) [] 1065353216 1065353216 1065353216 bs bvH (by simp) (by decide) o1 o1
    have e5 := still_energy hsm
    have t5 := fun (i : Nat) hi hi2 => still_stays (i := i) hsm hi hi2
    have l5 := stpM_len (stillM s.me) [] 1065353216 1065353216 1065353216
    have l6 := stpM_spl (stillM s.me) [] 1065353216 1065353216 1065353216
    have s5 := stpM_small (m := stillM s.me) (held := []) (mass := 1065353216) (damp := 1065353216) (tick := 1065353216) bs
    have v5 := stpM_vld (m := stillM s.me) (held := []) (mass := 1065353216) (damp := 1065353216) (tick := 1065353216) bv
    generalize stpM (stillM s.me) [] 1065353216 1065353216 1065353216 = Q at *
    have l5 : Q.bo.me.pl.length = s.me.pl.length := l5
    have l6 : Q.sp.length = s.me.pl.length := l6
    have k6 := c_SpeedEnergy Q 1077936128 s5 v5 (by omega) o3
    have hsl := vld64 vsm
    simp only [Mot.av, Mot.cells, bareB, cSs_nil, cIs_nil, List.length_nil, List.length_replicate] at k5
    (first | refine callG_r ?_ | refine callD_r ?_); simp; (first | refine callN_flat (by with_reducible first | exact k5) rfl ?_ | refine callN_new (by with_reducible first | exact k5) ?_ | refine callM_flat (by with_reducible first | exact k5) rfl ?_ | refine callM_new (by with_reducible first | exact k5) ?_)
    simp
    (first | refine callG_r ?_ | refine callD_r ?_); simp; (first | refine callN_flat (by with_reducible first | exact k6) rfl ?_ | refine callN_new (by with_reducible first | exact k6) ?_ | refine callM_flat (by with_reducible first | exact k6) rfl ?_ | refine callM_new (by with_reducible first | exact k6) ?_)
    simp [e5, l5]
    refine loopG_of (α := Nat) (fun i => i ≤ s.me.pl.length) (fun i => s.me.pl.length - i) (fun i => [(201, .int .i64 i), (200, .int .i64 s.me.pl.length), (25, .ptr 10 0), (20, .ptr 4 0)])
      (fun i => s.cpm ++ [.blk true true 34 [.slc 0 0 s.me.pl.length 3, .slc 1 0 s.me.tr.length 1, .slc 2 0 s.sp.length 4, .flt .f32 s.film, .flt .f32 s.bend, .slc 3 0 s.w.length 1, .flt .f32 s.fall.1, .flt .f32 s.fall.2.1, .flt .f32 s.fall.2.2]] ++ Q.cpm ++ [.blk true true 52 (Q.cpc 5)]) 0 (by simp) ?_ fun i hi => ?_
    · (refine weak_gc [(some 14, 0), (some 15, 0), (some 16, 0), (some 17, 0), (some 18, 0), (some 29, 0), (some 30, 0), (some 31, 0), (some 32, 0), (some 33, 0), (some 34, 0)] ?_ ?_ ?_ ?_ ?_ <;> simp [l5])
    have hwi := nat_wrap (k := i) (by omega)
    by_cases c3 : i < s.me.pl.length
    · have c4 : i < Q.bo.me.pl.length := by omega
      have hva := t5 i c3 c4
      simp [c3, c4, hwi]
      (first | refine callG_r ?_ | refine callD_r ?_); simp; (first | refine callN_flat (by with_reducible first | exact c_b10VAlike hva) rfl ?_ | refine callN_new (by with_reducible first | exact c_b10VAlike hva) ?_ | refine callM_flat (by with_reducible first | exact c_b10VAlike hva) rfl ?_ | refine callM_new (by with_reducible first | exact c_b10VAlike hva) ?_)
      simp [hwi]
      refine loopK_next (i + 1) (by omega) (by omega) ?_
      (refine weak_gc [(some 0, 0), (some 1, 0), (some 2, 0), (some 3, 0), (some 4, 0), (some 5, 0), (some 6, 0), (some 7, 0), (some 8, 0), (some 9, 0), (some 10, 0)] ?_ ?_ ?_ ?_ ?_ <;> simp [hwi])
    obtain rfl : i = s.me.pl.length := by omega
    simp
end Go.Proofs.YtnjpigkijdnpkaaGreat
