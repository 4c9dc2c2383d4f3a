/- The law of pinned places.
Conditions: none. -/
import Derived.Test.YtbjfkhjckfodbaaVPN1
import Derived.Test.YtbjfkhjckfodbaaSC
import Derived.Test.YtbjfkhjckfodbaaCan
namespace Go.Proofs.Ytbjfkhjckfodbaa
set_option linter.all false
open Go Go.Awp
set_option maxRecDepth 100000
set_option maxHeartbeats 16000000
set_option pp.deepTerms true

theorem g22_thr : (gridC 2 2 1065353216).th.all (thrB 9) = true ∧ (gridC 2 2 1065353216).th.length ≤ 256 := by decide +kernel
theorem drawn_vld {C : Clo} (h : R8n 9 C.pl C.pin) (h1 : C.ol = g22.ol) (h2 : C.th = g22.th) : vldC C = true := by
  have hP : C.pl.length = 9 := by rw [h.len]; exact g22_len
  have ho : g22.ol.length = 9 := g22_ol
  unfold vldC
  simp only [hP, h1, h2, ho, Bool.and_eq_true, decide_eq_true_eq]
  exact ⟨⟨⟨⟨by omega, trivial⟩, g22_thr.2⟩, g22_thr.1⟩, h.pin⟩
theorem drawn_small {C : Clo} (h : R8n 9 C.pl C.pin) (h1 : C.ol = g22.ol) (h2 : C.th = g22.th) : C.Small := by
  have hP : C.pl.length = 9 := by rw [h.len]; exact g22_len
  have ho : g22.ol.length = 9 := g22_ol
  have ht : g22.th.length ≤ 256 := g22_thr.2
  have := h.few
  exact ⟨by omega, by rw [h1]; omega, by rw [h2]; omega, by omega⟩
theorem c_SameVectorN (v : V) : Fun Try.prog 12 [aV v, aV v] [] (.bool true) [] := fn_can fun hc => by
  have hv : CanV v := by
    obtain ⟨x, y, z⟩ := v
    have := hc (aV (x, y, z)) (by simp)
    simp only [aV, canA, List.mem_cons, List.not_mem_nil, or_false, forall_eq_or_imp, forall_eq] at this
    exact this
  have h := c_SameVector hv hv
  rw [decide_eq_true rfl] at h
  exact h
theorem canV_mem {l : List V} {n : Nat} (hn : n = l.length) (h : canA 3 (.view false (cVs l) n)) : ∀ v ∈ l, CanV v := by
  intro v hv
  subst hn
  have hl : l.length ≠ 0 := fun e => by rw [List.length_eq_zero_iff] at e; subst e; cases hv
  rcases h with h | h
  · exact absurd h hl
  · obtain ⟨x, y, z⟩ := v
    have hm : ∀ a ∈ eV (x, y, z), canA 2 a := fun a ha => h a (List.mem_flatMap.2 ⟨_, hv, ha⟩)
    have := hm
    simp only [eV, canA, List.mem_cons, List.not_mem_nil, or_false, forall_eq_or_imp, forall_eq] at this
    exact this
theorem canT_mem {l : List Th} {n : Nat} (hn : n = l.length) (h : canA 3 (.view false (cTs l) n)) : ∀ v ∈ l, CanF .f32 v.2.2 := by
  intro v hv
  subst hn
  have hl : l.length ≠ 0 := fun e => by rw [List.length_eq_zero_iff] at e; subst e; cases hv
  rcases h with h | h
  · exact absurd h hl
  · obtain ⟨x, y, z⟩ := v
    have hm : ∀ a ∈ eT (x, y, z), canA 2 a := fun a ha => h a (List.mem_flatMap.2 ⟨_, hv, ha⟩)
    have := hm
    simp only [eT, canA, List.mem_cons, List.not_mem_nil, or_false, forall_eq_or_imp, forall_eq] at this
    exact this.2.2
theorem c_SameClothE (c : Clo) (hs : c.Small) (hv : vldC c = true) : Fun Try.prog 15 [c.av, c.av] [] (.bool true) [] := fn_can fun hc => by
  have hl := vld_len hv
  have hk : c.Can := by
    have := hc c.av (by simp)
    have h4 : ∀ a ∈ [AV.view false (cVs c.pl) c.pl.length, .view false (cVs c.ol) c.ol.length, .view false (cTs c.th) c.th.length, .view false (cIs c.pin) c.pin.length], canA 3 a := this
    refine ⟨canV_mem rfl (h4 _ (by simp)), canV_mem rfl (h4 (.view false (cVs c.ol) c.ol.length) (by simp)), fun t ht => ?_, fun p hp => ?_⟩
    · have hf := canT_mem rfl (h4 (.view false (cTs c.th) c.th.length) (by simp)) t ht
      obtain ⟨i1, i2, i3, i4, _⟩ := vld_th hv t ht
      refine ⟨⟨?_, ?_⟩, ⟨?_, ?_⟩, hf⟩ <;> omega
    · have hq := vld_pins hv p hp
      constructor <;> omega
  have h := c_SameCloth c c hs hs hk hk
  rw [show sameC c c = true by simp [sameC]] at h
  exact h
theorem c_r8AtK1 (l : List Nat) (k n : Nat) (hb : ∀ b ∈ l, b < 256) (hl : l.length ≤ 48) (hn : 0 < n) (hn2 : n ≤ 64) : ∃ x : Nat, x < n ∧ Fun Try.prog 10 [.view false (cBy l) l.length, .int .i64 k, .int .i64 n] [] (.int .i64 x) [] := by
  by_cases h : n = 1
  · subst h
    refine ⟨0, by omega, ?_⟩
    refine FnSpec.walkF dr_ok Try.func10 rfl (by kernel_rfl) rfl rfl rfl (by simp) ?_
    simp
  · exact c_r8AtK l k n hb hl (by omega) hn2
theorem law_FnPinned (l m0 : List Nat) (hb : ∀ b ∈ l, b < 256) (hb' : ∀ b ∈ m0, b < 256) (h1 : l.length ≤ maxLen) (h2 : m0.length ≤ maxLen) : FnSpec Try.prog 4 [.view false (cBy l) l.length, .view false (cBy m0) m0.length] [] fun av _ => av = .bool true := by
  refine FnSpec.walkF dr_ok Try.func4 rfl (by kernel_rfl) rfl rfl rfl (by simp) ?_
  simp
  (first | refine callG_r ?_ | refine callD_r ?_); simp; (first | refine callN_flat (by with_reducible first | exact c_r8Long l m0 h1 h2) rfl ?_ | refine callN_new (by with_reducible first | exact c_r8Long l m0 h1 h2) ?_ | refine callM_flat (by with_reducible first | exact c_r8Long l m0 h1 h2) rfl ?_ | refine callM_new (by with_reducible first | exact c_r8Long l m0 h1 h2) ?_)
  simp
  intro q1 q2
  refine callG_on false [] ?_; simp; refine callN_all (by with_reducible exact c_R8Cloth l _ rfl (by omega) hb) ?_; rintro _ _ ⟨C, hR, ho, ht, rfl, rfl⟩; refine ⟨fun e => (by cases e), ?_⟩; simp
  have hP : C.pl.length = 9 := by rw [hR.len]; exact g22_len
  have hvc := drawn_vld hR ho ht
  have hs := drawn_small hR ho ht
  obtain ⟨k0, hk0, c0⟩ := c_r8AtK m0 0 5 hb' (by omega) (by omega) (by omega)
  obtain ⟨u, hu, c1⟩ := c_r8AtK m0 1 6 hb' (by omega) (by omega) (by omega)
  obtain ⟨r, hr, c2⟩ := c_r8AtK m0 2 4 hb' (by omega) (by omega) (by omega)
  obtain ⟨n, hn, c3⟩ := c_r8AtK m0 3 5 hb' (by omega) (by omega) (by omega)
  obtain ⟨j, hj, c4⟩ := c_r8AtK1 m0 4 (n + 1) hb' (by omega) (by omega) (by omega)
  have c0 : Fun Try.prog 10 [.view false (cBy m0) m0.length, .int .i64 0, .int .i64 5] [] (.int .i64 k0) [] := c0
  have c1 : Fun Try.prog 10 [.view false (cBy m0) m0.length, .int .i64 1, .int .i64 6] [] (.int .i64 u) [] := c1
  have c2 : Fun Try.prog 10 [.view false (cBy m0) m0.length, .int .i64 2, .int .i64 4] [] (.int .i64 r) [] := c2
  have c3 : Fun Try.prog 10 [.view false (cBy m0) m0.length, .int .i64 3, .int .i64 5] [] (.int .i64 n) [] := c3
  have c4 : Fun Try.prog 10 [.view false (cBy m0) m0.length, .int .i64 4, .int .i64 ((n : Int) + 1)] [] (.int .i64 j) [] := c4
  have ok := rad_ok hu
  have w1 : IntKind.i64.wrap (1 + (u : Int)) = 1 + (u : Int) := wrap64 (by omega) (by omega)
  have w2 : IntKind.i64.wrap ((n : Int) + 1) = (n : Int) + 1 := wrap64 (by omega) (by omega)
  have w3 : IntKind.i64.wrap ((n : Int) - (j : Int)) = ((n - j : Nat) : Int) := by rw [wrap64 (by omega) (by omega)]; omega
  (first | refine callG_r ?_ | refine callD_r ?_); simp; (first | refine callN_flat (by with_reducible first | exact c0) rfl ?_ | refine callN_new (by with_reducible first | exact c0) ?_ | refine callM_flat (by with_reducible first | exact c0) rfl ?_ | refine callM_new (by with_reducible first | exact c0) ?_)
  simp
  (first | refine callG_r ?_ | refine callD_r ?_); simp; (first | refine callN_flat (by with_reducible first | exact c1) rfl ?_ | refine callN_new (by with_reducible first | exact c1) ?_ | refine callM_flat (by with_reducible first | exact c1) rfl ?_ | refine callM_new (by with_reducible first | exact c1) ?_)
  simp [w1]
  (first | refine callG_r ?_ | refine callD_r ?_); simp; (first | refine callN_flat (by with_reducible first | exact c2) rfl ?_ | refine callN_new (by with_reducible first | exact c2) ?_ | refine callM_flat (by with_reducible first | exact c2) rfl ?_ | refine callM_new (by with_reducible first | exact c2) ?_)
  simp
  (first | refine callG_r ?_ | refine callD_r ?_); simp; (first | refine callN_flat (by with_reducible first | exact c3) rfl ?_ | refine callN_new (by with_reducible first | exact c3) ?_ | refine callM_flat (by with_reducible first | exact c3) rfl ?_ | refine callM_new (by with_reducible first | exact c3) ?_)
  simp [w2]
  (first | refine callG_r ?_ | refine callD_r ?_); simp; (first | refine callN_flat (by with_reducible first | exact c4) rfl ?_ | refine callN_new (by with_reducible first | exact c4) ?_ | refine callM_flat (by with_reducible first | exact c4) rfl ?_ | refine callM_new (by with_reducible first | exact c4) ?_)
  simp
  have hx : (⟨(0, 0, fop .quo .f32 (fneg .f32 (fint .f32 (k0 : Int))) 1098907648), 1056964608, r, oB, radW u⟩ : Rn) = ⟨(0, 0, fop .quo .f32 (fneg .f32 (fint .f32 (k0 : Int))) 1098907648), 1056964608, ((r : Nat) : Int).toNat, oB, radW u⟩ := by simp
  have r40 : inB r 0 40 = true := by simp [inB]; omega
  have n40 : inB n 0 40 = true := by simp [inB]; omega
  have j40 : inB j 0 40 = true := by simp [inB]; omega
  have d40 : inB ((n - j : Nat) : Int) 0 40 = true := by simp only [inB, Bool.and_eq_true, decide_eq_true_eq]; omega
  have o40 : inB 1 0 40 = true := by decide
  have kE := c_RunCloth C (0, 0, fop .quo .f32 (fneg .f32 (fint .f32 (k0 : Int))) 1098907648) 1056964608 r oB (radW u) n hs (by rw [hvc, r40, ok.ov, n40]; rfl)
  have kM := c_RunCloth C (0, 0, fop .quo .f32 (fneg .f32 (fint .f32 (k0 : Int))) 1098907648) 1056964608 r oB (radW u) j hs (by rw [hvc, r40, ok.ov, j40]; rfl)
  have kS := c_StepCloth C (0, 0, fop .quo .f32 (fneg .f32 (fint .f32 (k0 : Int))) 1098907648) 1056964608 r oB (radW u) hs (by rw [hvc, r40, ok.ov]; rfl)
  have kO := c_RunCloth C (0, 0, fop .quo .f32 (fneg .f32 (fint .f32 (k0 : Int))) 1098907648) 1056964608 r oB (radW u) 1 hs (by rw [hvc, r40, ok.ov, o40]; rfl)
  have eO : stepC' C (0, 0, fop .quo .f32 (fneg .f32 (fint .f32 (k0 : Int))) 1098907648) 1056964608 r oB (radW u) = runC C ⟨(0, 0, fop .quo .f32 (fneg .f32 (fint .f32 (k0 : Int))) 1098907648), 1056964608, ((r : Nat) : Int).toNat, oB, radW u⟩ (1 : Int).toNat := rfl
  rw [eO] at kS
  have hth : ∀ t ∈ C.th, 0 ≤ t.1 ∧ 0 ≤ t.2.1 := fun t htt => ⟨(vld_th hvc t htt).1, (vld_th hvc t htt).2.2.1⟩
  obtain ⟨x, hxd⟩ : ∃ x : Rn, x = ⟨(0, 0, fop .quo .f32 (fneg .f32 (fint .f32 (k0 : Int))) 1098907648), 1056964608, ((r : Nat) : Int).toNat, oB, radW u⟩ := ⟨_, rfl⟩
  rw [← hxd] at kE kM kS kO
  rw [Int.toNat_natCast] at kE kM
  have lM := run_like C x j
  have lE := run_like C x n
  have lO := run_like C x (1 : Int).toNat
  have vM := lM.vld
  rw [hvc] at vM
  have kL := c_RunCloth (runC C x j) (0, 0, fop .quo .f32 (fneg .f32 (fint .f32 (k0 : Int))) 1098907648) 1056964608 r oB (radW u) ((n - j : Nat) : Int) (lM.small hs) (by rw [vM, r40, ok.ov, d40]; rfl)
  rw [← hxd, Int.toNat_natCast, run_add, show j + (n - j) = n by omega] at kL
  have vE := lE.vld
  rw [hvc] at vE
  have vO := lO.vld
  rw [hvc] at vO
  have pE : ∀ i : Nat, (i : Int) ∈ C.pin → (runC C x n).pl[i]? = C.pl[i]? ∧ (runC C x n).ol[i]? = C.ol[i]? := fun i hi => run_pin hth hi n
  have sE := lE.small hs
  have sM := lM.small hs
  have sO := lO.small hs
  generalize runC C x n = E at *
  generalize runC C x j = M at *
  generalize runC C x (1 : Int).toNat = O at *
  (first | refine callG_r ?_ | refine callD_r ?_); simp; (first | refine callN_flat (by with_reducible first | exact kE) rfl ?_ | refine callN_new (by with_reducible first | exact kE) ?_ | refine callM_flat (by with_reducible first | exact kE) rfl ?_ | refine callM_new (by with_reducible first | exact kE) ?_)
  simp
  (first | refine callG_r ?_ | refine callD_r ?_); simp; (first | refine callN_flat (by with_reducible first | exact kM) rfl ?_ | refine callN_new (by with_reducible first | exact kM) ?_ | refine callM_flat (by with_reducible first | exact kM) rfl ?_ | refine callM_new (by with_reducible first | exact kM) ?_)
  simp [w3]
  (first | refine callG_r ?_ | refine callD_r ?_); simp; (first | refine callN_flat (by with_reducible first | exact kL) rfl ?_ | refine callN_new (by with_reducible first | exact kL) ?_ | refine callM_flat (by with_reducible first | exact kL) rfl ?_ | refine callM_new (by with_reducible first | exact kL) ?_)
  simp
  (first | refine callG_r ?_ | refine callD_r ?_); simp; (first | refine callN_flat (by with_reducible first | exact c_ValidCloth E sE) rfl ?_ | refine callN_new (by with_reducible first | exact c_ValidCloth E sE) ?_ | refine callM_flat (by with_reducible first | exact c_ValidCloth E sE) rfl ?_ | refine callM_new (by with_reducible first | exact c_ValidCloth E sE) ?_)
  simp [vE]
  (first | refine callG_r ?_ | refine callD_r ?_); simp; (first | refine callN_flat (by with_reducible first | exact c_SameClothE E sE vE) rfl ?_ | refine callN_new (by with_reducible first | exact c_SameClothE E sE vE) ?_ | refine callM_flat (by with_reducible first | exact c_SameClothE E sE vE) rfl ?_ | refine callM_new (by with_reducible first | exact c_SameClothE E sE vE) ?_)
  simp
  refine ⟨by rw [lE.pl], fun _ => ?_⟩
  have hpin := vld_pins hvc
  refine loopG_of (α := Nat) (fun i => i ≤ C.pin.length) (fun i => C.pin.length - i) (fun i => [(18, .int .i64 i), (12, .ptr 11 0), (9, .int .i64 r), (8, .flt .f32 (radW u)), (7, .ptr 6 0), (6, .ptr 5 0), (5, .ptr 4 0)])
    (fun i => [.blk true false 38 (cVs C.pl), .blk true false 38 (cVs C.ol), .blk true false 33 (cTs C.th), .blk true false 2 (cIs C.pin),
      .blk true true 28 [.slc 0 0 C.pl.length 3, .slc 1 0 C.ol.length 3, .slc 2 0 C.th.length 3, .slc 3 0 C.pin.length 1],
      .blk true true 38 [.flt .f32 0, .flt .f32 0, .flt .f32 (fop .quo .f32 (fneg .f32 (fint .f32 (k0 : Int))) 1098907648)],
      .blk true true 38 [.flt .f32 1065353216, .flt .f32 1065353216, .flt .f32 3212836864],
      .blk true false 38 (cVs E.pl), .blk true false 38 (cVs E.ol), .blk true false 33 (cTs E.th), .blk true false 2 (cIs E.pin),
      .blk true true 28 [.slc 7 0 E.pl.length 3, .slc 8 0 E.ol.length 3, .slc 9 0 E.th.length 3, .slc 10 0 E.pin.length 1]]) 0 (by simp) ?_ fun i hi => ?_
  · (refine weak_gc [(some 0, 0), (some 1, 0), (some 2, 0), (some 3, 0), (some 4, 0), (some 5, 0), (some 6, 0), (some 7, 0), (some 8, 0), (some 9, 0), (some 10, 0), (some 11, 0)] ?_ ?_ ?_ ?_ ?_ <;> simp)
  have hpl := hs.pin
  have hwi := nat_wrap (k := i) (by omega)
  by_cases c : i < C.pin.length
  · obtain ⟨b1, b2⟩ := hpin _ (List.getElem_mem c)
    obtain ⟨k, ek⟩ : ∃ k : Nat, C.pin[i] = (k : Int) := ⟨C.pin[i].toNat, by omega⟩
    have hm : (k : Int) ∈ C.pin := by rw [← ek]; exact List.getElem_mem c
    rw [ek] at b1 b2
    have kC : k < C.pl.length := by omega
    have hol : C.ol.length = C.pl.length := (vld_len hvc).2.1
    have kO' : k < C.ol.length := by omega
    have kE1 : k < E.pl.length := by rw [lE.pl]; exact kC
    have kE2 : k < E.ol.length := by rw [lE.ol]; exact kO'
    obtain ⟨p1, p2⟩ := pE k hm
    rw [List.getElem?_eq_getElem kE1, List.getElem?_eq_getElem kC] at p1
    rw [List.getElem?_eq_getElem kE2, List.getElem?_eq_getElem kO'] at p2
    have p1 := Option.some.inj p1
    have p2 := Option.some.inj p2
    simp [c, ek, kC, kE1, p1]
    (first | refine callG_r ?_ | refine callD_r ?_); simp; (first | refine callN_flat (by with_reducible first | exact c_SameVectorN _) rfl ?_ | refine callN_new (by with_reducible first | exact c_SameVectorN _) ?_ | refine callM_flat (by with_reducible first | exact c_SameVectorN _) rfl ?_ | refine callM_new (by with_reducible first | exact c_SameVectorN _) ?_)
    simp [c, ek, kO', kE2, p2]
    (first | refine callG_r ?_ | refine callD_r ?_); simp; (first | refine callN_flat (by with_reducible first | exact c_SameVectorN _) rfl ?_ | refine callN_new (by with_reducible first | exact c_SameVectorN _) ?_ | refine callM_flat (by with_reducible first | exact c_SameVectorN _) rfl ?_ | refine callM_new (by with_reducible first | exact c_SameVectorN _) ?_)
    simp [hwi]
    refine loopK_next (i + 1) (by omega) (by omega) ?_
    (refine weak_gc [(some 0, 0), (some 1, 0), (some 2, 0), (some 3, 0), (some 4, 0), (some 5, 0), (some 6, 0), (some 7, 0), (some 8, 0), (some 9, 0), (some 10, 0), (some 11, 0)] ?_ ?_ ?_ ?_ ?_ <;> simp [hwi])
  obtain rfl : i = C.pin.length := by omega
  simp
  have kD := c_DrapeCloth E oB (radW u) sE (by rw [vE, ok.ov]; rfl)
  have lD : Like (drapeC E oB (radW u)) E := ⟨drapeC_pl _ _ _, rfl, rfl, rfl⟩
  have sD := lD.small sE
  have vD := lD.vld
  rw [vE] at vD
  have kI := c_InsideBall (drapeC E oB (radW u)) oB (fop .mul .f32 1065336439 (radW u)) sD (by rw [vD, ok.ov2]; rfl)
  have hI : ∀ p ∈ insL (drapeC E oB (radW u)) oB (fop .mul .f32 1065336439 (radW u)) (drapeC E oB (radW u)).pl.length, p ∈ C.pin := fun p hp => by
    rw [← lE.pin]
    exact ins_pin hu _ (by rw [lD.pl]; exact Nat.le_refl _) p hp
  have hIl := insL_le (drapeC E oB (radW u)) oB (fop .mul .f32 1065336439 (radW u)) (drapeC E oB (radW u)).pl.length
  have lDC : (drapeC E oB (radW u)).pl.length = C.pl.length := by rw [lD.pl, lE.pl]
  generalize insL (drapeC E oB (radW u)) oB (fop .mul .f32 1065336439 (radW u)) (drapeC E oB (radW u)).pl.length = I at *
  generalize drapeC E oB (radW u) = D at *
  simp only [Clo.av] at kD kI
  (first | refine callG_r ?_ | refine callD_r ?_); simp; (first | refine callN_flat (by with_reducible first | exact kD) rfl ?_ | refine callN_new (by with_reducible first | exact kD) ?_ | refine callM_flat (by with_reducible first | exact kD) rfl ?_ | refine callM_new (by with_reducible first | exact kD) ?_)
  simp
  (first | refine callG_r ?_ | refine callD_r ?_); simp; (first | refine callN_flat (by with_reducible first | exact kI) rfl ?_ | refine callN_new (by with_reducible first | exact kI) ?_ | refine callM_flat (by with_reducible first | exact kI) rfl ?_ | refine callM_new (by with_reducible first | exact kI) ?_)
  simp
  refine loopG_of (α := Nat) (fun i => i ≤ I.length) (fun i => I.length - i) (fun i => [(24, .int .i64 i), (22, .slc 7 0 I.length 1), (9, .int .i64 r), (8, .flt .f32 (radW u)), (7, .ptr 6 0), (6, .ptr 5 0), (5, .ptr 4 0)])
    (fun i => [.blk true false 38 (cVs C.pl), .blk true false 38 (cVs C.ol), .blk true false 33 (cTs C.th), .blk true false 2 (cIs C.pin),
      .blk true true 28 [.slc 0 0 C.pl.length 3, .slc 1 0 C.ol.length 3, .slc 2 0 C.th.length 3, .slc 3 0 C.pin.length 1],
      .blk true true 38 [.flt .f32 0, .flt .f32 0, .flt .f32 (fop .quo .f32 (fneg .f32 (fint .f32 (k0 : Int))) 1098907648)],
      .blk true true 38 [.flt .f32 1065353216, .flt .f32 1065353216, .flt .f32 3212836864],
      .blk true false 2 (cIs I)]) 0 (by simp) ?_ fun i hi => ?_
  · (refine weak_gc [(some 0, 0), (some 1, 0), (some 2, 0), (some 3, 0), (some 4, 0), (some 5, 0), (some 6, 0), (some 17, 0)] ?_ ?_ ?_ ?_ ?_ <;> simp)
  have hwi := nat_wrap (k := i) (by omega)
  by_cases c : i < I.length
  · have hm := hI _ (List.getElem_mem c)
    have hA : (C.pin.any fun x => x == I[i]) = true := by rw [List.any_eq_true]; exact ⟨_, hm, by simp⟩
    have kA := c_r8In C.pin I[i] hs.pin
    rw [hA] at kA
    simp [c]
    (first | refine callG_r ?_ | refine callD_r ?_); simp; (first | refine callN_flat (by with_reducible first | exact kA) rfl ?_ | refine callN_new (by with_reducible first | exact kA) ?_ | refine callM_flat (by with_reducible first | exact kA) rfl ?_ | refine callM_new (by with_reducible first | exact kA) ?_)
    simp [hwi]
    refine loopK_next (i + 1) (by omega) (by omega) ?_
    (refine weak_gc [(some 0, 0), (some 1, 0), (some 2, 0), (some 3, 0), (some 4, 0), (some 5, 0), (some 6, 0), (some 7, 0)] ?_ ?_ ?_ ?_ ?_ <;> simp [hwi])
  obtain rfl : i = I.length := by omega
  simp
  (first | refine callG_r ?_ | refine callD_r ?_); simp; (first | refine callN_flat (by with_reducible first | exact kS) rfl ?_ | refine callN_new (by with_reducible first | exact kS) ?_ | refine callM_flat (by with_reducible first | exact kS) rfl ?_ | refine callM_new (by with_reducible first | exact kS) ?_)
  simp
  (first | refine callG_r ?_ | refine callD_r ?_); simp; (first | refine callN_flat (by with_reducible first | exact kO) rfl ?_ | refine callN_new (by with_reducible first | exact kO) ?_ | refine callM_flat (by with_reducible first | exact kO) rfl ?_ | refine callM_new (by with_reducible first | exact kO) ?_)
  simp
  (first | refine callG_r ?_ | refine callD_r ?_); simp; (first | refine callN_flat (by with_reducible first | exact c_SameClothE O sO vO) rfl ?_ | refine callN_new (by with_reducible first | exact c_SameClothE O sO vO) ?_ | refine callM_flat (by with_reducible first | exact c_SameClothE O sO vO) rfl ?_ | refine callM_new (by with_reducible first | exact c_SameClothE O sO vO) ?_)
  simp
end Go.Proofs.Ytbjfkhjckfodbaa
