/- The law of tears.
Conditions: none. -/
import Derived.Test.YtnjpigkijdnpkaaZ6
namespace Go.Proofs.Ytnjpigkijdnpkaa
set_option linter.all false
open Go Go.Awp
set_option maxRecDepth 100000
set_option maxHeartbeats 8000000
set_option pp.deepTerms true

def mostQ (x : Nat) : Nat := fop .quo .f32 (fint .f32 (2 + (x : Int))) 1082130432
theorem most0 : ∀ x ∈ List.range 8, ¬ gtW 0 (mostQ x) := by decide +kernel
theorem vld_tear {C : Clo} {q : Nat} (h : vldC C = true) : vldC (tearC C q) = true := by
  have hle := keptT_le C q C.th
  unfold vldC at h ⊢
  rw [Bool.and_eq_true, Bool.and_eq_true, Bool.and_eq_true] at h ⊢
  obtain ⟨⟨⟨h1, h2⟩, h3⟩, h4⟩ := h
  refine ⟨⟨⟨h1, ?_⟩, ?_⟩, h4⟩
  · rw [decide_eq_true_eq] at h2 ⊢
    show (keptT C q C.th).length ≤ 256
    omega
  · rw [List.all_eq_true] at h3 ⊢
    exact fun t ht => h3 t (List.mem_filter.1 ht).1
theorem pl_can {P : List V} {L : List Int} (h : R8n 9 P L) : ∀ p ∈ P, CanV p := by
  intro p hp
  obtain ⟨i, hi, rfl⟩ := List.getElem_of_mem hp
  have h9 : (gridC 2 2 1065353216).pl.length = 9 := g22_len
  have hP : P.length = 9 := by rw [h.len]; exact h9
  obtain ⟨u, v, w, _, _, _, e⟩ := h.old i hi (by show i < (gridC 2 2 1065353216).pl.length; omega) (by omega)
  rw [e]
  have key : ∀ a b : Nat, CanF .f32 (fop .add .f32 a b) := fun a b => by
    unfold fop
    cases h : floatBits .add .f32 a b with
    | some r =>
      have hw := floatBits_wf h
      have hl : r < 4294967296 := by simpa [Lit.wf] using hw
      exact ⟨cn_num (floatBits_num h), hl⟩
    | none => exact ⟨cn_nan (nanB_qnan .f32), qnan_lt .f32⟩
  exact ⟨key _ _, key _ _, key _ _⟩
theorem g22_z : ∀ (i : Nat) (h : i < (gridC 2 2 1065353216).pl.length), (gridC 2 2 1065353216).pl[i].2.2 = 0 := by
  have key : (gridC 2 2 1065353216).pl.all (fun p => p.2.2 == 0) = true := by decide +kernel
  intro i h
  have := List.all_eq_true.1 key _ (List.getElem_mem h)
  simpa using this
theorem eqTy_V : EqTy Try.prog 32 := by
  refine ⟨by kernel_rfl, fun a b c a' b' c' w => ?_⟩
  have hS : Try.prog.underlying 32 = some (.struct (Try.prog.fieldsOf 32)) := by kernel_rfl
  have hp : Try.prog.stoodInHeld 32 = false := by kernel_rfl
  have u3 := Try.underlying29
  have a3 := Try.isAgg29
  have z3 := Try.sizeOf29
  have hq : ∀ (d : Nat) (a b : Nat) (w : World), (Op.equalIn (d + 1) 29 (.float .f32 a) (.float .f32 b)).run Try.prog w = .ok (ford .f32 a b == some .eq) w := fun d a b w => by
    simp [Op.equalIn, run_underlying u3, Op.floatEq, ford]
  rw [show (10000 : Nat) = 9998 + 1 + 1 from rfl, run_equalIn_agg w 9999 _ _ _ hS hp]
  simp only [Program.fieldsOf, Try.underlying32]
  go_simp
  by_cases h1 : ford .f32 a a' = some .eq <;> by_cases h2 : ford .f32 b b' = some .eq <;> by_cases h3 : ford .f32 c c' = some .eq <;> simp [h1, h2, h3]
attribute [simp] eqTy_V
theorem cV_at1 {l : List V} {v : V} (h : l[1]? = some v) : List.take 3 (List.drop 3 (cVs l)) = [.flt .f32 v.1, .flt .f32 v.2.1, .flt .f32 v.2.2] := by
  match l, h with
  | _ :: b :: _, h => cases h; rfl
theorem cV_at0 {l : List V} {v : V} (h : l[0]? = some v) : List.take 3 (cVs l) = [.flt .f32 v.1, .flt .f32 v.2.1, .flt .f32 v.2.2] := by
  match l, h with
  | b :: _, h => cases h; rfl
theorem law_FnTorn (l m0 : List Nat) (hb : ∀ b ∈ l, b < 256) (hb' : ∀ b ∈ m0, b < 256) (h1 : l.length ≤ maxLen) (h2 : m0.length ≤ maxLen) : FnSpec Try.prog 5 [.view false (cBy l) l.length, .view false (cBy m0) m0.length] [] fun av _ => av = .bool true := by
  refine FnSpec.walkF dr_ok Try.func5 rfl (by kernel_rfl) rfl rfl rfl (by simp) ?_
  simp
  (first | refine callG_r ?_ | refine callD_r ?_); simp; (first | refine callN_flat (by with_reducible first | exact c_r8Long l m0 h1 h2) rfl ?_ | refine callN_new (by with_reducible first | exact c_r8Long l m0 h1 h2) ?_ | refine callM_flat (by with_reducible first | exact c_r8Long l m0 h1 h2) rfl ?_ | refine callM_new (by with_reducible first | exact c_r8Long l m0 h1 h2) ?_)
  simp
  intro q1 q2
  refine callG_on false [] ?_; simp; refine callN_all (by with_reducible exact c_R8Cloth l _ rfl (by omega) hb) ?_; rintro _ _ ⟨C, hR, ho, ht, rfl, rfl⟩; refine ⟨fun e => (by cases e), ?_⟩; simp
  have hP : C.pl.length = 9 := by rw [hR.len]; exact g22_len
  have hvc := drawn_vld hR ho ht
  have hs := drawn_small hR ho ht
  obtain ⟨x, hx, hcx⟩ := c_r8AtK m0 0 8 hb' (by omega) (by omega) (by omega)
  have hcx' : Fun Try.prog 22 [.view false (cBy m0) m0.length, .int .i64 0, .int .i64 8] [] (.int .i64 x) [] := hcx
  have hwx : IntKind.i64.wrap (2 + (x : Int)) = 2 + (x : Int) := wrap64 (by omega) (by omega)
  have hq0 := most0 x (List.mem_range.2 hx)
  have hq : fop .quo .f32 (fint .f32 (2 + (x : Int))) 1082130432 = mostQ x := rfl
  (first | refine callG_r ?_ | refine callD_r ?_); simp; (first | refine callN_flat (by with_reducible first | exact hcx') rfl ?_ | refine callN_new (by with_reducible first | exact hcx') ?_ | refine callM_flat (by with_reducible first | exact hcx') rfl ?_ | refine callM_new (by with_reducible first | exact hcx') ?_)
  simp [hwx, hq]
  (first | refine callG_r ?_ | refine callD_r ?_); simp; (first | refine callN_flat (by with_reducible first | exact c_TearCloth C (mostQ x) hs hvc) rfl ?_ | refine callN_new (by with_reducible first | exact c_TearCloth C (mostQ x) hs hvc) ?_ | refine callM_flat (by with_reducible first | exact c_TearCloth C (mostQ x) hs hvc) rfl ?_ | refine callM_new (by with_reducible first | exact c_TearCloth C (mostQ x) hs hvc) ?_)
  simp
  have hvt : vldC (tearC C (mostQ x)) = true := vld_tear hvc
  have hst : (tearC C (mostQ x)).Small := tearC_small hs
  (first | refine callG_r ?_ | refine callD_r ?_); simp; (first | refine callN_flat (by with_reducible first | exact c_StretchOf (tearC C (mostQ x)) hst hvt) rfl ?_ | refine callN_new (by with_reducible first | exact c_StretchOf (tearC C (mostQ x)) hst hvt) ?_ | refine callM_flat (by with_reducible first | exact c_StretchOf (tearC C (mostQ x)) hst hvt) rfl ?_ | refine callM_new (by with_reducible first | exact c_StretchOf (tearC C (mostQ x)) hst hvt) ?_)
  simp
  (first | refine callG_r ?_ | refine callD_r ?_); simp; (first | refine callN_flat (by with_reducible first | exact c_StretchOf C hs hvc) rfl ?_ | refine callN_new (by with_reducible first | exact c_StretchOf C hs hvc) ?_ | refine callM_flat (by with_reducible first | exact c_StretchOf C hs hvc) rfl ?_ | refine callM_new (by with_reducible first | exact c_StretchOf C hs hvc) ?_)
  simp
  have hPos : 0 < C.pl.length := by omega
  have hch := fin_char (n := C.pl.length) (th := C.th) (by
    have := gi_groups (n := C.pl.length) C.th.length (th := C.th) (Nat.le_refl _) (vld_of hvc).ok
    rwa [List.take_length] at this)
  have hct := fin_char (n := (tearC C (mostQ x)).pl.length) (th := (tearC C (mostQ x)).th) (by
    have := gi_groups (n := (tearC C (mostQ x)).pl.length) (tearC C (mostQ x)).th.length (th := (tearC C (mostQ x)).th) (Nat.le_refl _) (vld_of hvt).ok
    rwa [List.take_length] at this)
  have hone : (fin (groups C.pl.length C.th) C.pl.length).2 = 1 := by rw [hP, ht]; exact g22_one
  have hkt := char_pos hct (by show 0 < C.pl.length; omega)
  have hcl := hch.len
  generalize fin (groups C.pl.length C.th) C.pl.length = F1 at *
  generalize fin (groups (tearC C (mostQ x)).pl.length (tearC C (mostQ x)).th) (tearC C (mostQ x)).pl.length = F2 at *
  (first | refine callG_r ?_ | refine callD_r ?_); simp; (first | refine callN_flat (by with_reducible first | exact c_Pieces C hs hvc hch) rfl ?_ | refine callN_new (by with_reducible first | exact c_Pieces C hs hvc hch) ?_ | refine callM_flat (by with_reducible first | exact c_Pieces C hs hvc hch) rfl ?_ | refine callM_new (by with_reducible first | exact c_Pieces C hs hvc hch) ?_)
  simp
  (first | refine callG_r ?_ | refine callD_r ?_); simp; (first | refine callN_flat (by with_reducible first | exact c_Pieces (tearC C (mostQ x)) hst hvt hct) rfl ?_ | refine callN_new (by with_reducible first | exact c_Pieces (tearC C (mostQ x)) hst hvt hct) ?_ | refine callM_flat (by with_reducible first | exact c_Pieces (tearC C (mostQ x)) hst hvt hct) rfl ?_ | refine callM_new (by with_reducible first | exact c_Pieces (tearC C (mostQ x)) hst hvt hct) ?_)
  simp [hone]
  have f1 : ¬ ford .f32 (mostL (tearC C (mostQ x)) (tearC C (mostQ x)).th.length) (mostQ x) = some .gt := torn_most C (mostQ x) hq0
  have f2 : ¬ ford .f32 (mostL (tearC C (mostQ x)) (tearC C (mostQ x)).th.length) (mostL C C.th.length) = some .gt := torn_whole C (mostQ x)
  have f3 : decide (0 < tornN C (mostQ x)) = (ford .f32 (mostL C C.th.length) (mostQ x) == some .gt) := by
    rw [Bool.eq_iff_iff, decide_eq_true_eq, beq_iff_eq]
    exact torn_some C (mostQ x) hq0
  have f4 : IntKind.i64.wrap (((tearC C (mostQ x)).th.length : Int) + tornN C (mostQ x)) = C.th.length := by
    have : ((tearC C (mostQ x)).th.length : Int) + tornN C (mostQ x) = C.th.length := by
      show ((keptT C (mostQ x) C.th).length : Int) + ((C.th.length : Int) - (keptT C (mostQ x) C.th).length) = C.th.length
      omega
    rw [this]
    exact wrap64 (by omega) (by have := hs.th; omega)
  refine ⟨fun _ => ⟨fun _ => ⟨fun _ => ⟨fun _ => ⟨fun _ => ?_, hkt⟩, f4⟩, f3⟩, f2⟩, f1⟩
  obtain ⟨r, hr, hcr⟩ := c_r8AtK m0 1 9 hb' (by omega) (by omega) (by omega)
  have hcr' : Fun Try.prog 22 [.view false (cBy m0) m0.length, .int .i64 1, .int .i64 9] [] (.int .i64 r) [] := hcr
  have hwr : IntKind.i64.wrap ((r : Int) - 4) = (r : Int) - 4 := wrap64 (by omega) (by omega)
  have hz : fop .quo .f32 (fint .f32 ((r : Int) - 4)) 1082130432 = dZ r := rfl
  (first | refine callG_r ?_ | refine callD_r ?_); simp; (first | refine callN_flat (by with_reducible first | exact hcr') rfl ?_ | refine callN_new (by with_reducible first | exact hcr') ?_ | refine callM_flat (by with_reducible first | exact hcr') rfl ?_ | refine callM_new (by with_reducible first | exact hcr') ?_)
  simp [hwr, hz]
  (first | refine callG_r ?_ | refine callD_r ?_); simp; (first | refine callN_flat (by with_reducible first | exact c_FloorCloth C (dZ r) hs hvc) rfl ?_ | refine callN_new (by with_reducible first | exact c_FloorCloth C (dZ r) hs hvc) ?_ | refine callM_flat (by with_reducible first | exact c_FloorCloth C (dZ r) hs hvc) rfl ?_ | refine callM_new (by with_reducible first | exact c_FloorCloth C (dZ r) hs hvc) ?_)
  simp
  have hfl : (floorC C (dZ r)).pl.length = C.pl.length := by simp [floorC]
  refine ⟨by rw [hfl], fun _ => ?_⟩
  have hcan : ∀ p ∈ C.pl, CanV p := fun p hp => pl_can hR p hp
  refine loopG_of (α := Nat) (fun i => i ≤ C.pl.length) (fun i => C.pl.length - i) (fun i => [(23, .int .i64 i), (21, .ptr 9 0), (20, .flt .f32 (dZ r)), (5, .ptr 4 0)])
    (fun _ => C.mem ++ [.blk true true 51 [.slc 0 0 C.pl.length 3, .slc 1 0 C.ol.length 3, .slc 2 0 C.th.length 3, .slc 3 0 C.pin.length 1]] ++ [.blk true false 32 (cVs (floorC C (dZ r)).pl), .blk true false 32 (cVs (floorC C (dZ r)).ol), .blk true false 96 (cTs (floorC C (dZ r)).th), .blk true false 2 (cIs (floorC C (dZ r)).pin),
      .blk true true 51 [.slc 5 0 (floorC C (dZ r)).pl.length 3, .slc 6 0 (floorC C (dZ r)).ol.length 3, .slc 7 0 (floorC C (dZ r)).th.length 3, .slc 8 0 (floorC C (dZ r)).pin.length 1]]) 0 (by simp) ?_ fun i hi => ?_
  · (refine weak_gc [(some 0, 0), (some 1, 0), (some 2, 0), (some 3, 0), (some 4, 0), (some 12, 0), (some 13, 0), (some 14, 0), (some 15, 0), (some 16, 0)] ?_ ?_ ?_ ?_ ?_ <;> simp)
  have hwi := nat_wrap (k := i) (by omega)
  by_cases c : i < C.pl.length
  · have cF : i < (floorC C (dZ r)).pl.length := by omega
    have hpin := hs.pin
    simp [c, cF, hwi]
    (first | refine callG_r ?_ | refine callD_r ?_); simp; (first | refine callN_flat (by with_reducible first | exact c_r8In C.pin i hpin) rfl ?_ | refine callN_new (by with_reducible first | exact c_r8In C.pin i hpin) ?_ | refine callM_flat (by with_reducible first | exact c_r8In C.pin i hpin) rfl ?_ | refine callM_new (by with_reducible first | exact c_r8In C.pin i hpin) ?_)
    have hget : (floorC C (dZ r)).pl[i] = if decide ((i : Int) ∈ C.pin) = false ∧ ford .f32 C.pl[i].2.2 (dZ r) = some .lt then (C.pl[i].1, C.pl[i].2.1, dZ r) else C.pl[i] := by simp [floorC]
    have hany : (C.pin.any fun z => z == (i : Int)) = decide ((i : Int) ∈ C.pin) := by rw [Bool.eq_iff_iff]; simp
    have hci := hcan _ (List.getElem_mem c)
    rw [hany]
    cases hB : decide ((i : Int) ∈ C.pin) with
    | true =>
      rw [hB] at hget
      simp at hget
      have c3 : i * 3 + 3 ≤ C.pl.length * 3 := by omega
      have c4 : i * 3 + 3 ≤ (floorC C (dZ r)).pl.length * 3 := by omega
      simp [c, cF, c3, c4, hwi, hget]
      (first | refine callG_r ?_ | refine callD_r ?_); simp; (first | refine callN_flat (by with_reducible first | exact c_SameVector hci hci) rfl ?_ | refine callN_new (by with_reducible first | exact c_SameVector hci hci) ?_ | refine callM_flat (by with_reducible first | exact c_SameVector hci hci) rfl ?_ | refine callM_new (by with_reducible first | exact c_SameVector hci hci) ?_)
      simp [hwi]
      refine loopK_next (i + 1) (by omega) (by omega) ?_
      (refine weak_gc [(some 0, 0), (some 1, 0), (some 2, 0), (some 3, 0), (some 4, 0), (some 5, 0), (some 6, 0), (some 7, 0), (some 8, 0), (some 9, 0)] ?_ ?_ ?_ ?_ ?_ <;> simp)
    | false =>
      rw [hB] at hget
      simp at hget
      have hfl2 : ford .f32 (floorC C (dZ r)).pl[i].2.2 (fmax .f32 C.pl[i].2.2 (dZ r)) = some .eq := by
        have h9 : (gridC 2 2 1065353216).pl.length = 9 := g22_len
        have hi9 : i < (gridC 2 2 1065353216).pl.length := by omega
        obtain ⟨u, v, w, _, _, hw9, e⟩ := hR.old i c hi9 (by omega)
        have hz0 : (gridC 2 2 1065353216).pl[i].2.2 = 0 := g22_z i hi9
        have hzz : C.pl[i].2.2 = fop .add .f32 0 (dZ w) := by
          rw [e]
          show fop .add .f32 (gridC 2 2 1065353216).pl[i].2.2 (dZ w) = _
          rw [hz0]
        have hk := floor_ok w (List.mem_range.2 hw9) r (List.mem_range.2 hr)
        rw [hget]
        rw [← hzz] at hk
        by_cases hlt : ford .f32 C.pl[i].2.2 (dZ r) = some .lt
        · rw [if_pos hlt] at hk ⊢; exact hk
        · rw [if_neg hlt] at hk ⊢; exact hk
      simp [c, cF, hwi, hfl2]
      refine loopK_next (i + 1) (by omega) (by omega) ?_
      (refine weak_gc [(some 0, 0), (some 1, 0), (some 2, 0), (some 3, 0), (some 4, 0), (some 5, 0), (some 6, 0), (some 7, 0), (some 8, 0), (some 9, 0)] ?_ ?_ ?_ ?_ ?_ <;> simp)
  · obtain rfl : i = C.pl.length := by omega
    simp
    have hp0 : (vldC C && pinsF C.pl.length (-1) [0]) = true := by rw [hvc, hP]; decide
    have kp : Fun Try.prog 30 [C.av, .view false (cIs [0]) 1] [] (.tup [(pinC C [0]).own 0, .bool true]) (pinC C [0]).mem := c_PinCloth C [0] (by simp) hs hp0
    (first | refine callG_r ?_ | refine callD_r ?_); simp; (first | refine callN_flat (by with_reducible first | exact kp) rfl ?_ | refine callN_new (by with_reducible first | exact kp) ?_ | refine callM_flat (by with_reducible first | exact kp) rfl ?_ | refine callM_new (by with_reducible first | exact kp) ?_)
    simp
    (first | refine callG_r ?_ | refine callD_r ?_); simp; (first | refine callN_flat (by with_reducible first | exact c_MoveCloth C (1056964608, 0, 0) hs hvc) rfl ?_ | refine callN_new (by with_reducible first | exact c_MoveCloth C (1056964608, 0, 0) hs hvc) ?_ | refine callM_flat (by with_reducible first | exact c_MoveCloth C (1056964608, 0, 0) hs hvc) rfl ?_ | refine callM_new (by with_reducible first | exact c_MoveCloth C (1056964608, 0, 0) hs hvc) ?_)
    simp
    have hsp : (pinC C [0]).Small := ⟨hs.pl, hs.ol, hs.th, by simp [pinC]⟩
    have hvp : vldC (pinC C [0]) = true := by rw [vld_pin hvc, hP]; decide
    have kf : Fun Try.prog 32 [.agg [.view false (cVs C.pl) C.pl.length, .view false (cVs C.ol) C.ol.length, .view false (cTs C.th) C.th.length, .view false (cIs [0]) 1], aV (0, 0, 1048576000), .flt .f32 0] [] (.tup [(fallC (pinC C [0]) (0, 0, 1048576000) 0).own 0, .bool true]) (fallC (pinC C [0]) (0, 0, 1048576000) 0).mem := c_FallCloth (pinC C [0]) (0, 0, 1048576000) 0 hsp hvp
    obtain ⟨c0, hC0⟩ : ∃ c0, C.pl[0]? = some c0 := ⟨_, List.getElem?_eq_getElem (by omega)⟩
    obtain ⟨u, v, w, hu, hv, hw9, ePl⟩ := hR.old 1 (by omega) (by rw [show g22.pl.length = 9 from g22_len]; omega) (by omega)
    have eg : g22.pl[1]'(by rw [show g22.pl.length = 9 from g22_len]; omega) = (g1x, g1y, 0) := by
      have h := g22_at1.1
      rw [List.getElem?_eq_getElem (by rw [show (gridC 2 2 1065353216).pl.length = 9 from g22_len]; omega)] at h
      exact Option.some.inj h
    have hC1 : C.pl[1]? = some (fop .add .f32 g1x (dX u), fop .add .f32 g1y (dX v), fop .add .f32 0 (dZ w)) := by
      rw [List.getElem?_eq_getElem (by omega), ePl, eg]; rfl
    have hO1 : C.ol[1]? = some (g1x, g1y, 0) := by rw [ho]; exact g22_at1.2
    have hcan0 : CanV c0 := hcan c0 (List.mem_of_getElem? hC0)
    have mx := move_x u (List.mem_range.2 hu)
    have my := move_y v (List.mem_range.2 hv)
    have mz := move_z w (List.mem_range.2 hw9)
    have sx := self_x u (List.mem_range.2 hu)
    have sy := self_y v (List.mem_range.2 hv)
    have sz := self_z w (List.mem_range.2 hw9)
    have fx := fall_x u (List.mem_range.2 hu)
    have fy := fall_y v (List.mem_range.2 hv)
    have fz := fall_z w (List.mem_range.2 hw9)
    unfold fallO at fx fy fz
    generalize hx1 : fop .add .f32 g1x (dX u) = X1 at *
    generalize hy1 : fop .add .f32 g1y (dX v) = Y1 at *
    generalize hz1 : fop .add .f32 0 (dZ w) = Z1 at *
    have hM1 : (moveC C (1056964608, 0, 0)).pl[1]? = some (fop .add .f32 X1 1056964608, fop .add .f32 Y1 0, fop .add .f32 Z1 0) := by
      simp only [moveC, List.getElem?_map, hC1]; rfl
    have hF0 : (fallC (pinC C [0]) (0, 0, 1048576000) 0).pl[0]? = some c0 := by
      simp [fallC, pinC, hC0]
    have hF1 : (fallC (pinC C [0]) (0, 0, 1048576000) 0).pl[1]? = some (fop .add .f32 (fop .add .f32 X1 (fop .mul .f32 (fop .sub .f32 X1 g1x) 0)) 0, fop .add .f32 (fop .add .f32 Y1 (fop .mul .f32 (fop .sub .f32 Y1 g1y) 0)) 0, fop .add .f32 (fop .add .f32 Z1 (fop .mul .f32 (fop .sub .f32 Z1 0) 0)) 1048576000) := by
      simp [fallC, pinC, fallV, hC1, hO1, vadd, vsub, vscale, List.getD_eq_getElem?_getD]
    have hG1 : (fallC (pinC C [0]) (0, 0, 1048576000) 0).ol[1]? = some (X1, Y1, Z1) := by
      simp [fallC, pinC, hC1, hO1, List.getD_eq_getElem?_getD]
    have lM : (moveC C (1056964608, 0, 0)).pl.length = 9 := by simp [moveC, hP]
    have lF : (fallC (pinC C [0]) (0, 0, 1048576000) 0).pl.length = 9 := by rw [fallC_pl]; exact hP
    have lG : (fallC (pinC C [0]) (0, 0, 1048576000) 0).ol.length = 9 := by
      rw [fallC_ol]
      show C.ol.length = 9
      rw [ho]; exact g22_ol
    have tC0 := cV_at0 hC0
    have tC1 := cV_at1 hC1
    have tM1 := cV_at1 hM1
    have tF0 := cV_at0 hF0
    have tF1 := cV_at1 hF1
    have tG1 := cV_at1 hG1
    (first | refine callG_r ?_ | refine callD_r ?_); simp; (first | refine callN_flat (by with_reducible first | exact kf) rfl ?_ | refine callN_new (by with_reducible first | exact kf) ?_ | refine callM_flat (by with_reducible first | exact kf) rfl ?_ | refine callM_new (by with_reducible first | exact kf) ?_)
    simp [lM, lF, lG, hP, tC0, tC1, tM1, tF0, tF1, tG1]
    (first | refine callG_r ?_ | refine callD_r ?_); simp; (first | refine callN_flat (by with_reducible first | exact c_add _ _ _ _ _ _) rfl ?_ | refine callN_new (by with_reducible first | exact c_add _ _ _ _ _ _) ?_ | refine callM_flat (by with_reducible first | exact c_add _ _ _ _ _ _) rfl ?_ | refine callM_new (by with_reducible first | exact c_add _ _ _ _ _ _) ?_)
    simp [lM, lF, lG, hP, tC0, tC1, tM1, tF0, tF1, tG1, vadd, mx, my, mz, sx, sy, sz, fx, fy, fz]
    (first | refine callG_r ?_ | refine callD_r ?_); simp; (first | refine callN_flat (by with_reducible first | exact c_SameVector hcan0 hcan0) rfl ?_ | refine callN_new (by with_reducible first | exact c_SameVector hcan0 hcan0) ?_ | refine callM_flat (by with_reducible first | exact c_SameVector hcan0 hcan0) rfl ?_ | refine callM_new (by with_reducible first | exact c_SameVector hcan0 hcan0) ?_)
    simp [lM, lF, lG, hP, tC0, tC1, tM1, tF0, tF1, tG1, vadd, mx, my, mz, sx, sy, sz, fx, fy, fz]
    (first | refine callG_r ?_ | refine callD_r ?_); simp; (first | refine callN_flat (by with_reducible first | exact c_add _ _ _ _ _ _) rfl ?_ | refine callN_new (by with_reducible first | exact c_add _ _ _ _ _ _) ?_ | refine callM_flat (by with_reducible first | exact c_add _ _ _ _ _ _) rfl ?_ | refine callM_new (by with_reducible first | exact c_add _ _ _ _ _ _) ?_)
    simp [lM, lF, lG, hP, tC0, tC1, tM1, tF0, tF1, tG1, vadd, mx, my, mz, sx, sy, sz, fx, fy, fz]
end Go.Proofs.Ytnjpigkijdnpkaa
