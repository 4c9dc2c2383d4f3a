/- The law of SoftMode.
Conditions: none. -/
import Derived.Test.YtnpflgeenecaeaaGreatW7
import Derived.Test.YtnpflgeenecaeaaGreatW9
namespace Go.Proofs.YtnpflgeenecaeaaGreat
set_option linter.all false
open Go Go.Awp
set_option maxRecDepth 100000
set_option maxHeartbeats 8000000
set_option pp.deepTerms true

theorem law_SoftMode (b : Bod) (held : List Int) (v : List V) (step shift : Nat) (rounds : Int) (h : b.Len) (hh : held.length ≤ 9223372036854775807) (hl : v.length ≤ 9223372036854775807) :
    FnSpec Tryz.prog 9 [b.av, .view false (cIs held) held.length, .view false (cVs v) v.length, .flt .f32 step, .flt .f32 shift, .int .i64 rounds] [] fun av _ => av = .bool true := by
  refine FnSpec.walkF dr_ok Tryz.func9 rfl (by kernel_rfl) rfl rfl rfl (by simp) ?_
  simp
  intro hh1
  have hh2 : held.length ≤ 1048576 := by omega
  (first | refine callG_r ?_ | refine callD_r ?_); simp; (first | refine callN_flat (by with_reducible first | exact c_szBody b h 1048576 (by omega) (by omega)) rfl ?_ | refine callN_new (by with_reducible first | exact c_szBody b h 1048576 (by omega) (by omega)) ?_ | refine callM_flat (by with_reducible first | exact c_szBody b h 1048576 (by omega) (by omega)) rfl ?_ | refine callM_new (by with_reducible first | exact c_szBody b h 1048576 (by omega) (by omega)) ?_)
  simp
  intro h0
  have hsum := szB_sum h0
  have hz := szOk_B b (left := 1048576) (by omega) (by omega)
  have hs : b.Small := hz.ok h0
  have hzl := hz.le
  generalize szB b 1048576 = z at *
  (first | refine callG_r ?_ | refine callD_r ?_); simp; (first | refine callN_flat (by with_reducible first | exact c_szVectorS _ _ _ hl h0 hzl) rfl ?_ | refine callN_new (by with_reducible first | exact c_szVectorS _ _ _ hl h0 hzl) ?_ | refine callM_flat (by with_reducible first | exact c_szVectorS _ _ _ hl h0 hzl) rfl ?_ | refine callM_new (by with_reducible first | exact c_szVectorS _ _ _ hl h0 hzl) ?_)
  simp
  intro h1
  have hl2 : v.length ≤ 1048576 := by have := (szOk_L v.length h0 hzl).ok h1; omega
  (first | refine callG_r ?_ | refine callD_r ?_); simp; (first | refine callN_flat (by with_reducible first | exact c_toBody b hs) rfl ?_ | refine callN_new (by with_reducible first | exact c_toBody b hs) ?_ | refine callM_flat (by with_reducible first | exact c_toBody b hs) rfl ?_ | refine callM_new (by with_reducible first | exact c_toBody b hs) ?_)
  simp
  (first | refine callG_r ?_ | refine callD_r ?_); simp; (first | refine callN_flat (by with_reducible first | exact c_toInt64S held hh2) rfl ?_ | refine callN_new (by with_reducible first | exact c_toInt64S held hh2) ?_ | refine callM_flat (by with_reducible first | exact c_toInt64S held hh2) rfl ?_ | refine callM_new (by with_reducible first | exact c_toInt64S held hh2) ?_)
  simp
  (first | refine callG_r ?_ | refine callD_r ?_); simp; (first | refine callN_flat (by with_reducible first | exact c_toVectorS v hl2) rfl ?_ | refine callN_new (by with_reducible first | exact c_toVectorS v hl2) ?_ | refine callM_flat (by with_reducible first | exact c_toVectorS v hl2) rfl ?_ | refine callM_new (by with_reducible first | exact c_toVectorS v hl2) ?_)
  simp
  have kI := c_SoftModeU b held v step shift rounds hs hh2 hl2
  have kS := c_specSoftModeU b held v step shift rounds hs hh2 hl2
  have hL := sofL_le b held v step shift rounds
  generalize sofL b held v step shift rounds = L at *
  generalize sofX b held v step shift rounds = X at *
  generalize sofK b held v step shift rounds = ok at *
  have hLtk : L.take L.length = L := List.take_of_length_le (by omega)
  (first | refine callG_r ?_ | refine callD_r ?_); simp; (first | refine callN_flat (by with_reducible first | exact kS) rfl ?_ | refine callN_new (by with_reducible first | exact kS) ?_ | refine callM_flat (by with_reducible first | exact kS) rfl ?_ | refine callM_new (by with_reducible first | exact kS) ?_)
  simp
  (first | refine callG_r ?_ | refine callD_r ?_); simp; (first | refine callN_flat (by with_reducible first | exact c_toBody2 b hs) rfl ?_ | refine callN_new (by with_reducible first | exact c_toBody2 b hs) ?_ | refine callM_flat (by with_reducible first | exact c_toBody2 b hs) rfl ?_ | refine callM_new (by with_reducible first | exact c_toBody2 b hs) ?_)
  simp [nestR_ren]
  rw [nestC_ren (b' := 9) fun i hi => by omega]
  rw [show 7 + (b.me.tr.length + 2) = b.me.tr.length + 9 by omega, show 7 + (b.me.tr.length + 3) = b.me.tr.length + 10 by omega]
  generalize hH : (_ :: _ :: _ :: _ :: _ :: _ :: _ :: _ :: _ :: (_ ++ _) : Heap) = H
  have hl0 : H.length = b.me.tr.length + 12 := by rw [← hH]; simp
  have f0 : ∀ t : Heap, (H ++ t)[0]? = some (.blk true true 32 b.cells) := fun t => by rw [List.getElem?_append_left (by omega), ← hH]; rfl
  have fL : ∀ t : Heap, (H ++ t)[6]? = some (.blk true false 41 (cVs L)) := fun t => by rw [List.getElem?_append_left (by omega), ← hH]; rfl
  have fP : ∀ t : Heap, (H ++ t)[7]? = some (.blk true false 41 (cVs b.me.pl)) := fun t => by rw [List.getElem?_append_left (by omega), ← hH]; rfl
  have fB : ∀ t : Heap, (H ++ t)[8]? = some (.blk true true 53 (nestC 9 b.me.tr)) := fun t => by rw [List.getElem?_append_left (by omega), ← hH]; rfl
  have fr : ∀ (t : Heap) (i : Nat) (h : i < b.me.tr.length), ∃ w, (H ++ t)[9 + i]? = some (.blk w false 2 (cIs b.me.tr[i])) := fun t i hi => ⟨true, by
    rw [List.getElem?_append_left (by omega), ← hH, Nat.add_comm 9 i]
    simp only [List.getElem?_cons_succ]
    rw [List.getElem?_append_left (by simp; omega)]
    simp [nestR, hi]⟩
  have hn : ∀ t : Heap, (nestC 9 b.me.tr).map (cellB true [] (H ++ t)) = cRs false b.me.tr := fun t => nest_read2 (fr t)
  have htk : (nestC 9 b.me.tr).take b.me.tr.length = nestC 9 b.me.tr := List.take_of_length_le (by simp)
  have fS : ∀ t : Heap, (H ++ t)[b.me.tr.length + 9]? = some (.blk true false 112 (cSs b.sp)) := fun t => by
    rw [List.getElem?_append_left (by omega), ← hH]
    simp only [List.getElem?_cons_succ]
    rw [List.getElem?_append_right (by simp)]
    simp
  have fW : ∀ t : Heap, (H ++ t)[b.me.tr.length + 10]? = some (.blk true false 27 (cFs b.w)) := fun t => by
    rw [List.getElem?_append_left (by omega), ← hH]
    simp only [List.getElem?_cons_succ]
    rw [List.getElem?_append_right (by simp)]
    simp
  have fX : ∀ t : Heap, (H ++ t)[b.me.tr.length + 11]? = some (.blk true true 43 [.slc 7 0 b.me.pl.length 3, .slc 8 0 b.me.tr.length 1, .slc (b.me.tr.length + 9) 0 b.sp.length 4, .flt .f32 b.film, .flt .f32 b.bend, .slc (b.me.tr.length + 10) 0 b.w.length 1, .flt .f32 b.fall.1, .flt .f32 b.fall.2.1, .flt .f32 b.fall.2.2]) := fun t => by
    rw [List.getElem?_append_left (by omega), ← hH]
    simp only [List.getElem?_cons_succ]
    rw [List.getElem?_append_right (by simp)]
    simp
  have hptk : b.me.pl.take b.me.pl.length = b.me.pl := List.take_of_length_le (by omega)
  have g0 := f0 []
  rw [List.append_nil] at g0
  clear hH
  (first | refine callG_r ?_ | refine callD_r ?_); simp; (first | refine callN_flat (by with_reducible first | exact c_toInt64S held hh2) rfl ?_ | refine callN_new (by with_reducible first | exact c_toInt64S held hh2) ?_ | refine callM_flat (by with_reducible first | exact c_toInt64S held hh2) rfl ?_ | refine callM_new (by with_reducible first | exact c_toInt64S held hh2) ?_)
  simp [Nat.add_assoc, ↓f0, ↓fL, ↓fP, ↓fB, ↓fS, ↓fW, ↓fX, hn, htk, hLtk, hptk]
  (first | refine callG_r ?_ | refine callD_r ?_); simp; (first | refine callN_flat (by with_reducible first | exact c_toVectorS v hl2) rfl ?_ | refine callN_new (by with_reducible first | exact c_toVectorS v hl2) ?_ | refine callM_flat (by with_reducible first | exact c_toVectorS v hl2) rfl ?_ | refine callM_new (by with_reducible first | exact c_toVectorS v hl2) ?_)
  simp [Nat.add_assoc, ↓f0, ↓fL, ↓fP, ↓fB, ↓fS, ↓fW, ↓fX, hn, htk, hLtk, hptk]
  refine callG_r ?_
  simp [Nat.add_assoc, ↓f0, ↓fL, ↓fP, ↓fB, ↓fS, ↓fW, ↓fX, hn, htk, hLtk, hptk]
  refine callN_new kI ?_
  simp [Nat.add_assoc, ↓f0, ↓fL, ↓fP, ↓fB, ↓fS, ↓fW, ↓fX, hn, htk, hLtk, hptk]
  refine callG_r ?_
  simp [Nat.add_assoc, ↓f0, ↓fL, ↓fP, ↓fB, ↓fS, ↓fW, ↓fX, hn, htk, hLtk, hptk]
  refine callN_flat (c_eqVectorS L _ _ rfl rfl (by omega)) rfl ?_
  simp [Nat.add_assoc, ↓f0, ↓fL, ↓fP, ↓fB, ↓fS, ↓fW, ↓fX, hn, htk, hLtk, hptk]
  (first | refine callG_r ?_ | refine callD_r ?_); simp; (first | refine callN_flat (by with_reducible first | exact c_sameFloat _) rfl ?_ | refine callN_new (by with_reducible first | exact c_sameFloat _) ?_ | refine callM_flat (by with_reducible first | exact c_sameFloat _) rfl ?_ | refine callM_new (by with_reducible first | exact c_sameFloat _) ?_)
  simp [Nat.add_assoc, ↓f0, ↓fL, ↓fP, ↓fB, ↓fS, ↓fW, ↓fX, hn, htk, hLtk, hptk]
  (first | refine callG_r ?_ | refine callD_r ?_); simp; (first | refine callN_flat (by with_reducible first | exact c_toBody b hs) rfl ?_ | refine callN_new (by with_reducible first | exact c_toBody b hs) ?_ | refine callM_flat (by with_reducible first | exact c_toBody b hs) rfl ?_ | refine callM_new (by with_reducible first | exact c_toBody b hs) ?_)
  simp [Nat.add_assoc, ↓f0, ↓fL, ↓fP, ↓fB, ↓fS, ↓fW, ↓fX, hn, htk, hLtk, hptk]
  (first | refine callG_r ?_ | refine callD_r ?_)
  simp [Nat.add_assoc, ↓f0, ↓fL, ↓fP, ↓fB, ↓fS, ↓fW, ↓fX, hn, htk, hLtk, hptk]
  (first | refine callN_flat (c_eqBody b hs) rfl ?_ | refine callM_flat (c_eqBody b hs) rfl ?_)
  simp [Nat.add_assoc, ↓f0, ↓fL, ↓fP, ↓fB, ↓fS, ↓fW, ↓fX, hn, htk, hLtk, hptk]
  (first | refine callG_r ?_ | refine callD_r ?_); simp; (first | refine callN_flat (by with_reducible first | exact c_toInt64S held hh2) rfl ?_ | refine callN_new (by with_reducible first | exact c_toInt64S held hh2) ?_ | refine callM_flat (by with_reducible first | exact c_toInt64S held hh2) rfl ?_ | refine callM_new (by with_reducible first | exact c_toInt64S held hh2) ?_)
  simp [Nat.add_assoc, ↓f0, ↓fL, ↓fP, ↓fB, ↓fS, ↓fW, ↓fX, hn, htk, hLtk, hptk]
  (first | refine callG_r ?_ | refine callD_r ?_)
  simp [Nat.add_assoc, ↓f0, ↓fL, ↓fP, ↓fB, ↓fS, ↓fW, ↓fX, hn, htk, hLtk, hptk]
  (first | refine callN_flat (c_eqInt64S _ _ _ rfl rfl (by omega)) rfl ?_ | refine callM_flat (c_eqInt64S _ _ _ rfl rfl (by omega)) rfl ?_)
  simp [Nat.add_assoc, ↓f0, ↓fL, ↓fP, ↓fB, ↓fS, ↓fW, ↓fX, hn, htk, hLtk, hptk]
  (first | refine callG_r ?_ | refine callD_r ?_); simp; (first | refine callN_flat (by with_reducible first | exact c_toVectorS v hl2) rfl ?_ | refine callN_new (by with_reducible first | exact c_toVectorS v hl2) ?_ | refine callM_flat (by with_reducible first | exact c_toVectorS v hl2) rfl ?_ | refine callM_new (by with_reducible first | exact c_toVectorS v hl2) ?_)
  simp [Nat.add_assoc, ↓f0, ↓fL, ↓fP, ↓fB, ↓fS, ↓fW, ↓fX, hn, htk, hLtk, hptk]
  (first | refine callG_r ?_ | refine callD_r ?_)
  simp [Nat.add_assoc, ↓f0, ↓fL, ↓fP, ↓fB, ↓fS, ↓fW, ↓fX, hn, htk, hLtk, hptk]
  (first | refine callN_flat (c_eqVectorS _ _ _ rfl rfl (by omega)) rfl ?_ | refine callM_flat (c_eqVectorS _ _ _ rfl rfl (by omega)) rfl ?_)
  simp [Nat.add_assoc, ↓f0, ↓fL, ↓fP, ↓fB, ↓fS, ↓fW, ↓fX, hn, htk, hLtk, hptk]
  refine call_nest (ps := [7, b.me.tr.length + 9, b.me.tr.length + 10]) (q := 8) (b := 9) (T := b.me.tr) (nw := true) (psr := b.memF) (psr' := b.mrkF) ?_ (fB _) (fr _) (fun p hp => ?_) ?_ ?_ (c_markBody b hs hsum) rfl (by simp) fun M hM1 hM2 hM3 => ?_
  · simp [List.mem_range'_1, List.nodup_range']
    omega
  · simp only [List.mem_cons, List.not_mem_nil, or_false] at hp
    rcases hp with rfl | rfl | rfl
    · rw [fP]; rfl
    · rw [fS]; rfl
    · rw [fW]; rfl
  · simp [pasH, ↓fP, ↓fS, ↓fW]
  · simp [passA, pass0, pasR, posN]
  obtain ⟨H2, hHl, rfl, hH2⟩ := split_marked hM1 hM2 (fun j hj => by
    simp [List.mem_range'_1] at hj
    omega)
  have hno : ∀ j, j < 7 → j ∉ [7, b.me.tr.length + 9, b.me.tr.length + 10] ++ 8 :: List.range' 9 b.me.tr.length := fun j hj => by
    simp [List.mem_range'_1]; omega
  have s0 : ∀ t : Heap, (H2 ++ t)[0]? = some (.blk true true 32 b.cells) := fun t => by
    rw [List.getElem?_append_left (by omega), hH2 _ (by omega) (hno _ (by omega))]
    have := f0 []
    rwa [List.append_nil] at this
  have sL : ∀ t : Heap, (H2 ++ t)[6]? = some (.blk true false 41 (cVs L)) := fun t => by
    rw [List.getElem?_append_left (by omega), hH2 _ (by omega) (hno _ (by omega))]
    have := fL []
    rwa [List.append_nil] at this
  have r0 := s0 []
  have rL := sL []
  rw [List.append_nil] at r0 rL
  rw [← hHl]
  clear hM1 hM2 hM3 f0 fL fP fB fr hn htk fS fW fX hptk hno hH2 hl0
  clear g0
  have e1 := hs.me.pl
  have e2 := hs.sp
  have e3 := hs.w
  simp [Nat.add_assoc, ↓s0, ↓sL, ↓r0, ↓rL, hLtk]
  refine callG_on true [H2.length] ?_
  simp [Nat.add_assoc, ↓s0, ↓sL, ↓r0, ↓rL, hLtk, liveB, restr, pasH]
  refine callN_fun (c_markInt64S held _ (1 + 3 * b.me.pl.length + sumL b.me.tr + 4 * b.sp.length + b.w.length) _ (by push_cast; omega) rfl hh2 (by omega)) (by simp) ?_
  simp [Nat.add_assoc, ↓s0, ↓sL, ↓r0, ↓rL, hLtk, mergeH]
  refine callG_on true [H2.length + 1] ?_
  simp [Nat.add_assoc, ↓s0, ↓sL, ↓r0, ↓rL, hLtk, liveB, restr, pasH]
  refine callN_fun (c_markVectorS v _ (1 + 3 * b.me.pl.length + sumL b.me.tr + 4 * b.sp.length + b.w.length + held.length) _ (by push_cast; omega) rfl hl2 (by omega)) (by simp) ?_
  simp [Nat.add_assoc, ↓s0, ↓sL, ↓r0, ↓rL, hLtk, mergeH]
  refine ⟨fun _ => ?_, by omega⟩
  refine callG_r ?_
  simp [Nat.add_assoc, ↓s0, ↓sL, ↓r0, ↓rL, hLtk]
  refine callN_flat (c_eqVectorS L _ _ rfl rfl (by omega)) rfl ?_
  simp [Nat.add_assoc, ↓s0, ↓sL, ↓r0, ↓rL, hLtk]
  (first | refine callG_r ?_ | refine callD_r ?_); simp; (first | refine callN_flat (by with_reducible first | exact c_sameFloat _) rfl ?_ | refine callN_new (by with_reducible first | exact c_sameFloat _) ?_ | refine callM_flat (by with_reducible first | exact c_sameFloat _) rfl ?_ | refine callM_new (by with_reducible first | exact c_sameFloat _) ?_)
  simp [Nat.add_assoc, ↓s0, ↓sL, ↓r0, ↓rL, hLtk]
  refine callG_on true [H2.length + 2] ?_
  simp [Nat.add_assoc, ↓s0, ↓sL, ↓r0, ↓rL, hLtk, liveB, restr, pasH]
  refine callN_fun (c_markVectorS L _ 1 _ (by simp) rfl (by omega) (by omega)) (by simp) ?_
  simp [Nat.add_assoc, ↓s0, ↓sL, ↓r0, ↓rL, hLtk, mergeH]
  refine callG_r ?_
  simp [Nat.add_assoc, ↓s0, ↓sL, ↓r0, ↓rL, hLtk]
  refine callN_flat (c_heldVectorS L.length 1 _ (by simp) (by omega) (by omega)) rfl ?_
  simp [Nat.add_assoc, ↓s0, ↓sL, ↓r0, ↓rL, hLtk]
  refine ⟨by omega, fun _ => ?_⟩
  (first | refine callG_r ?_ | refine callD_r ?_); simp; (first | refine callN_flat (by with_reducible first | exact c_toBody b hs) rfl ?_ | refine callN_new (by with_reducible first | exact c_toBody b hs) ?_ | refine callM_flat (by with_reducible first | exact c_toBody b hs) rfl ?_ | refine callM_new (by with_reducible first | exact c_toBody b hs) ?_)
  simp [Nat.add_assoc, ↓s0, ↓sL, ↓r0, ↓rL, hLtk]
  (first | refine callG_r ?_ | refine callD_r ?_); simp; (first | refine callN_flat (by with_reducible first | exact c_toInt64S held hh2) rfl ?_ | refine callN_new (by with_reducible first | exact c_toInt64S held hh2) ?_ | refine callM_flat (by with_reducible first | exact c_toInt64S held hh2) rfl ?_ | refine callM_new (by with_reducible first | exact c_toInt64S held hh2) ?_)
  simp [Nat.add_assoc, ↓s0, ↓sL, ↓r0, ↓rL, hLtk]
  (first | refine callG_r ?_ | refine callD_r ?_); simp; (first | refine callN_flat (by with_reducible first | exact c_toVectorS v hl2) rfl ?_ | refine callN_new (by with_reducible first | exact c_toVectorS v hl2) ?_ | refine callM_flat (by with_reducible first | exact c_toVectorS v hl2) rfl ?_ | refine callM_new (by with_reducible first | exact c_toVectorS v hl2) ?_)
  simp [Nat.add_assoc, ↓s0, ↓sL, ↓r0, ↓rL, hLtk]
  (first | refine callG_r ?_ | refine callD_r ?_); simp; (first | refine callN_flat (by with_reducible first | exact kI) rfl ?_ | refine callN_new (by with_reducible first | exact kI) ?_ | refine callM_flat (by with_reducible first | exact kI) rfl ?_ | refine callM_new (by with_reducible first | exact kI) ?_)
  simp [Nat.add_assoc, ↓s0, ↓sL, ↓r0, ↓rL, hLtk]
  refine callG_r ?_
  simp [Nat.add_assoc, ↓s0, ↓sL, ↓r0, ↓rL, hLtk]
  refine callN_flat (c_eqVectorS L _ _ rfl rfl (by omega)) rfl ?_
  simp [Nat.add_assoc, ↓s0, ↓sL, ↓r0, ↓rL, hLtk]
  (first | refine callG_r ?_ | refine callD_r ?_); simp; (first | refine callN_flat (by with_reducible first | exact c_sameFloat _) rfl ?_ | refine callN_new (by with_reducible first | exact c_sameFloat _) ?_ | refine callM_flat (by with_reducible first | exact c_sameFloat _) rfl ?_ | refine callM_new (by with_reducible first | exact c_sameFloat _) ?_)
  simp [Nat.add_assoc, ↓s0, ↓sL, ↓r0, ↓rL, hLtk]
  refine callG_r ?_
  simp [Nat.add_assoc, ↓s0, ↓sL, ↓r0, ↓rL, hLtk]
  refine callN_flat (c_heldVectorS L.length 1 _ (by simp) (by omega) (by omega)) rfl ?_
  simp [Nat.add_assoc, ↓s0, ↓sL, ↓r0, ↓rL, hLtk]
  omega
end Go.Proofs.YtnpflgeenecaeaaGreat
