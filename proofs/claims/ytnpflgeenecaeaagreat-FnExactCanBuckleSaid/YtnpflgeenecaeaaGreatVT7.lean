/- Forces on bodies, as the reference reckons them.
Conditions: none. -/
import Derived.Test.YtnpflgeenecaeaaGreatVT6
namespace Go.Proofs.YtnpflgeenecaeaaGreat
set_option linter.all false
open Go Go.Awp
set_option maxRecDepth 100000
set_option maxHeartbeats 4000000
set_option pp.deepTerms true

@[simp high] theorem cVs_splice_push {O : List V} {p g : Nat} {d : V} (h : p < O.length) : splice (cVs O) (p * 3) [.flt .f32 (vadd O[p] (vscale d g)).1, .flt .f32 (vadd O[p] (vscale d g)).2.1, .flt .f32 (vadd O[p] (vscale d g)).2.2] = cVs (push O p d g) := by
  rw [← push_at d g h]
  exact cVs_splice h
theorem c_l03Forces (b : Bod) (rest : List AV) (hs : b.Small) (hv : vldB b = true) : Fun Tryz.prog 97 [b.vp rest] [] (.slc 0 0 b.me.pl.length 3) [.blk true false 41 (cVs (frcB b))] := by
  obtain ⟨hm, hpl, htr, hsp, hww⟩ := vldB_of hv
  have hhn := hin_small hm
  refine FnSpec.walk dr_ok Tryz.func97 rfl (by kernel_rfl) rfl rfl rfl (by simp) ?_
  simp
  refine ⟨by omega, by omega, ?_⟩
  unfold frcB
  have hl0 : (List.replicate b.me.pl.length ((0, 0, 0) : V)).length = b.me.pl.length := by simp
  generalize List.replicate b.me.pl.length ((0, 0, 0) : V) = O0 at *
  refine loopG_of (α := Nat) (fun k => k ≤ b.sp.length) (fun k => b.sp.length - k) (fun k => [(34, .int .i64 k), (33, .int .i64 b.sp.length), (4, .slc 0 0 b.me.pl.length 3), (3, b.vp rest), (0, b.vp rest)])
    (fun k => [.blk true false 41 (cVs (fP0 b O0 k))]) 0 (by simp) ?_ fun k hk => ?_
  · (refine weak_gc [(some 0, 0)] ?_ ?_ ?_ ?_ ?_ <;> simp [fP0_zero])
  have hw := nat_wrap (k := k) (by omega)
  by_cases c : k < b.sp.length
  · obtain ⟨p, q, z, u, he, hp, hq, _⟩ := spr_of hv c
    have hsu := fP0_succ (O := O0) c he hp hq
    have hll := fP0_len b O0 k
    generalize fP0 b O0 k = O at *
    have hll : O.length = b.me.pl.length := by omega
    simp [c, hw, he]
    (first | refine callG_r ?_ | refine callD_r ?_); simp; (first | refine callN_flat (by with_reducible first | exact c_l03Way b _ _ p q z u hp hq hpl) rfl ?_ | refine callN_new (by with_reducible first | exact c_l03Way b _ _ p q z u hp hq hpl) ?_ | refine callM_flat (by with_reducible first | exact c_l03Way b _ _ p q z u hp hq hpl) rfl ?_ | refine callM_new (by with_reducible first | exact c_l03Way b _ _ p q z u hp hq hpl) ?_)
    simp [he, hp, hll]
    (first | refine callG_r ?_ | refine callD_r ?_); simp; (first | refine callN_flat (by with_reducible first | exact c_l01Scale _ _ _ _) rfl ?_ | refine callN_new (by with_reducible first | exact c_l01Scale _ _ _ _) ?_ | refine callM_flat (by with_reducible first | exact c_l01Scale _ _ _ _) rfl ?_ | refine callM_new (by with_reducible first | exact c_l01Scale _ _ _ _) ?_)
    simp [he, hp, hll]
    (first | refine callG_r ?_ | refine callD_r ?_); simp; (first | refine callN_flat (by with_reducible first | exact c_l01Add _ _ _ _ _ _) rfl ?_ | refine callN_new (by with_reducible first | exact c_l01Add _ _ _ _ _ _) ?_ | refine callM_flat (by with_reducible first | exact c_l01Add _ _ _ _ _ _) rfl ?_ | refine callM_new (by with_reducible first | exact c_l01Add _ _ _ _ _ _) ?_)
    simp [he, hp, hq, hll]
    refine ⟨by omega, ?_⟩
    (first | refine callG_r ?_ | refine callD_r ?_); simp; (first | refine callN_flat (by with_reducible first | exact c_l01Scale _ _ _ _) rfl ?_ | refine callN_new (by with_reducible first | exact c_l01Scale _ _ _ _) ?_ | refine callM_flat (by with_reducible first | exact c_l01Scale _ _ _ _) rfl ?_ | refine callM_new (by with_reducible first | exact c_l01Scale _ _ _ _) ?_)
    simp [he, hp, hq, hll]
    (first | refine callG_r ?_ | refine callD_r ?_); simp; (first | refine callN_flat (by with_reducible first | exact c_l01Add _ _ _ _ _ _) rfl ?_ | refine callN_new (by with_reducible first | exact c_l01Add _ _ _ _ _ _) ?_ | refine callM_flat (by with_reducible first | exact c_l01Add _ _ _ _ _ _) rfl ?_ | refine callM_new (by with_reducible first | exact c_l01Add _ _ _ _ _ _) ?_)
    simp [he, hp, hq, hll, hw]
    rw [← hsu]
    refine ⟨by omega, loopK_next (k + 1) (by omega) (by omega) ?_⟩
    (refine weak_gc [(some 0, 0)] ?_ ?_ ?_ ?_ ?_ <;> simp [hw])
  obtain rfl : k = b.sp.length := by omega
  simp
  have hl1 : (fP0 b O0 b.sp.length).length = b.me.pl.length := by simp [hl0]
  generalize fP0 b O0 b.sp.length = O1 at *
  refine loopG_of (α := Nat) (fun k => k ≤ b.me.tr.length) (fun k => b.me.tr.length - k) (fun k => [(90, .int .i64 k), (89, .int .i64 b.me.tr.length), (4, .slc 0 0 b.me.pl.length 3), (3, b.vp rest), (0, b.vp rest)])
    (fun k => [.blk true false 41 (cVs (fP1 b O1 k))]) 0 (by simp) ?_ fun k hk => ?_
  · (refine weak_gc [(some 0, 0)] ?_ ?_ ?_ ?_ ?_ <;> simp [fP1_zero])
  have hw := nat_wrap (k := k) (by omega)
  by_cases c : k < b.me.tr.length
  · obtain ⟨x, y, z, he, hx, hy, hz⟩ := tri_nat hm c
    have hsu := fP1_succ (O := O1) c
    rw [he] at hsu
    have hll := fP1_len b O1 k
    generalize fP1 b O1 k = O at *
    have hnr := nrmA_at (m := b.me) hx hy hz
    have hF : filF b (vnrm b.me.pl[x] b.me.pl[y] b.me.pl[z]) = gainF (fneg .f32 (fop .mul .f32 1056964608 b.film)) (vlong (vnrm b.me.pl[x] b.me.pl[y] b.me.pl[z])) := rfl
    simp [c, hw, he]
    (first | refine callG_r ?_ | refine callD_r ?_); simp; (first | refine callN_flat (by with_reducible first | exact c_l03Normal b.me _ x y z hx hy hz hpl) rfl ?_ | refine callN_new (by with_reducible first | exact c_l03Normal b.me _ x y z hx hy hz hpl) ?_ | refine callM_flat (by with_reducible first | exact c_l03Normal b.me _ x y z hx hy hz hpl) rfl ?_ | refine callM_new (by with_reducible first | exact c_l03Normal b.me _ x y z hx hy hz hpl) ?_)
    simp [he]
    (first | refine callG_r ?_ | refine callD_r ?_); simp; (first | refine callN_flat (by with_reducible first | exact c_l01Long _ _ _) rfl ?_ | refine callN_new (by with_reducible first | exact c_l01Long _ _ _) ?_ | refine callM_flat (by with_reducible first | exact c_l01Long _ _ _) rfl ?_ | refine callM_new (by with_reducible first | exact c_l01Long _ _ _) ?_)
    simp [he]
    (first | refine callG_r ?_ | refine callD_r ?_); simp; (first | refine callN_flat (by with_reducible first | exact c_l03Gain _ _) rfl ?_ | refine callN_new (by with_reducible first | exact c_l03Gain _ _) ?_ | refine callM_flat (by with_reducible first | exact c_l03Gain _ _) rfl ?_ | refine callM_new (by with_reducible first | exact c_l03Gain _ _) ?_)
    simp [he]
    refine loopG_of (α := Nat) (fun i => i ≤ 3) (fun i => 3 - i) (fun i => [(13, .int .i64 i), (12, .flt .f32 (filF b (vnrm b.me.pl[x] b.me.pl[y] b.me.pl[z]))), (11, .ptr 1 0), (10, .view false (cIs [(x : Int), (y : Int), (z : Int)]) 3), (90, .int .i64 k), (89, .int .i64 b.me.tr.length), (4, .slc 0 0 b.me.pl.length 3), (3, b.vp rest), (0, b.vp rest)])
      (fun i => [.blk true false 41 (cVs (foT3 b [(x : Int), (y : Int), (z : Int)] O i)), .blk true true 41 [.flt .f32 (vnrm b.me.pl[x] b.me.pl[y] b.me.pl[z]).1, .flt .f32 (vnrm b.me.pl[x] b.me.pl[y] b.me.pl[z]).2.1, .flt .f32 (vnrm b.me.pl[x] b.me.pl[y] b.me.pl[z]).2.2]]) 0 (by simp) ?_ fun i hi => ?_
    · (refine weak_gc [(some 0, 0), (some 1, 0)] ?_ ?_ ?_ ?_ ?_ <;> simp [foT3_zero, hF])
    by_cases ci : i < 3
    · have hl4 : (foT3 b [(x : Int), (y : Int), (z : Int)] O i).length = b.me.pl.length := by rw [foT3_len]; omega
      have hs0 := foT3_succ (b := b) (O := O) (t := [(x : Int), (y : Int), (z : Int)]) (i := 0) rfl rfl rfl hz hy
      have hs1 := foT3_succ (b := b) (O := O) (t := [(x : Int), (y : Int), (z : Int)]) (i := 1) rfl rfl rfl hx hz
      have hs2 := foT3_succ (b := b) (O := O) (t := [(x : Int), (y : Int), (z : Int)]) (i := 2) rfl rfl rfl hy hx
      rw [hnr] at hs0 hs1 hs2
      generalize filF b (vnrm b.me.pl[x] b.me.pl[y] b.me.pl[z]) = F at *
      generalize vnrm b.me.pl[x] b.me.pl[y] b.me.pl[z] = N at *
      have w1 : IntKind.i64.wrap 1 = 1 := wrap64 (by omega) (by omega)
      have w2 : IntKind.i64.wrap 2 = 2 := wrap64 (by omega) (by omega)
      have w3 : IntKind.i64.wrap 3 = 3 := wrap64 (by omega) (by omega)
      have w4 : IntKind.i64.wrap 4 = 4 := wrap64 (by omega) (by omega)
      have t1 : (1 : Int).tmod 3 = 1 := rfl
      have t2 : (2 : Int).tmod 3 = 2 := rfl
      have t3 : (3 : Int).tmod 3 = 0 := rfl
      have t4 : (4 : Int).tmod 3 = 1 := rfl
      obtain rfl | rfl | rfl : i = 0 ∨ i = 1 ∨ i = 2 := by omega
      all_goals
        simp [he, hx, hy, hz, w1, w2, w3, w4, t1, t2, t3, t4]
        (first | refine callG_r ?_ | refine callD_r ?_); simp; (first | refine callN_flat (by with_reducible first | exact c_l01Less _ _ _ _ _ _) rfl ?_ | refine callN_new (by with_reducible first | exact c_l01Less _ _ _ _ _ _) ?_ | refine callM_flat (by with_reducible first | exact c_l01Less _ _ _ _ _ _) rfl ?_ | refine callM_new (by with_reducible first | exact c_l01Less _ _ _ _ _ _) ?_)
        simp [he, hx, hy, hz, hl4]
        (first | refine callG_r ?_ | refine callD_r ?_); simp; (first | refine callN_flat (by with_reducible first | exact c_l01Cross _ _ _ _ _ _) rfl ?_ | refine callN_new (by with_reducible first | exact c_l01Cross _ _ _ _ _ _) ?_ | refine callM_flat (by with_reducible first | exact c_l01Cross _ _ _ _ _ _) rfl ?_ | refine callM_new (by with_reducible first | exact c_l01Cross _ _ _ _ _ _) ?_)
        simp [he, hx, hy, hz, hl4]
        (first | refine callG_r ?_ | refine callD_r ?_); simp; (first | refine callN_flat (by with_reducible first | exact c_l01Scale _ _ _ _) rfl ?_ | refine callN_new (by with_reducible first | exact c_l01Scale _ _ _ _) ?_ | refine callM_flat (by with_reducible first | exact c_l01Scale _ _ _ _) rfl ?_ | refine callM_new (by with_reducible first | exact c_l01Scale _ _ _ _) ?_)
        simp [he, hx, hy, hz, hl4]
        (first | refine callG_r ?_ | refine callD_r ?_); simp; (first | refine callN_flat (by with_reducible first | exact c_l01Add _ _ _ _ _ _) rfl ?_ | refine callN_new (by with_reducible first | exact c_l01Add _ _ _ _ _ _) ?_ | refine callM_flat (by with_reducible first | exact c_l01Add _ _ _ _ _ _) rfl ?_ | refine callM_new (by with_reducible first | exact c_l01Add _ _ _ _ _ _) ?_)
        simp [he, hx, hy, hz, hl4]
        refine ⟨by omega, ?_⟩
        simp only [w1, w2, w3]
        first
          | refine loopK_next 1 (by omega) (by omega) ?_
            rw [show foT3 b [(x : Int), (y : Int), (z : Int)] O 1 = _ from hs0]
            (refine weak_gc [(some 0, 0), (some 1, 0)] ?_ ?_ ?_ ?_ ?_ <;> simp)
          | refine loopK_next 2 (by omega) (by omega) ?_
            rw [show foT3 b [(x : Int), (y : Int), (z : Int)] O 2 = _ from hs1]
            (refine weak_gc [(some 0, 0), (some 1, 0)] ?_ ?_ ?_ ?_ ?_ <;> simp)
          | refine loopK_next 3 (by omega) (by omega) ?_
            rw [show foT3 b [(x : Int), (y : Int), (z : Int)] O 3 = _ from hs2]
            (refine weak_gc [(some 0, 0), (some 1, 0)] ?_ ?_ ?_ ?_ ?_ <;> simp)
    · obtain rfl : i = 3 := by omega
      simp [he, hw]
      rw [← hsu]
      refine loopK_next (k + 1) (by omega) (by omega) ?_
      (refine weak_gc [(some 0, 0)] ?_ ?_ ?_ ?_ ?_ <;> simp [hw])
  obtain rfl : k = b.me.tr.length := by omega
  simp
  have hl2 : (fP1 b O1 b.me.tr.length).length = b.me.pl.length := by simp [hl1]
  generalize fP1 b O1 b.me.tr.length = O2 at *
  (first | refine callG_r ?_ | refine callD_r ?_); simp; (first | refine callN_flat (by with_reducible first | exact c_l03Hinges b.me _ hs.me hm) rfl ?_ | refine callN_new (by with_reducible first | exact c_l03Hinges b.me _ hs.me hm) ?_ | refine callM_flat (by with_reducible first | exact c_l03Hinges b.me _ hs.me hm) rfl ?_ | refine callM_new (by with_reducible first | exact c_l03Hinges b.me _ hs.me hm) ?_)
  simp
  refine loopG_of (α := Nat) (fun k => k ≤ (hinS b.me).length) (fun k => (hinS b.me).length - k) (fun k => [(165, .int .i64 k), (164, .int .i64 (hinS b.me).length), (15, .slc 1 0 (hinS b.me).length 1), (4, .slc 0 0 b.me.pl.length 3), (3, b.vp rest), (0, b.vp rest)])
    (fun k => [.blk true false 41 (cVs (fP2 b O2 k)), .blk true false 53 (cRs true (hinS b.me))]) 0 (by simp) ?_ fun k hk => ?_
  · (refine weak_gc [(some 0, 0), (some 1, 0)] ?_ ?_ ?_ ?_ ?_ <;> simp [fP2_zero])
  have hw := nat_wrap (k := k) (by omega)
  by_cases c : k < (hinS b.me).length
  · obtain ⟨x, y, z, u, he, hx, hy, hz, hu⟩ := hin_nat hm c
    have hsu := fP2_succ (O := O2) c he hx hy hz hu
    have hll := fP2_len b O2 k
    generalize fP2 b O2 k = O at *
    have hll : O.length = b.me.pl.length := by omega
    simp [c, hw, he]
    (first | refine callG_r ?_ | refine callD_r ?_); simp; (first | refine callN_flat (by with_reducible first | exact c_l03Bent b.me _ x y z u hx hy hz hu hpl) rfl ?_ | refine callN_new (by with_reducible first | exact c_l03Bent b.me _ x y z u hx hy hz hu hpl) ?_ | refine callM_flat (by with_reducible first | exact c_l03Bent b.me _ x y z u hx hy hz hu hpl) rfl ?_ | refine callM_new (by with_reducible first | exact c_l03Bent b.me _ x y z u hx hy hz hu hpl) ?_)
    generalize vbend b.me.pl[x] b.me.pl[y] b.me.pl[z] b.me.pl[u] = B at *
    simp [he, hx, hy, hz, hu, hll]
    (first | refine callG_r ?_ | refine callD_r ?_); simp; (first | refine callN_flat (by with_reducible first | exact c_l01Scale _ _ _ _) rfl ?_ | refine callN_new (by with_reducible first | exact c_l01Scale _ _ _ _) ?_ | refine callM_flat (by with_reducible first | exact c_l01Scale _ _ _ _) rfl ?_ | refine callM_new (by with_reducible first | exact c_l01Scale _ _ _ _) ?_)
    simp [he, hx, hy, hz, hu, hll]
    (first | refine callG_r ?_ | refine callD_r ?_); simp; (first | refine callN_flat (by with_reducible first | exact c_l01Add _ _ _ _ _ _) rfl ?_ | refine callN_new (by with_reducible first | exact c_l01Add _ _ _ _ _ _) ?_ | refine callM_flat (by with_reducible first | exact c_l01Add _ _ _ _ _ _) rfl ?_ | refine callM_new (by with_reducible first | exact c_l01Add _ _ _ _ _ _) ?_)
    simp [he, hx, hy, hz, hu, hll]
    refine ⟨by omega, ?_⟩
    (first | refine callG_r ?_ | refine callD_r ?_); simp; (first | refine callN_flat (by with_reducible first | exact c_l01Scale _ _ _ _) rfl ?_ | refine callN_new (by with_reducible first | exact c_l01Scale _ _ _ _) ?_ | refine callM_flat (by with_reducible first | exact c_l01Scale _ _ _ _) rfl ?_ | refine callM_new (by with_reducible first | exact c_l01Scale _ _ _ _) ?_)
    simp [he, hx, hy, hz, hu, hll]
    (first | refine callG_r ?_ | refine callD_r ?_); simp; (first | refine callN_flat (by with_reducible first | exact c_l01Add _ _ _ _ _ _) rfl ?_ | refine callN_new (by with_reducible first | exact c_l01Add _ _ _ _ _ _) ?_ | refine callM_flat (by with_reducible first | exact c_l01Add _ _ _ _ _ _) rfl ?_ | refine callM_new (by with_reducible first | exact c_l01Add _ _ _ _ _ _) ?_)
    simp [he, hx, hy, hz, hu, hll]
    refine ⟨by omega, ?_⟩
    (first | refine callG_r ?_ | refine callD_r ?_); simp; (first | refine callN_flat (by with_reducible first | exact c_l01Scale _ _ _ _) rfl ?_ | refine callN_new (by with_reducible first | exact c_l01Scale _ _ _ _) ?_ | refine callM_flat (by with_reducible first | exact c_l01Scale _ _ _ _) rfl ?_ | refine callM_new (by with_reducible first | exact c_l01Scale _ _ _ _) ?_)
    simp [he, hx, hy, hz, hu, hll]
    (first | refine callG_r ?_ | refine callD_r ?_); simp; (first | refine callN_flat (by with_reducible first | exact c_l01Add _ _ _ _ _ _) rfl ?_ | refine callN_new (by with_reducible first | exact c_l01Add _ _ _ _ _ _) ?_ | refine callM_flat (by with_reducible first | exact c_l01Add _ _ _ _ _ _) rfl ?_ | refine callM_new (by with_reducible first | exact c_l01Add _ _ _ _ _ _) ?_)
    simp [he, hx, hy, hz, hu, hll]
    refine ⟨by omega, ?_⟩
    (first | refine callG_r ?_ | refine callD_r ?_); simp; (first | refine callN_flat (by with_reducible first | exact c_l01Scale _ _ _ _) rfl ?_ | refine callN_new (by with_reducible first | exact c_l01Scale _ _ _ _) ?_ | refine callM_flat (by with_reducible first | exact c_l01Scale _ _ _ _) rfl ?_ | refine callM_new (by with_reducible first | exact c_l01Scale _ _ _ _) ?_)
    simp [he, hx, hy, hz, hu, hll]
    (first | refine callG_r ?_ | refine callD_r ?_); simp; (first | refine callN_flat (by with_reducible first | exact c_l01Add _ _ _ _ _ _) rfl ?_ | refine callN_new (by with_reducible first | exact c_l01Add _ _ _ _ _ _) ?_ | refine callM_flat (by with_reducible first | exact c_l01Add _ _ _ _ _ _) rfl ?_ | refine callM_new (by with_reducible first | exact c_l01Add _ _ _ _ _ _) ?_)
    simp [he, hx, hy, hz, hu, hll, hw]
    rw [← hsu]
    refine ⟨by omega, loopK_next (k + 1) (by omega) (by omega) ?_⟩
    (refine weak_gc [(some 0, 0), (some 1, 0)] ?_ ?_ ?_ ?_ ?_ <;> simp [hw])
  obtain rfl : k = (hinS b.me).length := by omega
  simp
  have hl3 : (fP2 b O2 (hinS b.me).length).length = b.me.pl.length := by simp [hl2]
  generalize fP2 b O2 (hinS b.me).length = O3 at *
  refine loopG_of (α := Nat) (fun k => k ≤ b.me.pl.length) (fun k => b.me.pl.length - k) (fun k => [(255, .int .i64 k), (254, .int .i64 b.me.pl.length), (4, .slc 0 0 b.me.pl.length 3), (3, b.vp rest), (0, b.vp rest)])
    (fun k => [.blk true false 41 (cVs (fP3 b O3 k))]) 0 (by simp) ?_ fun k hk => ?_
  · (refine weak_gc [(some 0, 0)] ?_ ?_ ?_ ?_ ?_ <;> simp [fP3_zero])
  have hw := nat_wrap (k := k) (by omega)
  by_cases c : k < b.me.pl.length
  · have c2 : k < b.w.length := by omega
    have hsu := fP3_succ (O := O3) c2
    have hll := fP3_len b O3 k
    generalize fP3 b O3 k = O at *
    have hll : O.length = b.me.pl.length := by omega
    simp [c, c2, hw, hll]
    (first | refine callG_r ?_ | refine callD_r ?_); simp; (first | refine callN_flat (by with_reducible first | exact c_l01Scale _ _ _ _) rfl ?_ | refine callN_new (by with_reducible first | exact c_l01Scale _ _ _ _) ?_ | refine callM_flat (by with_reducible first | exact c_l01Scale _ _ _ _) rfl ?_ | refine callM_new (by with_reducible first | exact c_l01Scale _ _ _ _) ?_)
    simp [c, c2, hw, hll]
    (first | refine callG_r ?_ | refine callD_r ?_); simp; (first | refine callN_flat (by with_reducible first | exact c_l01Add _ _ _ _ _ _) rfl ?_ | refine callN_new (by with_reducible first | exact c_l01Add _ _ _ _ _ _) ?_ | refine callM_flat (by with_reducible first | exact c_l01Add _ _ _ _ _ _) rfl ?_ | refine callM_new (by with_reducible first | exact c_l01Add _ _ _ _ _ _) ?_)
    simp [c, c2, hw, hll]
    rw [← hsu]
    refine ⟨by omega, loopK_next (k + 1) (by omega) (by omega) ?_⟩
    (refine weak_gc [(some 0, 0)] ?_ ?_ ?_ ?_ ?_ <;> simp [hw])
  obtain rfl : k = b.me.pl.length := by omega
  simp
  (refine endG_keepT [(some 0, 0)] ?_ ?_ ?_ ?_ ?_ ?_ ?_ ⟨rfl, rfl⟩ ?_ <;> simp)
end Go.Proofs.YtnpflgeenecaeaaGreat
