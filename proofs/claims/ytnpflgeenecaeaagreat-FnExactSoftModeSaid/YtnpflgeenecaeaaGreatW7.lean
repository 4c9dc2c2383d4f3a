/- Bodies in memory of the call's own that a law marks. Energies along a way: as the program and the reference reckon them. What StiffTimes and EnergiesAlong return, for all arguments.
Conditions: none. -/
import Derived.Test.YtnpflgeenecaeaaGreatW6
import Derived.Test.YtnpflgeenecaeaaGreatW1
import Derived.Test.YtnpflgeenecaeaaGreatW5
import Derived.Test.YtnpflgeenecaeaaGreatVU1
namespace Go.Proofs.YtnpflgeenecaeaaGreat
set_option linter.all false
open Go Go.Awp
set_option maxRecDepth 100000
set_option maxHeartbeats 4000000
set_option pp.deepTerms true

def markS (k n : Nat) : List Sp := (List.range n).map fun i => (((k + 4 * i : Nat) : Int), ((k + 4 * i + 1 : Nat) : Int), fint .f32 (k + 4 * i + 2 : Nat), fint .f32 (k + 4 * i + 3 : Nat))
def markF (k n : Nat) : List Nat := (List.range n).map fun i => fint .f32 (k + i : Nat)
@[simp] theorem markS_length (k n : Nat) : (markS k n).length = n := by simp [markS]
@[simp] theorem markF_length (k n : Nat) : (markF k n).length = n := by simp [markF]
@[simp] theorem markF_take (k n : Nat) : (markF k n).take n = markF k n := List.take_of_length_le (by simp)
@[simp] theorem markV_take (k n : Nat) : (markV k n).take n = markV k n := List.take_of_length_le (by simp)
theorem c_markSpringS (l : List Sp) (n : Nat) (k : Nat) (z : Int) (hz : z = k) (hn : n = l.length) (h : l.length ≤ 1048576) (hk : k ≤ 1000000000) : Fun Tryz.prog 60 [.slc 0 0 n 4, .int .i64 z] [.blk false false 112 (cSs l)] (.int .i64 (k + 4 * n : Nat)) [.blk false false 112 (cSs (markS k n))] := by
  subst hn; subst hz
  have hl : (markS k l.length).length = l.length := by simp
  refine FnSpec.walk dr_ok Tryz.func60 rfl (by kernel_rfl) rfl rfl rfl (by simp) ?_
  simp
  refine loopG_of (α := Nat × Nat) (fun x => x.1 ≤ l.length ∧ x.2 = k + 4 * x.1) (fun x => l.length - x.1) (fun x => [(0, .slc 0 0 l.length 4), (1, .int .i64 x.2), (5, .int .i64 x.1)])
    (fun x => [.blk false false 112 (cSs (mixN (markS k l.length) l x.1))]) (0, k) ⟨by simp, by simp⟩ (weak_UH (by simp) (by simp)) fun x ⟨hx, hx2⟩ => ?_
  obtain ⟨i, m⟩ := x
  simp only at hx hx2
  have hw := nat_wrap (k := i) (by omega)
  have hw0 : IntKind.i64.wrap (m : Int) = (m : Int) := wrap64 (by omega) (by omega)
  have hw1 : IntKind.i64.wrap ((m : Int) + 1) = (m : Int) + 1 := wrap64 (by omega) (by omega)
  have hw2 : IntKind.i64.wrap ((m : Int) + 1 + 1) = (m : Int) + 1 + 1 := wrap64 (by omega) (by omega)
  have hw3 : IntKind.i64.wrap ((m : Int) + 1 + 1 + 1) = (m : Int) + 1 + 1 + 1 := wrap64 (by omega) (by omega)
  have hw4 : IntKind.i64.wrap ((m : Int) + 1 + 1 + 1 + 1) = (m : Int) + 1 + 1 + 1 + 1 := wrap64 (by omega) (by omega)
  have hm := mixN_length i hl
  by_cases c : i < l.length
  · simp [c, hw, hw0, hw1, hw2, hw3, hw4, hm]
    refine ⟨by omega, by omega, by omega, by omega, loopK_next (i + 1, m + 4) ?_ ?_ (weak_UH ?_ ?_)⟩
    · simp; omega
    · simp; omega
    · rw [mixN_set (by simpa using c) hl (by subst hx2; simp [markS, Int.add_assoc])]
    · simp; omega
  · obtain rfl : i = l.length := by omega
    subst hx2
    simp
    rw [mixN_all (by omega) (by omega)]
    (refine endG_keepT [] ?_ ?_ ?_ ?_ ?_ ?_ ?_ ⟨rfl, rfl⟩ ?_ <;> simp)
theorem c_markFloat32S (l : List Nat) (n : Nat) (k : Nat) (z : Int) (hz : z = k) (hn : n = l.length) (h : l.length ≤ 1048576) (hk : k ≤ 1000000000) : Fun Tryz.prog 21 [.slc 0 0 n 1, .int .i64 z] [.blk false false 27 (cFs l)] (.int .i64 (k + n : Nat)) [.blk false false 27 (cFs (markF k n))] := by
  subst hn; subst hz
  have hl : (markF k l.length).length = l.length := by simp
  refine FnSpec.walk dr_ok Tryz.func21 rfl (by kernel_rfl) rfl rfl rfl (by simp) ?_
  simp
  refine loopG_of (α := Nat × Nat) (fun x => x.1 ≤ l.length ∧ x.2 = k + x.1) (fun x => l.length - x.1) (fun x => [(0, .slc 0 0 l.length 1), (1, .int .i64 x.2), (5, .int .i64 x.1)])
    (fun x => [.blk false false 27 (cFs (mixN (markF k l.length) l x.1))]) (0, k) ⟨by simp, by simp⟩ (weak_UH (by simp) (by simp)) fun x ⟨hx, hx2⟩ => ?_
  obtain ⟨i, m⟩ := x
  simp only at hx hx2
  have hw := nat_wrap (k := i) (by omega)
  have hw0 : IntKind.i64.wrap (m : Int) = (m : Int) := wrap64 (by omega) (by omega)
  have hw1 : IntKind.i64.wrap ((m : Int) + 1) = (m : Int) + 1 := wrap64 (by omega) (by omega)
  have hm := mixN_length i hl
  by_cases c : i < l.length
  · simp [c, hw, hw0, hw1, hm]
    refine ⟨by omega, loopK_next (i + 1, m + 1) ?_ ?_ (weak_UH ?_ ?_)⟩
    · simp; omega
    · simp; omega
    · rw [mixN_set (by simpa using c) hl (by subst hx2; simp [markF])]
    · simp
  · obtain rfl : i = l.length := by omega
    subst hx2
    simp
    rw [mixN_all (by omega) (by omega)]
    (refine endG_keepT [] ?_ ?_ ?_ ?_ ?_ ?_ ?_ ⟨rfl, rfl⟩ ?_ <;> simp)
theorem c_heldFloat32S (n : Nat) (k : Nat) (z : Int) (hz : z = k) (h : n ≤ 1048576) (hk : k ≤ 1000000000) : Fun Tryz.prog 22 [.view false (cFs (markF k n)) n, .int .i64 z] [] (.int .i64 (k + n : Nat)) [] := by
  subst hz
  have hl : (markF k n).length = n := by simp
  refine FnSpec.walkF dr_ok Tryz.func22 rfl (by kernel_rfl) rfl rfl rfl (by simp) ?_
  simp
  refine loopG_of (α := Nat × Nat) (fun x => x.1 ≤ n ∧ x.2 = k + x.1) (fun x => n - x.1) (fun x => [(0, .view false (cFs (markF k n)) n), (1, .int .i64 x.2), (5, .int .i64 x.1)]) (fun x => []) (0, k) ⟨by simp, by simp⟩ (weak_UH (by simp) (by simp)) fun x ⟨hx, hx2⟩ => ?_
  obtain ⟨i, m⟩ := x
  simp only at hx hx2
  have hw := nat_wrap (k := i) (by omega)
  have hw0 : IntKind.i64.wrap (m : Int) = (m : Int) := wrap64 (by omega) (by omega)
  have hw1 : IntKind.i64.wrap ((m : Int) + 1) = (m : Int) + 1 := wrap64 (by omega) (by omega)
  by_cases c : i < n
  · have c' : i < (markF k n).length := by simpa using c
    have e : (markF k n)[i] = fint .f32 (m : Int) := by subst hx2; simp [markF]
    simp [c, c', hw, hw0, hw1, e]
    refine loopK_next (i + 1, m + 1) ?_ ?_ (weak_UH ?_ ?_)
    · simp; omega
    · simp; omega
    · rfl
    · simp
  · obtain rfl : i = n := by omega
    subst hx2
    simp
/-- A body in memory of the call's own, its triangles too. -/
abbrev Bod.own2 (b : Bod) (r : Nat) : AV := .agg [.slc r 0 b.me.pl.length 3, .slc (r + 1) 0 b.me.tr.length 1, .slc (r + b.me.tr.length + 2) 0 b.sp.length 4, .flt .f32 b.film, .flt .f32 b.bend, .slc (r + b.me.tr.length + 3) 0 b.w.length 1, .flt .f32 b.fall.1, .flt .f32 b.fall.2.1, .flt .f32 b.fall.2.2]
abbrev Bod.mem2 (b : Bod) (r : Nat) : Heap := .blk true false 41 (cVs b.me.pl) :: .blk true true 53 (nestC (r + 2) b.me.tr) :: (nestR b.me.tr ++ [.blk true false 112 (cSs b.sp), .blk true false 27 (cFs b.w)])
theorem c_toBody2 (b : Bod) (h : b.Small) : Fun Tryz.prog 13 [b.av] [] (b.own2 0) (b.mem2 0) := by
  obtain ⟨h1, h2, h3⟩ := h
  refine FnSpec.walk dr_ok Tryz.func13 rfl (by kernel_rfl) rfl rfl rfl (by simp) ?_
  simp
  (first | refine callG_r ?_ | refine callD_r ?_); simp; (first | refine callN_flat (by with_reducible first | exact c_toMesh2 b.me h1) rfl ?_ | refine callN_new (by with_reducible first | exact c_toMesh2 b.me h1) ?_ | refine callM_flat (by with_reducible first | exact c_toMesh2 b.me h1) rfl ?_ | refine callM_new (by with_reducible first | exact c_toMesh2 b.me h1) ?_)
  simp
  rw [nestR_ren, nestC_ren (b' := 5) fun i hi => by omega]
  have hRl : (nestR b.me.tr).length = b.me.tr.length := by simp
  have hRr : ∀ f : Nat → Nat, (nestR b.me.tr).map (Root.ren f) = nestR b.me.tr := fun f => nestR_ren f _
  have hRn : ∀ r ∈ nestR b.me.tr, Root.newB r = true := nestR_new b.me.tr
  unfold Bod.mem2
  generalize nestR b.me.tr = RR at *
  (first | refine callG_r ?_ | refine callD_r ?_); simp; (first | refine callN_flat (by with_reducible first | exact c_toSpringS _ h2) rfl ?_ | refine callN_new (by with_reducible first | exact c_toSpringS _ h2) ?_ | refine callM_flat (by with_reducible first | exact c_toSpringS _ h2) rfl ?_ | refine callM_new (by with_reducible first | exact c_toSpringS _ h2) ?_)
  simp [hRl]
  (first | refine callG_r ?_ | refine callD_r ?_); simp; (first | refine callN_flat (by with_reducible first | exact c_toFloat32S _ h3) rfl ?_ | refine callN_new (by with_reducible first | exact c_toFloat32S _ h3) ?_ | refine callM_flat (by with_reducible first | exact c_toFloat32S _ h3) rfl ?_ | refine callM_new (by with_reducible first | exact c_toFloat32S _ h3) ?_)
  simp [hRl]
  (first | refine callG_r ?_ | refine callD_r ?_); simp; (first | refine callN_flat (by with_reducible first | exact c_toVector _ _ _) rfl ?_ | refine callN_new (by with_reducible first | exact c_toVector _ _ _) ?_ | refine callM_flat (by with_reducible first | exact c_toVector _ _ _) rfl ?_ | refine callM_new (by with_reducible first | exact c_toVector _ _ _) ?_)
  simp [hRl]
  refine endG_drop3 (b.me.tr.length + 4) (by simp [hRl]) ?_ ?_ ?_ ?_ ⟨rfl, rfl⟩
  · show _ = Root.blk true false 41 (cVs b.me.pl) :: Root.blk true true 53 ((nestC 2 b.me.tr).map _) :: (RR ++ [Root.blk true false 112 (cSs b.sp), Root.blk true false 27 (cFs b.w)]).map _
    rw [List.map_append, hRr, nestC_ren (b' := 5) fun i hi => by omega]
    simp
  · simp [AV.ren]
    omega
  · rfl
  · intro r hr
    rcases List.mem_cons.1 hr with rfl | hr
    · simp only [newB_blk, Bool.true_and, List.all_eq_true]
      exact newB_num (cVs_num b.me.pl)
    · rcases List.mem_cons.1 hr with rfl | hr
      · simp only [newB_blk, Bool.true_and, List.all_eq_true]
        exact nestC_new _ b.me.tr
      · rcases List.mem_append.1 hr with hr | hr
        · exact hRn r hr
        · simp only [List.mem_cons, List.not_mem_nil, or_false] at hr
          rcases hr with rfl | rfl
          · simp only [newB_blk, Bool.true_and, List.all_eq_true]
            exact newB_num (cSs_num b.sp)
          · simp only [newB_blk, Bool.true_and, List.all_eq_true]
            exact newB_num (cFs_num b.w)
/-- Memory of a body handed on: places, springs, weights, triangles; and marked. -/
abbrev Bod.memF (b : Bod) : Heap := [.blk false false 41 (cVs b.me.pl), .blk false false 112 (cSs b.sp), .blk false false 27 (cFs b.w)]
abbrev Bod.mrkF (b : Bod) : Heap := [.blk false false 41 (cVs (markV 1 b.me.pl.length)), .blk false false 112 (cSs (markS (1 + 3 * b.me.pl.length + sumL b.me.tr) b.sp.length)), .blk false false 27 (cFs (markF (1 + 3 * b.me.pl.length + sumL b.me.tr + 4 * b.sp.length) b.w.length))]
theorem c_markBody (b : Bod) (h : b.Small) (hs : sumL b.me.tr ≤ 1048576) : Fun Tryz.prog 19 [.agg [.slc 0 0 b.me.pl.length 3, .slc 3 0 b.me.tr.length 1, .slc 1 0 b.sp.length 4, .flt .f32 b.film, .flt .f32 b.bend, .slc 2 0 b.w.length 1, .flt .f32 b.fall.1, .flt .f32 b.fall.2.1, .flt .f32 b.fall.2.2], .int .i64 1] (b.memF ++ .blk false true 53 (nestC 4 b.me.tr) :: nestF b.me.tr)
    (.int .i64 ((1 + 3 * b.me.pl.length + sumL b.me.tr + 4 * b.sp.length + b.w.length : Nat) : Int)) (b.mrkF ++ .blk false true 53 (nestC 4 b.me.tr) :: deadF b.me.tr.length) := by
  obtain ⟨h1, h2, h3⟩ := h
  have h0 := h1.pl
  refine FnSpec.walk dr_ok Tryz.func19 rfl (by kernel_rfl) rfl rfl rfl (by simp) ?_
  have hRl : (nestF b.me.tr).length = b.me.tr.length := by simp [nestF]
  have hRg : ∀ (i : Nat) (h : i < b.me.tr.length), (nestF b.me.tr)[i]? = some (.blk false false 2 (cIs b.me.tr[i])) := fun i h => by simp [nestF, h]
  generalize nestF b.me.tr = RR at *
  simp
  refine call_nest (ps := [0]) (q := 3) (b := 4) (T := b.me.tr) (nw := false) (psr := [.blk false false 41 (cVs b.me.pl)]) (psr' := [.blk false false 41 (cVs (markV 1 b.me.pl.length))]) ?_ rfl (fun i hi => ⟨false, ?_⟩) (by simp [liveB]) ?_ ?_ (c_markMesh b.me h1 hs) rfl (by simp) fun M hM1 hM2 hM3 => ?_
  · simp [List.mem_range'_1, List.nodup_range']
  · rw [show 4 + i = i + 1 + 1 + 1 + 1 by omega, List.getElem?_cons_succ, List.getElem?_cons_succ, List.getElem?_cons_succ, List.getElem?_cons_succ, List.getElem?_append_left (by omega)]
    exact hRg i hi
  · simp [pasH]
  · simp [passA, pass0, pasR, posN]
  have hback : ∀ i, i < b.me.tr.length → backN ([0] ++ 3 :: List.range' 4 b.me.tr.length) (RR.length + 5) (2 + i) = 4 + i := fun i hi => by
    unfold backN
    rw [if_pos (by simp; omega), Nat.add_comm 2 i]
    show (0 :: 3 :: List.range' 4 b.me.tr.length).getD (i + 2) _ = _
    rw [List.getD_cons_succ, List.getD_cons_succ, List.getD_eq_getElem?_getD, List.getElem?_range' hi]; simp
  have hdl : (deadF b.me.tr.length).length = RR.length := by simp [deadF, hRl]
  have hM : M = .blk false false 41 (cVs (markV 1 b.me.pl.length)) :: .blk false false 112 (cSs b.sp) :: .blk false false 27 (cFs b.w) :: .blk false true 53 (nestC 4 b.me.tr) ::
      (deadF b.me.tr.length ++ [.blk true true 43 [.slc 0 0 b.me.pl.length 3, .slc 3 0 b.me.tr.length 1, .slc 1 0 b.sp.length 4, .flt .f32 b.film, .flt .f32 b.bend, .slc 2 0 b.w.length 1, .flt .f32 b.fall.1, .flt .f32 b.fall.2.1, .flt .f32 b.fall.2.2]]) := by
    apply List.ext_getElem?
    intro j
    match j with
    | 0 => rw [hM3 0 0 _ rfl rfl]; simp
    | 1 => rw [hM2 1 (by simp [List.mem_range'_1])]; rfl
    | 2 => rw [hM2 2 (by simp [List.mem_range'_1])]; rfl
    | 3 =>
      rw [hM3 1 3 _ rfl rfl]
      show some (Root.blk false true 53 ((nestC 2 b.me.tr).map _)) = _
      rw [nestC_ren (b' := 4) fun i hi => ?_]
      · rfl
      · have := hback i hi
        simp only [List.length_cons, List.length_append, List.length_nil] at this ⊢
        simpa using this
    | j + 4 =>
      by_cases c : j < b.me.tr.length
      · have hd : (deadF b.me.tr.length)[j]? = some (.blk false false 2 []) := by simp [deadF, c]
        rw [hM3 (j + 2) (j + 4) (.blk false false 2 []) (by
          show (0 :: 3 :: List.range' 4 b.me.tr.length)[j + 2]? = _
          rw [List.getElem?_cons_succ, List.getElem?_cons_succ, List.getElem?_range' c]; simp; omega) (by
          show (_ :: _ :: deadF b.me.tr.length)[j + 2]? = _
          rw [List.getElem?_cons_succ, List.getElem?_cons_succ]; exact hd)]
        simp only [List.getElem?_cons_succ]
        rw [List.getElem?_append_left (by omega), hd, List.getD_eq_getElem?_getD]
        simp only [List.getElem?_cons_succ]
        rw [List.getElem?_append_left (by omega), hRg j c]
        rfl
      · rw [hM2 (j + 4) (by simp [List.mem_range'_1]; omega)]
        simp only [List.getElem?_cons_succ]
        rw [List.getElem?_append_right (by omega), List.getElem?_append_right (by omega), hdl]
  subst hM
  clear hM1 hM2 hM3
  have hDb : ∀ r ∈ deadF b.me.tr.length, r = Root.blk false false 2 [] := fun r hr => List.eq_of_mem_replicate hr
  have hDs : deadF b.me.tr.length = deadF b.me.tr.length := rfl
  generalize hD : deadF b.me.tr.length = DD at *
  have hRD : RR.length = DD.length := hdl.symm
  rw [hRD]
  simp
  (first | refine callG_on true [1] ?_ | refine callD_on true [1] ?_); simp; (first | refine callN_fun (by with_reducible exact c_markSpringS b.sp _ (1 + 3 * b.me.pl.length + sumL b.me.tr) _ (by simp) rfl h2 (by omega)) (by simp) ?_ | refine callMD_fun (by with_reducible exact c_markSpringS b.sp _ (1 + 3 * b.me.pl.length + sumL b.me.tr) _ (by simp) rfl h2 (by omega)) (by simp) ?_)
  simp
  (first | refine callG_on true [2] ?_ | refine callD_on true [2] ?_); simp; (first | refine callN_fun (by with_reducible exact c_markFloat32S b.w _ (1 + 3 * b.me.pl.length + sumL b.me.tr + 4 * b.sp.length) _ (by simp) rfl h3 (by omega)) (by simp) ?_ | refine callMD_fun (by with_reducible exact c_markFloat32S b.w _ (1 + 3 * b.me.pl.length + sumL b.me.tr + 4 * b.sp.length) _ (by simp) rfl h3 (by omega)) (by simp) ?_)
  simp
  refine endG_take (av := .int .i64 ((1 + 3 * b.me.pl.length + sumL b.me.tr + 4 * b.sp.length + b.w.length : Nat) : Int)) (H0 := b.mrkF ++ .blk false true 53 (nestC 4 b.me.tr) :: DD) ?_ ?_ (fun r hr => ?_) (fun r hr => ?_) (fun r hr => ?_) ?_ rfl ⟨rfl, rfl⟩
  · simp [hRD]
  · simp [hRD]
  · match r, hr with
    | 0, _ => rfl
    | 1, _ => rfl
    | 2, _ => rfl
    | 3, _ => rfl
    | r + 4, hr =>
      have hr' : r < DD.length := by simpa using hr
      show (DD ++ _)[r]? = DD[r]?
      rw [List.getElem?_append_left hr']
  · simp only [List.cons_append, List.nil_append, List.mem_cons] at hr
    rcases hr with rfl | rfl | rfl | rfl | hr
    · exact ⟨_, _, _, _, rfl⟩
    · exact ⟨_, _, _, _, rfl⟩
    · exact ⟨_, _, _, _, rfl⟩
    · exact ⟨_, _, _, _, rfl⟩
    · exact ⟨_, _, _, _, hDb r hr⟩
  · simp only [List.cons_append, List.nil_append, List.mem_cons] at hr
    rcases hr with rfl | rfl | rfl | rfl | hr
    · rfl
    · rfl
    · rfl
    · show Root.blk false true 53 ((nestC 4 b.me.tr).map _) = _
      rw [nestC_ren (b' := 4) fun i hi => by simp; omega]
    · rw [hDb r hr]; rfl
  · simp [AV.ren]
    trace_state
end Go.Proofs.YtnpflgeenecaeaaGreat
namespace Go.Proofs.YtnpflgeenecaeaaGreat
set_option linter.all false
open Go Go.Awp
set_option maxRecDepth 100000
set_option maxHeartbeats 4000000
set_option pp.deepTerms true

theorem c_areForN (b : Bod) (v : List V) (step : Nat) (hs : b.Small) (hl : v.length ≤ 1048576) : Fun Tryz.prog 52 [b.av, .view false [] 0, .view false (cVs v) v.length, .flt .f32 step] [] (.bool (canB b [] v step)) [] := c_areFor b [] v step hs (by simp) hl
theorem c_l09CanN (b : Bod) (rest : List AV) (v : List V) (step : Nat) (hs : b.Small) (hl : v.length ≤ 1048576) : Fun Tryz.prog 44 [b.vp rest, .view false [] 0, .view false (cVs v) v.length, .flt .f32 step] [] (.bool (canB b [] v step)) [] := c_l09Can b rest [] v step hs (by simp) hl
/-- The energy behind a step of a way. -/
def alN (b : Bod) (v : List V) (step count k : Nat) : List Nat := (List.range k).map fun (i : Nat) => enB (movB b v (fop .mul .f32 step (fint .f32 ((i : Int) - (count : Int)))))
@[simp] theorem alN_len (b : Bod) (v : List V) (step count k : Nat) : (alN b v step count k).length = k := by simp [alN]
theorem alN_succ (b : Bod) (v : List V) (step count k : Nat) : alN b v step count (k + 1) = alN b v step count k ++ [enB (movB b v (fop .mul .f32 step (fint .f32 ((k : Int) - (count : Int)))))] := by
  unfold alN
  rw [List.range_succ, List.map_append]; rfl
theorem c_EnergiesAlong (b : Bod) (v : List V) (step count : Nat) (hs : b.Small) (hl : v.length ≤ 1048576) (hc : canB b [] v step = true) (h1 : count ≤ 40) :
    Fun Tryz.prog 15 [b.av, .view false (cVs v) v.length, .flt .f32 step, .int .i64 count] [] (.tup [.slc 0 0 (2 * count + 1) 1, .bool true]) [.blk true false 27 (cFs (alN b v step count (2 * count + 1)))] := by
  obtain ⟨hv, hp, hlen, hst⟩ := canB_of hc
  obtain ⟨hm, hpl, htr, hsp, hww⟩ := vldB_of hv
  refine FnSpec.walk dr_ok Tryz.func15 rfl (by kernel_rfl) rfl rfl rfl (by simp) ?_
  simp
  (first | refine callG_r ?_ | refine callD_r ?_); simp; (first | refine callN_flat (by with_reducible first | exact c_areForN b v step hs hl) rfl ?_ | refine callN_new (by with_reducible first | exact c_areForN b v step hs hl) ?_ | refine callM_flat (by with_reducible first | exact c_areForN b v step hs hl) rfl ?_ | refine callM_new (by with_reducible first | exact c_areForN b v step hs hl) ?_)
  simp [hc]
  (first | refine callG_r ?_ | refine callD_r ?_); simp; (first | refine callN_flat (by with_reducible first | exact c_within _ _ _) rfl ?_ | refine callN_new (by with_reducible first | exact c_within _ _ _) ?_ | refine callM_flat (by with_reducible first | exact c_within _ _ _) rfl ?_ | refine callM_new (by with_reducible first | exact c_within _ _ _) ?_)
  have hi : inB count 0 40 = true := by simp [inB]; omega
  have w0 : IntKind.i64.wrap (-(count : Int)) = -(count : Int) := wrap64 (by omega) (by omega)
  simp [hi, w0]
  refine loopG_of (α := Nat) (fun k => k ≤ 2 * count + 1) (fun k => 2 * count + 1 - k) (fun k => [(11, .int .i64 ((k : Int) - (count : Int))), (10, .slc 1 0 k 1), (4, .ptr 0 0), (1, .view false (cVs v) v.length), (2, .flt .f32 step), (3, .int .i64 count)])
    (fun k => [.blk true true 43 b.cells, .blk true false 27 (cFs (alN b v step count k))]) 0 (by simp) ?_ fun k hk => ?_
  · (refine weak_gc [(some 0, 0), (none, 27)] ?_ ?_ ?_ ?_ ?_ <;> simp [alN])
  have hw : IntKind.i64.wrap ((k : Int) - (count : Int) + 1) = (k : Int) - (count : Int) + 1 := wrap64 (by omega) (by omega)
  have hw2 : (k : Int) - (count : Int) + 1 = ((k + 1 : Nat) : Int) - (count : Int) := by omega
  by_cases c : k ≤ 2 * count
  · have c2 : (k : Int) - (count : Int) ≤ (count : Int) := by omega
    have hsu := alN_succ b v step count k
    have hll := alN_len b v step count k
    simp [c2, hw]
    (first | refine callG_r ?_ | refine callD_r ?_); simp; (first | refine callN_flat (by with_reducible first | exact c_moved b v _ hs hpl htr hlen) rfl ?_ | refine callN_new (by with_reducible first | exact c_moved b v _ hs hpl htr hlen) ?_ | refine callM_flat (by with_reducible first | exact c_moved b v _ hs hpl htr hlen) rfl ?_ | refine callM_new (by with_reducible first | exact c_moved b v _ hs hpl htr hlen) ?_)
    simp
    (first | refine callG_r ?_ | refine callD_r ?_); simp; (first | refine callN_flat (by with_reducible first | exact c_energyOf _ (small_mov hs hlen) (vldB_mov hv hlen)) rfl ?_ | refine callN_new (by with_reducible first | exact c_energyOf _ (small_mov hs hlen) (vldB_mov hv hlen)) ?_ | refine callM_flat (by with_reducible first | exact c_energyOf _ (small_mov hs hlen) (vldB_mov hv hlen)) rfl ?_ | refine callM_new (by with_reducible first | exact c_energyOf _ (small_mov hs hlen) (vldB_mov hv hlen)) ?_)
    have htk : (alN b v step count k).take k = alN b v step count k := List.take_of_length_le (by omega)
    simp [hw, hll, htk]
    refine ⟨by omega, by omega, ?_⟩
    refine loopK_next (k + 1) (by omega) (by omega) ?_
    rw [hsu]
    (refine weak_gc [(some 0, 0), (some 7, 0)] ?_ ?_ ?_ ?_ ?_ <;> simp [hw, hw2])
  · have c2 : ¬ ((k : Int) - (count : Int) ≤ (count : Int)) := by omega
    have hk2 : k = 2 * count + 1 := by omega
    simp [c2]
    rw [hk2]
    (refine endG_keepT [(some 1, 0)] ?_ ?_ ?_ ?_ ?_ ?_ ?_ ⟨rfl, rfl⟩ ?_ <;> simp)
theorem c_EnergiesAlong0 (b : Bod) (v : List V) (step : Nat) (count : Int) (hs : b.Small) (hl : v.length ≤ 1048576) (hc : (canB b [] v step && inB count 0 40) = false) :
    Fun Tryz.prog 15 [b.av, .view false (cVs v) v.length, .flt .f32 step, .int .i64 count] [] (.tup [.nils, .bool false]) [] := by
  refine FnSpec.walk dr_ok Tryz.func15 rfl (by kernel_rfl) rfl rfl rfl (by simp) ?_
  simp
  (first | refine callG_r ?_ | refine callD_r ?_); simp; (first | refine callN_flat (by with_reducible first | exact c_areForN b v step hs hl) rfl ?_ | refine callN_new (by with_reducible first | exact c_areForN b v step hs hl) ?_ | refine callM_flat (by with_reducible first | exact c_areForN b v step hs hl) rfl ?_ | refine callM_new (by with_reducible first | exact c_areForN b v step hs hl) ?_)
  cases h : canB b [] v step with
  | false =>
    simp
    (refine endG_keepT [] ?_ ?_ ?_ ?_ ?_ ?_ ?_ ⟨rfl, rfl⟩ ?_ <;> simp)
  | true =>
    rw [h] at hc
    simp at hc
    simp
    (first | refine callG_r ?_ | refine callD_r ?_); simp; (first | refine callN_flat (by with_reducible first | exact c_within _ _ _) rfl ?_ | refine callN_new (by with_reducible first | exact c_within _ _ _) ?_ | refine callM_flat (by with_reducible first | exact c_within _ _ _) rfl ?_ | refine callM_new (by with_reducible first | exact c_within _ _ _) ?_)
    simp [hc]
    (refine endG_keepT [] ?_ ?_ ?_ ?_ ?_ ?_ ?_ ⟨rfl, rfl⟩ ?_ <;> simp)
theorem c_specEnergiesAlong (b : Bod) (v : List V) (step count : Nat) (hs : b.Small) (hl : v.length ≤ 1048576) (hc : canB b [] v step = true) (h1 : count ≤ 40) :
    Fun Tryz.prog 12 [b.av, .view false (cVs v) v.length, .flt .f32 step, .int .i64 count] [] (.tup [.slc 0 0 (2 * count + 1) 1, .bool true]) [.blk true false 27 (cFs (alN b v step count (2 * count + 1)))] := by
  obtain ⟨hv, hp, hlen, hst⟩ := canB_of hc
  obtain ⟨hm, hpl, htr, hsp, hww⟩ := vldB_of hv
  refine FnSpec.walk dr_ok Tryz.func12 rfl (by kernel_rfl) rfl rfl rfl (by simp) ?_
  simp
  (first | refine callG_r ?_ | refine callD_r ?_); simp; (first | refine callN_flat (by with_reducible first | exact c_l09CanN b _ v step hs hl) rfl ?_ | refine callN_new (by with_reducible first | exact c_l09CanN b _ v step hs hl) ?_ | refine callM_flat (by with_reducible first | exact c_l09CanN b _ v step hs hl) rfl ?_ | refine callM_new (by with_reducible first | exact c_l09CanN b _ v step hs hl) ?_)
  simp [hc]
  (first | refine callG_r ?_ | refine callD_r ?_); simp; (first | refine callN_flat (by with_reducible first | exact c_l00In _ _ _) rfl ?_ | refine callN_new (by with_reducible first | exact c_l00In _ _ _) ?_ | refine callM_flat (by with_reducible first | exact c_l00In _ _ _) rfl ?_ | refine callM_new (by with_reducible first | exact c_l00In _ _ _) ?_)
  have hi : inB count 0 40 = true := by simp [inB]; omega
  have w0 : IntKind.i64.wrap (-(count : Int)) = -(count : Int) := wrap64 (by omega) (by omega)
  simp [hi, w0]
  refine loopG_of (α := Nat) (fun k => k ≤ 2 * count + 1) (fun k => 2 * count + 1 - k) (fun k => [(11, .int .i64 ((k : Int) - (count : Int))), (10, .slc 1 0 k 1), (4, .ptr 0 0), (1, .view false (cVs v) v.length), (2, .flt .f32 step), (3, .int .i64 count)])
    (fun k => [.blk true true 43 b.cells, .blk true false 27 (cFs (alN b v step count k))]) 0 (by simp) ?_ fun k hk => ?_
  · (refine weak_gc [(some 0, 0), (none, 27)] ?_ ?_ ?_ ?_ ?_ <;> simp [alN])
  have hw : IntKind.i64.wrap ((k : Int) - (count : Int) + 1) = (k : Int) - (count : Int) + 1 := wrap64 (by omega) (by omega)
  have hw2 : (k : Int) - (count : Int) + 1 = ((k + 1 : Nat) : Int) - (count : Int) := by omega
  by_cases c : k ≤ 2 * count
  · have c2 : (k : Int) - (count : Int) ≤ (count : Int) := by omega
    have hsu := alN_succ b v step count k
    have hll := alN_len b v step count k
    simp [c2, hw]
    (first | refine callG_r ?_ | refine callD_r ?_); simp; (first | refine callN_flat (by with_reducible first | exact c_l03Moved b _ v _ hs hpl htr hlen) rfl ?_ | refine callN_new (by with_reducible first | exact c_l03Moved b _ v _ hs hpl htr hlen) ?_ | refine callM_flat (by with_reducible first | exact c_l03Moved b _ v _ hs hpl htr hlen) rfl ?_ | refine callM_new (by with_reducible first | exact c_l03Moved b _ v _ hs hpl htr hlen) ?_)
    simp
    (first | refine callG_r ?_ | refine callD_r ?_); simp; (first | refine callN_flat (by with_reducible first | exact c_l03Energy _ _ (small_mov hs hlen) (vldB_mov hv hlen)) rfl ?_ | refine callN_new (by with_reducible first | exact c_l03Energy _ _ (small_mov hs hlen) (vldB_mov hv hlen)) ?_ | refine callM_flat (by with_reducible first | exact c_l03Energy _ _ (small_mov hs hlen) (vldB_mov hv hlen)) rfl ?_ | refine callM_new (by with_reducible first | exact c_l03Energy _ _ (small_mov hs hlen) (vldB_mov hv hlen)) ?_)
    have htk : (alN b v step count k).take k = alN b v step count k := List.take_of_length_le (by omega)
    simp [hw, hll, htk]
    refine ⟨by omega, by omega, ?_⟩
    refine loopK_next (k + 1) (by omega) (by omega) ?_
    rw [hsu]
    (refine weak_gc [(some 0, 0), (some 8, 0)] ?_ ?_ ?_ ?_ ?_ <;> simp [hw, hw2])
  · have c2 : ¬ ((k : Int) - (count : Int) ≤ (count : Int)) := by omega
    have hk2 : k = 2 * count + 1 := by omega
    simp [c2]
    rw [hk2]
    (refine endG_keepT [(some 1, 0)] ?_ ?_ ?_ ?_ ?_ ?_ ?_ ⟨rfl, rfl⟩ ?_ <;> simp)
theorem c_specEnergiesAlong0 (b : Bod) (v : List V) (step : Nat) (count : Int) (hs : b.Small) (hl : v.length ≤ 1048576) (hc : (canB b [] v step && inB count 0 40) = false) :
    Fun Tryz.prog 12 [b.av, .view false (cVs v) v.length, .flt .f32 step, .int .i64 count] [] (.tup [.nils, .bool false]) [] := by
  refine FnSpec.walk dr_ok Tryz.func12 rfl (by kernel_rfl) rfl rfl rfl (by simp) ?_
  simp
  (first | refine callG_r ?_ | refine callD_r ?_); simp; (first | refine callN_flat (by with_reducible first | exact c_l09CanN b _ v step hs hl) rfl ?_ | refine callN_new (by with_reducible first | exact c_l09CanN b _ v step hs hl) ?_ | refine callM_flat (by with_reducible first | exact c_l09CanN b _ v step hs hl) rfl ?_ | refine callM_new (by with_reducible first | exact c_l09CanN b _ v step hs hl) ?_)
  cases h : canB b [] v step with
  | false =>
    simp
    (refine endG_keepT [] ?_ ?_ ?_ ?_ ?_ ?_ ?_ ⟨rfl, rfl⟩ ?_ <;> simp)
  | true =>
    rw [h] at hc
    simp at hc
    simp
    (first | refine callG_r ?_ | refine callD_r ?_); simp; (first | refine callN_flat (by with_reducible first | exact c_l00In _ _ _) rfl ?_ | refine callN_new (by with_reducible first | exact c_l00In _ _ _) ?_ | refine callM_flat (by with_reducible first | exact c_l00In _ _ _) rfl ?_ | refine callM_new (by with_reducible first | exact c_l00In _ _ _) ?_)
    simp [hc]
    (refine endG_keepT [] ?_ ?_ ?_ ?_ ?_ ?_ ?_ ⟨rfl, rfl⟩ ?_ <;> simp)
end Go.Proofs.YtnpflgeenecaeaaGreat
namespace Go.Proofs.YtnpflgeenecaeaaGreat
set_option linter.all false
open Go Go.Awp
set_option maxRecDepth 100000
set_option maxHeartbeats 4000000
set_option pp.deepTerms true

theorem szM_sum2 {m : Msh} (h : 0 ≤ szM m 1048576) : sumL m.tr ≤ 1048576 := by
  unfold szM thn at h
  split at h
  · omega
  · have h1 := szL_le (n := m.pl.length) (left := 1048576) (by omega)
    have := szSS_sum (T := m.tr) (left := szL m.pl.length 1048576) h1 (by omega) h
    omega
theorem szB_sum {b : Bod} (h : 0 ≤ szB b 1048576) : sumL b.me.tr ≤ 1048576 := by
  refine szM_sum2 ?_
  unfold szB thn at h
  split at h
  · omega
  · omega
theorem nest_read2 {H : Heap} {T : List (List Int)} : ∀ {b : Nat}, (∀ (i : Nat) (h : i < T.length), ∃ w, H[b + i]? = some (.blk w false 2 (cIs T[i]))) → (nestC b T).map (cellB true [] H) = cRs false T := by
  induction T with
  | nil => intro b _; rfl
  | cons t T ih =>
    intro b h
    obtain ⟨w, h0⟩ := h 0 (by simp)
    have := ih (b := b + 1) fun i hi => by
      have := h (i + 1) (by simpa using hi)
      rw [show b + (i + 1) = b + 1 + i by omega] at this
      exact this
    have h0' : H[b]? = some (.blk w false 2 (cIs t)) := h0
    simp only [nestC, List.map_cons, this]
    show cellB true [] H (.slc b 0 t.length 1) :: _ = _
    simp [cellB, posN, h0', ownV]
    rfl
theorem split_marked {M H t : Heap} {σ : List Nat} (hM1 : M.length = (H ++ t).length) (hM2 : ∀ j, j ∉ σ → M[j]? = (H ++ t)[j]?) (hσ : ∀ j ∈ σ, j < H.length) :
    ∃ H2 : Heap, H2.length = H.length ∧ M = H2 ++ t ∧ ∀ j, j < H.length → j ∉ σ → H2[j]? = H[j]? := by
  have hle : H.length ≤ M.length := by rw [hM1, List.length_append]; omega
  refine ⟨M.take H.length, by rw [List.length_take]; omega, ?_, fun j hj hn => ?_⟩
  · have : M.drop H.length = t := by
      apply List.ext_getElem?
      intro j
      rw [List.getElem?_drop, hM2 _ (fun h => by have := hσ _ h; omega), List.getElem?_append_right (by omega), Nat.add_sub_cancel_left]
    rw [← this, List.take_append_drop]
  · rw [List.getElem?_take, if_pos hj, hM2 _ hn, List.getElem?_append_left hj]
def stfL (b : Bod) (held : List Int) (v : List V) (step : Nat) : List V := if canB b held v step then timB b held (freeL v held) step else []
theorem c_StiffTimesU (b : Bod) (held : List Int) (v : List V) (step : Nat) (hs : b.Small) (hh : held.length ≤ 1048576) (hl : v.length ≤ 1048576) :
    Fun Tryz.prog 29 [b.av, .view false (cIs held) held.length, .view false (cVs v) v.length, .flt .f32 step] [] (.tup [.slc 0 0 (stfL b held v step).length 3, .bool (canB b held v step)]) [.blk true false 41 (cVs (stfL b held v step))] := by
  cases hc : canB b held v step with
  | true =>
    have := c_StiffTimes b held v step hs hh hl hc
    simpa [stfL, hc] using this
  | false =>
    refine FnSpec.walkW dr_ok Tryz.func29 rfl (by kernel_rfl) rfl rfl rfl (by simp) ?_
    simp
    (first | refine callG_r ?_ | refine callD_r ?_); simp; (first | refine callN_flat (by with_reducible first | exact c_areFor b held v step hs hh hl) rfl ?_ | refine callN_new (by with_reducible first | exact c_areFor b held v step hs hh hl) ?_ | refine callM_flat (by with_reducible first | exact c_areFor b held v step hs hh hl) rfl ?_ | refine callM_new (by with_reducible first | exact c_areFor b held v step hs hh hl) ?_)
    simp [hc]
    refine ⟨U 23 [(8, .slc 0 0 0 3), (9, .bool false)], [.blk true false 41 []], by (refine weak_gc [(none, 41)] ?_ ?_ ?_ ?_ ?_ <;> simp), ?_⟩
    (refine endG_keepT [(some 0, 0)] ?_ ?_ ?_ ?_ ?_ ?_ ?_ ⟨rfl, rfl⟩ ?_ <;> simp [stfL, hc])
theorem c_specStiffTimesU (b : Bod) (held : List Int) (v : List V) (step : Nat) (hs : b.Small) (hh : held.length ≤ 1048576) (hl : v.length ≤ 1048576) :
    Fun Tryz.prog 28 [b.av, .view false (cIs held) held.length, .view false (cVs v) v.length, .flt .f32 step] [] (.tup [.slc 0 0 (stfL b held v step).length 3, .bool (canB b held v step)]) [.blk true false 41 (cVs (stfL b held v step))] := by
  cases hc : canB b held v step with
  | true =>
    have := c_specStiffTimes b held v step hs hh hl hc
    simpa [stfL, hc] using this
  | false =>
    refine FnSpec.walkW dr_ok Tryz.func28 rfl (by kernel_rfl) rfl rfl rfl (by simp) ?_
    simp
    (first | refine callG_r ?_ | refine callD_r ?_); simp; (first | refine callN_flat (by with_reducible first | exact c_l09Can b _ held v step hs hh hl) rfl ?_ | refine callN_new (by with_reducible first | exact c_l09Can b _ held v step hs hh hl) ?_ | refine callM_flat (by with_reducible first | exact c_l09Can b _ held v step hs hh hl) rfl ?_ | refine callM_new (by with_reducible first | exact c_l09Can b _ held v step hs hh hl) ?_)
    simp [hc]
    refine ⟨U 21 [(8, .slc 0 0 0 3), (9, .bool false)], [.blk true false 41 []], by (refine weak_gc [(none, 41)] ?_ ?_ ?_ ?_ ?_ <;> simp), ?_⟩
    (refine endG_keepT [(some 0, 0)] ?_ ?_ ?_ ?_ ?_ ?_ ?_ ⟨rfl, rfl⟩ ?_ <;> simp [stfL, hc])
theorem stfL_le (b : Bod) (held : List Int) (v : List V) (step : Nat) : (stfL b held v step).length ≤ 64 := by
  unfold stfL
  split
  · rename_i h
    obtain ⟨hv, hp, hlen, hst⟩ := canB_of h
    have := (vldB_of hv).pl
    simp; omega
  · simp
def alK (b : Bod) (v : List V) (step : Nat) (count : Int) : Bool := canB b [] v step && inB count 0 40
def alL (b : Bod) (v : List V) (step : Nat) (count : Int) : List Nat := if alK b v step count then alN b v step count.toNat (2 * count.toNat + 1) else []
theorem alL_le (b : Bod) (v : List V) (step : Nat) (count : Int) : (alL b v step count).length ≤ 81 := by
  unfold alL
  split
  · rename_i h
    simp [alK, inB] at h
    simp; omega
  · simp
theorem c_EnergiesAlongU (b : Bod) (v : List V) (step : Nat) (count : Int) (hs : b.Small) (hl : v.length ≤ 1048576) :
    Fun Tryz.prog 15 [b.av, .view false (cVs v) v.length, .flt .f32 step, .int .i64 count] [] (.tup [.slc 0 0 (alL b v step count).length 1, .bool (alK b v step count)]) [.blk true false 27 (cFs (alL b v step count))] := by
  cases hc : alK b v step count with
  | true =>
    have hc' := hc
    simp [alK, inB] at hc'
    obtain ⟨n, rfl⟩ : ∃ n : Nat, count = n := ⟨count.toNat, by omega⟩
    have := c_EnergiesAlong b v step n hs hl hc'.1 (by omega)
    simpa [alL, hc] using this
  | false =>
    refine FnSpec.walkW dr_ok Tryz.func15 rfl (by kernel_rfl) rfl rfl rfl (by simp) ?_
    simp
    (first | refine callG_r ?_ | refine callD_r ?_); simp; (first | refine callN_flat (by with_reducible first | exact c_areForN b v step hs hl) rfl ?_ | refine callN_new (by with_reducible first | exact c_areForN b v step hs hl) ?_ | refine callM_flat (by with_reducible first | exact c_areForN b v step hs hl) rfl ?_ | refine callM_new (by with_reducible first | exact c_areForN b v step hs hl) ?_)
    cases h : canB b [] v step with
    | false =>
      simp
      refine ⟨U 42 [(8, .slc 0 0 0 1), (9, .bool false)], [.blk true false 27 []], by (refine weak_gc [(none, 27)] ?_ ?_ ?_ ?_ ?_ <;> simp), ?_⟩
      (refine endG_keepT [(some 0, 0)] ?_ ?_ ?_ ?_ ?_ ?_ ?_ ⟨rfl, rfl⟩ ?_ <;> simp [alL, hc])
    | true =>
      have hc' := hc
      unfold alK at hc'
      rw [h] at hc'
      simp at hc'
      simp
      (first | refine callG_r ?_ | refine callD_r ?_); simp; (first | refine callN_flat (by with_reducible first | exact c_within _ _ _) rfl ?_ | refine callN_new (by with_reducible first | exact c_within _ _ _) ?_ | refine callM_flat (by with_reducible first | exact c_within _ _ _) rfl ?_ | refine callM_new (by with_reducible first | exact c_within _ _ _) ?_)
      simp [hc']
      refine ⟨U 42 [(8, .slc 0 0 0 1), (9, .bool false)], [.blk true false 27 []], by (refine weak_gc [(none, 27)] ?_ ?_ ?_ ?_ ?_ <;> simp), ?_⟩
      (refine endG_keepT [(some 0, 0)] ?_ ?_ ?_ ?_ ?_ ?_ ?_ ⟨rfl, rfl⟩ ?_ <;> simp [alL, hc])
theorem c_specEnergiesAlongU (b : Bod) (v : List V) (step : Nat) (count : Int) (hs : b.Small) (hl : v.length ≤ 1048576) :
    Fun Tryz.prog 12 [b.av, .view false (cVs v) v.length, .flt .f32 step, .int .i64 count] [] (.tup [.slc 0 0 (alL b v step count).length 1, .bool (alK b v step count)]) [.blk true false 27 (cFs (alL b v step count))] := by
  cases hc : alK b v step count with
  | true =>
    have hc' := hc
    simp [alK, inB] at hc'
    obtain ⟨n, rfl⟩ : ∃ n : Nat, count = n := ⟨count.toNat, by omega⟩
    have := c_specEnergiesAlong b v step n hs hl hc'.1 (by omega)
    simpa [alL, hc] using this
  | false =>
    refine FnSpec.walkW dr_ok Tryz.func12 rfl (by kernel_rfl) rfl rfl rfl (by simp) ?_
    simp
    (first | refine callG_r ?_ | refine callD_r ?_); simp; (first | refine callN_flat (by with_reducible first | exact c_l09CanN b _ v step hs hl) rfl ?_ | refine callN_new (by with_reducible first | exact c_l09CanN b _ v step hs hl) ?_ | refine callM_flat (by with_reducible first | exact c_l09CanN b _ v step hs hl) rfl ?_ | refine callM_new (by with_reducible first | exact c_l09CanN b _ v step hs hl) ?_)
    cases h : canB b [] v step with
    | false =>
      simp
      refine ⟨U 42 [(8, .slc 0 0 0 1), (9, .bool false)], [.blk true false 27 []], by (refine weak_gc [(none, 27)] ?_ ?_ ?_ ?_ ?_ <;> simp), ?_⟩
      (refine endG_keepT [(some 0, 0)] ?_ ?_ ?_ ?_ ?_ ?_ ?_ ⟨rfl, rfl⟩ ?_ <;> simp [alL, hc])
    | true =>
      have hc' := hc
      unfold alK at hc'
      rw [h] at hc'
      simp at hc'
      simp
      (first | refine callG_r ?_ | refine callD_r ?_); simp; (first | refine callN_flat (by with_reducible first | exact c_l00In _ _ _) rfl ?_ | refine callN_new (by with_reducible first | exact c_l00In _ _ _) ?_ | refine callM_flat (by with_reducible first | exact c_l00In _ _ _) rfl ?_ | refine callM_new (by with_reducible first | exact c_l00In _ _ _) ?_)
      simp [hc']
      refine ⟨U 42 [(8, .slc 0 0 0 1), (9, .bool false)], [.blk true false 27 []], by (refine weak_gc [(none, 27)] ?_ ?_ ?_ ?_ ?_ <;> simp), ?_⟩
      (refine endG_keepT [(some 0, 0)] ?_ ?_ ?_ ?_ ?_ ?_ ?_ ⟨rfl, rfl⟩ ?_ <;> simp [alL, hc])
end Go.Proofs.YtnpflgeenecaeaaGreat
