/- Contracts: grids of cloth.
Conditions: none. -/
import Derived.Test.YtafbecgidhoekaaMH
namespace Go.Proofs.Ytafbecgidhoekaa
set_option linter.all false
open Go Go.Awp
set_option maxRecDepth 100000
set_option maxHeartbeats 4000000
set_option pp.deepTerms true

/-- What a grid is made of. -/
def gridB (w h : Int) (s : Nat) : Bool := inB w 1 64 && inB h 1 64 && overB s && decide ((w + 1) * (h + 1) ≤ 64)
theorem inB_iff {n a b : Int} : inB n a b = true ↔ a ≤ n ∧ n ≤ b := by unfold inB; simp
theorem gridB_ok {w h : Int} {s : Nat} (hb : gridB w h s = true) : ∃ w' h' : Nat, w = w' ∧ h = h' ∧ GOk w' h' s := by
  unfold gridB at hb
  simp only [Bool.and_eq_true, decide_eq_true_eq, inB_iff] at hb
  obtain ⟨⟨⟨⟨a1, a2⟩, a3, a4⟩, a5⟩, a6⟩ := hb
  obtain ⟨w', rfl⟩ := Int.eq_ofNat_of_zero_le (show 0 ≤ w by omega)
  obtain ⟨h', rfl⟩ := Int.eq_ofNat_of_zero_le (show 0 ≤ h by omega)
  have hc : ((w' : Int) + 1) * ((h' : Int) + 1) = (((w' + 1) * (h' + 1) : Nat) : Int) := by simp
  rw [hc] at a6
  exact ⟨w', h', rfl, rfl, by omega, by omega, by omega, by omega, by omega, a5⟩
theorem c_GridMesh0 (w h : Int) (s : Nat) (hb : gridB w h s = false) : Fun Try.prog 87 [.int .i64 w, .int .i64 h, .flt .f32 s] [] (.tup [.agg [.nils, .nils], .bool false]) [] := by
  refine FnSpec.walk dr_ok Try.func87 rfl (by kernel_rfl) rfl rfl rfl (by simp) ?_
  simp
  (first | refine callG_r ?_ | refine callD_r ?_); simp; (first | refine callN_flat (by with_reducible first | exact c_within _ _ _) rfl ?_ | refine callN_new (by with_reducible first | exact c_within _ _ _) ?_ | refine callM_flat (by with_reducible first | exact c_within _ _ _) rfl ?_ | refine callM_new (by with_reducible first | exact c_within _ _ _) ?_)
  cases i1 : inB w 1 64 with
  | false => simp; (refine endG_keepT [] ?_ ?_ ?_ ?_ ?_ ?_ ?_ ⟨rfl, rfl⟩ ?_ <;> simp)
  | true =>
    simp
    (first | refine callG_r ?_ | refine callD_r ?_); simp; (first | refine callN_flat (by with_reducible first | exact c_within _ _ _) rfl ?_ | refine callN_new (by with_reducible first | exact c_within _ _ _) ?_ | refine callM_flat (by with_reducible first | exact c_within _ _ _) rfl ?_ | refine callM_new (by with_reducible first | exact c_within _ _ _) ?_)
    cases i2 : inB h 1 64 with
    | false => simp; (refine endG_keepT [] ?_ ?_ ?_ ?_ ?_ ?_ ?_ ⟨rfl, rfl⟩ ?_ <;> simp)
    | true =>
      have j1 := inB_iff.1 i1
      have j2 := inB_iff.1 i2
      obtain ⟨w', rfl⟩ := Int.eq_ofNat_of_zero_le (show 0 ≤ w by omega)
      obtain ⟨h', rfl⟩ := Int.eq_ofNat_of_zero_le (show 0 ≤ h by omega)
      have hww := nat_wrap (k := w') (by omega)
      have hwh := nat_wrap (k := h') (by omega)
      have hc : ((w' : Int) + 1) * ((h' : Int) + 1) = (((w' + 1) * (h' + 1) : Nat) : Int) := by simp
      have hcb : (w' + 1) * (h' + 1) ≤ 4225 := Nat.le_trans (Nat.mul_le_mul (show w' + 1 ≤ 65 by omega) (show h' + 1 ≤ 65 by omega)) (by decide)
      have hwm : IntKind.i64.wrap (((w' : Int) + 1) * ((h' : Int) + 1)) = ((w' : Int) + 1) * ((h' : Int) + 1) := by rw [hc]; exact wrap64 (by omega) (by omega)
      simp [hww, hwh, hwm]
      refine ⟨fun e => ?_, fun e => ?_⟩
      · (first | refine callG_r ?_ | refine callD_r ?_); simp; (first | refine callN_flat (by with_reducible first | exact c_isOver _) rfl ?_ | refine callN_new (by with_reducible first | exact c_isOver _) ?_ | refine callM_flat (by with_reducible first | exact c_isOver _) rfl ?_ | refine callM_new (by with_reducible first | exact c_isOver _) ?_)
        have ho : overB s = false := by
          cases ho : overB s with
          | false => rfl
          | true => rw [gridB, i1, i2, ho, decide_eq_true (by omega)] at hb; cases hb
        simp [ho]
        (refine endG_keepT [] ?_ ?_ ?_ ?_ ?_ ?_ ?_ ⟨rfl, rfl⟩ ?_ <;> simp)
      · (refine endG_keepT [] ?_ ?_ ?_ ?_ ?_ ?_ ?_ ⟨rfl, rfl⟩ ?_ <;> simp)
theorem c_specGridMesh0 (w h : Int) (s : Nat) (hb : gridB w h s = false) : Fun Try.prog 86 [.int .i64 w, .int .i64 h, .flt .f32 s] [] (.tup [.agg [.nils, .nils], .bool false]) [] := by
  refine FnSpec.walk dr_ok Try.func86 rfl (by kernel_rfl) rfl rfl rfl (by simp) ?_
  simp
  (first | refine callG_r ?_ | refine callD_r ?_); simp; (first | refine callN_flat (by with_reducible first | exact c_l00In _ _ _) rfl ?_ | refine callN_new (by with_reducible first | exact c_l00In _ _ _) ?_ | refine callM_flat (by with_reducible first | exact c_l00In _ _ _) rfl ?_ | refine callM_new (by with_reducible first | exact c_l00In _ _ _) ?_)
  cases i1 : inB w 1 64 with
  | false => simp; (refine endG_keepT [] ?_ ?_ ?_ ?_ ?_ ?_ ?_ ⟨rfl, rfl⟩ ?_ <;> simp)
  | true =>
    simp
    (first | refine callG_r ?_ | refine callD_r ?_); simp; (first | refine callN_flat (by with_reducible first | exact c_l00In _ _ _) rfl ?_ | refine callN_new (by with_reducible first | exact c_l00In _ _ _) ?_ | refine callM_flat (by with_reducible first | exact c_l00In _ _ _) rfl ?_ | refine callM_new (by with_reducible first | exact c_l00In _ _ _) ?_)
    cases i2 : inB h 1 64 with
    | false => simp; (refine endG_keepT [] ?_ ?_ ?_ ?_ ?_ ?_ ?_ ⟨rfl, rfl⟩ ?_ <;> simp)
    | true =>
      simp
      (first | refine callG_r ?_ | refine callD_r ?_); simp; (first | refine callN_flat (by with_reducible first | exact c_l02Size _) rfl ?_ | refine callN_new (by with_reducible first | exact c_l02Size _) ?_ | refine callM_flat (by with_reducible first | exact c_l02Size _) rfl ?_ | refine callM_new (by with_reducible first | exact c_l02Size _) ?_)
      cases ho : overB s with
      | false => simp; (refine endG_keepT [] ?_ ?_ ?_ ?_ ?_ ?_ ?_ ⟨rfl, rfl⟩ ?_ <;> simp)
      | true =>
        have j1 := inB_iff.1 i1
        have j2 := inB_iff.1 i2
        obtain ⟨w', rfl⟩ := Int.eq_ofNat_of_zero_le (show 0 ≤ w by omega)
        obtain ⟨h', rfl⟩ := Int.eq_ofNat_of_zero_le (show 0 ≤ h by omega)
        have hww := nat_wrap (k := w') (by omega)
        have hwh := nat_wrap (k := h') (by omega)
        have hc : ((w' : Int) + 1) * ((h' : Int) + 1) = (((w' + 1) * (h' + 1) : Nat) : Int) := by simp
        have hcb : (w' + 1) * (h' + 1) ≤ 4225 := Nat.le_trans (Nat.mul_le_mul (show w' + 1 ≤ 65 by omega) (show h' + 1 ≤ 65 by omega)) (by decide)
        have hwm : IntKind.i64.wrap (((w' : Int) + 1) * ((h' : Int) + 1)) = ((w' : Int) + 1) * ((h' : Int) + 1) := by rw [hc]; exact wrap64 (by omega) (by omega)
        have hlt : (64 : Int) < ((w' : Int) + 1) * ((h' : Int) + 1) := by
          by_cases c : ((w' : Int) + 1) * ((h' : Int) + 1) ≤ 64
          · rw [gridB, i1, i2, ho, decide_eq_true c] at hb; cases hb
          · omega
        simp [hww, hwh, hwm, hlt]
        (refine endG_keepT [] ?_ ?_ ?_ ?_ ?_ ?_ ?_ ⟨rfl, rfl⟩ ?_ <;> simp)
/-- The threads of a grid. -/
def thF (w h s y x : Nat) : List Th := (if x < w then [(ixF w y x, ixF w y x + 1, s)] else []) ++ (if y < h then [(ixF w y x, ixF w y x + w + 1, s)] else [])
theorem thF_le (w h s y x : Nat) : (thF w h s y x).length ≤ 2 := by
  unfold thF
  split <;> split <;> simp
abbrev gTh (w h s : Nat) : List Th := gr (thF w h s) (w + 1) (h + 1) 0
def gridC (w h s : Nat) : Clo := ⟨gPl w h s, gPl w h s, gTh w h s, []⟩
theorem gTh_le {w h s : Nat} (g : GOk w h s) : (gTh w h s).length ≤ 128 := by
  have h1 := gr_le (w + 1) (h + 1) 0 (thF_le w h s)
  have h2 := g.m
  have h3 : (h + 1) * ((w + 1) * 2) = (w + 1) * (h + 1) * 2 := by rw [← Nat.mul_assoc, Nat.mul_comm (h + 1)]
  show (gr (thF w h s) (w + 1) (h + 1) 0).length ≤ 128
  omega
theorem gridC_small {w h s : Nat} (g : GOk w h s) : (gridC w h s).Small := by
  have h1 := gPl_le g
  have h2 := gTh_le g
  exact ⟨Nat.le_trans h1 (by decide), Nat.le_trans h1 (by decide), Nat.le_trans h2 (by decide), Nat.zero_le _⟩
theorem thr_ok {n a b : Nat} {s : Nat} (h1 : a < n) (h2 : b < n) (h3 : a ≠ b) (h4 : overB s = true) : thrB n ((a : Int), (b : Int), s) = true := by
  unfold thrB
  simp only [inB_nat h1, inB_nat h2, h4]
  simp; omega
theorem gridC_vld {w h s : Nat} (g : GOk w h s) : vldC (gridC w h s) = true := by
  have h1 := gPl_le g
  have h2 := gTh_le g
  unfold vldC gridC
  dsimp only
  rw [decide_eq_true h1, decide_eq_true rfl, decide_eq_true (by omega : (gTh w h s).length ≤ 256)]
  simp only [Bool.true_and, Bool.and_eq_true]
  refine ⟨List.all_eq_true.2 fun t ht => ?_, rfl⟩
  obtain ⟨j, i, hj, hi, hm⟩ := gr_mem ht
  rw [gPl_length]
  simp only [thF, ixF_nat, List.mem_append] at hm
  have key : ∀ y, y ≤ h → i + (w + 1) * y < (h + 1) * (w + 1) := fun y hy => by
    have h3 : (w + 1) * (y + 1) ≤ (w + 1) * (h + 1) := Nat.mul_le_mul_left _ (by omega)
    rw [Nat.mul_add] at h3
    rw [Nat.mul_comm (h + 1)]; omega
  rcases hm with hm | hm
  · split at hm
    · rename_i c
      obtain rfl := List.mem_singleton.1 hm
      have h4 : i + (w + 1) * j + 1 < (h + 1) * (w + 1) := by
        have h3 : (w + 1) * (j + 1) ≤ (w + 1) * (h + 1) := Nat.mul_le_mul_left _ (by omega)
        rw [Nat.mul_add] at h3
        rw [Nat.mul_comm (h + 1)]; omega
      exact thr_ok (b := i + (w + 1) * j + 1) (by omega) h4 (by omega) g.o
    · cases hm
  · split at hm
    · rename_i c
      obtain rfl := List.mem_singleton.1 hm
      have h4 := ix_lt (w := w) c (show i ≤ w by omega)
      exact thr_ok (b := i + (w + 1) * j + w + 1) (by omega) h4 (by omega) g.o
    · cases hm
theorem take_push {α : Type} (l : List α) (a : α) : (l ++ [a]).take (l.length + 1) = l ++ [a] := by simp [List.take_of_length_le]
abbrev cHeap (L : List V) (T : List Th) : Heap := [.blk true true 32 [.nils, .nils, .nils, .nils], .blk true false 56 (cVs L), .blk true false 56 (cVs L), .blk true false 80 (cTs T), .blk true false 2 [],
  .blk true true 32 [.slc 1 0 L.length 3, .slc 2 0 L.length 3, .slc 3 0 T.length 3, .slc 4 0 0 1]]
attribute [simp] cHeap
theorem c_GridCloth (w h s : Nat) (g : GOk w h s) : Fun Try.prog 36 [.int .i64 w, .int .i64 h, .flt .f32 s] [] (.tup [(gridC w h s).own 0, .bool true]) (gridC w h s).mem := by
  have g0 := g
  obtain ⟨w1, w2, h1, h2, hm, ho⟩ := g
  have hp := gPl_le g0
  have hww := nat_wrap (k := w) (by omega)
  have hwh := nat_wrap (k := h) (by omega)
  refine FnSpec.walk dr_ok Try.func36 rfl (by kernel_rfl) rfl rfl rfl (by simp) ?_
  simp
  (first | refine callG_r ?_ | refine callD_r ?_); simp; (first | refine callN_flat (by with_reducible first | exact c_GridMesh w h s g0) rfl ?_ | refine callN_new (by with_reducible first | exact c_GridMesh w h s g0) ?_ | refine callM_flat (by with_reducible first | exact c_GridMesh w h s g0) rfl ?_ | refine callM_new (by with_reducible first | exact c_GridMesh w h s g0) ?_)
  simp [hwh]
  refine ⟨by omega, by omega, ?_⟩
  refine loopG_of (α := Nat) (fun y => y ≤ h + 1) (fun y => h + 1 - y) (fun y => [(33, .int .i64 y), (32, .int .i64 ((h : Int) + 1)), (10, .ptr 5 0), (6, .ptr 0 0), (0, .int .i64 w), (1, .int .i64 h), (2, .flt .f32 s)])
    (fun y => cHeap (gPl w h s) (gr (thF w h s) (w + 1) y 0)) 0 (by simp) ?_ fun y hy => ?_
  · (refine weak_gc [(some 0, 0), (some 1, 0), (some 4, 0), (none, 80), (none, 2), (some 5, 0)] ?_ ?_ ?_ ?_ ?_ <;> simp [gr_zero])
  have hwy := nat_wrap (k := y) (by omega)
  by_cases b : y < h + 1
  · have b' : (y : Int) < h + 1 := by omega
    simp [b', hwy, hww]
    refine loopG_of (α := Nat) (fun x => x ≤ w + 1) (fun x => w + 1 - x) (fun x => [(38, .int .i64 x), (37, .int .i64 ((w : Int) + 1)), (11, .int .i64 y), (33, .int .i64 y), (32, .int .i64 ((h : Int) + 1)), (10, .ptr 5 0), (6, .ptr 0 0), (0, .int .i64 w), (1, .int .i64 h), (2, .flt .f32 s)])
      (fun x => cHeap (gPl w h s) (gr (thF w h s) (w + 1) y x)) 0 (by simp) ?_ fun x hx => ?_
    · (refine weak_gc [(some 0, 0), (some 1, 0), (some 2, 0), (some 3, 0), (some 4, 0), (some 5, 0)] ?_ ?_ ?_ ?_ ?_ <;> simp)
    have hwx := nat_wrap (k := x) (by omega)
    by_cases b2 : x < w + 1
    · have b2' : (x : Int) < w + 1 := by omega
      have hl : (gr (thF w h s) (w + 1) y x).length ≤ y * ((w + 1) * 2) + x * 2 := gr_le _ _ _ (thF_le w h s)
      have hl2 : y * ((w + 1) * 2) ≤ 8450 := Nat.le_trans (Nat.mul_le_mul (show y ≤ 65 by omega) (show (w + 1) * 2 ≤ 130 by omega)) (by decide)
      have hst := gr_step (thF w h s) (w + 1) y x
      have hP := mul_small (w := w) (y := y) w2 (by omega)
      have hp : ((w : Int) + 1) * (y : Int) = (((w + 1) * y : Nat) : Int) := by simp
      have hA : IntKind.i64.wrap (((w : Int) + 1) * (y : Int)) = ((w : Int) + 1) * (y : Int) := by rw [hp]; exact wrap64 (by omega) (by omega)
      have hB : IntKind.i64.wrap ((x : Int) + ((w : Int) + 1) * (y : Int)) = ixF w y x := by unfold ixF; rw [hp]; exact wrap64 (by omega) (by omega)
      have hix : ixF w y x = ((x + (w + 1) * y : Nat) : Int) := ixF_nat _ _ _
      have hC : IntKind.i64.wrap (ixF w y x + w) = ixF w y x + w := by rw [hix]; exact wrap64 (by omega) (by omega)
      have hD : IntKind.i64.wrap (ixF w y x + w + 1) = ixF w y x + w + 1 := by rw [hix]; exact wrap64 (by omega) (by omega)
      have hE : IntKind.i64.wrap (ixF w y x + 1) = ixF w y x + 1 := by rw [hix]; exact wrap64 (by omega) (by omega)
      by_cases c1 : x < w
      · have c1' : (x : Int) < w := by omega
        by_cases c2 : y < h
        · have c2' : (y : Int) < h := by omega
          rw [thF, if_pos c1, if_pos c2] at hst
          simp [b2', c1, c1', c2, c2', hwx, hww, hA, hB, hC, hD, hE, one_splice, one_take, take_push]
          refine ⟨by omega, by omega, by omega, by omega, by omega, loopK_next (x + 1) (by omega) (by omega) ?_⟩
          (refine weak_gc [(some 0, 0), (some 1, 0), (some 2, 0), (some 9, 0), (some 4, 0), (some 5, 0)] ?_ ?_ ?_ ?_ ?_ <;> simp [hst])
        · have c2' : ¬ (y : Int) < h := by omega
          rw [thF, if_pos c1, if_neg c2] at hst
          simp [b2', c1, c1', c2, c2', hwx, hww, hA, hB, hC, hD, hE, one_splice, one_take]
          refine ⟨by omega, by omega, loopK_next (x + 1) (by omega) (by omega) ?_⟩
          (refine weak_gc [(some 0, 0), (some 1, 0), (some 2, 0), (some 7, 0), (some 4, 0), (some 5, 0)] ?_ ?_ ?_ ?_ ?_ <;> simp [hst])
      · have c1' : ¬ (x : Int) < w := by omega
        by_cases c2 : y < h
        · have c2' : (y : Int) < h := by omega
          rw [thF, if_neg c1, if_pos c2] at hst
          simp [b2', c1, c1', c2, c2', hwx, hww, hA, hB, hC, hD, hE, one_splice, one_take]
          refine ⟨by omega, by omega, loopK_next (x + 1) (by omega) (by omega) ?_⟩
          (refine weak_gc [(some 0, 0), (some 1, 0), (some 2, 0), (some 7, 0), (some 4, 0), (some 5, 0)] ?_ ?_ ?_ ?_ ?_ <;> simp [hst])
        · have c2' : ¬ (y : Int) < h := by omega
          rw [thF, if_neg c1, if_neg c2] at hst
          simp [b2', c1, c1', c2, c2', hwx, hww, hA, hB, hC, hD, hE, one_splice, one_take]
          refine loopK_next (x + 1) (by omega) (by omega) ?_
          (refine weak_gc [(some 0, 0), (some 1, 0), (some 2, 0), (some 3, 0), (some 4, 0), (some 5, 0)] ?_ ?_ ?_ ?_ ?_ <;> simp [hst])
    · obtain rfl : x = w + 1 := by omega
      simp [hwy]
      refine loopK_next (y + 1) (by omega) (by omega) ?_
      rw [gr_row]
      (refine weak_gc [(some 0, 0), (some 1, 0), (some 2, 0), (some 3, 0), (some 4, 0), (some 5, 0)] ?_ ?_ ?_ ?_ ?_ <;> simp)
  · obtain rfl : y = h + 1 := by omega
    simp
    have kv := c_validCloth (gridC w h s) (gridC_small g0) (gridC_vld g0)
    simp only [gridC, Clo.own, Clo.rows, List.length_nil, cIs_nil] at kv
    (first | refine callG_on true [1, 2, 3, 4] ?_ | refine callD_on true [1, 2, 3, 4] ?_); simp; (first | refine callN_fun (by with_reducible exact kv) (by simp) ?_ | refine callMD_fun (by with_reducible exact kv) (by simp) ?_)
    simp
    (refine endG_keepT [(some 1, 0), (some 2, 0), (some 3, 0), (some 4, 0)] ?_ ?_ ?_ ?_ ?_ ?_ ?_ ⟨rfl, rfl⟩ ?_ <;> simp [gridC])
theorem c_specGridCloth (w h s : Nat) (g : GOk w h s) : Fun Try.prog 35 [.int .i64 w, .int .i64 h, .flt .f32 s] [] (.tup [(gridC w h s).own 0, .bool true]) (gridC w h s).mem := by
  have g0 := g
  obtain ⟨w1, w2, h1, h2, hm, ho⟩ := g
  have hp := gPl_le g0
  have hww := nat_wrap (k := w) (by omega)
  have hwh := nat_wrap (k := h) (by omega)
  refine FnSpec.walk dr_ok Try.func35 rfl (by kernel_rfl) rfl rfl rfl (by simp) ?_
  simp
  (first | refine callG_r ?_ | refine callD_r ?_); simp; (first | refine callN_flat (by with_reducible first | exact c_specGridMesh w h s g0) rfl ?_ | refine callN_new (by with_reducible first | exact c_specGridMesh w h s g0) ?_ | refine callM_flat (by with_reducible first | exact c_specGridMesh w h s g0) rfl ?_ | refine callM_new (by with_reducible first | exact c_specGridMesh w h s g0) ?_)
  simp [hwh]
  refine ⟨by omega, by omega, ?_⟩
  refine loopG_of (α := Nat) (fun y => y ≤ h + 1) (fun y => h + 1 - y) (fun y => [(11, .int .i64 y), (10, .ptr 5 0), (6, .ptr 0 0), (0, .int .i64 w), (1, .int .i64 h), (2, .flt .f32 s)])
    (fun y => cHeap (gPl w h s) (gr (thF w h s) (w + 1) y 0)) 0 (by simp) ?_ fun y hy => ?_
  · (refine weak_gc [(some 0, 0), (some 1, 0), (some 5, 0), (none, 80), (none, 2), (some 4, 0)] ?_ ?_ ?_ ?_ ?_ <;> simp [gr_zero])
  have hwy := nat_wrap (k := y) (by omega)
  by_cases b : y < h + 1
  · have b' : (y : Int) ≤ h := by omega
    have b'' : y ≤ h := by omega
    simp [b', b'', hwy, hww]
    refine loopG_of (α := Nat) (fun x => x ≤ w + 1) (fun x => w + 1 - x) (fun x => [(12, .int .i64 x), (11, .int .i64 y), (10, .ptr 5 0), (6, .ptr 0 0), (0, .int .i64 w), (1, .int .i64 h), (2, .flt .f32 s)])
      (fun x => cHeap (gPl w h s) (gr (thF w h s) (w + 1) y x)) 0 (by simp) ?_ fun x hx => ?_
    · (refine weak_gc [(some 0, 0), (some 1, 0), (some 2, 0), (some 3, 0), (some 4, 0), (some 5, 0)] ?_ ?_ ?_ ?_ ?_ <;> simp)
    have hwx := nat_wrap (k := x) (by omega)
    by_cases b2 : x < w + 1
    · have b2' : (x : Int) ≤ w := by omega
      have b2'' : x ≤ w := by omega
      have hl : (gr (thF w h s) (w + 1) y x).length ≤ y * ((w + 1) * 2) + x * 2 := gr_le _ _ _ (thF_le w h s)
      have hl2 : y * ((w + 1) * 2) ≤ 8450 := Nat.le_trans (Nat.mul_le_mul (show y ≤ 65 by omega) (show (w + 1) * 2 ≤ 130 by omega)) (by decide)
      have hst := gr_step (thF w h s) (w + 1) y x
      have hP := mul_small (w := w) (y := y) w2 (by omega)
      have hp : ((w : Int) + 1) * (y : Int) = (((w + 1) * y : Nat) : Int) := by simp
      have hA : IntKind.i64.wrap (((w : Int) + 1) * (y : Int)) = ((w : Int) + 1) * (y : Int) := by rw [hp]; exact wrap64 (by omega) (by omega)
      have hB : IntKind.i64.wrap ((x : Int) + ((w : Int) + 1) * (y : Int)) = ixF w y x := by unfold ixF; rw [hp]; exact wrap64 (by omega) (by omega)
      have hix : ixF w y x = ((x + (w + 1) * y : Nat) : Int) := ixF_nat _ _ _
      have hC : IntKind.i64.wrap (ixF w y x + w) = ixF w y x + w := by rw [hix]; exact wrap64 (by omega) (by omega)
      have hD : IntKind.i64.wrap (ixF w y x + w + 1) = ixF w y x + w + 1 := by rw [hix]; exact wrap64 (by omega) (by omega)
      have hE : IntKind.i64.wrap (ixF w y x + 1) = ixF w y x + 1 := by rw [hix]; exact wrap64 (by omega) (by omega)
      by_cases c1 : x < w
      · have c1' : (x : Int) < w := by omega
        by_cases c2 : y < h
        · have c2' : (y : Int) < h := by omega
          rw [thF, if_pos c1, if_pos c2] at hst
          simp [b2', b2'', c1, c1', c2, c2', hwx, hww, hA, hB, hC, hD, hE, one_splice, one_take, take_push]
          refine ⟨by omega, by omega, by omega, by omega, by omega, loopK_next (x + 1) (by omega) (by omega) ?_⟩
          (refine weak_gc [(some 0, 0), (some 1, 0), (some 2, 0), (some 9, 0), (some 4, 0), (some 5, 0)] ?_ ?_ ?_ ?_ ?_ <;> simp [hst])
        · have c2' : ¬ (y : Int) < h := by omega
          rw [thF, if_pos c1, if_neg c2] at hst
          simp [b2', b2'', c1, c1', c2, c2', hwx, hww, hA, hB, hC, hD, hE, one_splice, one_take]
          refine ⟨by omega, by omega, loopK_next (x + 1) (by omega) (by omega) ?_⟩
          (refine weak_gc [(some 0, 0), (some 1, 0), (some 2, 0), (some 7, 0), (some 4, 0), (some 5, 0)] ?_ ?_ ?_ ?_ ?_ <;> simp [hst])
      · have c1' : ¬ (x : Int) < w := by omega
        by_cases c2 : y < h
        · have c2' : (y : Int) < h := by omega
          rw [thF, if_neg c1, if_pos c2] at hst
          simp [b2', b2'', c1, c1', c2, c2', hwx, hww, hA, hB, hC, hD, hE, one_splice, one_take]
          refine ⟨by omega, by omega, loopK_next (x + 1) (by omega) (by omega) ?_⟩
          (refine weak_gc [(some 0, 0), (some 1, 0), (some 2, 0), (some 7, 0), (some 4, 0), (some 5, 0)] ?_ ?_ ?_ ?_ ?_ <;> simp [hst])
        · have c2' : ¬ (y : Int) < h := by omega
          rw [thF, if_neg c1, if_neg c2] at hst
          simp [b2', b2'', c1, c1', c2, c2', hwx, hww, hA, hB, hC, hD, hE, one_splice, one_take]
          refine loopK_next (x + 1) (by omega) (by omega) ?_
          (refine weak_gc [(some 0, 0), (some 1, 0), (some 2, 0), (some 3, 0), (some 4, 0), (some 5, 0)] ?_ ?_ ?_ ?_ ?_ <;> simp [hst])
    · obtain rfl : x = w + 1 := by omega
      have b2' : ¬ ((w : Int) + 1 ≤ w) := by omega
      simp [hwy, b2']
      refine loopK_next (y + 1) (by omega) (by omega) ?_
      rw [gr_row]
      (refine weak_gc [(some 0, 0), (some 1, 0), (some 2, 0), (some 3, 0), (some 4, 0), (some 5, 0)] ?_ ?_ ?_ ?_ ?_ <;> simp)
  · obtain rfl : y = h + 1 := by omega
    have b' : ¬ ((h : Int) + 1 ≤ h) := by omega
    simp [b']
    (refine endG_keepT [(some 1, 0), (some 2, 0), (some 3, 0), (some 4, 0)] ?_ ?_ ?_ ?_ ?_ ?_ ?_ ⟨rfl, rfl⟩ ?_ <;> simp [gridC])
theorem c_GridCloth0 (w h : Int) (s : Nat) (hb : gridB w h s = false) : Fun Try.prog 36 [.int .i64 w, .int .i64 h, .flt .f32 s] [] (.tup [noC, .bool false]) [] := by
  refine FnSpec.walk dr_ok Try.func36 rfl (by kernel_rfl) rfl rfl rfl (by simp) ?_
  simp
  (first | refine callG_r ?_ | refine callD_r ?_); simp; (first | refine callN_flat (by with_reducible first | exact c_GridMesh0 w h s hb) rfl ?_ | refine callN_new (by with_reducible first | exact c_GridMesh0 w h s hb) ?_ | refine callM_flat (by with_reducible first | exact c_GridMesh0 w h s hb) rfl ?_ | refine callM_new (by with_reducible first | exact c_GridMesh0 w h s hb) ?_)
  simp
  (refine endG_keepT [] ?_ ?_ ?_ ?_ ?_ ?_ ?_ ⟨rfl, rfl⟩ ?_ <;> simp [noC])
theorem c_specGridCloth0 (w h : Int) (s : Nat) (hb : gridB w h s = false) : Fun Try.prog 35 [.int .i64 w, .int .i64 h, .flt .f32 s] [] (.tup [noC, .bool false]) [] := by
  refine FnSpec.walk dr_ok Try.func35 rfl (by kernel_rfl) rfl rfl rfl (by simp) ?_
  simp
  (first | refine callG_r ?_ | refine callD_r ?_); simp; (first | refine callN_flat (by with_reducible first | exact c_specGridMesh0 w h s hb) rfl ?_ | refine callN_new (by with_reducible first | exact c_specGridMesh0 w h s hb) ?_ | refine callM_flat (by with_reducible first | exact c_specGridMesh0 w h s hb) rfl ?_ | refine callM_new (by with_reducible first | exact c_specGridMesh0 w h s hb) ?_)
  simp
  (refine endG_keepT [] ?_ ?_ ?_ ?_ ?_ ?_ ?_ ⟨rfl, rfl⟩ ?_ <;> simp [noC])
end Go.Proofs.Ytafbecgidhoekaa
