/- Contracts: grids of places, of triangles, of threads.
Conditions: none. -/
import Derived.Test.YtafbecgidhoekaaMG
namespace Go.Proofs.Ytafbecgidhoekaa
set_option linter.all false
open Go Go.Awp
set_option maxRecDepth 100000
set_option maxHeartbeats 4000000
set_option pp.deepTerms true

/-- What a walk over a grid gathers, y rows and x of the next. -/
def gr {α : Type} (f : Nat → Nat → List α) (w y x : Nat) : List α := (List.range y).flatMap (fun j => (List.range w).flatMap (f j)) ++ (List.range x).flatMap (f y)
theorem gr_zero {α : Type} {f : Nat → Nat → List α} {w : Nat} : gr f w 0 0 = [] := by simp [gr]
theorem gr_step {α : Type} (f : Nat → Nat → List α) (w y x : Nat) : gr f w y (x + 1) = gr f w y x ++ f y x := by
  simp [gr, List.range_succ, List.flatMap_append]
theorem gr_row {α : Type} (f : Nat → Nat → List α) (w y : Nat) : gr f w (y + 1) 0 = gr f w y w := by
  simp [gr, List.range_succ, List.flatMap_append]
theorem fm_len {α β : Type} {f : α → List β} {c : Nat} : ∀ (l : List α), (∀ x ∈ l, (f x).length = c) → (l.flatMap f).length = l.length * c
  | [], _ => by simp
  | a :: l, h => by
    rw [List.flatMap_cons, List.length_append, fm_len l fun x hx => h x (List.mem_cons_of_mem _ hx), h a List.mem_cons_self, List.length_cons, Nat.add_mul, Nat.one_mul, Nat.add_comm]
theorem fm_le {α β : Type} {f : α → List β} {c : Nat} : ∀ (l : List α), (∀ x ∈ l, (f x).length ≤ c) → (l.flatMap f).length ≤ l.length * c
  | [], _ => by simp
  | a :: l, h => by
    have h1 := fm_le l fun x hx => h x (List.mem_cons_of_mem _ hx)
    have h2 := h a List.mem_cons_self
    rw [List.flatMap_cons, List.length_append, List.length_cons, Nat.add_mul, Nat.one_mul]; omega
theorem gr_len {α : Type} {f : Nat → Nat → List α} {c : Nat} (w y x : Nat) (h : ∀ j i, (f j i).length = c) : (gr f w y x).length = y * (w * c) + x * c := by
  unfold gr
  rw [List.length_append, fm_len (c := w * c) _ fun j _ => by rw [fm_len (c := c) _ fun i _ => h j i, List.length_range], fm_len (c := c) _ fun i _ => h y i, List.length_range, List.length_range]
theorem gr_le {α : Type} {f : Nat → Nat → List α} {c : Nat} (w y x : Nat) (h : ∀ j i, (f j i).length ≤ c) : (gr f w y x).length ≤ y * (w * c) + x * c := by
  unfold gr
  have h1 := fm_le (c := w * c) (List.range y) fun j _ => (by simpa using fm_le (c := c) (List.range w) fun i _ => h j i : ((List.range w).flatMap (f j)).length ≤ w * c)
  have h2 := fm_le (c := c) (List.range x) fun i _ => h y i
  rw [List.length_range] at h1 h2
  rw [List.length_append]; omega
theorem gr_mem {α : Type} {f : Nat → Nat → List α} {w y : Nat} {t : α} (h : t ∈ gr f w y 0) : ∃ j i, j < y ∧ i < w ∧ t ∈ f j i := by
  simp only [gr, List.range_zero, List.flatMap_nil, List.append_nil, List.mem_flatMap, List.mem_range] at h
  obtain ⟨j, hj, i, hi, ht⟩ := h
  exact ⟨j, i, hj, hi, ht⟩
/-- A place of a grid. -/
def plF (s y x : Nat) : List V := [(fop .mul .f32 (fint .f32 x) s, fop .mul .f32 (fint .f32 y) s, 0)]
def ixF (w y x : Nat) : Int := (x : Int) + ((w : Int) + 1) * (y : Int)
def trF (w y x : Nat) : List (List Int) := [[ixF w y x, ixF w y x + 1, ixF w y x + w + 1 + 1], [ixF w y x, ixF w y x + w + 1 + 1, ixF w y x + w + 1]]
abbrev gPl (w h s : Nat) : List V := gr (plF s) (w + 1) (h + 1) 0
abbrev gTr (w h : Nat) : List (List Int) := gr (trF w) w h 0
structure GOk (w h s : Nat) : Prop where
  w1 : 1 ≤ w
  w2 : w ≤ 64
  h1 : 1 ≤ h
  h2 : h ≤ 64
  m : (w + 1) * (h + 1) ≤ 64
  o : overB s = true
theorem gPl_length (w h s : Nat) : (gPl w h s).length = (h + 1) * (w + 1) := by
  rw [gPl, gr_len (c := 1) _ _ _ fun _ _ => rfl]; simp
theorem gPl_le {w h s : Nat} (g : GOk w h s) : (gPl w h s).length ≤ 64 := by
  rw [gPl_length, Nat.mul_comm]; exact g.m
theorem gTr_le {w h s : Nat} (g : GOk w h s) : (gTr w h).length ≤ 128 := by
  rw [gTr, gr_len (c := 2) _ _ _ fun _ _ => rfl]
  have := g.m
  have h1 : h * (w * 2) = 2 * (w * h) := by rw [Nat.mul_comm w 2, ← Nat.mul_assoc, Nat.mul_comm h 2, Nat.mul_assoc, Nat.mul_comm h w]
  have h2 : (w + 1) * (h + 1) = w * h + w + h + 1 := by rw [Nat.add_mul, Nat.mul_add, Nat.mul_one, Nat.one_mul]; omega
  omega
theorem ixF_nat (w y x : Nat) : ixF w y x = ((x + (w + 1) * y : Nat) : Int) := by unfold ixF; simp
theorem ix_lt {w h y x : Nat} (hy : y < h) (hx : x ≤ w) : x + (w + 1) * y + w + 1 < (h + 1) * (w + 1) := by
  have h1 : (w + 1) * (y + 2) ≤ (w + 1) * (h + 1) := Nat.mul_le_mul_left _ (by omega)
  rw [Nat.mul_comm (h + 1)]
  have h2 : (w + 1) * (y + 2) = (w + 1) * y + (w + 1) * 2 := Nat.mul_add _ _ _
  omega
theorem gTr_ok {w h s : Nat} : ∀ t ∈ gTr w h, TriOk (gPl w h s).length t := by
  intro t ht
  obtain ⟨j, i, hj, hi, hm⟩ := gr_mem ht
  rw [gPl_length]
  have h1 := ix_lt (w := w) hj (show i + 1 ≤ w by omega)
  simp only [trF, ixF_nat, List.mem_cons, List.not_mem_nil, or_false] at hm
  rcases hm with rfl | rfl
  · exact ⟨i + (w + 1) * j, i + (w + 1) * j + 1, i + (w + 1) * j + w + 1 + 1, by simp, by omega, by omega, by omega, by omega, by omega, by omega⟩
  · exact ⟨i + (w + 1) * j, i + (w + 1) * j + w + 1 + 1, i + (w + 1) * j + w + 1, by simp, by omega, by omega, by omega, by omega, by omega, by omega⟩
theorem mul_small {w y : Nat} (hw : w ≤ 64) (hy : y ≤ 64) : (w + 1) * y ≤ 4160 := Nat.le_trans (Nat.mul_le_mul (Nat.add_le_add_right hw 1) hy) (by decide)
theorem one_spliceV (x y z : Nat) : splice (cVs [(0, 0, 0)]) 0 [.flt .f32 x, .flt .f32 y, .flt .f32 z] = cVs [(x, y, z)] := rfl
theorem one_takeV (t : V) : (cVs [t]).take 3 = cVs [t] := rfl
abbrev gHeap (L : List V) : Heap := [.blk true true 98 [.nils, .nils], .blk true true 98 [.slc 2 0 L.length 3, .nils], .blk true false 56 (cVs L)]
attribute [simp] gHeap
abbrev tHeap (L : List V) (T : List (List Int)) : Heap := [.blk true true 98 [.nils, .nils], .blk true true 98 [.slc 2 0 L.length 3, .slc 3 0 T.length 1], .blk true false 56 (cVs L), .blk true false 24 (cLs true T)]
attribute [simp] tHeap
theorem make_nils : makeL 2 [AV.nils] = [.nils, .nils] := rfl
theorem make0_nils : makeL 0 [AV.nils] = [] := rfl
theorem splA (a b x : AV) : splice [a, b] 0 [x] = [x, b] := rfl
theorem splB (a b x : AV) : splice [a, b] 1 [x] = [a, x] := rfl
theorem c_GridMesh (w h s : Nat) (g : GOk w h s) : Fun Try.prog 87 [.int .i64 w, .int .i64 h, .flt .f32 s] [] (.tup [.agg [.slc 0 0 (gPl w h s).length 3, .slc 1 0 (gTr w h).length 1], .bool true]) [.blk true false 56 (cVs (gPl w h s)), .blk true false 24 []] := by
  have g0 := g
  obtain ⟨w1, w2, h1, h2, hm, ho⟩ := g
  have i1 : inB w 1 64 = true := by unfold inB; simp; omega
  have i2 : inB h 1 64 = true := by unfold inB; simp; omega
  have hww := nat_wrap (k := w) (by omega)
  have hwh := nat_wrap (k := h) (by omega)
  have hc : ((w : Int) + 1) * ((h : Int) + 1) = (((w + 1) * (h + 1) : Nat) : Int) := by simp
  have hwm : IntKind.i64.wrap (((w : Int) + 1) * ((h : Int) + 1)) = ((w : Int) + 1) * ((h : Int) + 1) := by rw [hc]; exact wrap64 (by omega) (by omega)
  have hm2 : ¬ (64 : Int) < ((w : Int) + 1) * ((h : Int) + 1) := by rw [hc]; omega
  refine FnSpec.walk dr_ok Try.func87 rfl (by kernel_rfl) rfl rfl rfl (by simp) ?_
  simp
  (first | refine callG_r ?_ | refine callD_r ?_); simp; (first | refine callN_flat (by with_reducible first | exact c_within _ _ _) rfl ?_ | refine callN_new (by with_reducible first | exact c_within _ _ _) ?_ | refine callM_flat (by with_reducible first | exact c_within _ _ _) rfl ?_ | refine callM_new (by with_reducible first | exact c_within _ _ _) ?_)
  simp [i1]
  (first | refine callG_r ?_ | refine callD_r ?_); simp; (first | refine callN_flat (by with_reducible first | exact c_within _ _ _) rfl ?_ | refine callN_new (by with_reducible first | exact c_within _ _ _) ?_ | refine callM_flat (by with_reducible first | exact c_within _ _ _) rfl ?_ | refine callM_new (by with_reducible first | exact c_within _ _ _) ?_)
  simp [i2, hww, hwh, hwm, hm2]
  (first | refine callG_r ?_ | refine callD_r ?_); simp; (first | refine callN_flat (by with_reducible first | exact c_isOver _) rfl ?_ | refine callN_new (by with_reducible first | exact c_isOver _) ?_ | refine callM_flat (by with_reducible first | exact c_isOver _) rfl ?_ | refine callM_new (by with_reducible first | exact c_isOver _) ?_)
  simp [ho, hwh]
  refine loopG_of (α := Nat) (fun y => y ≤ h + 1) (fun y => h + 1 - y) (fun y => [(40, .int .i64 y), (39, .int .i64 ((h : Int) + 1)), (8, .ptr 1 0), (6, .ptr 0 0), (0, .int .i64 w), (1, .int .i64 h), (2, .flt .f32 s)])
    (fun y => gHeap (gr (plF s) (w + 1) y 0)) 0 (by simp) ?_ fun y hy => ?_
  · (refine weak_gc [(some 0, 0), (some 1, 0), (none, 56)] ?_ ?_ ?_ ?_ ?_ <;> simp [gr_zero])
  have hwy := nat_wrap (k := y) (by omega)
  by_cases b : y < h + 1
  · have b' : (y : Int) < h + 1 := by omega
    simp [b', hwy, hww]
    refine loopG_of (α := Nat) (fun x => x ≤ w + 1) (fun x => w + 1 - x) (fun x => [(45, .int .i64 x), (44, .int .i64 ((w : Int) + 1)), (9, .int .i64 y), (40, .int .i64 y), (39, .int .i64 ((h : Int) + 1)), (8, .ptr 1 0), (6, .ptr 0 0), (0, .int .i64 w), (1, .int .i64 h), (2, .flt .f32 s)])
      (fun x => gHeap (gr (plF s) (w + 1) y x)) 0 (by simp) ?_ fun x hx => ?_
    · (refine weak_gc [(some 0, 0), (some 1, 0), (some 2, 0)] ?_ ?_ ?_ ?_ ?_ <;> simp)
    have hwx := nat_wrap (k := x) (by omega)
    by_cases b2 : x < w + 1
    · have b2' : (x : Int) < w + 1 := by omega
      have hl : (gr (plF s) (w + 1) y x).length = y * ((w + 1) * 1) + x * 1 := gr_len (c := 1) _ _ _ fun _ _ => rfl
      have hl2 : y * ((w + 1) * 1) ≤ 4225 := Nat.le_trans (Nat.mul_le_mul (show y ≤ 65 by omega) (show (w + 1) * 1 ≤ 65 by omega)) (by decide)
      have hst := gr_step (plF s) (w + 1) y x
      simp [b2', hwx, one_spliceV, one_takeV]
      refine ⟨by omega, by omega, loopK_next (x + 1) (by omega) (by omega) ?_⟩
      rw [hst, plF]
      (refine weak_gc [(some 0, 0), (some 1, 0), (some 4, 0)] ?_ ?_ ?_ ?_ ?_ <;> simp)
    · obtain rfl : x = w + 1 := by omega
      simp [hwy]
      refine loopK_next (y + 1) (by omega) (by omega) ?_
      rw [gr_row]
      (refine weak_gc [(some 0, 0), (some 1, 0), (some 2, 0)] ?_ ?_ ?_ ?_ ?_ <;> simp)
  · obtain rfl : y = h + 1 := by omega
    simp
    refine loopG_of (α := Nat) (fun y => y ≤ h) (fun y => h - y) (fun y => [(65, .int .i64 y), (64, .int .i64 h), (8, .ptr 1 0), (6, .ptr 0 0), (0, .int .i64 w), (1, .int .i64 h), (2, .flt .f32 s)])
      (fun y => tHeap (gPl w h s) (gr (trF w) w y 0)) 0 (by simp) ?_ fun y hy => ?_
    · (refine weak_gc [(some 0, 0), (some 1, 0), (some 2, 0), (none, 24)] ?_ ?_ ?_ ?_ ?_ <;> simp [gr_zero])
    have hwy := nat_wrap (k := y) (by omega)
    by_cases b : y < h
    · have b' : (y : Int) < h := by omega
      simp [b', b, hwy]
      refine loopG_of (α := Nat) (fun x => x ≤ w) (fun x => w - x) (fun x => [(69, .int .i64 x), (68, .int .i64 w), (11, .int .i64 y), (65, .int .i64 y), (64, .int .i64 h), (8, .ptr 1 0), (6, .ptr 0 0), (0, .int .i64 w), (1, .int .i64 h), (2, .flt .f32 s)])
        (fun x => tHeap (gPl w h s) (gr (trF w) w y x)) 0 (by simp) ?_ fun x hx => ?_
      · (refine weak_gc [(some 0, 0), (some 1, 0), (some 2, 0), (some 3, 0)] ?_ ?_ ?_ ?_ ?_ <;> simp)
      have hwx := nat_wrap (k := x) (by omega)
      by_cases b2 : x < w
      · have b2' : (x : Int) < w := by omega
        have hl : (gr (trF w) w y x).length = y * (w * 2) + x * 2 := gr_len (c := 2) _ _ _ fun _ _ => rfl
        have hl2 : y * (w * 2) ≤ 8192 := Nat.le_trans (Nat.mul_le_mul (show y ≤ 64 by omega) (show w * 2 ≤ 128 by omega)) (by decide)
        have hst := gr_step (trF w) w y x
        have hP := mul_small (w := w) (y := y) w2 (by omega)
        have hp : ((w : Int) + 1) * (y : Int) = (((w + 1) * y : Nat) : Int) := by simp
        have hA : IntKind.i64.wrap (((w : Int) + 1) * (y : Int)) = ((w : Int) + 1) * (y : Int) := by rw [hp]; exact wrap64 (by omega) (by omega)
        have hB : IntKind.i64.wrap ((x : Int) + ((w : Int) + 1) * (y : Int)) = ixF w y x := by unfold ixF; rw [hp]; exact wrap64 (by omega) (by omega)
        have hix : ixF w y x = ((x + (w + 1) * y : Nat) : Int) := ixF_nat _ _ _
        have hC : IntKind.i64.wrap (ixF w y x + w) = ixF w y x + w := by rw [hix]; exact wrap64 (by omega) (by omega)
        have hD : IntKind.i64.wrap (ixF w y x + w + 1) = ixF w y x + w + 1 := by rw [hix]; exact wrap64 (by omega) (by omega)
        have hE : IntKind.i64.wrap (ixF w y x + 1) = ixF w y x + 1 := by rw [hix]; exact wrap64 (by omega) (by omega)
        have hF : IntKind.i64.wrap (ixF w y x + w + 1 + 1) = ixF w y x + w + 1 + 1 := by rw [hix]; exact wrap64 (by omega) (by omega)
        simp [b2', b2, hwx, hww, hA, hB, hC, hD, hE, hF, make_nils, splA, splB]
        have hcl : cLs true (gr (trF w) w y (x + 1)) = cLs true (gr (trF w) w y x) ++ [.view true (cIs [ixF w y x, ixF w y x + 1, ixF w y x + w + 1 + 1]) 3, .view true (cIs [ixF w y x, ixF w y x + w + 1 + 1, ixF w y x + w + 1]) 3] := by rw [hst, ← cLs_append]; rfl
        have hll : (gr (trF w) w y (x + 1)).length = (gr (trF w) w y x).length + 2 := by rw [hst, List.length_append]; rfl
        refine ⟨by omega, by omega, loopK_next (x + 1) (by omega) (by omega) ?_⟩
        (refine weak_gc [(some 0, 0), (some 1, 0), (some 2, 0), (some 7, 0)] ?_ ?_ ?_ ?_ ?_ <;> simp [hcl, hll])
      · obtain rfl : x = w := by omega
        simp [hwy]
        refine loopK_next (y + 1) (by omega) (by omega) ?_
        rw [gr_row]
        (refine weak_gc [(some 0, 0), (some 1, 0), (some 2, 0), (some 3, 0)] ?_ ?_ ?_ ?_ ?_ <;> simp)
    · obtain rfl : y = h := by omega
      simp
      (first | refine callG_on false [2, 3] ?_ | refine callD_on false [2, 3] ?_); simp; (first | refine callN_fun (by with_reducible exact c_validMesh (gPl w y s) (gTr w y) _ _ rfl rfl (gPl_le g0) (gTr_le g0) gTr_ok) (by simp) ?_ | refine callMD_fun (by with_reducible exact c_validMesh (gPl w y s) (gTr w y) _ _ rfl rfl (gPl_le g0) (gTr_le g0) gTr_ok) (by simp) ?_)
      simp
      (refine endG_keepT [(some 2, 0), (some 3, 0)] ?_ ?_ ?_ ?_ ?_ ?_ ?_ ⟨rfl, rfl⟩ ?_ <;> simp)
theorem c_l02Grid (w h s : Nat) (g : GOk w h s) : Fun Try.prog 124 [.int .i64 w, .int .i64 h, .flt .f32 s] [] (.agg [.slc 0 0 (gPl w h s).length 3, .slc 1 0 (gTr w h).length 1]) [.blk true false 56 (cVs (gPl w h s)), .blk true false 24 (cLs true (gTr w h))] := by
  obtain ⟨w1, w2, h1, h2, hm, ho⟩ := g
  have hww := nat_wrap (k := w) (by omega)
  have hwh := nat_wrap (k := h) (by omega)
  refine FnSpec.walk dr_ok Try.func124 rfl (by kernel_rfl) rfl rfl rfl (by simp) ?_
  simp [make0_nils]
  refine loopG_of (α := Nat) (fun y => y ≤ h + 1) (fun y => h + 1 - y) (fun y => [(8, .int .i64 y), (7, .ptr 1 0), (6, .ptr 0 0), (0, .int .i64 w), (1, .int .i64 h), (2, .flt .f32 s)])
    (fun y => gHeap (gr (plF s) (w + 1) y 0)) 0 (by simp) ?_ fun y hy => ?_
  · (refine weak_gc [(some 0, 0), (some 1, 0), (none, 56)] ?_ ?_ ?_ ?_ ?_ <;> simp [gr_zero])
  have hwy := nat_wrap (k := y) (by omega)
  by_cases b : y < h + 1
  · have b' : (y : Int) ≤ h := by omega
    have b'' : y ≤ h := by omega
    simp [b', b'', hwy, hww]
    refine loopG_of (α := Nat) (fun x => x ≤ w + 1) (fun x => w + 1 - x) (fun x => [(9, .int .i64 x), (8, .int .i64 y), (7, .ptr 1 0), (6, .ptr 0 0), (0, .int .i64 w), (1, .int .i64 h), (2, .flt .f32 s)])
      (fun x => gHeap (gr (plF s) (w + 1) y x)) 0 (by simp) ?_ fun x hx => ?_
    · (refine weak_gc [(some 0, 0), (some 1, 0), (some 2, 0)] ?_ ?_ ?_ ?_ ?_ <;> simp)
    have hwx := nat_wrap (k := x) (by omega)
    by_cases b2 : x < w + 1
    · have b2' : (x : Int) ≤ w := by omega
      have b2'' : x ≤ w := by omega
      have hl : (gr (plF s) (w + 1) y x).length = y * ((w + 1) * 1) + x * 1 := gr_len (c := 1) _ _ _ fun _ _ => rfl
      have hl2 : y * ((w + 1) * 1) ≤ 4225 := Nat.le_trans (Nat.mul_le_mul (show y ≤ 65 by omega) (show (w + 1) * 1 ≤ 65 by omega)) (by decide)
      have hst := gr_step (plF s) (w + 1) y x
      simp [b2', b2'', hwx, one_spliceV, one_takeV]
      refine ⟨by omega, by omega, loopK_next (x + 1) (by omega) (by omega) ?_⟩
      rw [hst, plF]
      (refine weak_gc [(some 0, 0), (some 1, 0), (some 4, 0)] ?_ ?_ ?_ ?_ ?_ <;> simp)
    · obtain rfl : x = w + 1 := by omega
      have b2' : ¬ ((w : Int) + 1 ≤ w) := by omega
      simp [hwy, b2']
      refine loopK_next (y + 1) (by omega) (by omega) ?_
      rw [gr_row]
      (refine weak_gc [(some 0, 0), (some 1, 0), (some 2, 0)] ?_ ?_ ?_ ?_ ?_ <;> simp)
  · obtain rfl : y = h + 1 := by omega
    have b' : ¬ ((h : Int) + 1 ≤ h) := by omega
    simp [b']
    refine loopG_of (α := Nat) (fun y => y ≤ h) (fun y => h - y) (fun y => [(10, .int .i64 y), (7, .ptr 1 0), (6, .ptr 0 0), (0, .int .i64 w), (1, .int .i64 h), (2, .flt .f32 s)])
      (fun y => tHeap (gPl w h s) (gr (trF w) w y 0)) 0 (by simp) ?_ fun y hy => ?_
    · (refine weak_gc [(some 0, 0), (some 1, 0), (some 2, 0), (none, 24)] ?_ ?_ ?_ ?_ ?_ <;> simp [gr_zero])
    have hwy := nat_wrap (k := y) (by omega)
    by_cases b : y < h
    · have b' : (y : Int) < h := by omega
      simp [b', b, hwy]
      refine loopG_of (α := Nat) (fun x => x ≤ w) (fun x => w - x) (fun x => [(11, .int .i64 x), (10, .int .i64 y), (7, .ptr 1 0), (6, .ptr 0 0), (0, .int .i64 w), (1, .int .i64 h), (2, .flt .f32 s)])
        (fun x => tHeap (gPl w h s) (gr (trF w) w y x)) 0 (by simp) ?_ fun x hx => ?_
      · (refine weak_gc [(some 0, 0), (some 1, 0), (some 2, 0), (some 3, 0)] ?_ ?_ ?_ ?_ ?_ <;> simp)
      have hwx := nat_wrap (k := x) (by omega)
      by_cases b2 : x < w
      · have b2' : (x : Int) < w := by omega
        have hl : (gr (trF w) w y x).length = y * (w * 2) + x * 2 := gr_len (c := 2) _ _ _ fun _ _ => rfl
        have hl2 : y * (w * 2) ≤ 8192 := Nat.le_trans (Nat.mul_le_mul (show y ≤ 64 by omega) (show w * 2 ≤ 128 by omega)) (by decide)
        have hst := gr_step (trF w) w y x
        have hP := mul_small (w := w) (y := y) w2 (by omega)
        have hp : ((w : Int) + 1) * (y : Int) = (((w + 1) * y : Nat) : Int) := by simp
        have hA : IntKind.i64.wrap (((w : Int) + 1) * (y : Int)) = ((w : Int) + 1) * (y : Int) := by rw [hp]; exact wrap64 (by omega) (by omega)
        have hB : IntKind.i64.wrap ((x : Int) + ((w : Int) + 1) * (y : Int)) = ixF w y x := by unfold ixF; rw [hp]; exact wrap64 (by omega) (by omega)
        have hix : ixF w y x = ((x + (w + 1) * y : Nat) : Int) := ixF_nat _ _ _
        have hC : IntKind.i64.wrap (ixF w y x + w) = ixF w y x + w := by rw [hix]; exact wrap64 (by omega) (by omega)
        have hD : IntKind.i64.wrap (ixF w y x + w + 1) = ixF w y x + w + 1 := by rw [hix]; exact wrap64 (by omega) (by omega)
        have hE : IntKind.i64.wrap (ixF w y x + 1) = ixF w y x + 1 := by rw [hix]; exact wrap64 (by omega) (by omega)
        have hF : IntKind.i64.wrap (ixF w y x + w + 1 + 1) = ixF w y x + w + 1 + 1 := by rw [hix]; exact wrap64 (by omega) (by omega)
        simp [b2', b2, hwx, hww, hA, hB, hC, hD, hE, hF, make_nils, splA, splB]
        have hcl : cLs true (gr (trF w) w y (x + 1)) = cLs true (gr (trF w) w y x) ++ [.view true (cIs [ixF w y x, ixF w y x + 1, ixF w y x + w + 1 + 1]) 3, .view true (cIs [ixF w y x, ixF w y x + w + 1 + 1, ixF w y x + w + 1]) 3] := by rw [hst, ← cLs_append]; rfl
        have hll : (gr (trF w) w y (x + 1)).length = (gr (trF w) w y x).length + 2 := by rw [hst, List.length_append]; rfl
        refine ⟨by omega, by omega, loopK_next (x + 1) (by omega) (by omega) ?_⟩
        (refine weak_gc [(some 0, 0), (some 1, 0), (some 2, 0), (some 7, 0)] ?_ ?_ ?_ ?_ ?_ <;> simp [hcl, hll])
      · obtain rfl : x = w := by omega
        simp [hwy]
        refine loopK_next (y + 1) (by omega) (by omega) ?_
        rw [gr_row]
        (refine weak_gc [(some 0, 0), (some 1, 0), (some 2, 0), (some 3, 0)] ?_ ?_ ?_ ?_ ?_ <;> simp)
    · obtain rfl : y = h := by omega
      simp
      (refine endG_keepT [(some 2, 0), (some 3, 0)] ?_ ?_ ?_ ?_ ?_ ?_ ?_ ⟨rfl, rfl⟩ ?_ <;> simp)
theorem c_specGridMesh (w h s : Nat) (g : GOk w h s) : Fun Try.prog 86 [.int .i64 w, .int .i64 h, .flt .f32 s] [] (.tup [.agg [.slc 0 0 (gPl w h s).length 3, .slc 1 0 (gTr w h).length 1], .bool true]) [.blk true false 56 (cVs (gPl w h s)), .blk true false 24 []] := by
  have g0 := g
  obtain ⟨w1, w2, h1, h2, hm, ho⟩ := g
  have i1 : inB w 1 64 = true := by unfold inB; simp; omega
  have i2 : inB h 1 64 = true := by unfold inB; simp; omega
  have hww := nat_wrap (k := w) (by omega)
  have hwh := nat_wrap (k := h) (by omega)
  have hc : ((w : Int) + 1) * ((h : Int) + 1) = (((w + 1) * (h + 1) : Nat) : Int) := by simp
  have hwm : IntKind.i64.wrap (((w : Int) + 1) * ((h : Int) + 1)) = ((w : Int) + 1) * ((h : Int) + 1) := by rw [hc]; exact wrap64 (by omega) (by omega)
  have hm2 : ¬ (64 : Int) < ((w : Int) + 1) * ((h : Int) + 1) := by rw [hc]; omega
  refine FnSpec.walk dr_ok Try.func86 rfl (by kernel_rfl) rfl rfl rfl (by simp) ?_
  simp
  (first | refine callG_r ?_ | refine callD_r ?_); simp; (first | refine callN_flat (by with_reducible first | exact c_l00In _ _ _) rfl ?_ | refine callN_new (by with_reducible first | exact c_l00In _ _ _) ?_ | refine callM_flat (by with_reducible first | exact c_l00In _ _ _) rfl ?_ | refine callM_new (by with_reducible first | exact c_l00In _ _ _) ?_)
  simp [i1]
  (first | refine callG_r ?_ | refine callD_r ?_); simp; (first | refine callN_flat (by with_reducible first | exact c_l00In _ _ _) rfl ?_ | refine callN_new (by with_reducible first | exact c_l00In _ _ _) ?_ | refine callM_flat (by with_reducible first | exact c_l00In _ _ _) rfl ?_ | refine callM_new (by with_reducible first | exact c_l00In _ _ _) ?_)
  simp [i2]
  (first | refine callG_r ?_ | refine callD_r ?_); simp; (first | refine callN_flat (by with_reducible first | exact c_l02Size _) rfl ?_ | refine callN_new (by with_reducible first | exact c_l02Size _) ?_ | refine callM_flat (by with_reducible first | exact c_l02Size _) rfl ?_ | refine callM_new (by with_reducible first | exact c_l02Size _) ?_)
  simp [ho, hww, hwh, hwm, hm2]
  (first | refine callG_r ?_ | refine callD_r ?_); simp; (first | refine callN_flat (by with_reducible first | exact c_l02Grid w h s g0) rfl ?_ | refine callN_new (by with_reducible first | exact c_l02Grid w h s g0) ?_ | refine callM_flat (by with_reducible first | exact c_l02Grid w h s g0) rfl ?_ | refine callM_new (by with_reducible first | exact c_l02Grid w h s g0) ?_)
  simp
  (first | refine callG_on false [1, 2] ?_ | refine callD_on false [1, 2] ?_); simp; (first | refine callN_fun (by with_reducible exact c_l02Give (gPl w h s) (gTr w h) _ _ rfl rfl (gPl_le g0) (gTr_le g0) gTr_ok) (by simp) ?_ | refine callMD_fun (by with_reducible exact c_l02Give (gPl w h s) (gTr w h) _ _ rfl rfl (gPl_le g0) (gTr_le g0) gTr_ok) (by simp) ?_)
  simp
  (refine endG_keepT [(some 1, 0), (some 2, 0)] ?_ ?_ ?_ ?_ ?_ ?_ ?_ ⟨rfl, rfl⟩ ?_ <;> simp)
end Go.Proofs.Ytafbecgidhoekaa
