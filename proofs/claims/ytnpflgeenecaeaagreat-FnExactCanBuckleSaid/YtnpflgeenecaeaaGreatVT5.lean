/- Energies of bodies.
Conditions: none. -/
import Derived.Test.YtnpflgeenecaeaaGreatW3
namespace Go.Proofs.YtnpflgeenecaeaaGreat
set_option linter.all false
open Go Go.Awp
set_option maxRecDepth 100000
set_option maxHeartbeats 4000000
set_option pp.deepTerms true

/-- A place by its number. -/
def plA (m : Msh) (i : Int) : V := m.pl.getD i.toNat (0, 0, 0)
theorem plA_nat {m : Msh} {p : Nat} (h : p < m.pl.length) : plA m (p : Int) = m.pl[p] := by
  unfold plA
  rw [Int.toNat_natCast, List.getD_eq_getElem?_getD, List.getElem?_eq_getElem h]; rfl
theorem fold_succ {α β : Type} {f : β → α → β} {a : β} {l : List α} {k : Nat} (h : k < l.length) : (l.take (k + 1)).foldl f a = f ((l.take k).foldl f a) l[k] := by
  rw [List.take_succ_eq_append_getElem h, List.foldl_append]; rfl
theorem foldr_succ {β : Type} {f : β → Nat → β} {a : β} {k : Nat} : (List.range (k + 1)).foldl f a = f ((List.range k).foldl f a) k := by
  rw [List.range_succ, List.foldl_append]; rfl
theorem spr_of {b : Bod} (hv : vldB b = true) {k : Nat} (h : k < b.sp.length) : ∃ p q z u : Nat, b.sp[k] = ((p : Int), (q : Int), z, u) ∧ p < b.me.pl.length ∧ q < b.me.pl.length ∧ p ≠ q := by
  unfold vldB at hv
  simp only [Bool.and_eq_true, List.all_eq_true] at hv
  have := hv.2 _ (List.getElem_mem h)
  generalize b.sp[k] = s at *
  obtain ⟨x, y, z, u⟩ := s
  simp only [sprB, inB, Bool.and_eq_true, decide_eq_true_eq, Bool.not_eq_true', decide_eq_false_iff_not] at this
  exact ⟨x.toNat, y.toNat, z, u, by rw [Int.toNat_of_nonneg (by omega), Int.toNat_of_nonneg (by omega)], by omega, by omega, by omega⟩
theorem tri_nat {m : Msh} (hv : vldM m = true) {k : Nat} (h : k < m.tr.length) : ∃ a b c : Nat, m.tr[k] = [(a : Int), (b : Int), (c : Int)] ∧ a < m.pl.length ∧ b < m.pl.length ∧ c < m.pl.length := by
  obtain ⟨a, b, c, h, h1, h2, h3, _⟩ := tri_of hv h
  simp [inB] at h1 h2 h3
  exact ⟨a.toNat, b.toNat, c.toNat, by rw [h, Int.toNat_of_nonneg (by omega), Int.toNat_of_nonneg (by omega), Int.toNat_of_nonneg (by omega)], by omega, by omega, by omega⟩
theorem hin_nat {m : Msh} (hv : vldM m = true) {k : Nat} (h : k < (hinS m).length) : ∃ a b c d : Nat, (hinS m)[k] = [(a : Int), (b : Int), (c : Int), (d : Int)] ∧ a < m.pl.length ∧ b < m.pl.length ∧ c < m.pl.length ∧ d < m.pl.length := hin_mem hv (List.getElem_mem h)
structure VldB (b : Bod) : Prop where
  me : vldM b.me = true
  pl : b.me.pl.length ≤ 64
  tr : b.me.tr.length ≤ 128
  sp : b.sp.length ≤ 200
  w : b.w.length = b.me.pl.length
theorem vldB_of {b : Bod} (hv : vldB b = true) : VldB b := by
  have h := hv
  unfold vldB at h
  simp only [Bool.and_eq_true, decide_eq_true_eq] at h
  have := vldM_len h.1.1.1
  exact ⟨h.1.1.1, this.1, this.2, h.1.1.2, h.1.2⟩
-- the four parts of the energy
def enS (b : Bod) (x : Nat) (s : Sp) : Nat :=
  fop .add .f32 x (fop .mul .f32 (fop .mul .f32 1056964608 s.2.2.2) (fop .mul .f32 (fop .sub .f32 (vlong (vsub (plA b.me s.2.1) (plA b.me s.1))) s.2.2.1) (fop .sub .f32 (vlong (vsub (plA b.me s.2.1) (plA b.me s.1))) s.2.2.1)))
def enT (b : Bod) (x : Nat) (t : List Int) : Nat :=
  fop .add .f32 x (fop .mul .f32 b.film (fop .mul .f32 1056964608 (vlong (vnrm (plA b.me (t.getD 0 0)) (plA b.me (t.getD 1 0)) (plA b.me (t.getD 2 0))))))
def bendA (m : Msh) (h : List Int) : V := vbend (plA m (h.getD 0 0)) (plA m (h.getD 1 0)) (plA m (h.getD 2 0)) (plA m (h.getD 3 0))
def enH (b : Bod) (x : Nat) (h : List Int) : Nat := fop .add .f32 x (fop .mul .f32 (fop .mul .f32 1056964608 b.bend) (vinner (bendA b.me h) (bendA b.me h)))
def enW (b : Bod) (x : Nat) (i : Nat) : Nat := fop .add .f32 x (fneg .f32 (fop .mul .f32 (b.w.getD i 0) (vinner b.fall (b.me.pl.getD i (0, 0, 0)))))
def eP0 (b : Bod) (k : Nat) : Nat := (b.sp.take k).foldl (enS b) 0
def eP1 (b : Bod) (k : Nat) : Nat := (b.me.tr.take k).foldl (enT b) 0
def eP2 (b : Bod) (k : Nat) : Nat := ((hinS b.me).take k).foldl (enH b) 0
def eP3 (b : Bod) (k : Nat) : Nat := (List.range k).foldl (enW b) 0
theorem eP0_succ {b : Bod} {k p q z u : Nat} (c : k < b.sp.length) (he : b.sp[k] = ((p : Int), (q : Int), z, u)) (hp : p < b.me.pl.length) (hq : q < b.me.pl.length) : eP0 b (k + 1) =
    fop .add .f32 (eP0 b k) (fop .mul .f32 (fop .mul .f32 1056964608 u) (fop .mul .f32 (fop .sub .f32 (vlong (vsub b.me.pl[q] b.me.pl[p])) z) (fop .sub .f32 (vlong (vsub b.me.pl[q] b.me.pl[p])) z))) := by
  unfold eP0
  rw [fold_succ c, he]
  simp only [enS, plA_nat hp, plA_nat hq]
theorem eP1_succ {b : Bod} {k x y z : Nat} (c : k < b.me.tr.length) (he : b.me.tr[k] = [(x : Int), (y : Int), (z : Int)]) (hx : x < b.me.pl.length) (hy : y < b.me.pl.length) (hz : z < b.me.pl.length) : eP1 b (k + 1) =
    fop .add .f32 (eP1 b k) (fop .mul .f32 b.film (fop .mul .f32 1056964608 (vlong (vnrm b.me.pl[x] b.me.pl[y] b.me.pl[z])))) := by
  unfold eP1
  rw [fold_succ c, he]
  simp only [enT, List.getD_cons_zero, List.getD_cons_succ, plA_nat hx, plA_nat hy, plA_nat hz]
theorem bendA_at {m : Msh} {x y z u : Nat} (hx : x < m.pl.length) (hy : y < m.pl.length) (hz : z < m.pl.length) (hu : u < m.pl.length) : bendA m [(x : Int), (y : Int), (z : Int), (u : Int)] = vbend m.pl[x] m.pl[y] m.pl[z] m.pl[u] := by
  simp only [bendA, List.getD_cons_zero, List.getD_cons_succ, plA_nat hx, plA_nat hy, plA_nat hz, plA_nat hu]
theorem eP2_succ {b : Bod} {k x y z u : Nat} (c : k < (hinS b.me).length) (he : (hinS b.me)[k] = [(x : Int), (y : Int), (z : Int), (u : Int)]) (hx : x < b.me.pl.length) (hy : y < b.me.pl.length) (hz : z < b.me.pl.length) (hu : u < b.me.pl.length) : eP2 b (k + 1) =
    fop .add .f32 (eP2 b k) (fop .mul .f32 (fop .mul .f32 1056964608 b.bend) (vinner (vbend b.me.pl[x] b.me.pl[y] b.me.pl[z] b.me.pl[u]) (vbend b.me.pl[x] b.me.pl[y] b.me.pl[z] b.me.pl[u]))) := by
  unfold eP2
  rw [fold_succ c, he]
  simp only [enH, bendA_at hx hy hz hu]
theorem eP3_succ {b : Bod} {k : Nat} (c : k < b.me.pl.length) (c2 : k < b.w.length) : eP3 b (k + 1) = fop .add .f32 (eP3 b k) (fneg .f32 (fop .mul .f32 b.w[k] (vinner b.fall b.me.pl[k]))) := by
  unfold eP3
  rw [foldr_succ]
  simp only [enW, List.getD_eq_getElem?_getD, List.getElem?_eq_getElem c, List.getElem?_eq_getElem c2, Option.getD_some]
theorem eP0_zero (b : Bod) : eP0 b 0 = 0 := rfl
theorem eP1_zero (b : Bod) : eP1 b 0 = 0 := rfl
theorem eP2_zero (b : Bod) : eP2 b 0 = 0 := rfl
theorem eP3_zero (b : Bod) : eP3 b 0 = 0 := rfl
theorem c_partsOf (b : Bod) (hs : b.Small) (hv : vldB b = true) : Fun Tryz.prog 89 [b.av] [] (.slc 0 0 4 1) [.blk true false 27 (cFs [eP0 b b.sp.length, eP1 b b.me.tr.length, eP2 b (hinS b.me).length, eP3 b b.me.pl.length])] := by
  obtain ⟨hm, hpl, htr, hsp, hww⟩ := vldB_of hv
  have hhn := hin_small hm
  refine FnSpec.walk dr_ok Tryz.func89 rfl (by kernel_rfl) rfl rfl rfl (by simp) ?_
  simp
  refine loopG_of (α := Nat) (fun k => k ≤ b.sp.length) (fun k => b.sp.length - k) (fun k => [(18, .int .i64 k), (17, .int .i64 b.sp.length), (16, .view false (cSs b.sp) b.sp.length), (3, .slc 1 0 4 1), (1, .ptr 0 0)])
    (fun k => [.blk true true 43 b.cells, .blk true false 27 (cFs [eP0 b k, 0, 0, 0])]) 0 (by simp) ?_ fun k hk => ?_
  · (refine weak_gc [(some 0, 0), (some 1, 0)] ?_ ?_ ?_ ?_ ?_ <;> simp [eP0_zero])
  have hw := nat_wrap (k := k) (by omega)
  by_cases c : k < b.sp.length
  · obtain ⟨p, q, z, u, he, hp, hq, _⟩ := spr_of hv c
    simp [c, hw, he]
    (first | refine callG_r ?_ | refine callD_r ?_); simp; (first | refine callN_flat (by with_reducible first | exact c_along b p q z u hp hq hpl) rfl ?_ | refine callN_new (by with_reducible first | exact c_along b p q z u hp hq hpl) ?_ | refine callM_flat (by with_reducible first | exact c_along b p q z u hp hq hpl) rfl ?_ | refine callM_new (by with_reducible first | exact c_along b p q z u hp hq hpl) ?_)
    simp
    (first | refine callG_r ?_ | refine callD_r ?_); simp; (first | refine callN_flat (by with_reducible first | exact c_long _ _ _) rfl ?_ | refine callN_new (by with_reducible first | exact c_long _ _ _) ?_ | refine callM_flat (by with_reducible first | exact c_long _ _ _) rfl ?_ | refine callM_new (by with_reducible first | exact c_long _ _ _) ?_)
    simp [he, hw]
    refine loopK_next (k + 1) (by omega) (by omega) ?_
    rw [eP0_succ c he hp hq]
    (refine weak_gc [(some 0, 0), (some 1, 0)] ?_ ?_ ?_ ?_ ?_ <;> simp [hw])
  obtain rfl : k = b.sp.length := by omega
  simp
  generalize eP0 b b.sp.length = E0
  refine loopG_of (α := Nat) (fun k => k ≤ b.me.tr.length) (fun k => b.me.tr.length - k) (fun k => [(46, .int .i64 k), (45, .int .i64 b.me.tr.length), (44, .view false (cRs false b.me.tr) b.me.tr.length), (3, .slc 1 0 4 1), (1, .ptr 0 0)])
    (fun k => [.blk true true 43 b.cells, .blk true false 27 (cFs [E0, eP1 b k, 0, 0])]) 0 (by simp) ?_ fun k hk => ?_
  · (refine weak_gc [(some 0, 0), (some 1, 0)] ?_ ?_ ?_ ?_ ?_ <;> simp [eP1_zero])
  have hw := nat_wrap (k := k) (by omega)
  by_cases c : k < b.me.tr.length
  · obtain ⟨x, y, z, he, hx, hy, hz⟩ := tri_nat hm c
    simp [c, hw, he]
    (first | refine callG_r ?_ | refine callD_r ?_); simp; (first | refine callN_flat (by with_reducible first | exact c_normal b.me x y z hx hy hz hpl) rfl ?_ | refine callN_new (by with_reducible first | exact c_normal b.me x y z hx hy hz hpl) ?_ | refine callM_flat (by with_reducible first | exact c_normal b.me x y z hx hy hz hpl) rfl ?_ | refine callM_new (by with_reducible first | exact c_normal b.me x y z hx hy hz hpl) ?_)
    simp
    (first | refine callG_r ?_ | refine callD_r ?_); simp; (first | refine callN_flat (by with_reducible first | exact c_long _ _ _) rfl ?_ | refine callN_new (by with_reducible first | exact c_long _ _ _) ?_ | refine callM_flat (by with_reducible first | exact c_long _ _ _) rfl ?_ | refine callM_new (by with_reducible first | exact c_long _ _ _) ?_)
    simp [he, hw]
    refine loopK_next (k + 1) (by omega) (by omega) ?_
    rw [eP1_succ c he hx hy hz]
    (refine weak_gc [(some 0, 0), (some 1, 0)] ?_ ?_ ?_ ?_ ?_ <;> simp [hw])
  obtain rfl : k = b.me.tr.length := by omega
  simp
  generalize eP1 b b.me.tr.length = E1
  (first | refine callG_r ?_ | refine callD_r ?_); simp; (first | refine callN_flat (by with_reducible first | exact c_hingesOf b.me hs.me hm) rfl ?_ | refine callN_new (by with_reducible first | exact c_hingesOf b.me hs.me hm) ?_ | refine callM_flat (by with_reducible first | exact c_hingesOf b.me hs.me hm) rfl ?_ | refine callM_new (by with_reducible first | exact c_hingesOf b.me hs.me hm) ?_)
  simp
  refine loopG_of (α := Nat) (fun k => k ≤ (hinS b.me).length) (fun k => (hinS b.me).length - k) (fun k => [(69, .int .i64 k), (68, .int .i64 (hinS b.me).length), (67, .slc 2 0 (hinS b.me).length 1), (3, .slc 1 0 4 1), (1, .ptr 0 0)])
    (fun k => [.blk true true 43 b.cells, .blk true false 27 (cFs [E0, E1, eP2 b k, 0]), .blk true false 53 (cRs true (hinS b.me))]) 0 (by simp) ?_ fun k hk => ?_
  · (refine weak_gc [(some 0, 0), (some 1, 0), (some 2, 0)] ?_ ?_ ?_ ?_ ?_ <;> simp [eP2_zero])
  have hw := nat_wrap (k := k) (by omega)
  by_cases c : k < (hinS b.me).length
  · obtain ⟨x, y, z, u, he, hx, hy, hz, hu⟩ := hin_nat hm c
    simp [c, hw, he]
    (first | refine callG_r ?_ | refine callD_r ?_); simp; (first | refine callN_flat (by with_reducible first | exact c_bend b.me x y z u hx hy hz hu hpl) rfl ?_ | refine callN_new (by with_reducible first | exact c_bend b.me x y z u hx hy hz hu hpl) ?_ | refine callM_flat (by with_reducible first | exact c_bend b.me x y z u hx hy hz hu hpl) rfl ?_ | refine callM_new (by with_reducible first | exact c_bend b.me x y z u hx hy hz hu hpl) ?_)
    simp
    (first | refine callG_r ?_ | refine callD_r ?_); simp; (first | refine callN_flat (by with_reducible first | exact c_inner _ _ _ _ _ _) rfl ?_ | refine callN_new (by with_reducible first | exact c_inner _ _ _ _ _ _) ?_ | refine callM_flat (by with_reducible first | exact c_inner _ _ _ _ _ _) rfl ?_ | refine callM_new (by with_reducible first | exact c_inner _ _ _ _ _ _) ?_)
    simp [he, hw]
    refine loopK_next (k + 1) (by omega) (by omega) ?_
    rw [eP2_succ c he hx hy hz hu]
    (refine weak_gc [(some 0, 0), (some 1, 0), (some 2, 0)] ?_ ?_ ?_ ?_ ?_ <;> simp [hw])
  obtain rfl : k = (hinS b.me).length := by omega
  simp
  generalize eP2 b (hinS b.me).length = E2
  refine loopG_of (α := Nat) (fun k => k ≤ b.me.pl.length) (fun k => b.me.pl.length - k) (fun k => [(94, .int .i64 k), (93, .int .i64 b.me.pl.length), (92, .view false (cVs b.me.pl) b.me.pl.length), (3, .slc 1 0 4 1), (1, .ptr 0 0)])
    (fun k => [.blk true true 43 b.cells, .blk true false 27 (cFs [E0, E1, E2, eP3 b k])]) 0 (by simp) ?_ fun k hk => ?_
  · (refine weak_gc [(some 0, 0), (some 1, 0)] ?_ ?_ ?_ ?_ ?_ <;> simp [eP3_zero])
  have hw := nat_wrap (k := k) (by omega)
  by_cases c : k < b.me.pl.length
  · have c2 : k < b.w.length := by omega
    simp [c, c2, hw]
    (first | refine callG_r ?_ | refine callD_r ?_); simp; (first | refine callN_flat (by with_reducible first | exact c_inner _ _ _ _ _ _) rfl ?_ | refine callN_new (by with_reducible first | exact c_inner _ _ _ _ _ _) ?_ | refine callM_flat (by with_reducible first | exact c_inner _ _ _ _ _ _) rfl ?_ | refine callM_new (by with_reducible first | exact c_inner _ _ _ _ _ _) ?_)
    simp [hw]
    refine loopK_next (k + 1) (by omega) (by omega) ?_
    rw [eP3_succ c c2]
    (refine weak_gc [(some 0, 0), (some 1, 0)] ?_ ?_ ?_ ?_ ?_ <;> simp [hw])
  obtain rfl : k = b.me.pl.length := by omega
  simp
  (refine endG_keepT [(some 1, 0)] ?_ ?_ ?_ ?_ ?_ ?_ ?_ ⟨rfl, rfl⟩ ?_ <;> simp)
theorem c_l03Parts (b : Bod) (rest : List AV) (hs : b.Small) (hv : vldB b = true) : Fun Tryz.prog 84 [b.vp rest] [] (.slc 0 0 4 1) [.blk true false 27 (cFs [eP0 b b.sp.length, eP1 b b.me.tr.length, eP2 b (hinS b.me).length, eP3 b b.me.pl.length])] := by
  obtain ⟨hm, hpl, htr, hsp, hww⟩ := vldB_of hv
  have hhn := hin_small hm
  refine FnSpec.walk dr_ok Tryz.func84 rfl (by kernel_rfl) rfl rfl rfl (by simp) ?_
  simp
  refine loopG_of (α := Nat) (fun k => k ≤ b.sp.length) (fun k => b.sp.length - k) (fun k => [(22, .int .i64 k), (21, .int .i64 b.sp.length), (0, b.vp rest), (3, .slc 0 0 4 1), (4, b.vp rest)])
    (fun k => [.blk true false 27 (cFs [eP0 b k, 0, 0, 0])]) 0 (by simp) ?_ fun k hk => ?_
  · (refine weak_gc [(some 0, 0)] ?_ ?_ ?_ ?_ ?_ <;> simp [eP0_zero])
  have hw := nat_wrap (k := k) (by omega)
  by_cases c : k < b.sp.length
  · obtain ⟨p, q, z, u, he, hp, hq, _⟩ := spr_of hv c
    simp [c, hw, he, hp, hq]
    (first | refine callG_r ?_ | refine callD_r ?_); simp; (first | refine callN_flat (by with_reducible first | exact c_l01Less _ _ _ _ _ _) rfl ?_ | refine callN_new (by with_reducible first | exact c_l01Less _ _ _ _ _ _) ?_ | refine callM_flat (by with_reducible first | exact c_l01Less _ _ _ _ _ _) rfl ?_ | refine callM_new (by with_reducible first | exact c_l01Less _ _ _ _ _ _) ?_)
    simp
    (first | refine callG_r ?_ | refine callD_r ?_); simp; (first | refine callN_flat (by with_reducible first | exact c_l01Long _ _ _) rfl ?_ | refine callN_new (by with_reducible first | exact c_l01Long _ _ _) ?_ | refine callM_flat (by with_reducible first | exact c_l01Long _ _ _) rfl ?_ | refine callM_new (by with_reducible first | exact c_l01Long _ _ _) ?_)
    simp [he, hw]
    refine loopK_next (k + 1) (by omega) (by omega) ?_
    rw [eP0_succ c he hp hq]
    (refine weak_gc [(some 0, 0)] ?_ ?_ ?_ ?_ ?_ <;> simp [hw])
  obtain rfl : k = b.sp.length := by omega
  simp
  generalize eP0 b b.sp.length = E0
  refine loopG_of (α := Nat) (fun k => k ≤ b.me.tr.length) (fun k => b.me.tr.length - k) (fun k => [(71, .int .i64 k), (70, .int .i64 b.me.tr.length), (0, b.vp rest), (3, .slc 0 0 4 1), (4, b.vp rest)])
    (fun k => [.blk true false 27 (cFs [E0, eP1 b k, 0, 0])]) 0 (by simp) ?_ fun k hk => ?_
  · (refine weak_gc [(some 0, 0)] ?_ ?_ ?_ ?_ ?_ <;> simp [eP1_zero])
  have hw := nat_wrap (k := k) (by omega)
  by_cases c : k < b.me.tr.length
  · obtain ⟨x, y, z, he, hx, hy, hz⟩ := tri_nat hm c
    simp [c, hw, he]
    (first | refine callG_r ?_ | refine callD_r ?_); simp; (first | refine callN_flat (by with_reducible first | exact c_l03Normal b.me _ x y z hx hy hz hpl) rfl ?_ | refine callN_new (by with_reducible first | exact c_l03Normal b.me _ x y z hx hy hz hpl) ?_ | refine callM_flat (by with_reducible first | exact c_l03Normal b.me _ x y z hx hy hz hpl) rfl ?_ | refine callM_new (by with_reducible first | exact c_l03Normal b.me _ x y z hx hy hz hpl) ?_)
    simp
    (first | refine callG_r ?_ | refine callD_r ?_); simp; (first | refine callN_flat (by with_reducible first | exact c_l01Long _ _ _) rfl ?_ | refine callN_new (by with_reducible first | exact c_l01Long _ _ _) ?_ | refine callM_flat (by with_reducible first | exact c_l01Long _ _ _) rfl ?_ | refine callM_new (by with_reducible first | exact c_l01Long _ _ _) ?_)
    simp [he, hw]
    refine loopK_next (k + 1) (by omega) (by omega) ?_
    rw [eP1_succ c he hx hy hz]
    (refine weak_gc [(some 0, 0)] ?_ ?_ ?_ ?_ ?_ <;> simp [hw])
  obtain rfl : k = b.me.tr.length := by omega
  simp
  generalize eP1 b b.me.tr.length = E1
  (first | refine callG_r ?_ | refine callD_r ?_); simp; (first | refine callN_flat (by with_reducible first | exact c_l03Hinges b.me _ hs.me hm) rfl ?_ | refine callN_new (by with_reducible first | exact c_l03Hinges b.me _ hs.me hm) ?_ | refine callM_flat (by with_reducible first | exact c_l03Hinges b.me _ hs.me hm) rfl ?_ | refine callM_new (by with_reducible first | exact c_l03Hinges b.me _ hs.me hm) ?_)
  simp
  refine loopG_of (α := Nat) (fun k => k ≤ (hinS b.me).length) (fun k => (hinS b.me).length - k) (fun k => [(100, .int .i64 k), (99, .int .i64 (hinS b.me).length), (9, .slc 1 0 (hinS b.me).length 1), (0, b.vp rest), (3, .slc 0 0 4 1), (4, b.vp rest)])
    (fun k => [.blk true false 27 (cFs [E0, E1, eP2 b k, 0]), .blk true false 53 (cRs true (hinS b.me))]) 0 (by simp) ?_ fun k hk => ?_
  · (refine weak_gc [(some 0, 0), (some 1, 0)] ?_ ?_ ?_ ?_ ?_ <;> simp [eP2_zero])
  have hw := nat_wrap (k := k) (by omega)
  by_cases c : k < (hinS b.me).length
  · obtain ⟨x, y, z, u, he, hx, hy, hz, hu⟩ := hin_nat hm c
    simp [c, hw, he]
    (first | refine callG_r ?_ | refine callD_r ?_); simp; (first | refine callN_flat (by with_reducible first | exact c_l03Bent b.me _ x y z u hx hy hz hu hpl) rfl ?_ | refine callN_new (by with_reducible first | exact c_l03Bent b.me _ x y z u hx hy hz hu hpl) ?_ | refine callM_flat (by with_reducible first | exact c_l03Bent b.me _ x y z u hx hy hz hu hpl) rfl ?_ | refine callM_new (by with_reducible first | exact c_l03Bent b.me _ x y z u hx hy hz hu hpl) ?_)
    simp
    (first | refine callG_r ?_ | refine callD_r ?_); simp; (first | refine callN_flat (by with_reducible first | exact c_l01Inner _ _ _ _ _ _) rfl ?_ | refine callN_new (by with_reducible first | exact c_l01Inner _ _ _ _ _ _) ?_ | refine callM_flat (by with_reducible first | exact c_l01Inner _ _ _ _ _ _) rfl ?_ | refine callM_new (by with_reducible first | exact c_l01Inner _ _ _ _ _ _) ?_)
    simp [he, hw]
    refine loopK_next (k + 1) (by omega) (by omega) ?_
    rw [eP2_succ c he hx hy hz hu]
    (refine weak_gc [(some 0, 0), (some 1, 0)] ?_ ?_ ?_ ?_ ?_ <;> simp [hw])
  obtain rfl : k = (hinS b.me).length := by omega
  simp
  generalize eP2 b (hinS b.me).length = E2
  refine loopG_of (α := Nat) (fun k => k ≤ b.me.pl.length) (fun k => b.me.pl.length - k) (fun k => [(129, .int .i64 k), (128, .int .i64 b.me.pl.length), (0, b.vp rest), (3, .slc 0 0 4 1), (4, b.vp rest)])
    (fun k => [.blk true false 27 (cFs [E0, E1, E2, eP3 b k])]) 0 (by simp) ?_ fun k hk => ?_
  · (refine weak_gc [(some 0, 0)] ?_ ?_ ?_ ?_ ?_ <;> simp [eP3_zero])
  have hw := nat_wrap (k := k) (by omega)
  by_cases c : k < b.me.pl.length
  · have c2 : k < b.w.length := by omega
    simp [c, c2, hw]
    (first | refine callG_r ?_ | refine callD_r ?_); simp; (first | refine callN_flat (by with_reducible first | exact c_l01Inner _ _ _ _ _ _) rfl ?_ | refine callN_new (by with_reducible first | exact c_l01Inner _ _ _ _ _ _) ?_ | refine callM_flat (by with_reducible first | exact c_l01Inner _ _ _ _ _ _) rfl ?_ | refine callM_new (by with_reducible first | exact c_l01Inner _ _ _ _ _ _) ?_)
    simp [hw]
    refine loopK_next (k + 1) (by omega) (by omega) ?_
    rw [eP3_succ c c2]
    (refine weak_gc [(some 0, 0)] ?_ ?_ ?_ ?_ ?_ <;> simp [hw])
  obtain rfl : k = b.me.pl.length := by omega
  simp
  (refine endG_keepT [(some 0, 0)] ?_ ?_ ?_ ?_ ?_ ?_ ?_ ⟨rfl, rfl⟩ ?_ <;> simp)
/-- The energy of a body. -/
def enB (b : Bod) : Nat := fop .add .f32 (fop .add .f32 (fop .add .f32 (eP0 b b.sp.length) (eP1 b b.me.tr.length)) (eP2 b (hinS b.me).length)) (eP3 b b.me.pl.length)
theorem c_energyOf (b : Bod) (hs : b.Small) (hv : vldB b = true) : Fun Tryz.prog 54 [b.av] [] (.flt .f32 (enB b)) [] := by
  refine FnSpec.walkF dr_ok Tryz.func54 rfl (by kernel_rfl) rfl rfl rfl (by simp) ?_
  simp
  (first | refine callG_r ?_ | refine callD_r ?_); simp; (first | refine callN_flat (by with_reducible first | exact c_partsOf b hs hv) rfl ?_ | refine callN_new (by with_reducible first | exact c_partsOf b hs hv) ?_ | refine callM_flat (by with_reducible first | exact c_partsOf b hs hv) rfl ?_ | refine callM_new (by with_reducible first | exact c_partsOf b hs hv) ?_)
  simp [enB]
theorem c_l03Energy (b : Bod) (rest : List AV) (hs : b.Small) (hv : vldB b = true) : Fun Tryz.prog 47 [b.vp rest] [] (.flt .f32 (enB b)) [] := by
  refine FnSpec.walkF dr_ok Tryz.func47 rfl (by kernel_rfl) rfl rfl rfl (by simp) ?_
  simp
  (first | refine callG_r ?_ | refine callD_r ?_); simp; (first | refine callN_flat (by with_reducible first | exact c_l03Parts b _ hs hv) rfl ?_ | refine callN_new (by with_reducible first | exact c_l03Parts b _ hs hv) ?_ | refine callM_flat (by with_reducible first | exact c_l03Parts b _ hs hv) rfl ?_ | refine callM_new (by with_reducible first | exact c_l03Parts b _ hs hv) ?_)
  simp [enB]
end Go.Proofs.YtnpflgeenecaeaaGreat
