/- Energies of bodies. Forces on bodies, as the program reckons them. Forces on bodies, as the reference reckons them. What stiffness makes of lists of vectors. Rayleigh's quotient, lists that are normed: as the program and the reference reckon them. Lists that are normed; what is done in each round of a mode.
Conditions: none. -/
import Derived.Test.YtnjpigkijdnpkaaGreatG3
namespace Go.Proofs.YtnjpigkijdnpkaaGreat
set_option linter.all false
open Go Go.Awp
set_option maxRecDepth 100000
set_option maxHeartbeats 4000000
set_option pp.deepTerms true

/-- A place by its number. -/
def plA (m : Msh) (i : Int) : V := m.pl.getD i.toNat (0, 0, 0)
theorem plA_nat {m : Msh} {p : Nat} (h : p < m.pl.length) : plA m (p : Int) = m.pl[p] := by
  unfold plA
  rw [Int.toNat_natCast, List.getD_eq_getElem?_getD, List.getElem?_eq_getElem h]; rfl
theorem fold_succ {α β : Type} {f : β → α → β} {a : β} {l : List α} {k : Nat} (h : k < l.length) : (l.take (k + 1)).foldl f a = f ((l.take k).foldl f a) l[k] := by
  rw [List.take_succ_eq_append_getElem h, List.foldl_append]; rfl
theorem foldr_succ {β : Type} {f : β → Nat → β} {a : β} {k : Nat} : (List.range (k + 1)).foldl f a = f ((List.range k).foldl f a) k := by
  rw [List.range_succ, List.foldl_append]; rfl
theorem spr_of {b : Bod} (hv : vldB b = true) {k : Nat} (h : k < b.sp.length) : ∃ p q z u : Nat, b.sp[k] = ((p : Int), (q : Int), z, u) ∧ p < b.me.pl.length ∧ q < b.me.pl.length ∧ p ≠ q := by
  unfold vldB at hv
  simp only [Bool.and_eq_true, List.all_eq_true] at hv
  have := hv.2 _ (List.getElem_mem h)
  generalize b.sp[k] = s at *
  obtain ⟨x, y, z, u⟩ := s
  simp only [sprB, inB, Bool.and_eq_true, decide_eq_true_eq, Bool.not_eq_true', decide_eq_false_iff_not] at this
  exact ⟨x.toNat, y.toNat, z, u, by rw [Int.toNat_of_nonneg (by omega), Int.toNat_of_nonneg (by omega)], by omega, by omega, by omega⟩
theorem tri_nat {m : Msh} (hv : vldM m = true) {k : Nat} (h : k < m.tr.length) : ∃ a b c : Nat, m.tr[k] = [(a : Int), (b : Int), (c : Int)] ∧ a < m.pl.length ∧ b < m.pl.length ∧ c < m.pl.length := by
  obtain ⟨a, b, c, h, h1, h2, h3, _⟩ := tri_of hv h
  simp [inB] at h1 h2 h3
  exact ⟨a.toNat, b.toNat, c.toNat, by rw [h, Int.toNat_of_nonneg (by omega), Int.toNat_of_nonneg (by omega), Int.toNat_of_nonneg (by omega)], by omega, by omega, by omega⟩
theorem hin_nat {m : Msh} (hv : vldM m = true) {k : Nat} (h : k < (hinS m).length) : ∃ a b c d : Nat, (hinS m)[k] = [(a : Int), (b : Int), (c : Int), (d : Int)] ∧ a < m.pl.length ∧ b < m.pl.length ∧ c < m.pl.length ∧ d < m.pl.length := hin_mem hv (List.getElem_mem h)
structure VldB (b : Bod) : Prop where
  me : vldM b.me = true
  pl : b.me.pl.length ≤ 64
  tr : b.me.tr.length ≤ 128
  sp : b.sp.length ≤ 200
  w : b.w.length = b.me.pl.length
theorem vldB_of {b : Bod} (hv : vldB b = true) : VldB b := by
  have h := hv
  unfold vldB at h
  simp only [Bool.and_eq_true, decide_eq_true_eq] at h
  have := vldM_len h.1.1.1
  exact ⟨h.1.1.1, this.1, this.2, h.1.1.2, h.1.2⟩
-- the four parts of the energy
def enS (b : Bod) (x : Nat) (s : Sp) : Nat :=
  fop .add .f32 x (fop .mul .f32 (fop .mul .f32 1056964608 s.2.2.2) (fop .mul .f32 (fop .sub .f32 (vlong (vsub (plA b.me s.2.1) (plA b.me s.1))) s.2.2.1) (fop .sub .f32 (vlong (vsub (plA b.me s.2.1) (plA b.me s.1))) s.2.2.1)))
def enT (b : Bod) (x : Nat) (t : List Int) : Nat :=
  fop .add .f32 x (fop .mul .f32 b.film (fop .mul .f32 1056964608 (vlong (vnrm (plA b.me (t.getD 0 0)) (plA b.me (t.getD 1 0)) (plA b.me (t.getD 2 0))))))
def bendA (m : Msh) (h : List Int) : V := vbend (plA m (h.getD 0 0)) (plA m (h.getD 1 0)) (plA m (h.getD 2 0)) (plA m (h.getD 3 0))
def enH (b : Bod) (x : Nat) (h : List Int) : Nat := fop .add .f32 x (fop .mul .f32 (fop .mul .f32 1056964608 b.bend) (vinner (bendA b.me h) (bendA b.me h)))
def enW (b : Bod) (x : Nat) (i : Nat) : Nat := fop .add .f32 x (fneg .f32 (fop .mul .f32 (b.w.getD i 0) (vinner b.fall (b.me.pl.getD i (0, 0, 0)))))
def eP0 (b : Bod) (k : Nat) : Nat := (b.sp.take k).foldl (enS b) 0
def eP1 (b : Bod) (k : Nat) : Nat := (b.me.tr.take k).foldl (enT b) 0
def eP2 (b : Bod) (k : Nat) : Nat := ((hinS b.me).take k).foldl (enH b) 0
def eP3 (b : Bod) (k : Nat) : Nat := (List.range k).foldl (enW b) 0
theorem eP0_succ {b : Bod} {k p q z u : Nat} (c : k < b.sp.length) (he : b.sp[k] = ((p : Int), (q : Int), z, u)) (hp : p < b.me.pl.length) (hq : q < b.me.pl.length) : eP0 b (k + 1) =
    fop .add .f32 (eP0 b k) (fop .mul .f32 (fop .mul .f32 1056964608 u) (fop .mul .f32 (fop .sub .f32 (vlong (vsub b.me.pl[q] b.me.pl[p])) z) (fop .sub .f32 (vlong (vsub b.me.pl[q] b.me.pl[p])) z))) := by
  unfold eP0
  rw [fold_succ c, he]
  simp only [enS, plA_nat hp, plA_nat hq]
theorem eP1_succ {b : Bod} {k x y z : Nat} (c : k < b.me.tr.length) (he : b.me.tr[k] = [(x : Int), (y : Int), (z : Int)]) (hx : x < b.me.pl.length) (hy : y < b.me.pl.length) (hz : z < b.me.pl.length) : eP1 b (k + 1) =
    fop .add .f32 (eP1 b k) (fop .mul .f32 b.film (fop .mul .f32 1056964608 (vlong (vnrm b.me.pl[x] b.me.pl[y] b.me.pl[z])))) := by
  unfold eP1
  rw [fold_succ c, he]
  simp only [enT, List.getD_cons_zero, List.getD_cons_succ, plA_nat hx, plA_nat hy, plA_nat hz]
theorem bendA_at {m : Msh} {x y z u : Nat} (hx : x < m.pl.length) (hy : y < m.pl.length) (hz : z < m.pl.length) (hu : u < m.pl.length) : bendA m [(x : Int), (y : Int), (z : Int), (u : Int)] = vbend m.pl[x] m.pl[y] m.pl[z] m.pl[u] := by
  simp only [bendA, List.getD_cons_zero, List.getD_cons_succ, plA_nat hx, plA_nat hy, plA_nat hz, plA_nat hu]
theorem eP2_succ {b : Bod} {k x y z u : Nat} (c : k < (hinS b.me).length) (he : (hinS b.me)[k] = [(x : Int), (y : Int), (z : Int), (u : Int)]) (hx : x < b.me.pl.length) (hy : y < b.me.pl.length) (hz : z < b.me.pl.length) (hu : u < b.me.pl.length) : eP2 b (k + 1) =
    fop .add .f32 (eP2 b k) (fop .mul .f32 (fop .mul .f32 1056964608 b.bend) (vinner (vbend b.me.pl[x] b.me.pl[y] b.me.pl[z] b.me.pl[u]) (vbend b.me.pl[x] b.me.pl[y] b.me.pl[z] b.me.pl[u]))) := by
  unfold eP2
  rw [fold_succ c, he]
  simp only [enH, bendA_at hx hy hz hu]
theorem eP3_succ {b : Bod} {k : Nat} (c : k < b.me.pl.length) (c2 : k < b.w.length) : eP3 b (k + 1) = fop .add .f32 (eP3 b k) (fneg .f32 (fop .mul .f32 b.w[k] (vinner b.fall b.me.pl[k]))) := by
  unfold eP3
  rw [foldr_succ]
  simp only [enW, List.getD_eq_getElem?_getD, List.getElem?_eq_getElem c, List.getElem?_eq_getElem c2, Option.getD_some]
theorem eP0_zero (b : Bod) : eP0 b 0 = 0 := rfl
theorem eP1_zero (b : Bod) : eP1 b 0 = 0 := rfl
theorem eP2_zero (b : Bod) : eP2 b 0 = 0 := rfl
theorem eP3_zero (b : Bod) : eP3 b 0 = 0 := rfl
theorem c_partsOf (b : Bod) (hs : b.Small) (hv : vldB b = true) : Fun Tryz.prog 76 [b.av] [] (.slc 0 0 4 1) [.blk true false 29 (cFs [eP0 b b.sp.length, eP1 b b.me.tr.length, eP2 b (hinS b.me).length, eP3 b b.me.pl.length])] := by
  obtain ⟨hm, hpl, htr, hsp, hww⟩ := vldB_of hv
  have hhn := hin_small hm
  refine FnSpec.walk dr_ok Tryz.func76 rfl (by kernel_rfl) rfl rfl rfl (by simp) ?_
  simp
  refine loopG_of (α := Nat) (fun k => k ≤ b.sp.length) (fun k => b.sp.length - k) (fun k => [(18, .int .i64 k), (17, .int .i64 b.sp.length), (16, .view false (cSs b.sp) b.sp.length), (3, .slc 1 0 4 1), (1, .ptr 0 0)])
    (fun k => [.blk true true 34 b.cells, .blk true false 29 (cFs [eP0 b k, 0, 0, 0])]) 0 (by simp) ?_ fun k hk => ?_
  · (refine weak_gc [(some 0, 0), (some 1, 0)] ?_ ?_ ?_ ?_ ?_ <;> simp [eP0_zero])
  have hw := nat_wrap (k := k) (by omega)
  by_cases c : k < b.sp.length
  · obtain ⟨p, q, z, u, he, hp, hq, _⟩ := spr_of hv c
    simp [c, hw, he]
    (first | refine callG_r ?_ | refine callD_r ?_); simp; (first | refine callN_flat (by with_reducible first | exact c_along b p q z u hp hq hpl) rfl ?_ | refine callN_new (by with_reducible first | exact c_along b p q z u hp hq hpl) ?_ | refine callM_flat (by with_reducible first | exact c_along b p q z u hp hq hpl) rfl ?_ | refine callM_new (by with_reducible first | exact c_along b p q z u hp hq hpl) ?_)
    simp
    (first | refine callG_r ?_ | refine callD_r ?_); simp; (first | refine callN_flat (by with_reducible first | exact c_long _ _ _) rfl ?_ | refine callN_new (by with_reducible first | exact c_long _ _ _) ?_ | refine callM_flat (by with_reducible first | exact c_long _ _ _) rfl ?_ | refine callM_new (by with_reducible first | exact c_long _ _ _) ?_)
    simp [he, hw]
    refine loopK_next (k + 1) (by omega) (by omega) ?_
    rw [eP0_succ c he hp hq]
    (refine weak_gc [(some 0, 0), (some 1, 0)] ?_ ?_ ?_ ?_ ?_ <;> simp [hw])
  obtain rfl : k = b.sp.length := by omega
  simp
  generalize eP0 b b.sp.length = E0
  refine loopG_of (α := Nat) (fun k => k ≤ b.me.tr.length) (fun k => b.me.tr.length - k) (fun k => [(46, .int .i64 k), (45, .int .i64 b.me.tr.length), (44, .view false (cRs false b.me.tr) b.me.tr.length), (3, .slc 1 0 4 1), (1, .ptr 0 0)])
    (fun k => [.blk true true 34 b.cells, .blk true false 29 (cFs [E0, eP1 b k, 0, 0])]) 0 (by simp) ?_ fun k hk => ?_
  · (refine weak_gc [(some 0, 0), (some 1, 0)] ?_ ?_ ?_ ?_ ?_ <;> simp [eP1_zero])
  have hw := nat_wrap (k := k) (by omega)
  by_cases c : k < b.me.tr.length
  · obtain ⟨x, y, z, he, hx, hy, hz⟩ := tri_nat hm c
    simp [c, hw, he]
    (first | refine callG_r ?_ | refine callD_r ?_); simp; (first | refine callN_flat (by with_reducible first | exact c_normal b.me x y z hx hy hz hpl) rfl ?_ | refine callN_new (by with_reducible first | exact c_normal b.me x y z hx hy hz hpl) ?_ | refine callM_flat (by with_reducible first | exact c_normal b.me x y z hx hy hz hpl) rfl ?_ | refine callM_new (by with_reducible first | exact c_normal b.me x y z hx hy hz hpl) ?_)
    simp
    (first | refine callG_r ?_ | refine callD_r ?_); simp; (first | refine callN_flat (by with_reducible first | exact c_long _ _ _) rfl ?_ | refine callN_new (by with_reducible first | exact c_long _ _ _) ?_ | refine callM_flat (by with_reducible first | exact c_long _ _ _) rfl ?_ | refine callM_new (by with_reducible first | exact c_long _ _ _) ?_)
    simp [he, hw]
    refine loopK_next (k + 1) (by omega) (by omega) ?_
    rw [eP1_succ c he hx hy hz]
    (refine weak_gc [(some 0, 0), (some 1, 0)] ?_ ?_ ?_ ?_ ?_ <;> simp [hw])
  obtain rfl : k = b.me.tr.length := by omega
  simp
  generalize eP1 b b.me.tr.length = E1
  (first | refine callG_r ?_ | refine callD_r ?_); simp; (first | refine callN_flat (by with_reducible first | exact c_hingesOf b.me hs.me hm) rfl ?_ | refine callN_new (by with_reducible first | exact c_hingesOf b.me hs.me hm) ?_ | refine callM_flat (by with_reducible first | exact c_hingesOf b.me hs.me hm) rfl ?_ | refine callM_new (by with_reducible first | exact c_hingesOf b.me hs.me hm) ?_)
  simp
  refine loopG_of (α := Nat) (fun k => k ≤ (hinS b.me).length) (fun k => (hinS b.me).length - k) (fun k => [(69, .int .i64 k), (68, .int .i64 (hinS b.me).length), (67, .slc 2 0 (hinS b.me).length 1), (3, .slc 1 0 4 1), (1, .ptr 0 0)])
    (fun k => [.blk true true 34 b.cells, .blk true false 29 (cFs [E0, E1, eP2 b k, 0]), .blk true false 36 (cRs true (hinS b.me))]) 0 (by simp) ?_ fun k hk => ?_
  · (refine weak_gc [(some 0, 0), (some 1, 0), (some 2, 0)] ?_ ?_ ?_ ?_ ?_ <;> simp [eP2_zero])
  have hw := nat_wrap (k := k) (by omega)
  by_cases c : k < (hinS b.me).length
  · obtain ⟨x, y, z, u, he, hx, hy, hz, hu⟩ := hin_nat hm c
    simp [c, hw, he]
    (first | refine callG_r ?_ | refine callD_r ?_); simp; (first | refine callN_flat (by with_reducible first | exact c_bend b.me x y z u hx hy hz hu hpl) rfl ?_ | refine callN_new (by with_reducible first | exact c_bend b.me x y z u hx hy hz hu hpl) ?_ | refine callM_flat (by with_reducible first | exact c_bend b.me x y z u hx hy hz hu hpl) rfl ?_ | refine callM_new (by with_reducible first | exact c_bend b.me x y z u hx hy hz hu hpl) ?_)
    simp
    (first | refine callG_r ?_ | refine callD_r ?_); simp; (first | refine callN_flat (by with_reducible first | exact c_inner _ _ _ _ _ _) rfl ?_ | refine callN_new (by with_reducible first | exact c_inner _ _ _ _ _ _) ?_ | refine callM_flat (by with_reducible first | exact c_inner _ _ _ _ _ _) rfl ?_ | refine callM_new (by with_reducible first | exact c_inner _ _ _ _ _ _) ?_)
    simp [he, hw]
    refine loopK_next (k + 1) (by omega) (by omega) ?_
    rw [eP2_succ c he hx hy hz hu]
    (refine weak_gc [(some 0, 0), (some 1, 0), (some 2, 0)] ?_ ?_ ?_ ?_ ?_ <;> simp [hw])
  obtain rfl : k = (hinS b.me).length := by omega
  simp
  generalize eP2 b (hinS b.me).length = E2
  refine loopG_of (α := Nat) (fun k => k ≤ b.me.pl.length) (fun k => b.me.pl.length - k) (fun k => [(94, .int .i64 k), (93, .int .i64 b.me.pl.length), (92, .view false (cVs b.me.pl) b.me.pl.length), (3, .slc 1 0 4 1), (1, .ptr 0 0)])
    (fun k => [.blk true true 34 b.cells, .blk true false 29 (cFs [E0, E1, E2, eP3 b k])]) 0 (by simp) ?_ fun k hk => ?_
  · (refine weak_gc [(some 0, 0), (some 1, 0)] ?_ ?_ ?_ ?_ ?_ <;> simp [eP3_zero])
  have hw := nat_wrap (k := k) (by omega)
  by_cases c : k < b.me.pl.length
  · have c2 : k < b.w.length := by omega
    simp [c, c2, hw]
    (first | refine callG_r ?_ | refine callD_r ?_); simp; (first | refine callN_flat (by with_reducible first | exact c_inner _ _ _ _ _ _) rfl ?_ | refine callN_new (by with_reducible first | exact c_inner _ _ _ _ _ _) ?_ | refine callM_flat (by with_reducible first | exact c_inner _ _ _ _ _ _) rfl ?_ | refine callM_new (by with_reducible first | exact c_inner _ _ _ _ _ _) ?_)
    simp [hw]
    refine loopK_next (k + 1) (by omega) (by omega) ?_
    rw [eP3_succ c c2]
    (refine weak_gc [(some 0, 0), (some 1, 0)] ?_ ?_ ?_ ?_ ?_ <;> simp [hw])
  obtain rfl : k = b.me.pl.length := by omega
  simp
  (refine endG_keepT [(some 1, 0)] ?_ ?_ ?_ ?_ ?_ ?_ ?_ ⟨rfl, rfl⟩ ?_ <;> simp)
/-- The energy of a body. -/
def enB (b : Bod) : Nat := fop .add .f32 (fop .add .f32 (fop .add .f32 (eP0 b b.sp.length) (eP1 b b.me.tr.length)) (eP2 b (hinS b.me).length)) (eP3 b b.me.pl.length)
theorem c_energyOf (b : Bod) (hs : b.Small) (hv : vldB b = true) : Fun Tryz.prog 43 [b.av] [] (.flt .f32 (enB b)) [] := by
  refine FnSpec.walkF dr_ok Tryz.func43 rfl (by kernel_rfl) rfl rfl rfl (by simp) ?_
  simp
  (first | refine callG_r ?_ | refine callD_r ?_); simp; (first | refine callN_flat (by with_reducible first | exact c_partsOf b hs hv) rfl ?_ | refine callN_new (by with_reducible first | exact c_partsOf b hs hv) ?_ | refine callM_flat (by with_reducible first | exact c_partsOf b hs hv) rfl ?_ | refine callM_new (by with_reducible first | exact c_partsOf b hs hv) ?_)
  simp [enB]
end Go.Proofs.YtnjpigkijdnpkaaGreat
namespace Go.Proofs.YtnjpigkijdnpkaaGreat
set_option linter.all false
open Go Go.Awp
set_option maxRecDepth 100000
set_option maxHeartbeats 4000000
set_option pp.deepTerms true

/-- A vector is added to a row's vector. -/
def push (out : List V) (i : Nat) (d : V) (g : Nat) : List V := out.set i (vadd (out.getD i (0, 0, 0)) (vscale d g))
@[simp] theorem push_len (out : List V) (i : Nat) (d : V) (g : Nat) : (push out i d g).length = out.length := by simp [push]
theorem push_at {out : List V} {i : Nat} (d : V) (g : Nat) (h : i < out.length) : out.set i (vadd out[i] (vscale d g)) = push out i d g := by
  unfold push
  rw [List.getD_eq_getElem?_getD, List.getElem?_eq_getElem h]; rfl
theorem c_push (out : List V) (p d1 d2 d3 g : Nat) (hp : p < out.length) (hl : out.length ≤ 64) : Fun Tryz.prog 104 [.int .i64 p, .agg [.flt .f32 d1, .flt .f32 d2, .flt .f32 d3], .flt .f32 g, .ptr 0 0] [.blk false true 24 [.slc 1 0 out.length 3], .blk false false 32 (cVs out)]
    (.tup []) [.blk false true 24 [.slc 1 0 out.length 3], .blk false false 32 (cVs (push out p (d1, d2, d3) g))] := by
  refine FnSpec.walk dr_ok Tryz.func104 rfl (by kernel_rfl) rfl rfl rfl (by simp) ?_
  simp [hp]
  (first | refine callG_r ?_ | refine callD_r ?_); simp; (first | refine callN_flat (by with_reducible first | exact c_scale _ _ _ _) rfl ?_ | refine callN_new (by with_reducible first | exact c_scale _ _ _ _) ?_ | refine callM_flat (by with_reducible first | exact c_scale _ _ _ _) rfl ?_ | refine callM_new (by with_reducible first | exact c_scale _ _ _ _) ?_)
  simp [hp]
  (first | refine callG_r ?_ | refine callD_r ?_); simp; (first | refine callN_flat (by with_reducible first | exact c_add _ _ _ _ _ _) rfl ?_ | refine callN_new (by with_reducible first | exact c_add _ _ _ _ _ _) ?_ | refine callM_flat (by with_reducible first | exact c_add _ _ _ _ _ _) rfl ?_ | refine callM_new (by with_reducible first | exact c_add _ _ _ _ _ _) ?_)
  simp [hp]
  refine ⟨by omega, ?_⟩
  rw [push_at _ _ hp]
  (refine endG_keepT [] ?_ ?_ ?_ ?_ ?_ ?_ ?_ ⟨rfl, rfl⟩ ?_ <;> simp)
theorem c_pushV (out : List V) (n p : Nat) (d : V) (g : Nat) (hn : out.length = n) (hp : p < n) (hl : n ≤ 64) : Fun Tryz.prog 104 [.int .i64 p, .agg [.flt .f32 d.1, .flt .f32 d.2.1, .flt .f32 d.2.2], .flt .f32 g, .ptr 0 0] [.blk false true 24 [.slc 1 0 n 3], .blk false false 32 (cVs out)]
    (.tup []) [.blk false true 24 [.slc 1 0 n 3], .blk false false 32 (cVs (push out p d g))] := by
  subst hn
  exact c_push out p d.1 d.2.1 d.2.2 g hp hl
-- the four parts of forces
def foS (b : Bod) (out : List V) (s : Sp) : List V :=
  push (push out s.1.toNat (vsub (plA b.me s.2.1) (plA b.me s.1)) (pullF (vsub (plA b.me s.2.1) (plA b.me s.1)) s.2.2.1 s.2.2.2)) s.2.1.toNat (vsub (plA b.me s.2.1) (plA b.me s.1)) (fneg .f32 (pullF (vsub (plA b.me s.2.1) (plA b.me s.1)) s.2.2.1 s.2.2.2))
def nrmA (m : Msh) (t : List Int) : V := vnrm (plA m (t.getD 0 0)) (plA m (t.getD 1 0)) (plA m (t.getD 2 0))
def filF (b : Bod) (n : V) : Nat := gainF (fneg .f32 (fop .mul .f32 1056964608 b.film)) (vlong n)
def foT1 (b : Bod) (t : List Int) (out : List V) (i : Nat) : List V :=
  push out (t.getD i 0).toNat (vcross (nrmA b.me t) (vsub (plA b.me (t.getD ((i + 2) % 3) 0)) (plA b.me (t.getD ((i + 1) % 3) 0)))) (filF b (nrmA b.me t))
def foT3 (b : Bod) (t : List Int) (out : List V) (k : Nat) : List V := (List.range k).foldl (foT1 b t) out
def foT (b : Bod) (out : List V) (t : List Int) : List V := foT3 b t out 3
def foH (b : Bod) (out : List V) (h : List Int) : List V :=
  push (push (push (push out (h.getD 0 0).toNat (bendA b.me h) b.bend) (h.getD 1 0).toNat (bendA b.me h) b.bend) (h.getD 2 0).toNat (bendA b.me h) (fneg .f32 b.bend)) (h.getD 3 0).toNat (bendA b.me h) (fneg .f32 b.bend)
def foW (b : Bod) (out : List V) (i : Nat) : List V := push out i b.fall (b.w.getD i 0)
@[simp] theorem foT3_len (b : Bod) (t : List Int) (out : List V) : ∀ k, (foT3 b t out k).length = out.length
  | 0 => rfl
  | k + 1 => by
    unfold foT3
    rw [foldr_succ]
    have := foT3_len b t out k
    unfold foT3 at this
    simp [foT1, this]
theorem fold_len {α : Type} {f : List V → α → List V} (hf : ∀ o x, (f o x).length = o.length) : ∀ (l : List α) (o : List V), (l.foldl f o).length = o.length
  | [], _ => rfl
  | x :: l, o => by rw [List.foldl_cons, fold_len hf l, hf]
def fP0 (b : Bod) (O : List V) (k : Nat) : List V := (b.sp.take k).foldl (foS b) O
def fP1 (b : Bod) (O : List V) (k : Nat) : List V := (b.me.tr.take k).foldl (foT b) O
def fP2 (b : Bod) (O : List V) (k : Nat) : List V := ((hinS b.me).take k).foldl (foH b) O
def fP3 (b : Bod) (O : List V) (k : Nat) : List V := (List.range k).foldl (foW b) O
@[simp] theorem fP0_len (b : Bod) (O : List V) (k : Nat) : (fP0 b O k).length = O.length := fold_len (fun o x => by simp [foS]) _ _
@[simp] theorem fP1_len (b : Bod) (O : List V) (k : Nat) : (fP1 b O k).length = O.length := fold_len (fun o x => by simp [foT]) _ _
@[simp] theorem fP2_len (b : Bod) (O : List V) (k : Nat) : (fP2 b O k).length = O.length := fold_len (fun o x => by simp [foH]) _ _
@[simp] theorem fP3_len (b : Bod) (O : List V) (k : Nat) : (fP3 b O k).length = O.length := fold_len (fun o x => by simp [foW]) _ _
theorem fP0_zero (b : Bod) (O : List V) : fP0 b O 0 = O := rfl
theorem fP1_zero (b : Bod) (O : List V) : fP1 b O 0 = O := rfl
theorem fP2_zero (b : Bod) (O : List V) : fP2 b O 0 = O := rfl
theorem fP3_zero (b : Bod) (O : List V) : fP3 b O 0 = O := rfl
theorem foT3_zero (b : Bod) (t : List Int) (O : List V) : foT3 b t O 0 = O := rfl
theorem fP0_succ {b : Bod} {O : List V} {k p q z u : Nat} (c : k < b.sp.length) (he : b.sp[k] = ((p : Int), (q : Int), z, u)) (hp : p < b.me.pl.length) (hq : q < b.me.pl.length) : fP0 b O (k + 1) =
    push (push (fP0 b O k) p (vsub b.me.pl[q] b.me.pl[p]) (pullF (vsub b.me.pl[q] b.me.pl[p]) z u)) q (vsub b.me.pl[q] b.me.pl[p]) (fneg .f32 (pullF (vsub b.me.pl[q] b.me.pl[p]) z u)) := by
  unfold fP0
  rw [fold_succ c, he]
  simp only [foS, plA_nat hp, plA_nat hq, Int.toNat_natCast]
theorem fP1_succ {b : Bod} {O : List V} {k : Nat} (c : k < b.me.tr.length) : fP1 b O (k + 1) = foT3 b b.me.tr[k] (fP1 b O k) 3 := by
  unfold fP1
  rw [fold_succ c]; rfl
theorem nrmA_at {m : Msh} {x y z : Nat} (hx : x < m.pl.length) (hy : y < m.pl.length) (hz : z < m.pl.length) : nrmA m [(x : Int), (y : Int), (z : Int)] = vnrm m.pl[x] m.pl[y] m.pl[z] := by
  simp only [nrmA, List.getD_cons_zero, List.getD_cons_succ, plA_nat hx, plA_nat hy, plA_nat hz]
theorem foT3_succ {b : Bod} {O : List V} {t : List Int} {i p q r : Nat} (hp : t.getD i 0 = (p : Int)) (hq : t.getD ((i + 2) % 3) 0 = (q : Int)) (hr : t.getD ((i + 1) % 3) 0 = (r : Int)) (hql : q < b.me.pl.length) (hrl : r < b.me.pl.length) :
    foT3 b t O (i + 1) = push (foT3 b t O i) p (vcross (nrmA b.me t) (vsub b.me.pl[q] b.me.pl[r])) (filF b (nrmA b.me t)) := by
  unfold foT3
  rw [foldr_succ]
  simp only [foT1, hp, hq, hr, plA_nat hql, plA_nat hrl, Int.toNat_natCast]
theorem fP2_succ {b : Bod} {O : List V} {k x y z u : Nat} (c : k < (hinS b.me).length) (he : (hinS b.me)[k] = [(x : Int), (y : Int), (z : Int), (u : Int)]) (hx : x < b.me.pl.length) (hy : y < b.me.pl.length) (hz : z < b.me.pl.length) (hu : u < b.me.pl.length) : fP2 b O (k + 1) =
    push (push (push (push (fP2 b O k) x (vbend b.me.pl[x] b.me.pl[y] b.me.pl[z] b.me.pl[u]) b.bend) y (vbend b.me.pl[x] b.me.pl[y] b.me.pl[z] b.me.pl[u]) b.bend) z (vbend b.me.pl[x] b.me.pl[y] b.me.pl[z] b.me.pl[u]) (fneg .f32 b.bend)) u (vbend b.me.pl[x] b.me.pl[y] b.me.pl[z] b.me.pl[u]) (fneg .f32 b.bend) := by
  unfold fP2
  rw [fold_succ c, he]
  simp only [foH, bendA_at hx hy hz hu, List.getD_cons_zero, List.getD_cons_succ, Int.toNat_natCast]
theorem fP3_succ {b : Bod} {O : List V} {k : Nat} (c2 : k < b.w.length) : fP3 b O (k + 1) = push (fP3 b O k) k b.fall b.w[k] := by
  unfold fP3
  rw [foldr_succ]
  simp only [foW, List.getD_eq_getElem?_getD, List.getElem?_eq_getElem c2, Option.getD_some]
/-- The forces on all places. -/
def frcB (b : Bod) : List V := fP3 b (fP2 b (fP1 b (fP0 b (List.replicate b.me.pl.length (0, 0, 0)) b.sp.length) b.me.tr.length) (hinS b.me).length) b.me.pl.length
@[simp] theorem frcB_len (b : Bod) : (frcB b).length = b.me.pl.length := by simp [frcB]
theorem tri_get {x y z : Nat} {n : Nat} (hx : x < n) (hy : y < n) (hz : z < n) (i : Nat) (hi : i < 3) : ∃ p : Nat, [(x : Int), (y : Int), (z : Int)][i]'(by simpa using hi) = (p : Int) ∧ [(x : Int), (y : Int), (z : Int)].getD i 0 = (p : Int) ∧ p < n := by
  match i, hi with
  | 0, _ => exact ⟨x, rfl, rfl, hx⟩
  | 1, _ => exact ⟨y, rfl, rfl, hy⟩
  | 2, _ => exact ⟨z, rfl, rfl, hz⟩
theorem tmod3 (k j : Nat) : ((k : Int) + (j : Int)).tmod 3 = (((k + j) % 3 : Nat) : Int) := by
  rw [Int.tmod_eq_emod_of_nonneg (by omega)]; omega
theorem c_forcesOf (b : Bod) (hs : b.Small) (hv : vldB b = true) : Fun Tryz.prog 78 [b.av] [] (.slc 0 0 b.me.pl.length 3) [.blk true false 32 (cVs (frcB b))] := by
  obtain ⟨hm, hpl, htr, hsp, hww⟩ := vldB_of hv
  have hhn := hin_small hm
  refine FnSpec.walk dr_ok Tryz.func78 rfl (by kernel_rfl) rfl rfl rfl (by simp) ?_
  simp
  refine ⟨by omega, by omega, ?_⟩
  unfold frcB
  have hl0 : (List.replicate b.me.pl.length ((0, 0, 0) : V)).length = b.me.pl.length := by simp
  generalize List.replicate b.me.pl.length ((0, 0, 0) : V) = O0 at *
  refine loopG_of (α := Nat) (fun k => k ≤ b.sp.length) (fun k => b.sp.length - k) (fun k => [(32, .int .i64 k), (31, .int .i64 b.sp.length), (30, .view false (cSs b.sp) b.sp.length), (4, .clo 104 [] [.ptr 2 0]), (3, .ptr 2 0), (1, .ptr 0 0)])
    (fun k => [.blk true true 34 b.cells, .blk true false 32 (cVs (fP0 b O0 k)), .blk true true 24 [.slc 1 0 b.me.pl.length 3]]) 0 (by simp) ?_ fun k hk => ?_
  · (refine weak_gc [(some 0, 0), (some 1, 0), (some 2, 0)] ?_ ?_ ?_ ?_ ?_ <;> simp [fP0_zero])
  have hw := nat_wrap (k := k) (by omega)
  by_cases c : k < b.sp.length
  · obtain ⟨p, q, z, u, he, hp, hq, _⟩ := spr_of hv c
    have hsu := fP0_succ (O := O0) c he hp hq
    have hll := fP0_len b O0 k
    generalize fP0 b O0 k = O at *
    simp [c, hw, he]
    (first | refine callG_r ?_ | refine callD_r ?_); simp; (first | refine callN_flat (by with_reducible first | exact c_along b p q z u hp hq hpl) rfl ?_ | refine callN_new (by with_reducible first | exact c_along b p q z u hp hq hpl) ?_ | refine callM_flat (by with_reducible first | exact c_along b p q z u hp hq hpl) rfl ?_ | refine callM_new (by with_reducible first | exact c_along b p q z u hp hq hpl) ?_)
    simp [he]
    (first | refine callG_r ?_ | refine callD_r ?_); simp; (first | refine callN_flat (by with_reducible first | exact c_pullBy _ _ _ _ _ _ _) rfl ?_ | refine callN_new (by with_reducible first | exact c_pullBy _ _ _ _ _ _ _) ?_ | refine callM_flat (by with_reducible first | exact c_pullBy _ _ _ _ _ _ _) rfl ?_ | refine callM_new (by with_reducible first | exact c_pullBy _ _ _ _ _ _ _) ?_)
    simp [he]
    (first | refine callG_on true [2, 1] ?_ | refine callD_on true [2, 1] ?_); simp; (first | refine callN_fun (by with_reducible exact c_pushV _ _ _ _ _ (by omega) hp hpl) (by simp) ?_ | refine callMD_fun (by with_reducible exact c_pushV _ _ _ _ _ (by omega) hp hpl) (by simp) ?_)
    simp [he]
    (first | refine callG_on true [2, 1] ?_ | refine callD_on true [2, 1] ?_); simp; (first | refine callN_fun (by with_reducible exact c_pushV _ _ _ _ _ (by simp; omega) hq hpl) (by simp) ?_ | refine callMD_fun (by with_reducible exact c_pushV _ _ _ _ _ (by simp; omega) hq hpl) (by simp) ?_)
    simp [he, hw]
    rw [← hsu]
    refine loopK_next (k + 1) (by omega) (by omega) ?_
    (refine weak_gc [(some 0, 0), (some 1, 0), (some 2, 0)] ?_ ?_ ?_ ?_ ?_ <;> simp [hw])
  obtain rfl : k = b.sp.length := by omega
  simp
  have hl1 : (fP0 b O0 b.sp.length).length = b.me.pl.length := by simp [hl0]
  generalize fP0 b O0 b.sp.length = O1 at *
  refine loopG_of (α := Nat) (fun k => k ≤ b.me.tr.length) (fun k => b.me.tr.length - k) (fun k => [(63, .int .i64 k), (62, .int .i64 b.me.tr.length), (61, .view false (cRs false b.me.tr) b.me.tr.length), (9, .view false (cVs b.me.pl) b.me.pl.length), (4, .clo 104 [] [.ptr 2 0]), (3, .ptr 2 0), (1, .ptr 0 0)])
    (fun k => [.blk true true 34 b.cells, .blk true false 32 (cVs (fP1 b O1 k)), .blk true true 24 [.slc 1 0 b.me.pl.length 3]]) 0 (by simp) ?_ fun k hk => ?_
  · (refine weak_gc [(some 0, 0), (some 1, 0), (some 2, 0)] ?_ ?_ ?_ ?_ ?_ <;> simp [fP1_zero])
  have hw := nat_wrap (k := k) (by omega)
  by_cases c : k < b.me.tr.length
  · obtain ⟨x, y, z, he, hx, hy, hz⟩ := tri_nat hm c
    have hsu := fP1_succ (O := O1) c
    rw [he] at hsu
    have hll := fP1_len b O1 k
    generalize fP1 b O1 k = O at *
    simp [c, hw, he]
    (first | refine callG_r ?_ | refine callD_r ?_); simp; (first | refine callN_flat (by with_reducible first | exact c_normal b.me x y z hx hy hz hpl) rfl ?_ | refine callN_new (by with_reducible first | exact c_normal b.me x y z hx hy hz hpl) ?_ | refine callM_flat (by with_reducible first | exact c_normal b.me x y z hx hy hz hpl) rfl ?_ | refine callM_new (by with_reducible first | exact c_normal b.me x y z hx hy hz hpl) ?_)
    simp [he]
    (first | refine callG_r ?_ | refine callD_r ?_); simp; (first | refine callN_flat (by with_reducible first | exact c_long _ _ _) rfl ?_ | refine callN_new (by with_reducible first | exact c_long _ _ _) ?_ | refine callM_flat (by with_reducible first | exact c_long _ _ _) rfl ?_ | refine callM_new (by with_reducible first | exact c_long _ _ _) ?_)
    simp [he]
    have hnr := nrmA_at (m := b.me) hx hy hz
    refine ⟨fun g => ?_, fun g => ?_⟩
    all_goals
      have hF : filF b (vnrm b.me.pl[x] b.me.pl[y] b.me.pl[z]) = gainF (fneg .f32 (fop .mul .f32 1056964608 b.film)) (vlong (vnrm b.me.pl[x] b.me.pl[y] b.me.pl[z])) := rfl
      unfold gainF at hF
      first | rw [if_pos g] at hF | rw [if_neg g] at hF
      refine loopG_of (α := Nat) (fun i => i ≤ 3) (fun i => 3 - i) (fun i => [(81, .int .i64 i), (13, .flt .f32 (filF b (vnrm b.me.pl[x] b.me.pl[y] b.me.pl[z]))), (12, .ptr 3 0), (11, .view false (cIs [(x : Int), (y : Int), (z : Int)]) 3), (63, .int .i64 k), (62, .int .i64 b.me.tr.length), (61, .view false (cRs false b.me.tr) b.me.tr.length), (9, .view false (cVs b.me.pl) b.me.pl.length), (4, .clo 104 [] [.ptr 2 0]), (3, .ptr 2 0), (1, .ptr 0 0)])
        (fun i => [.blk true true 34 b.cells, .blk true false 32 (cVs (foT3 b [(x : Int), (y : Int), (z : Int)] O i)), .blk true true 24 [.slc 1 0 b.me.pl.length 3],
          .blk true true 32 [.flt .f32 (vnrm b.me.pl[x] b.me.pl[y] b.me.pl[z]).1, .flt .f32 (vnrm b.me.pl[x] b.me.pl[y] b.me.pl[z]).2.1, .flt .f32 (vnrm b.me.pl[x] b.me.pl[y] b.me.pl[z]).2.2]]) 0 (by simp) ?_ fun i hi => ?_
      · (refine weak_gc [(some 0, 0), (some 1, 0), (some 2, 0), (some 3, 0)] ?_ ?_ ?_ ?_ ?_ <;> simp [foT3_zero, hF])
      by_cases ci : i < 3
      · have hl4 := foT3_len b [(x : Int), (y : Int), (z : Int)] O i
        have hs0 := foT3_succ (b := b) (O := O) (t := [(x : Int), (y : Int), (z : Int)]) (i := 0) rfl rfl rfl hz hy
        have hs1 := foT3_succ (b := b) (O := O) (t := [(x : Int), (y : Int), (z : Int)]) (i := 1) rfl rfl rfl hx hz
        have hs2 := foT3_succ (b := b) (O := O) (t := [(x : Int), (y : Int), (z : Int)]) (i := 2) rfl rfl rfl hy hx
        rw [hnr] at hs0 hs1 hs2
        generalize filF b (vnrm b.me.pl[x] b.me.pl[y] b.me.pl[z]) = F at *
        generalize vnrm b.me.pl[x] b.me.pl[y] b.me.pl[z] = N at *
        have w1 : IntKind.i64.wrap 1 = 1 := wrap64 (by omega) (by omega)
        have w2 : IntKind.i64.wrap 2 = 2 := wrap64 (by omega) (by omega)
        have w3 : IntKind.i64.wrap 3 = 3 := wrap64 (by omega) (by omega)
        have w4 : IntKind.i64.wrap 4 = 4 := wrap64 (by omega) (by omega)
        have t1 : (1 : Int).tmod 3 = 1 := rfl
        have t2 : (2 : Int).tmod 3 = 2 := rfl
        have t3 : (3 : Int).tmod 3 = 0 := rfl
        have t4 : (4 : Int).tmod 3 = 1 := rfl
        obtain rfl | rfl | rfl : i = 0 ∨ i = 1 ∨ i = 2 := by omega
        all_goals
          simp [he, hx, hy, hz, w1, w2, w3, w4, t1, t2, t3, t4]
          (first | refine callG_r ?_ | refine callD_r ?_); simp; (first | refine callN_flat (by with_reducible first | exact c_less _ _ _ _ _ _) rfl ?_ | refine callN_new (by with_reducible first | exact c_less _ _ _ _ _ _) ?_ | refine callM_flat (by with_reducible first | exact c_less _ _ _ _ _ _) rfl ?_ | refine callM_new (by with_reducible first | exact c_less _ _ _ _ _ _) ?_)
          simp [he, hx, hy, hz]
          (first | refine callG_r ?_ | refine callD_r ?_); simp; (first | refine callN_flat (by with_reducible first | exact c_cross _ _ _ _ _ _) rfl ?_ | refine callN_new (by with_reducible first | exact c_cross _ _ _ _ _ _) ?_ | refine callM_flat (by with_reducible first | exact c_cross _ _ _ _ _ _) rfl ?_ | refine callM_new (by with_reducible first | exact c_cross _ _ _ _ _ _) ?_)
          simp [he, hx, hy, hz]
          (first | refine callG_on true [2, 1] ?_ | refine callD_on true [2, 1] ?_); simp; (first | refine callN_fun (by with_reducible exact c_pushV _ _ _ _ _ (by omega) (by assumption) hpl) (by simp) ?_ | refine callMD_fun (by with_reducible exact c_pushV _ _ _ _ _ (by omega) (by assumption) hpl) (by simp) ?_)
          simp [he, hx, hy, hz]
          refine ⟨⟨by kernel_rfl, by kernel_rfl⟩, ?_⟩
          simp only [w1, w2, w3]
          first
            | refine loopK_next 1 (by omega) (by omega) ?_
              rw [show foT3 b [(x : Int), (y : Int), (z : Int)] O 1 = _ from hs0]
              (refine weak_gc [(some 0, 0), (some 1, 0), (some 2, 0), (some 3, 0)] ?_ ?_ ?_ ?_ ?_ <;> simp)
            | refine loopK_next 2 (by omega) (by omega) ?_
              rw [show foT3 b [(x : Int), (y : Int), (z : Int)] O 2 = _ from hs1]
              (refine weak_gc [(some 0, 0), (some 1, 0), (some 2, 0), (some 3, 0)] ?_ ?_ ?_ ?_ ?_ <;> simp)
            | refine loopK_next 3 (by omega) (by omega) ?_
              rw [show foT3 b [(x : Int), (y : Int), (z : Int)] O 3 = _ from hs2]
              (refine weak_gc [(some 0, 0), (some 1, 0), (some 2, 0), (some 3, 0)] ?_ ?_ ?_ ?_ ?_ <;> simp)
      · obtain rfl : i = 3 := by omega
        simp [he, hw]
        rw [← hsu]
        refine loopK_next (k + 1) (by omega) (by omega) ?_
        (refine weak_gc [(some 0, 0), (some 1, 0), (some 2, 0)] ?_ ?_ ?_ ?_ ?_ <;> simp [hw])
  obtain rfl : k = b.me.tr.length := by omega
  simp
  have hl2 : (fP1 b O1 b.me.tr.length).length = b.me.pl.length := by simp [hl1]
  generalize fP1 b O1 b.me.tr.length = O2 at *
  (first | refine callG_r ?_ | refine callD_r ?_); simp; (first | refine callN_flat (by with_reducible first | exact c_hingesOf b.me hs.me hm) rfl ?_ | refine callN_new (by with_reducible first | exact c_hingesOf b.me hs.me hm) ?_ | refine callM_flat (by with_reducible first | exact c_hingesOf b.me hs.me hm) rfl ?_ | refine callM_new (by with_reducible first | exact c_hingesOf b.me hs.me hm) ?_)
  simp
  refine loopG_of (α := Nat) (fun k => k ≤ (hinS b.me).length) (fun k => (hinS b.me).length - k) (fun k => [(120, .int .i64 k), (119, .int .i64 (hinS b.me).length), (118, .slc 3 0 (hinS b.me).length 1), (4, .clo 104 [] [.ptr 2 0]), (3, .ptr 2 0), (1, .ptr 0 0)])
    (fun k => [.blk true true 34 b.cells, .blk true false 32 (cVs (fP2 b O2 k)), .blk true true 24 [.slc 1 0 b.me.pl.length 3], .blk true false 36 (cRs true (hinS b.me))]) 0 (by simp) ?_ fun k hk => ?_
  · (refine weak_gc [(some 0, 0), (some 1, 0), (some 2, 0), (some 3, 0)] ?_ ?_ ?_ ?_ ?_ <;> simp [fP2_zero])
  have hw := nat_wrap (k := k) (by omega)
  by_cases c : k < (hinS b.me).length
  · obtain ⟨x, y, z, u, he, hx, hy, hz, hu⟩ := hin_nat hm c
    have hsu := fP2_succ (O := O2) c he hx hy hz hu
    have hll := fP2_len b O2 k
    generalize fP2 b O2 k = O at *
    simp [c, hw, he]
    (first | refine callG_r ?_ | refine callD_r ?_); simp; (first | refine callN_flat (by with_reducible first | exact c_bend b.me x y z u hx hy hz hu hpl) rfl ?_ | refine callN_new (by with_reducible first | exact c_bend b.me x y z u hx hy hz hu hpl) ?_ | refine callM_flat (by with_reducible first | exact c_bend b.me x y z u hx hy hz hu hpl) rfl ?_ | refine callM_new (by with_reducible first | exact c_bend b.me x y z u hx hy hz hu hpl) ?_)
    simp [he]
    (first | refine callG_on true [2, 1] ?_ | refine callD_on true [2, 1] ?_); simp; (first | refine callN_fun (by with_reducible exact c_pushV _ _ _ _ _ (by omega) hx hpl) (by simp) ?_ | refine callMD_fun (by with_reducible exact c_pushV _ _ _ _ _ (by omega) hx hpl) (by simp) ?_)
    simp [he]
    (first | refine callG_on true [2, 1] ?_ | refine callD_on true [2, 1] ?_); simp; (first | refine callN_fun (by with_reducible exact c_pushV _ _ _ _ _ (by simp; omega) hy hpl) (by simp) ?_ | refine callMD_fun (by with_reducible exact c_pushV _ _ _ _ _ (by simp; omega) hy hpl) (by simp) ?_)
    simp [he]
    (first | refine callG_on true [2, 1] ?_ | refine callD_on true [2, 1] ?_); simp; (first | refine callN_fun (by with_reducible exact c_pushV _ _ _ _ _ (by simp; omega) hz hpl) (by simp) ?_ | refine callMD_fun (by with_reducible exact c_pushV _ _ _ _ _ (by simp; omega) hz hpl) (by simp) ?_)
    simp [he]
    (first | refine callG_on true [2, 1] ?_ | refine callD_on true [2, 1] ?_); simp; (first | refine callN_fun (by with_reducible exact c_pushV _ _ _ _ _ (by simp; omega) hu hpl) (by simp) ?_ | refine callMD_fun (by with_reducible exact c_pushV _ _ _ _ _ (by simp; omega) hu hpl) (by simp) ?_)
    simp [he, hw]
    rw [← hsu]
    refine loopK_next (k + 1) (by omega) (by omega) ?_
    (refine weak_gc [(some 0, 0), (some 1, 0), (some 2, 0), (some 3, 0)] ?_ ?_ ?_ ?_ ?_ <;> simp [hw])
  obtain rfl : k = (hinS b.me).length := by omega
  simp
  have hl3 : (fP2 b O2 (hinS b.me).length).length = b.me.pl.length := by simp [hl2]
  generalize fP2 b O2 (hinS b.me).length = O3 at *
  refine loopG_of (α := Nat) (fun k => k ≤ b.me.pl.length) (fun k => b.me.pl.length - k) (fun k => [(166, .int .i64 k), (165, .int .i64 b.w.length), (164, .view false (cFs b.w) b.w.length), (4, .clo 104 [] [.ptr 2 0]), (3, .ptr 2 0), (1, .ptr 0 0)])
    (fun k => [.blk true true 34 b.cells, .blk true false 32 (cVs (fP3 b O3 k)), .blk true true 24 [.slc 1 0 b.me.pl.length 3]]) 0 (by simp) ?_ fun k hk => ?_
  · (refine weak_gc [(some 0, 0), (some 1, 0), (some 2, 0)] ?_ ?_ ?_ ?_ ?_ <;> simp [fP3_zero])
  have hw := nat_wrap (k := k) (by omega)
  by_cases c : k < b.me.pl.length
  · have c2 : k < b.w.length := by omega
    have hsu := fP3_succ (O := O3) c2
    have hll := fP3_len b O3 k
    generalize fP3 b O3 k = O at *
    simp [c, c2, hw]
    (first | refine callG_on true [2, 1] ?_ | refine callD_on true [2, 1] ?_); simp; (first | refine callN_fun (by with_reducible exact c_pushV _ _ _ _ _ (by omega) c hpl) (by simp) ?_ | refine callMD_fun (by with_reducible exact c_pushV _ _ _ _ _ (by omega) c hpl) (by simp) ?_)
    simp [hw]
    rw [← hsu]
    refine loopK_next (k + 1) (by omega) (by omega) ?_
    (refine weak_gc [(some 0, 0), (some 1, 0), (some 2, 0)] ?_ ?_ ?_ ?_ ?_ <;> simp [hw])
  obtain rfl : k = b.me.pl.length := by omega
  simp [hww]
  (refine endG_keepT [(some 1, 0)] ?_ ?_ ?_ ?_ ?_ ?_ ?_ ⟨rfl, rfl⟩ ?_ <;> simp)
end Go.Proofs.YtnjpigkijdnpkaaGreat
namespace Go.Proofs.YtnjpigkijdnpkaaGreat
set_option linter.all false
open Go Go.Awp
set_option maxRecDepth 100000
set_option maxHeartbeats 4000000
set_option pp.deepTerms true

@[simp high] theorem cVs_splice_push {O : List V} {p g : Nat} {d : V} (h : p < O.length) : splice (cVs O) (p * 3) [.flt .f32 (vadd O[p] (vscale d g)).1, .flt .f32 (vadd O[p] (vscale d g)).2.1, .flt .f32 (vadd O[p] (vscale d g)).2.2] = cVs (push O p d g) := by
  rw [← push_at d g h]
  exact cVs_splice h
end Go.Proofs.YtnjpigkijdnpkaaGreat
namespace Go.Proofs.YtnjpigkijdnpkaaGreat
set_option linter.all false
open Go Go.Awp
set_option maxRecDepth 100000
set_option maxHeartbeats 4000000
set_option pp.deepTerms true

theorem pins_mem {n : Int} : ∀ {l : List Int} {a : Int}, -1 ≤ a → pinsF n a l = true → ∀ p ∈ l, 0 ≤ p ∧ p < n
  | [], _, _, _, _, hp => by simp at hp
  | x :: l, a, ha, h, p, hp => by
    simp only [pinsF, inB, Bool.and_eq_true, decide_eq_true_eq] at h
    rcases List.mem_cons.1 hp with rfl | hp
    · omega
    · exact pins_mem (by omega) h.2 p hp
theorem pins_len {n : Int} : ∀ {l : List Int} {a : Int}, a < n → pinsF n a l = true → (l.length : Int) ≤ n - 1 - a
  | [], a, ha, h => by simp; omega
  | x :: l, a, ha, h => by
    simp only [pinsF, inB, Bool.and_eq_true, decide_eq_true_eq] at h
    have := pins_len (l := l) (a := x) (by omega) h.2
    simp; omega
def freeN (v : List V) (held : List Int) (k : Nat) : List V := (held.take k).foldl (fun o p => o.set p.toNat (0, 0, 0)) v
def freeL (v : List V) (held : List Int) : List V := freeN v held held.length
@[simp] theorem freeN_len (v : List V) (held : List Int) (k : Nat) : (freeN v held k).length = v.length := fold_len (fun o x => by simp) _ _
@[simp] theorem freeL_len (v : List V) (held : List Int) : (freeL v held).length = v.length := freeN_len ..
theorem freeN_succ {v : List V} {held : List Int} {k p : Nat} (c : k < held.length) (he : held[k] = (p : Int)) : freeN v held (k + 1) = (freeN v held k).set p (0, 0, 0) := by
  unfold freeN
  rw [fold_succ c, he, Int.toNat_natCast]
theorem freeN_zero (v : List V) (held : List Int) : freeN v held 0 = v := rfl
def innN (a b : List V) (k : Nat) : Nat := (List.range k).foldl (fun x i => fop .add .f32 x (vinner (a.getD i (0, 0, 0)) (b.getD i (0, 0, 0)))) 0
def innL (a b : List V) : Nat := innN a b a.length
theorem innN_succ {a b : List V} {k : Nat} (h : k < a.length) (h2 : k < b.length) : innN a b (k + 1) = fop .add .f32 (innN a b k) (vinner a[k] b[k]) := by
  unfold innN
  rw [foldr_succ]
  simp only [List.getD_eq_getElem?_getD, List.getElem?_eq_getElem h, List.getElem?_eq_getElem h2, Option.getD_some]
theorem innN_zero (a b : List V) : innN a b 0 = 0 := rfl
theorem c_innerAll (a b : List V) (n : Nat) (hn : b.length = n) (h : a.length = n) (hl : n ≤ 64) : Fun Tryz.prog 63 [.view false (cVs a) n, .view false (cVs b) n] [] (.flt .f32 (innL a b)) [] := by
  subst hn
  refine FnSpec.walkF dr_ok Tryz.func63 rfl (by kernel_rfl) rfl rfl rfl (by simp) ?_
  simp
  refine loopG_of (α := Nat) (fun k => k ≤ a.length) (fun k => a.length - k) (fun k => [(10, .int .i64 k), (9, .int .i64 b.length), (8, .view false (cVs a) b.length), (1, .view false (cVs b) b.length), (5, .flt .f32 (innN a b k))])
    (fun k => []) 0 (by simp) ?_ fun k hk => ?_
  · (refine weak_gc [] ?_ ?_ ?_ ?_ ?_ <;> simp [innN_zero])
  have hw := nat_wrap (k := k) (by omega)
  by_cases c : k < a.length
  · have c2 : k < b.length := by omega
    have hsu := innN_succ c c2
    simp [c, c2, hw]
    (first | refine callG_r ?_ | refine callD_r ?_); simp; (first | refine callN_flat (by with_reducible first | exact c_inner _ _ _ _ _ _) rfl ?_ | refine callN_new (by with_reducible first | exact c_inner _ _ _ _ _ _) ?_ | refine callM_flat (by with_reducible first | exact c_inner _ _ _ _ _ _) rfl ?_ | refine callM_new (by with_reducible first | exact c_inner _ _ _ _ _ _) ?_)
    simp [hw]
    refine loopK_next (k + 1) (by omega) (by omega) ?_
    rw [hsu]
    (refine weak_gc [] ?_ ?_ ?_ ?_ ?_ <;> simp [hw])
  · obtain rfl : k = a.length := by omega
    simp [innL, h]
@[simp] theorem cVs_one (x y z : Nat) : splice (cVs [(0, 0, 0)]) 0 [.flt .f32 x, .flt .f32 y, .flt .f32 z] = cVs [(x, y, z)] := rfl
@[simp] theorem cVs_one_take (v : V) : (cVs [v]).take 3 = cVs [v] := rfl
def timN (f g : List V) (by_ : Nat) (k : Nat) : List V := (List.range k).map fun i => vscale (vsub (f.getD i (0, 0, 0)) (g.getD i (0, 0, 0))) by_
@[simp] theorem timN_len (f g : List V) (by_ k : Nat) : (timN f g by_ k).length = k := by simp [timN]
theorem timN_succ {f g : List V} {by_ k : Nat} (h : k < f.length) (h2 : k < g.length) : timN f g by_ (k + 1) = timN f g by_ k ++ [vscale (vsub f[k] g[k]) by_] := by
  unfold timN
  rw [List.range_succ, List.map_append]
  simp only [List.map_cons, List.map_nil, List.getD_eq_getElem?_getD, List.getElem?_eq_getElem h, List.getElem?_eq_getElem h2, Option.getD_some]
/-- What the stiffness of a body makes of a list. -/
def timB (b : Bod) (held : List Int) (v : List V) (step : Nat) : List V :=
  freeL (timN (frcB (movB b v (fneg .f32 step))) (frcB (movB b v step)) (fop .quo .f32 1065353216 (fop .mul .f32 1073741824 step)) v.length) held
@[simp] theorem timB_len (b : Bod) (held : List Int) (v : List V) (step : Nat) : (timB b held v step).length = v.length := by simp [timB]
theorem vldB_mov {b : Bod} {v : List V} {s : Nat} (hv : vldB b = true) (hl : v.length = b.me.pl.length) : vldB (movB b v s) = true := by
  have h := movP_len (s := s) hl
  unfold vldB vldM movB at *
  simp only [h]
  exact hv
theorem small_mov {b : Bod} {v : List V} {s : Nat} (hs : b.Small) (hl : v.length = b.me.pl.length) : (movB b v s).Small := by
  have h := movP_len (s := s) hl
  obtain ⟨⟨h1, h2⟩, h3, h4⟩ := hs
  exact ⟨⟨by simp only [movB]; omega, h2⟩, h3, h4⟩
theorem movB_pl {b : Bod} {v : List V} {s : Nat} (hl : v.length = b.me.pl.length) : (movB b v s).me.pl.length = b.me.pl.length := movP_len hl
end Go.Proofs.YtnjpigkijdnpkaaGreat
namespace Go.Proofs.YtnjpigkijdnpkaaGreat
set_option linter.all false
open Go Go.Awp
set_option maxRecDepth 100000
set_option maxHeartbeats 4000000
set_option pp.deepTerms true

@[simp] theorem freeL_take (v : List V) (held : List Int) : (freeL v held).take v.length = freeL v held := List.take_of_length_le (by simp)
@[simp] theorem timB_take (b : Bod) (held : List Int) (v : List V) (step : Nat) : (timB b held v step).take v.length = timB b held v step := List.take_of_length_le (by simp)
@[simp] theorem timB_takeF (b : Bod) (held : List Int) (v : List V) (step : Nat) : (timB b held (freeL v held) step).take v.length = timB b held (freeL v held) step := List.take_of_length_le (by simp)
def canB (b : Bod) (held : List Int) (v : List V) (step : Nat) : Bool := vldH b held && decide (v.length = b.me.pl.length) && overB step
structure CanB (b : Bod) (held : List Int) (v : List V) (step : Nat) : Prop where
  vb : vldB b = true
  pins : ∀ p ∈ held, 0 ≤ p ∧ p < b.me.pl.length
  len : v.length = b.me.pl.length
  step : overB step = true
theorem canB_of {b : Bod} {held : List Int} {v : List V} {step : Nat} (h : canB b held v step = true) : CanB b held v step := by
  unfold canB vldH at h
  simp only [Bool.and_eq_true, decide_eq_true_eq] at h
  exact ⟨h.1.1.1, pins_mem (by omega) h.1.1.2, h.1.2, h.2⟩
def posB (x : Nat) : Bool := ford .f32 x 0 == some .gt
def rayL (b : Bod) (held : List Int) (v : List V) (step : Nat) : Nat := if posB (innL v v) then fop .quo .f32 (innL v (timB b held v step)) (innL v v) else 0
def rayO (b : Bod) (held : List Int) (v : List V) (step : Nat) : Nat := if canB b held v step then rayL b held (freeL v held) step else 0
def rayK (b : Bod) (held : List Int) (v : List V) (step : Nat) : Bool := canB b held v step && posB (innL (freeL v held) (freeL v held))
end Go.Proofs.YtnjpigkijdnpkaaGreat
namespace Go.Proofs.YtnjpigkijdnpkaaGreat
set_option linter.all false
open Go Go.Awp
set_option maxRecDepth 100000
set_option maxHeartbeats 4000000
set_option pp.deepTerms true

def nrmF (v : List V) : Nat := fop .quo .f32 1065353216 (froot (innL v v))
def nrmK (v : List V) : Bool := overB (innL v v) && finB (nrmF v)
def nrmN (v : List V) (k : Nat) : List V := (v.take k).map fun x => vscale x (nrmF v)
def nrmL (v : List V) : List V := v.map fun x => vscale x (nrmF v)
@[simp] theorem nrmL_len (v : List V) : (nrmL v).length = v.length := by simp [nrmL]
theorem nrmN_len (v : List V) {k : Nat} (h : k ≤ v.length) : (nrmN v k).length = k := by simp [nrmN]; omega
theorem nrmN_succ {v : List V} {k : Nat} (h : k < v.length) : nrmN v (k + 1) = nrmN v k ++ [vscale v[k] (nrmF v)] := by
  unfold nrmN
  rw [List.take_succ_eq_append_getElem h, List.map_append]; rfl
theorem nrmN_all (v : List V) : nrmN v v.length = nrmL v := by unfold nrmN; rw [List.take_length]; rfl
def sofN (w v : List V) (shift k : Nat) : List V := (List.range k).map fun i => vsub (vscale (v.getD i (0, 0, 0)) shift) (w.getD i (0, 0, 0))
@[simp] theorem sofN_len (w v : List V) (shift k : Nat) : (sofN w v shift k).length = k := by simp [sofN]
theorem sofN_succ {w v : List V} {shift k : Nat} (h : k < v.length) (h2 : k < w.length) : sofN w v shift (k + 1) = sofN w v shift k ++ [vsub (vscale v[k] shift) w[k]] := by
  unfold sofN
  rw [List.range_succ, List.map_append]
  simp only [List.map_cons, List.map_nil, List.getD_eq_getElem?_getD, List.getElem?_eq_getElem h, List.getElem?_eq_getElem h2, Option.getD_some]
/-- What a round of a soft mode makes. -/
def sofB (b : Bod) (held : List Int) (v : List V) (step shift : Nat) : List V := sofN (timB b held v step) v shift v.length
@[simp] theorem sofB_len (b : Bod) (held : List Int) (v : List V) (step shift : Nat) : (sofB b held v step shift).length = v.length := by simp [sofB]
end Go.Proofs.YtnjpigkijdnpkaaGreat
