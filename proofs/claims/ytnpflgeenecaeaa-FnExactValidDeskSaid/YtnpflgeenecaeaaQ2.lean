/- Springs, meshes, bodies, desks; what the laws reckon of their sizes, copy of them, compare of them.
Conditions: none. -/
import Derived.Test.YtnpflgeenecaeaaQ1
namespace Go.Proofs.Ytnpflgeenecaeaa
set_option linter.all false
open Go Go.Awp
set_option maxRecDepth 100000
set_option maxHeartbeats 4000000
set_option pp.deepTerms true

abbrev Sp := Int × Int × Nat × Nat
def eS (t : Sp) : List AV := [.int .i64 t.1, .int .i64 t.2.1, .flt .f32 t.2.2.1, .flt .f32 t.2.2.2]
def cSs (l : List Sp) : List AV := l.flatMap eS
@[simp] theorem eS_length (v : Sp) : (eS v).length = 4 := rfl
@[simp] theorem quad_eta {α β γ δ : Type} (v : α × β × γ × δ) : (v.1, v.2.1, v.2.2.1, v.2.2.2) = v := rfl
@[simp] theorem cSs_nil : cSs [] = [] := rfl
@[simp] theorem cSs_length (l : List Sp) : (cSs l).length = l.length * 4 := cat_length eS_length l
@[simp] theorem cSs_num (l : List Sp) : (cSs l).all AV.num = true := by
  induction l with
  | nil => rfl
  | cons a l ih => simp only [cSs, List.flatMap_cons, List.all_append] at ih ⊢; rw [ih]; rfl
@[simp] theorem cSs_flat (l : List Sp) : (cSs l).all AV.flat = true := num_flat (cSs_num l)
@[simp] theorem cSs_drop {l : List Sp} {k : Nat} (h : k < l.length) : (cSs l).drop (k * 4) = .int .i64 l[k].1 :: .int .i64 l[k].2.1 :: .flt .f32 l[k].2.2.1 :: .flt .f32 l[k].2.2.2 :: cSs (l.drop (k + 1)) := cat_drop_at eS_length h
@[simp] theorem cSs_take (l : List Sp) (k : Nat) : (cSs l).take (k * 4) = cSs (l.take k) := cat_take eS_length l k
@[simp] theorem cSs_get0 {l : List Sp} {k : Nat} (h : k < l.length) : (cSs l)[k * 4]? = some (.int .i64 l[k].1) := cat_get eS_length (j := 0) h (by omega)
@[simp] theorem cSs_get1 {l : List Sp} {k : Nat} (h : k < l.length) : (cSs l)[k * 4 + 1]? = some (.int .i64 l[k].2.1) := cat_get eS_length (j := 1) h (by omega)
@[simp] theorem cSs_get2 {l : List Sp} {k : Nat} (h : k < l.length) : (cSs l)[k * 4 + 2]? = some (.flt .f32 l[k].2.2.1) := cat_get eS_length (j := 2) h (by omega)
@[simp] theorem cSs_get3 {l : List Sp} {k : Nat} (h : k < l.length) : (cSs l)[k * 4 + 3]? = some (.flt .f32 l[k].2.2.2) := cat_get eS_length (j := 3) h (by omega)
@[simp high] theorem cSs_load {l : List Sp} {k : Nat} (h : k < l.length) : loadL true 4 (cSs l) (k * 4) = some (.agg [.int .i64 l[k].1, .int .i64 l[k].2.1, .flt .f32 l[k].2.2.1, .flt .f32 l[k].2.2.2]) := by
  show (if k * 4 + 4 ≤ (cSs l).length then _ else _) = _
  rw [if_pos (by rw [cSs_length]; omega), cSs_drop h]; rfl
@[simp] theorem cSs_splice0 {l : List Sp} {k : Nat} {x : Int} (h : k < l.length) : splice (cSs l) (k * 4) [.int .i64 x] = cSs (l.set k (x, l[k].2)) := cat_splice eS_length (j := 0) h (by simp) rfl
@[simp] theorem cSs_splice1 {l : List Sp} {k : Nat} {x : Int} (h : k < l.length) : splice (cSs l) (k * 4 + 1) [.int .i64 x] = cSs (l.set k (l[k].1, x, l[k].2.2)) := cat_splice eS_length (j := 1) h (by simp) rfl
@[simp] theorem cSs_splice2 {l : List Sp} {k : Nat} {x : Nat} (h : k < l.length) : splice (cSs l) (k * 4 + 2) [.flt .f32 x] = cSs (l.set k (l[k].1, l[k].2.1, x, l[k].2.2.2)) := cat_splice eS_length (j := 2) h (by simp) rfl
@[simp] theorem cSs_splice3 {l : List Sp} {k : Nat} {x : Nat} (h : k < l.length) : splice (cSs l) (k * 4 + 3) [.flt .f32 x] = cSs (l.set k (l[k].1, l[k].2.1, l[k].2.2.1, x)) := cat_splice eS_length (j := 3) h (by simp) rfl
@[simp] theorem cSs_splice {l : List Sp} {k : Nat} {x y : Int} {z u : Nat} (h : k < l.length) : splice (cSs l) (k * 4) [.int .i64 x, .int .i64 y, .flt .f32 z, .flt .f32 u] = cSs (l.set k (x, y, z, u)) := cat_splice eS_length (j := 0) h (by simp) rfl
@[simp] theorem cSs_append (l l' : List Sp) : cSs l ++ cSs l' = cSs (l ++ l') := by simp [cSs]
theorem cSs_one (x y : Int) (z u : Nat) : [.int .i64 x, .int .i64 y, .flt .f32 z, .flt .f32 u] = cSs [(x, y, z, u)] := rfl
@[simp] theorem cSs_push (l : List Sp) (x y : Int) (z u : Nat) : cSs l ++ [.int .i64 x, .int .i64 y, .flt .f32 z, .flt .f32 u] = cSs (l ++ [(x, y, z, u)]) := by rw [cSs_one, cSs_append]
@[simp] theorem cSs_make (n : Nat) : makeL n [.int .i64 0, .int .i64 0, .flt .f32 0, .flt .f32 0] = cSs (List.replicate n (0, 0, 0, 0)) := by
  have key : ∀ m : Nat, (List.range (m * 4)).map (fun i => [.int .i64 0, .int .i64 0, .flt .f32 0, .flt .f32 0].getD (i % 4) AV.any) = cSs (List.replicate m (0, 0, 0, 0)) := by
    intro m
    induction m with
    | zero => rfl
    | succ m ih =>
      rw [show (m + 1) * 4 = m * 4 + 1 + 1 + 1 + 1 by omega, List.range_succ, List.range_succ, List.range_succ, List.range_succ, List.map_append, List.map_append, List.map_append, List.map_append, ih, List.replicate_succ', ← cSs_append]
      simp only [List.map_cons, List.map_nil, show m * 4 % 4 = 0 by omega, show (m * 4 + 1) % 4 = 1 by omega, show (m * 4 + 1 + 1) % 4 = 2 by omega, show (m * 4 + 1 + 1 + 1) % 4 = 3 by omega, List.append_assoc]
      rfl
  exact key n
@[simp] theorem cSs_pures (l : List Sp) : (∀ (x : AV), x ∈ cSs l → x.isPure = true) = True := eq_true (List.all_eq_true.1 (pure_flat (cSs_flat l)))

/-- A mesh; a body; a desk. -/
structure Msh where
  pl : List V
  tr : List (List Int)
structure Bod where
  me : Msh
  sp : List Sp
  film : Nat
  bend : Nat
  w : List Nat
  fall : V
structure Dsk where
  bo : Bod
  held : List Int
/-- What of a mesh, a body, a desk is read. -/
abbrev Msh.cells (m : Msh) : List AV := [.view false (cVs m.pl) m.pl.length, .view false (cRs false m.tr) m.tr.length]
abbrev Msh.av (m : Msh) : AV := .agg m.cells
abbrev Bod.cells (b : Bod) : List AV := [.view false (cVs b.me.pl) b.me.pl.length, .view false (cRs false b.me.tr) b.me.tr.length, .view false (cSs b.sp) b.sp.length, .flt .f32 b.film, .flt .f32 b.bend, .view false (cFs b.w) b.w.length, .flt .f32 b.fall.1, .flt .f32 b.fall.2.1, .flt .f32 b.fall.2.2]
abbrev Bod.av (b : Bod) : AV := .agg b.cells
abbrev Dsk.cells (d : Dsk) : List AV := [.view false (cVs d.bo.me.pl) d.bo.me.pl.length, .view false (cRs false d.bo.me.tr) d.bo.me.tr.length, .view false (cSs d.bo.sp) d.bo.sp.length, .flt .f32 d.bo.film, .flt .f32 d.bo.bend, .view false (cFs d.bo.w) d.bo.w.length, .flt .f32 d.bo.fall.1, .flt .f32 d.bo.fall.2.1, .flt .f32 d.bo.fall.2.2, .view false (cIs d.held) d.held.length]
abbrev Dsk.av (d : Dsk) : AV := .agg d.cells
/-- The same in memory of the call's own, the triangles to be read alone. -/
abbrev Msh.own (m : Msh) (r : Nat) : AV := .agg [.slc r 0 m.pl.length 3, .view true (cRs true m.tr) m.tr.length]
abbrev Msh.mem (m : Msh) : Heap := [.blk true false 57 (cVs m.pl)]
abbrev Bod.own (b : Bod) (r : Nat) : AV := .agg [.slc r 0 b.me.pl.length 3, .view true (cRs true b.me.tr) b.me.tr.length, .slc (r + 1) 0 b.sp.length 4, .flt .f32 b.film, .flt .f32 b.bend, .slc (r + 2) 0 b.w.length 1, .flt .f32 b.fall.1, .flt .f32 b.fall.2.1, .flt .f32 b.fall.2.2]
abbrev Bod.mem (b : Bod) : Heap := [.blk true false 57 (cVs b.me.pl), .blk true false 142 (cSs b.sp), .blk true false 44 (cFs b.w)]
abbrev Dsk.own (d : Dsk) (r : Nat) : AV := .agg [.slc r 0 d.bo.me.pl.length 3, .view true (cRs true d.bo.me.tr) d.bo.me.tr.length, .slc (r + 1) 0 d.bo.sp.length 4, .flt .f32 d.bo.film, .flt .f32 d.bo.bend, .slc (r + 2) 0 d.bo.w.length 1, .flt .f32 d.bo.fall.1, .flt .f32 d.bo.fall.2.1, .flt .f32 d.bo.fall.2.2, .slc (r + 3) 0 d.held.length 1]
abbrev Dsk.mem (d : Dsk) : Heap := [.blk true false 57 (cVs d.bo.me.pl), .blk true false 142 (cSs d.bo.sp), .blk true false 44 (cFs d.bo.w), .blk true false 2 (cIs d.held)]
attribute [simp] Msh.cells Bod.cells Dsk.cells Msh.av Bod.av Dsk.av Msh.own Bod.own Dsk.own Msh.mem Bod.mem Dsk.mem
structure Msh.Small (m : Msh) : Prop where
  pl : m.pl.length ≤ 1048576
  tr : RsOk m.tr
structure Bod.Small (b : Bod) : Prop where
  me : b.me.Small
  sp : b.sp.length ≤ 1048576
  w : b.w.length ≤ 1048576
structure Dsk.Small (d : Dsk) : Prop where
  bo : d.bo.Small
  held : d.held.length ≤ 1048576
structure Msh.Len (m : Msh) : Prop where
  pl : m.pl.length ≤ 9223372036854775807
  tr : m.tr.length ≤ 9223372036854775807
  all : ∀ t ∈ m.tr, t.length ≤ 9223372036854775807
structure Bod.Len (b : Bod) : Prop where
  me : b.me.Len
  sp : b.sp.length ≤ 9223372036854775807
  w : b.w.length ≤ 9223372036854775807
structure Dsk.Len (d : Dsk) : Prop where
  bo : d.bo.Len
  held : d.held.length ≤ 9223372036854775807

-- sizes
def szRs : List (List Int) → Int → Int
  | [], left => left
  | t :: T, left => if szL t.length left < 0 then -1 else szRs T (szL t.length left)
def szSS (T : List (List Int)) (left : Int) : Int := if left - T.length < 0 then -1 else szRs T (left - T.length)
def thn (x : Int) (f : Int → Int) : Int := if x < 0 then -1 else f x
theorem szRs_ok : ∀ {T : List (List Int)} {left : Int}, left ≤ 1048576 → 0 ≤ left → (szRs T left = -1 ∨ 0 ≤ szRs T left) ∧ szRs T left ≤ left ∧ (0 ≤ szRs T left → ∀ t ∈ T, t.length ≤ 1048576)
  | [], left, _, h0 => ⟨.inr h0, by simp [szRs], fun _ t ht => by simp at ht⟩
  | t :: T, left, h, h0 => by
    unfold szRs
    split
    · exact ⟨.inl rfl, by omega, fun h => by omega⟩
    · rename_i h1
      have h2 := szL_le (n := t.length) h
      have h4 := szL_ok h1
      obtain ⟨k1, k2, k3⟩ := szRs_ok (T := T) h2 (by omega)
      have h5 : szL t.length left = left - t.length := by unfold szL; rw [if_neg (by omega)]
      refine ⟨k1, by omega, fun h3 x hx => ?_⟩
      rcases List.mem_cons.1 hx with rfl | hx
      · omega
      · exact k3 h3 x hx
theorem szSS_ok {T : List (List Int)} {left : Int} (h : left ≤ 1048576) (h0 : 0 ≤ left) : (szSS T left = -1 ∨ 0 ≤ szSS T left) ∧ szSS T left ≤ left ∧ (0 ≤ szSS T left → RsOk T) := by
  unfold szSS
  split
  · exact ⟨.inl rfl, by omega, fun h => by omega⟩
  · obtain ⟨k1, k2, k3⟩ := szRs_ok (T := T) (left := left - T.length) (by omega) (by omega)
    exact ⟨k1, by omega, fun h => ⟨by omega, k3 h⟩⟩
theorem c_szSS (T : List (List Int)) (left : Int) (h : T.length ≤ 9223372036854775807) (ha : ∀ t ∈ T, t.length ≤ 9223372036854775807) (h0 : 0 ≤ left) (h1 : left ≤ 1048576) : Fun Try.prog 46 [.view false (cRs false T) T.length, .int .i64 left] [] (.int .i64 (szSS T left)) [] := by
  refine FnSpec.walkF dr_ok Try.func46 rfl (by kernel_rfl) rfl rfl rfl (by simp) ?_
  have e : IntKind.i64.wrap (left - T.length) = left - T.length := wrap64 (by omega) (by omega)
  simp [e]
  refine ⟨fun a => by unfold szSS; rw [if_pos (by omega)], fun a => ?_⟩
  have hl : T.length ≤ 1048576 := by omega
  have e2 : szSS T left = szRs T (left - T.length) := by unfold szSS; rw [if_neg (by omega)]
  rw [e2]
  refine loopG_of (α := Nat × Int) (fun x => x.1 ≤ T.length ∧ 0 ≤ x.2 ∧ x.2 ≤ 1048576 ∧ szRs T (left - T.length) = szRs (T.drop x.1) x.2) (fun x => T.length - x.1)
    (fun x => [(0, .view false (cRs false T) T.length), (1, .int .i64 x.2), (5, .int .i64 x.1)]) (fun _ => []) (0, left - T.length) ⟨by simp, by simp; omega, by simp; omega, by simp⟩ (weak_UH rfl (by simp)) fun x ⟨hx, hx0, hx1, hx2⟩ => ?_
  obtain ⟨k, r⟩ := x
  simp only at hx hx0 hx1 hx2
  have hw := nat_wrap (k := k) (by omega)
  by_cases c : k < T.length
  · rw [List.drop_eq_getElem_cons c] at hx2
    simp [c, hw]
    (first | refine callG_r ?_ | refine callD_r ?_); simp; (first | refine callN_flat (by with_reducible first | exact c_szInt64S _ _ _ (ha _ (List.getElem_mem c)) hx0 hx1) rfl ?_ | refine callN_new (by with_reducible first | exact c_szInt64S _ _ _ (ha _ (List.getElem_mem c)) hx0 hx1) ?_ | refine callM_flat (by with_reducible first | exact c_szInt64S _ _ _ (ha _ (List.getElem_mem c)) hx0 hx1) rfl ?_ | refine callM_new (by with_reducible first | exact c_szInt64S _ _ _ (ha _ (List.getElem_mem c)) hx0 hx1) ?_)
    have g1 := szL_le (n := T[k].length) hx1
    have g2 : szL T[k].length r < 0 ∨ 0 ≤ szL T[k].length r := by omega
    simp [hw]
    refine ⟨fun b => by rw [hx2]; unfold szRs; rw [if_pos b], fun b => ?_⟩
    refine loopK_next (k + 1, szL T[k].length r) (by simp; omega) ⟨by simp; omega, by simp; omega, by simp; omega, ?_⟩ ?_
    · rw [hx2]; simp only; rw [szRs, if_neg (by omega)]
    · (refine weak_gc [] ?_ ?_ ?_ ?_ ?_ <;> simp)
  · obtain rfl : k = T.length := by omega
    simp
    rw [hx2]; simp [szRs]
theorem c_szSpringS (c : List AV) (n : Nat) (left : Int) (h : n ≤ 9223372036854775807) (h0 : 0 ≤ left) (h1 : left ≤ 1048576) : Fun Try.prog 67 [.view false c n, .int .i64 left] [] (.int .i64 (szL n left)) [] := by
  refine FnSpec.walkF dr_ok Try.func67 rfl (by kernel_rfl) rfl rfl rfl (by simp) ?_
  have e : IntKind.i64.wrap (left - n) = left - n := wrap64 (by omega) (by omega)
  simp [e, szL]
  grind
theorem c_szFloat32S (c : List AV) (n : Nat) (left : Int) (h : n ≤ 9223372036854775807) (h0 : 0 ≤ left) (h1 : left ≤ 1048576) : Fun Try.prog 68 [.view false c n, .int .i64 left] [] (.int .i64 (szL n left)) [] := by
  refine FnSpec.walkF dr_ok Try.func68 rfl (by kernel_rfl) rfl rfl rfl (by simp) ?_
  have e : IntKind.i64.wrap (left - n) = left - n := wrap64 (by omega) (by omega)
  simp [e, szL]
  grind
theorem szL_not {n : Nat} {left : Int} : szL n left = -1 ∨ 0 ≤ szL n left ∧ szL n left ≤ left ∧ (n : Int) ≤ left := by unfold szL; split <;> omega
/-- What is left of a size, and what it tells. -/
structure SzOk (left x : Int) (Q : Prop) : Prop where
  sgn : x = -1 ∨ 0 ≤ x
  le : x ≤ left
  ok : 0 ≤ x → Q
theorem szOk_L (n : Nat) {left : Int} (h0 : 0 ≤ left) (h : left ≤ 1048576) : SzOk left (szL n left) (n ≤ 1048576) := by
  rcases szL_not (n := n) (left := left) with g | ⟨g1, g2, g3⟩
  · exact ⟨.inl g, by omega, fun h => by omega⟩
  · exact ⟨.inr g1, g2, fun _ => by omega⟩
def szM (m : Msh) (left : Int) : Int := thn (szL m.pl.length left) (szSS m.tr)
def szB (b : Bod) (left : Int) : Int := thn (szM b.me left) fun x => thn (szL b.sp.length x) (szL b.w.length)
def szD (d : Dsk) (left : Int) : Int := thn (szB d.bo left) (szL d.held.length)
theorem SzOk.thn {left x : Int} {Q Q' : Prop} {f : Int → Int} (h : SzOk left x Q) (hf : 0 ≤ x → SzOk x (f x) Q') : SzOk left (thn x f) (Q ∧ Q') := by
  unfold Proofs.Ytnpflgeenecaeaa.thn
  split
  · rcases h.sgn with g | g
    · exact ⟨.inl rfl, by have := h.le; omega, fun h => by omega⟩
    · omega
  · have := hf (by omega)
    exact ⟨this.sgn, Int.le_trans this.le h.le, fun g => ⟨h.ok (by omega), this.ok g⟩⟩
theorem szOk_M (m : Msh) {left : Int} (h0 : 0 ≤ left) (h : left ≤ 1048576) : SzOk left (szM m left) m.Small := by
  have h1 := szOk_L m.pl.length h0 h
  have h2 := h1.thn (f := szSS m.tr) (Q' := RsOk m.tr) fun g => by
    obtain ⟨k1, k2, k3⟩ := szSS_ok (T := m.tr) (left := szL m.pl.length left) (by have := h1.le; omega) g
    exact ⟨k1, k2, k3⟩
  exact ⟨h2.sgn, h2.le, fun g => ⟨(h2.ok g).1, (h2.ok g).2⟩⟩
theorem szOk_B (b : Bod) {left : Int} (h0 : 0 ≤ left) (h : left ≤ 1048576) : SzOk left (szB b left) b.Small := by
  have h1 := szOk_M b.me h0 h
  have h2 := h1.thn (f := fun x => Proofs.Ytnpflgeenecaeaa.thn (szL b.sp.length x) (szL b.w.length)) (Q' := b.sp.length ≤ 1048576 ∧ b.w.length ≤ 1048576) fun g => by
    have k1 := szOk_L b.sp.length g (by have := h1.le; omega)
    exact k1.thn fun g2 => szOk_L b.w.length g2 (by have := h1.le; have := k1.le; omega)
  exact ⟨h2.sgn, h2.le, fun g => ⟨(h2.ok g).1, (h2.ok g).2.1, (h2.ok g).2.2⟩⟩
theorem szOk_D (d : Dsk) {left : Int} (h0 : 0 ≤ left) (h : left ≤ 1048576) : SzOk left (szD d left) d.Small := by
  have h1 := szOk_B d.bo h0 h
  have h2 := h1.thn (f := szL d.held.length) (Q' := d.held.length ≤ 1048576) fun g => szOk_L d.held.length g (by have := h1.le; omega)
  exact ⟨h2.sgn, h2.le, fun g => ⟨(h2.ok g).1, (h2.ok g).2⟩⟩
theorem c_szMesh (m : Msh) (hl : m.Len) (left : Int) (h0 : 0 ≤ left) (h1 : left ≤ 1048576) : Fun Try.prog 20 [m.av, .int .i64 left] [] (.int .i64 (szM m left)) [] := by
  refine FnSpec.walkF dr_ok Try.func20 rfl (by kernel_rfl) rfl rfl rfl (by simp) ?_
  simp
  (first | refine callG_r ?_ | refine callD_r ?_); simp; (first | refine callN_flat (by with_reducible first | exact c_szVectorS _ _ _ hl.1 h0 h1) rfl ?_ | refine callN_new (by with_reducible first | exact c_szVectorS _ _ _ hl.1 h0 h1) ?_ | refine callM_flat (by with_reducible first | exact c_szVectorS _ _ _ hl.1 h0 h1) rfl ?_ | refine callM_new (by with_reducible first | exact c_szVectorS _ _ _ hl.1 h0 h1) ?_)
  simp
  have a1 := szOk_L m.pl.length h0 h1
  have a2 := szOk_M m h0 h1
  unfold szM thn at *
  generalize szL m.pl.length left = x at *
  have := a1.le
  refine ⟨fun b => by rw [if_pos b], fun b => ?_⟩
  rw [if_neg (by omega)] at a2 ⊢
  (first | refine callG_r ?_ | refine callD_r ?_); simp; (first | refine callN_flat (by with_reducible first | exact c_szSS _ _ hl.2 hl.3 b (by omega)) rfl ?_ | refine callN_new (by with_reducible first | exact c_szSS _ _ hl.2 hl.3 b (by omega)) ?_ | refine callM_flat (by with_reducible first | exact c_szSS _ _ hl.2 hl.3 b (by omega)) rfl ?_ | refine callM_new (by with_reducible first | exact c_szSS _ _ hl.2 hl.3 b (by omega)) ?_)
  simp
  have := a2.sgn
  intro; omega
theorem c_szBody (b : Bod) (hl : b.Len) (left : Int) (h0 : 0 ≤ left) (h1 : left ≤ 1048576) : Fun Try.prog 41 [b.av, .int .i64 left] [] (.int .i64 (szB b left)) [] := by
  refine FnSpec.walkF dr_ok Try.func41 rfl (by kernel_rfl) rfl rfl rfl (by simp) ?_
  simp
  (first | refine callG_r ?_ | refine callD_r ?_); simp; (first | refine callN_flat (by with_reducible first | exact c_szMesh b.me hl.1 left h0 h1) rfl ?_ | refine callN_new (by with_reducible first | exact c_szMesh b.me hl.1 left h0 h1) ?_ | refine callM_flat (by with_reducible first | exact c_szMesh b.me hl.1 left h0 h1) rfl ?_ | refine callM_new (by with_reducible first | exact c_szMesh b.me hl.1 left h0 h1) ?_)
  simp
  have a1 := szOk_M b.me h0 h1
  unfold szB thn at *
  generalize szM b.me left = x at *
  have := a1.le
  refine ⟨fun b => by rw [if_pos b], fun g => ?_⟩
  rw [if_neg (by omega)]
  (first | refine callG_r ?_ | refine callD_r ?_); simp; (first | refine callN_flat (by with_reducible first | exact c_szSpringS _ _ _ hl.2 g (by omega)) rfl ?_ | refine callN_new (by with_reducible first | exact c_szSpringS _ _ _ hl.2 g (by omega)) ?_ | refine callM_flat (by with_reducible first | exact c_szSpringS _ _ _ hl.2 g (by omega)) rfl ?_ | refine callM_new (by with_reducible first | exact c_szSpringS _ _ _ hl.2 g (by omega)) ?_)
  simp
  have a2 := szOk_L b.sp.length g (by omega)
  generalize hy : szL b.sp.length x = y at *
  have := a2.le
  refine ⟨fun b => by intros; omega, fun g2 => ?_⟩
  (first | refine callG_r ?_ | refine callD_r ?_); simp; (first | refine callN_flat (by with_reducible first | exact c_szFloat32S _ _ _ hl.3 g2 (by omega)) rfl ?_ | refine callN_new (by with_reducible first | exact c_szFloat32S _ _ _ hl.3 g2 (by omega)) ?_ | refine callM_flat (by with_reducible first | exact c_szFloat32S _ _ _ hl.3 g2 (by omega)) rfl ?_ | refine callM_new (by with_reducible first | exact c_szFloat32S _ _ _ hl.3 g2 (by omega)) ?_)
  simp [hy]
  have a3 := (szOk_L b.w.length g2 (by omega)).sgn
  have g3 : ¬ y < 0 := by omega
  simp [g3]
  intros; omega
theorem c_szDesk (d : Dsk) (hl : d.Len) (left : Int) (h0 : 0 ≤ left) (h1 : left ≤ 1048576) : Fun Try.prog 15 [d.av, .int .i64 left] [] (.int .i64 (szD d left)) [] := by
  refine FnSpec.walkF dr_ok Try.func15 rfl (by kernel_rfl) rfl rfl rfl (by simp) ?_
  simp
  (first | refine callG_r ?_ | refine callD_r ?_); simp; (first | refine callN_flat (by with_reducible first | exact c_szBody d.bo hl.1 left h0 h1) rfl ?_ | refine callN_new (by with_reducible first | exact c_szBody d.bo hl.1 left h0 h1) ?_ | refine callM_flat (by with_reducible first | exact c_szBody d.bo hl.1 left h0 h1) rfl ?_ | refine callM_new (by with_reducible first | exact c_szBody d.bo hl.1 left h0 h1) ?_)
  simp
  have a1 := szOk_B d.bo h0 h1
  unfold szD thn at *
  generalize szB d.bo left = x at *
  have := a1.le
  refine ⟨fun b => by rw [if_pos b], fun g => ?_⟩
  rw [if_neg (by omega)]
  (first | refine callG_r ?_ | refine callD_r ?_); simp; (first | refine callN_flat (by with_reducible first | exact c_szInt64S _ _ _ hl.2 g (by omega)) rfl ?_ | refine callN_new (by with_reducible first | exact c_szInt64S _ _ _ hl.2 g (by omega)) ?_ | refine callM_flat (by with_reducible first | exact c_szInt64S _ _ _ hl.2 g (by omega)) rfl ?_ | refine callM_new (by with_reducible first | exact c_szInt64S _ _ _ hl.2 g (by omega)) ?_)
  simp
  have a3 := (szOk_L d.held.length g (by omega)).sgn
  intro; omega
end Go.Proofs.Ytnpflgeenecaeaa
