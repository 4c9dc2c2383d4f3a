/- Rows of rows, springs; what the laws copy of them. Springs, meshes, bodies, desks; what the laws reckon of their sizes, copy of them, compare of them. What the laws copy and compare of springs, meshes, bodies, desks. What meshes, bodies, desks must be: the program's and the reference's word on it.
Conditions: none. -/
import Derived.Test.YtnjpigkijdnpkaaGreatG0
import Derived.Test.YtnjpigkijdnpkaaGreatFrz
namespace Go.Proofs.YtnjpigkijdnpkaaGreat
set_option linter.all false
open Go Go.Awp
set_option maxRecDepth 100000
set_option maxHeartbeats 4000000
set_option pp.deepTerms true

/-- Rows of rows, to be read. -/
def cRs (b : Bool) (l : List (List Int)) : List AV := l.map fun t => .view b (cIs t) t.length
@[simp] theorem cRs_nil (b : Bool) : cRs b [] = [] := rfl
@[simp] theorem cRs_length (b : Bool) (l : List (List Int)) : (cRs b l).length = l.length := by simp [cRs]
@[simp] theorem cRs_take (b : Bool) (l : List (List Int)) (k : Nat) : (cRs b l).take k = cRs b (l.take k) := by simp [cRs, List.map_take]
@[simp] theorem cRs_append (b : Bool) (l l' : List (List Int)) : cRs b l ++ cRs b l' = cRs b (l ++ l') := by simp [cRs]
@[simp] theorem cRs_drop {b : Bool} {l : List (List Int)} {k : Nat} (h : k < l.length) : (cRs b l).drop k = .view b (cIs l[k]) l[k].length :: cRs b (l.drop (k + 1)) := by
  unfold cRs; rw [List.drop_eq_getElem_cons (by simpa using h), List.getElem_map, List.map_drop]
@[simp] theorem cRs_get {b : Bool} {l : List (List Int)} {k : Nat} (h : k < l.length) : (cRs b l)[k]? = some (.view b (cIs l[k]) l[k].length) := by simp [cRs, h]
@[simp] theorem cRs_frz (b : Bool) (l : List (List Int)) : (cRs b l).map AV.frz = cRs false l := by
  unfold cRs
  rw [List.map_map]
  refine List.map_congr_left fun t _ => ?_
  simp [AV.frz]
@[simp] theorem cRs_pass (nv own : Bool) (σ : List Nat) (H : Heap) (b : Bool) (l : List (List Int)) : (cRs b l).map (pass0 nv own σ H) = cRs false l := by
  unfold cRs
  rw [List.map_map]
  refine List.map_congr_left fun t _ => ?_
  simp [pass0]
@[simp] theorem cRs_pures (b : Bool) (l : List (List Int)) : (∀ (x : AV), x ∈ cRs b l → x.isPure = true) = True := by
  refine eq_true fun x hx => ?_
  obtain ⟨t, _, rfl⟩ := List.mem_map.1 hx
  rfl
@[simp] theorem cRs_newB (l : List (List Int)) : (∀ (x : AV), x ∈ cRs true l → x.newB = true) = True := by
  refine eq_true fun x hx => ?_
  obtain ⟨t, _, rfl⟩ := List.mem_map.1 hx
  simp [AV.newB]
@[simp] theorem nils_make (n : Nat) : makeL n [.nils] = List.replicate n .nils := by
  unfold makeL
  simp [Nat.mod_one, List.map_const']
/-- Rows that are copied one by one. -/
def mixR (T : List (List Int)) (k : Nat) : List AV := cRs true (T.take k) ++ List.replicate (T.length - k) .nils
@[simp] theorem mixR_length (T : List (List Int)) {k : Nat} (h : k ≤ T.length) : (mixR T k).length = T.length := by simp [mixR]; omega
theorem mixR_zero (T : List (List Int)) : mixR T 0 = List.replicate T.length .nils := by simp [mixR]
theorem mixR_all (T : List (List Int)) : mixR T T.length = cRs true T := by simp [mixR]
theorem mixR_set {T : List (List Int)} {k : Nat} (h : k < T.length) : (mixR T k).set k (.view true (cIs T[k]) T[k].length) = mixR T (k + 1) := by
  have e2 : (cRs true (T.take k)).length = k := by simp; omega
  unfold mixR
  rw [List.set_append, if_neg (by omega), e2, Nat.sub_self]
  obtain ⟨m, hm⟩ : ∃ m, T.length - k = m + 1 := ⟨T.length - k - 1, by omega⟩
  rw [hm, List.replicate_succ, List.set_cons_zero, show T.length - (k + 1) = m by omega, List.take_succ_eq_append_getElem h, ← cRs_append, List.append_assoc]
  rfl
theorem frz_set {H : Heap} {F : Nat → Prop} {l : List AV} {k : Nat} {x y : AV} (hx : Frz H F false x y) (j : Nat) (a b : AV) (ha : (l.set k x)[j]? = some a) (hb : (l.set k y)[j]? = some b) : Frz H F false a b := by
  rw [List.getElem?_set] at ha hb
  split at ha
  · rename_i e; subst e
    split at ha
    · cases ha
      simp at hb
      obtain ⟨_, rfl⟩ := hb
      exact hx
    · cases ha
  · rename_i e
    rw [if_neg e] at hb
    rw [ha] at hb; cases hb
    exact .same _
theorem splice_one {l : List AV} {k : Nat} {x : AV} (h : k < l.length) : splice l k [x] = l.set k x := by
  unfold splice
  rw [List.set_eq_take_append_cons_drop, if_pos h]
  simp

theorem frz_row {H : Heap} {F : Nat → Prop} {p : Bool} {q n t : Nat} {e : TypeId} {c : List AV} (h : H[q]? = some (.blk true false e c)) (hF : F q) : Frz H F p (.slc q 0 n t) (.view true c n) :=
  .row p q n t false e c c h hF rfl (fun _ => rfl) (fun e => by cases e)
theorem frz_box {H : Heap} {F : Nat → Prop} {p : Bool} {q n t : Nat} {e : TypeId} {c : List AV} (h : H[q]? = some (.blk true true e c)) (hp : ∀ a ∈ c, a.isPure = true) (hF : F q) : Frz H F p (.slc q 0 n t) (.view true c n) :=
  .row p q n t true e c c h hF rfl (fun _ => rfl) (fun _ j a b ha hb => by rw [ha] at hb; cases hb; exact .pure _ (hp _ (List.mem_of_getElem? ha)))

theorem leL_pures {f : Nat → Nat} {Z : Nat → Prop} : ∀ {l : List AV}, (∀ a ∈ l, a.isPure = true) → leL f Z l l
  | [], _ => trivial
  | a :: l, h => by
    refine ⟨.inr (.inl ?_), leL_pures fun x hx => h x (List.mem_cons_of_mem _ hx)⟩
    have := h a (List.mem_cons_self ..)
    cases a with
    | clo f first caps =>
      cases first with
      | nil => cases caps with
        | nil => simp [AV.ren]
        | cons _ _ => cases this
      | cons _ _ => cases this
    | _ => first | (cases this; done) | simp [AV.ren]
theorem mixR_pures (T : List (List Int)) (k : Nat) : ∀ a ∈ mixR T k, a.isPure = true := by
  intro a ha
  unfold mixR at ha
  rcases List.mem_append.1 ha with h | h
  · exact of_eq_true (cRs_pures true _) a h
  · rw [List.eq_of_mem_replicate h]; rfl
@[simp] theorem leL_mixR (f : Nat → Nat) (Z : Nat → Prop) (T : List (List Int)) (k : Nat) : leL f Z (mixR T k) (mixR T k) = True := eq_true (leL_pures (mixR_pures T k))
@[simp] theorem leL_cRs (f : Nat → Nat) (Z : Nat → Prop) (b : Bool) (T : List (List Int)) : leL f Z (cRs b T) (cRs b T) = True := eq_true (leL_pures (of_eq_true (cRs_pures b T)))

/-- Rows that are all short, and not many. -/
structure RsOk (T : List (List Int)) : Prop where
  len : T.length ≤ 1048576
  all : ∀ t ∈ T, t.length ≤ 1048576
end Go.Proofs.YtnjpigkijdnpkaaGreat
namespace Go.Proofs.YtnjpigkijdnpkaaGreat
set_option linter.all false
open Go Go.Awp
set_option maxRecDepth 100000
set_option maxHeartbeats 4000000
set_option pp.deepTerms true

abbrev Sp := Int × Int × Nat × Nat
def eS (t : Sp) : List AV := [.int .i64 t.1, .int .i64 t.2.1, .flt .f32 t.2.2.1, .flt .f32 t.2.2.2]
def cSs (l : List Sp) : List AV := l.flatMap eS
@[simp] theorem eS_length (v : Sp) : (eS v).length = 4 := rfl
@[simp] theorem quad_eta {α β γ δ : Type} (v : α × β × γ × δ) : (v.1, v.2.1, v.2.2.1, v.2.2.2) = v := rfl
@[simp] theorem cSs_nil : cSs [] = [] := rfl
@[simp] theorem cSs_length (l : List Sp) : (cSs l).length = l.length * 4 := cat_length eS_length l
@[simp] theorem cSs_num (l : List Sp) : (cSs l).all AV.num = true := by
  induction l with
  | nil => rfl
  | cons a l ih => simp only [cSs, List.flatMap_cons, List.all_append] at ih ⊢; rw [ih]; rfl
@[simp] theorem cSs_flat (l : List Sp) : (cSs l).all AV.flat = true := num_flat (cSs_num l)
@[simp] theorem cSs_drop {l : List Sp} {k : Nat} (h : k < l.length) : (cSs l).drop (k * 4) = .int .i64 l[k].1 :: .int .i64 l[k].2.1 :: .flt .f32 l[k].2.2.1 :: .flt .f32 l[k].2.2.2 :: cSs (l.drop (k + 1)) := cat_drop_at eS_length h
@[simp] theorem cSs_take (l : List Sp) (k : Nat) : (cSs l).take (k * 4) = cSs (l.take k) := cat_take eS_length l k
@[simp] theorem cSs_get0 {l : List Sp} {k : Nat} (h : k < l.length) : (cSs l)[k * 4]? = some (.int .i64 l[k].1) := cat_get eS_length (j := 0) h (by omega)
@[simp] theorem cSs_get1 {l : List Sp} {k : Nat} (h : k < l.length) : (cSs l)[k * 4 + 1]? = some (.int .i64 l[k].2.1) := cat_get eS_length (j := 1) h (by omega)
@[simp] theorem cSs_get2 {l : List Sp} {k : Nat} (h : k < l.length) : (cSs l)[k * 4 + 2]? = some (.flt .f32 l[k].2.2.1) := cat_get eS_length (j := 2) h (by omega)
@[simp] theorem cSs_get3 {l : List Sp} {k : Nat} (h : k < l.length) : (cSs l)[k * 4 + 3]? = some (.flt .f32 l[k].2.2.2) := cat_get eS_length (j := 3) h (by omega)
@[simp high] theorem cSs_load {l : List Sp} {k : Nat} (h : k < l.length) : loadL true 4 (cSs l) (k * 4) = some (.agg [.int .i64 l[k].1, .int .i64 l[k].2.1, .flt .f32 l[k].2.2.1, .flt .f32 l[k].2.2.2]) := by
  show (if k * 4 + 4 ≤ (cSs l).length then _ else _) = _
  rw [if_pos (by rw [cSs_length]; omega), cSs_drop h]; rfl
@[simp] theorem cSs_splice0 {l : List Sp} {k : Nat} {x : Int} (h : k < l.length) : splice (cSs l) (k * 4) [.int .i64 x] = cSs (l.set k (x, l[k].2)) := cat_splice eS_length (j := 0) h (by simp) rfl
@[simp] theorem cSs_splice1 {l : List Sp} {k : Nat} {x : Int} (h : k < l.length) : splice (cSs l) (k * 4 + 1) [.int .i64 x] = cSs (l.set k (l[k].1, x, l[k].2.2)) := cat_splice eS_length (j := 1) h (by simp) rfl
@[simp] theorem cSs_splice2 {l : List Sp} {k : Nat} {x : Nat} (h : k < l.length) : splice (cSs l) (k * 4 + 2) [.flt .f32 x] = cSs (l.set k (l[k].1, l[k].2.1, x, l[k].2.2.2)) := cat_splice eS_length (j := 2) h (by simp) rfl
@[simp] theorem cSs_splice3 {l : List Sp} {k : Nat} {x : Nat} (h : k < l.length) : splice (cSs l) (k * 4 + 3) [.flt .f32 x] = cSs (l.set k (l[k].1, l[k].2.1, l[k].2.2.1, x)) := cat_splice eS_length (j := 3) h (by simp) rfl
@[simp] theorem cSs_splice {l : List Sp} {k : Nat} {x y : Int} {z u : Nat} (h : k < l.length) : splice (cSs l) (k * 4) [.int .i64 x, .int .i64 y, .flt .f32 z, .flt .f32 u] = cSs (l.set k (x, y, z, u)) := cat_splice eS_length (j := 0) h (by simp) rfl
@[simp] theorem cSs_append (l l' : List Sp) : cSs l ++ cSs l' = cSs (l ++ l') := by simp [cSs]
theorem cSs_one (x y : Int) (z u : Nat) : [.int .i64 x, .int .i64 y, .flt .f32 z, .flt .f32 u] = cSs [(x, y, z, u)] := rfl
@[simp] theorem cSs_push (l : List Sp) (x y : Int) (z u : Nat) : cSs l ++ [.int .i64 x, .int .i64 y, .flt .f32 z, .flt .f32 u] = cSs (l ++ [(x, y, z, u)]) := by rw [cSs_one, cSs_append]
@[simp] theorem cSs_make (n : Nat) : makeL n [.int .i64 0, .int .i64 0, .flt .f32 0, .flt .f32 0] = cSs (List.replicate n (0, 0, 0, 0)) := by
  have key : ∀ m : Nat, (List.range (m * 4)).map (fun i => [.int .i64 0, .int .i64 0, .flt .f32 0, .flt .f32 0].getD (i % 4) AV.any) = cSs (List.replicate m (0, 0, 0, 0)) := by
    intro m
    induction m with
    | zero => rfl
    | succ m ih =>
      rw [show (m + 1) * 4 = m * 4 + 1 + 1 + 1 + 1 by omega, List.range_succ, List.range_succ, List.range_succ, List.range_succ, List.map_append, List.map_append, List.map_append, List.map_append, ih, List.replicate_succ', ← cSs_append]
      simp only [List.map_cons, List.map_nil, show m * 4 % 4 = 0 by omega, show (m * 4 + 1) % 4 = 1 by omega, show (m * 4 + 1 + 1) % 4 = 2 by omega, show (m * 4 + 1 + 1 + 1) % 4 = 3 by omega, List.append_assoc]
      rfl
  exact key n
@[simp] theorem cSs_pures (l : List Sp) : (∀ (x : AV), x ∈ cSs l → x.isPure = true) = True := eq_true (List.all_eq_true.1 (pure_flat (cSs_flat l)))

/-- A mesh; a body; a desk. -/
structure Msh where
  pl : List V
  tr : List (List Int)
structure Bod where
  me : Msh
  sp : List Sp
  film : Nat
  bend : Nat
  w : List Nat
  fall : V
structure Dsk where
  bo : Bod
  held : List Int
/-- What of a mesh, a body, a desk is read. -/
abbrev Msh.cells (m : Msh) : List AV := [.view false (cVs m.pl) m.pl.length, .view false (cRs false m.tr) m.tr.length]
abbrev Msh.av (m : Msh) : AV := .agg m.cells
abbrev Bod.cells (b : Bod) : List AV := [.view false (cVs b.me.pl) b.me.pl.length, .view false (cRs false b.me.tr) b.me.tr.length, .view false (cSs b.sp) b.sp.length, .flt .f32 b.film, .flt .f32 b.bend, .view false (cFs b.w) b.w.length, .flt .f32 b.fall.1, .flt .f32 b.fall.2.1, .flt .f32 b.fall.2.2]
abbrev Bod.av (b : Bod) : AV := .agg b.cells
abbrev Dsk.cells (d : Dsk) : List AV := [.view false (cVs d.bo.me.pl) d.bo.me.pl.length, .view false (cRs false d.bo.me.tr) d.bo.me.tr.length, .view false (cSs d.bo.sp) d.bo.sp.length, .flt .f32 d.bo.film, .flt .f32 d.bo.bend, .view false (cFs d.bo.w) d.bo.w.length, .flt .f32 d.bo.fall.1, .flt .f32 d.bo.fall.2.1, .flt .f32 d.bo.fall.2.2, .view false (cIs d.held) d.held.length]
abbrev Dsk.av (d : Dsk) : AV := .agg d.cells
/-- The same in memory of the call's own, the triangles to be read alone. -/
abbrev Msh.own (m : Msh) (r : Nat) : AV := .agg [.slc r 0 m.pl.length 3, .view true (cRs true m.tr) m.tr.length]
abbrev Msh.mem (m : Msh) : Heap := [.blk true false 32 (cVs m.pl)]
abbrev Bod.own (b : Bod) (r : Nat) : AV := .agg [.slc r 0 b.me.pl.length 3, .view true (cRs true b.me.tr) b.me.tr.length, .slc (r + 1) 0 b.sp.length 4, .flt .f32 b.film, .flt .f32 b.bend, .slc (r + 2) 0 b.w.length 1, .flt .f32 b.fall.1, .flt .f32 b.fall.2.1, .flt .f32 b.fall.2.2]
abbrev Bod.mem (b : Bod) : Heap := [.blk true false 32 (cVs b.me.pl), .blk true false 88 (cSs b.sp), .blk true false 29 (cFs b.w)]
abbrev Dsk.own (d : Dsk) (r : Nat) : AV := .agg [.slc r 0 d.bo.me.pl.length 3, .view true (cRs true d.bo.me.tr) d.bo.me.tr.length, .slc (r + 1) 0 d.bo.sp.length 4, .flt .f32 d.bo.film, .flt .f32 d.bo.bend, .slc (r + 2) 0 d.bo.w.length 1, .flt .f32 d.bo.fall.1, .flt .f32 d.bo.fall.2.1, .flt .f32 d.bo.fall.2.2, .slc (r + 3) 0 d.held.length 1]
abbrev Dsk.mem (d : Dsk) : Heap := [.blk true false 32 (cVs d.bo.me.pl), .blk true false 88 (cSs d.bo.sp), .blk true false 29 (cFs d.bo.w), .blk true false 2 (cIs d.held)]
attribute [simp] Msh.cells Bod.cells Dsk.cells Msh.av Bod.av Dsk.av Msh.own Bod.own Dsk.own Msh.mem Bod.mem Dsk.mem
structure Msh.Small (m : Msh) : Prop where
  pl : m.pl.length ≤ 1048576
  tr : RsOk m.tr
structure Bod.Small (b : Bod) : Prop where
  me : b.me.Small
  sp : b.sp.length ≤ 1048576
  w : b.w.length ≤ 1048576
structure Dsk.Small (d : Dsk) : Prop where
  bo : d.bo.Small
  held : d.held.length ≤ 1048576
structure Msh.Len (m : Msh) : Prop where
  pl : m.pl.length ≤ 9223372036854775807
  tr : m.tr.length ≤ 9223372036854775807
  all : ∀ t ∈ m.tr, t.length ≤ 9223372036854775807
structure Bod.Len (b : Bod) : Prop where
  me : b.me.Len
  sp : b.sp.length ≤ 9223372036854775807
  w : b.w.length ≤ 9223372036854775807
structure Dsk.Len (d : Dsk) : Prop where
  bo : d.bo.Len
  held : d.held.length ≤ 9223372036854775807

-- sizes
def szRs : List (List Int) → Int → Int
  | [], left => left
  | t :: T, left => if szL t.length left < 0 then -1 else szRs T (szL t.length left)
def szSS (T : List (List Int)) (left : Int) : Int := if left - T.length < 0 then -1 else szRs T (left - T.length)
def thn (x : Int) (f : Int → Int) : Int := if x < 0 then -1 else f x
theorem szRs_ok : ∀ {T : List (List Int)} {left : Int}, left ≤ 1048576 → 0 ≤ left → (szRs T left = -1 ∨ 0 ≤ szRs T left) ∧ szRs T left ≤ left ∧ (0 ≤ szRs T left → ∀ t ∈ T, t.length ≤ 1048576)
  | [], left, _, h0 => ⟨.inr h0, by simp [szRs], fun _ t ht => by simp at ht⟩
  | t :: T, left, h, h0 => by
    unfold szRs
    split
    · exact ⟨.inl rfl, by omega, fun h => by omega⟩
    · rename_i h1
      have h2 := szL_le (n := t.length) h
      have h4 := szL_ok h1
      obtain ⟨k1, k2, k3⟩ := szRs_ok (T := T) h2 (by omega)
      have h5 : szL t.length left = left - t.length := by unfold szL; rw [if_neg (by omega)]
      refine ⟨k1, by omega, fun h3 x hx => ?_⟩
      rcases List.mem_cons.1 hx with rfl | hx
      · omega
      · exact k3 h3 x hx
theorem szSS_ok {T : List (List Int)} {left : Int} (h : left ≤ 1048576) (h0 : 0 ≤ left) : (szSS T left = -1 ∨ 0 ≤ szSS T left) ∧ szSS T left ≤ left ∧ (0 ≤ szSS T left → RsOk T) := by
  unfold szSS
  split
  · exact ⟨.inl rfl, by omega, fun h => by omega⟩
  · obtain ⟨k1, k2, k3⟩ := szRs_ok (T := T) (left := left - T.length) (by omega) (by omega)
    exact ⟨k1, by omega, fun h => ⟨by omega, k3 h⟩⟩
theorem szL_not {n : Nat} {left : Int} : szL n left = -1 ∨ 0 ≤ szL n left ∧ szL n left ≤ left ∧ (n : Int) ≤ left := by unfold szL; split <;> omega
/-- What is left of a size, and what it tells. -/
structure SzOk (left x : Int) (Q : Prop) : Prop where
  sgn : x = -1 ∨ 0 ≤ x
  le : x ≤ left
  ok : 0 ≤ x → Q
theorem szOk_L (n : Nat) {left : Int} (h0 : 0 ≤ left) (h : left ≤ 1048576) : SzOk left (szL n left) (n ≤ 1048576) := by
  rcases szL_not (n := n) (left := left) with g | ⟨g1, g2, g3⟩
  · exact ⟨.inl g, by omega, fun h => by omega⟩
  · exact ⟨.inr g1, g2, fun _ => by omega⟩
def szM (m : Msh) (left : Int) : Int := thn (szL m.pl.length left) (szSS m.tr)
def szB (b : Bod) (left : Int) : Int := thn (szM b.me left) fun x => thn (szL b.sp.length x) (szL b.w.length)
def szD (d : Dsk) (left : Int) : Int := thn (szB d.bo left) (szL d.held.length)
theorem SzOk.thn {left x : Int} {Q Q' : Prop} {f : Int → Int} (h : SzOk left x Q) (hf : 0 ≤ x → SzOk x (f x) Q') : SzOk left (thn x f) (Q ∧ Q') := by
  unfold Proofs.YtnjpigkijdnpkaaGreat.thn
  split
  · rcases h.sgn with g | g
    · exact ⟨.inl rfl, by have := h.le; omega, fun h => by omega⟩
    · omega
  · have := hf (by omega)
    exact ⟨this.sgn, Int.le_trans this.le h.le, fun g => ⟨h.ok (by omega), this.ok g⟩⟩
theorem szOk_M (m : Msh) {left : Int} (h0 : 0 ≤ left) (h : left ≤ 1048576) : SzOk left (szM m left) m.Small := by
  have h1 := szOk_L m.pl.length h0 h
  have h2 := h1.thn (f := szSS m.tr) (Q' := RsOk m.tr) fun g => by
    obtain ⟨k1, k2, k3⟩ := szSS_ok (T := m.tr) (left := szL m.pl.length left) (by have := h1.le; omega) g
    exact ⟨k1, k2, k3⟩
  exact ⟨h2.sgn, h2.le, fun g => ⟨(h2.ok g).1, (h2.ok g).2⟩⟩
theorem szOk_B (b : Bod) {left : Int} (h0 : 0 ≤ left) (h : left ≤ 1048576) : SzOk left (szB b left) b.Small := by
  have h1 := szOk_M b.me h0 h
  have h2 := h1.thn (f := fun x => Proofs.YtnjpigkijdnpkaaGreat.thn (szL b.sp.length x) (szL b.w.length)) (Q' := b.sp.length ≤ 1048576 ∧ b.w.length ≤ 1048576) fun g => by
    have k1 := szOk_L b.sp.length g (by have := h1.le; omega)
    exact k1.thn fun g2 => szOk_L b.w.length g2 (by have := h1.le; have := k1.le; omega)
  exact ⟨h2.sgn, h2.le, fun g => ⟨(h2.ok g).1, (h2.ok g).2.1, (h2.ok g).2.2⟩⟩
theorem szOk_D (d : Dsk) {left : Int} (h0 : 0 ≤ left) (h : left ≤ 1048576) : SzOk left (szD d left) d.Small := by
  have h1 := szOk_B d.bo h0 h
  have h2 := h1.thn (f := szL d.held.length) (Q' := d.held.length ≤ 1048576) fun g => szOk_L d.held.length g (by have := h1.le; omega)
  exact ⟨h2.sgn, h2.le, fun g => ⟨(h2.ok g).1, (h2.ok g).2⟩⟩
end Go.Proofs.YtnjpigkijdnpkaaGreat
namespace Go.Proofs.YtnjpigkijdnpkaaGreat
set_option linter.all false
open Go Go.Awp
set_option maxRecDepth 100000
set_option maxHeartbeats 4000000
set_option pp.deepTerms true

end Go.Proofs.YtnjpigkijdnpkaaGreat
namespace Go.Proofs.YtnjpigkijdnpkaaGreat
set_option linter.all false
open Go Go.Awp
set_option maxRecDepth 100000
set_option maxHeartbeats 4000000
set_option pp.deepTerms true

def triB (n : Int) : List Int → Bool
  | [a, b, c] => !decide (a = b) && !decide (b = c) && !decide (a = c) && inB a 0 (n - 1) && inB b 0 (n - 1) && inB c 0 (n - 1)
  | _ => false
theorem tri_len {n : Int} {t : List Int} (h : triB n t = true) : t.length = 3 := by
  unfold triB at h
  split at h
  · rfl
  · cases h
theorem tri_cases (t : List Int) : t.length ≠ 3 ∧ (∀ n, triB n t = false) ∨ ∃ a b c, t = [a, b, c] := by
  match t with
  | [] => exact .inl ⟨by simp, fun _ => rfl⟩
  | [_] => exact .inl ⟨by simp, fun _ => rfl⟩
  | [_, _] => exact .inl ⟨by simp, fun _ => rfl⟩
  | [a, b, c] => exact .inr ⟨a, b, c, rfl⟩
  | _ :: _ :: _ :: _ :: t => exact .inl ⟨by simp, fun _ => rfl⟩
def vldM (m : Msh) : Bool := decide (m.pl.length ≤ 64) && decide (m.tr.length ≤ 128) && m.tr.all (triB m.pl.length)
def geB (x : Nat) : Bool := ford .f32 x 0 == some .gt || ford .f32 x 0 == some .eq
def sprB (n : Int) (s : Sp) : Bool := inB s.1 0 (n - 1) && inB s.2.1 0 (n - 1) && !decide (s.1 = s.2.1) && geB s.2.2.1
def vldB (b : Bod) : Bool := vldM b.me && decide (b.sp.length ≤ 200) && decide (b.w.length = b.me.pl.length) && b.sp.all (sprB b.me.pl.length)
def vldH (b : Bod) (held : List Int) : Bool := vldB b && pinsF b.me.pl.length (-1) held

/-- Of three numbers, whether all lie within. -/
def in3 (n : Int) (t : List Int) (j : Nat) : Bool := (t.drop j).all fun p => inB p 0 (n - 1)
theorem c_ValidMesh (m : Msh) (hs : m.Small) : Fun Tryz.prog 61 [m.av] [] (.bool (vldM m)) [] := by
  obtain ⟨h1, h2, h3⟩ := hs
  refine FnSpec.walkF dr_ok Tryz.func61 rfl (by kernel_rfl) rfl rfl rfl (by simp) ?_
  simp
  refine ⟨fun a1 => ⟨fun a2 => ?_, fun a2 => ?_⟩, fun a1 => ?_⟩
  · unfold vldM
    rw [decide_eq_false (p := m.tr.length ≤ 128) (by omega)]; simp
  · have hv : vldM m = m.tr.all (triB m.pl.length) := by
      unfold vldM
      rw [decide_eq_true (p := m.pl.length ≤ 64) (by omega), decide_eq_true (p := m.tr.length ≤ 128) (by omega)]; simp
    have hwn : IntKind.i64.wrap ((m.pl.length : Int) - 1) = (m.pl.length : Int) - 1 := wrap64 (by omega) (by omega)
    refine loopG_of (α := Nat) (fun k => k ≤ m.tr.length ∧ vldM m = (m.tr.drop k).all (triB m.pl.length)) (fun k => m.tr.length - k) (fun k => [(22, .int .i64 k), (21, .int .i64 m.tr.length), (20, .view false (cRs false m.tr) m.tr.length), (3, .int .i64 m.pl.length)]) (fun k => []) 0 ⟨by simp, by simpa using hv⟩ ?_ fun k ⟨hk, hi⟩ => ?_
    · (refine weak_gc [] ?_ ?_ ?_ ?_ ?_ <;> simp)
    have hw := nat_wrap (k := k) (by omega)
    by_cases b : k < m.tr.length
    · rw [List.drop_eq_getElem_cons b, List.all_cons] at hi
      have h4 := h3 _ (List.getElem_mem b)
      simp [b, hw]
      generalize m.tr[k] = t at *
      rcases tri_cases t with ⟨e1, e2⟩ | ⟨x, y, z, rfl⟩
      · have e3 : ¬ (t.length : Int) = 3 := by omega
        simp [e3]
        rw [hi, e2]; simp
      · by_cases g1 : x = y
        · subst g1; simp; rw [hi]; simp [triB]
        by_cases g2 : y = z
        · subst g2; simp [g1]; rw [hi]; simp [triB]
        by_cases g3 : x = z
        · subst g3; simp [g1, g2]; rw [hi]; simp [triB]
        simp [g1, g2, g3]
        have e4 : triB m.pl.length [x, y, z] = in3 m.pl.length [x, y, z] 0 := by simp [triB, in3, g1, g2, g3, Bool.and_assoc]
        rw [e4] at hi
        refine loopG_of (α := Nat) (fun j => j ≤ 3 ∧ vldM m = (in3 m.pl.length [x, y, z] j && (m.tr.drop (k + 1)).all (triB m.pl.length))) (fun j => 3 - j) (fun j => [(58, .int .i64 j), (57, .int .i64 3), (56, .view false (cIs [x, y, z]) 3), (22, .int .i64 k), (21, .int .i64 m.tr.length), (20, .view false (cRs false m.tr) m.tr.length), (3, .int .i64 m.pl.length)]) (fun j => []) 0 ⟨by simp, hi⟩ ?_ fun j ⟨hj, hi2⟩ => ?_
        · (refine weak_gc [] ?_ ?_ ?_ ?_ ?_ <;> simp)
        have hw2 := nat_wrap (k := j) (by omega)
        by_cases b2 : j < 3
        · have b3 : j < [x, y, z].length := b2
          have b4 : (j : Int) < 3 := by omega
          have e5 : in3 m.pl.length [x, y, z] j = (inB [x, y, z][j] 0 ((m.pl.length : Int) - 1) && in3 m.pl.length [x, y, z] (j + 1)) := by
            unfold in3
            rw [List.drop_eq_getElem_cons b3, List.all_cons]
          rw [e5] at hi2
          simp [b2, b3, b4, hw2, hwn]
          (first | refine callG_r ?_ | refine callD_r ?_); simp; (first | refine callN_flat (by with_reducible first | exact c_within _ _ _) rfl ?_ | refine callN_new (by with_reducible first | exact c_within _ _ _) ?_ | refine callM_flat (by with_reducible first | exact c_within _ _ _) rfl ?_ | refine callM_new (by with_reducible first | exact c_within _ _ _) ?_)
          generalize inB [x, y, z][j] 0 ((m.pl.length : Int) - 1) = q at *
          simp [hw2]
          refine ⟨fun g => ?_, fun g => ?_⟩
          · subst g; rw [hi2]; simp
          · subst g
            refine loopK_next (j + 1) (by omega) ⟨by omega, by simpa using hi2⟩ ?_
            (refine weak_gc [] ?_ ?_ ?_ ?_ ?_ <;> simp)
        · obtain rfl : j = 3 := by omega
          simp [hw]
          refine loopK_next (k + 1) (by omega) ⟨by omega, by simpa [in3] using hi2⟩ ?_
          (refine weak_gc [] ?_ ?_ ?_ ?_ ?_ <;> simp)
    · obtain rfl : k = m.tr.length := by omega
      simp
      rw [hi]; simp
  · unfold vldM
    rw [decide_eq_false (p := m.pl.length ≤ 64) (by omega)]; simp
/-- Pointers to meshes and bodies that are only read, perhaps parts of what is greater. -/
abbrev Msh.vp (m : Msh) (rest : List AV) : AV := .vptr false (.view false (cVs m.pl) m.pl.length :: .view false (cRs false m.tr) m.tr.length :: rest)
abbrev Bod.vp (b : Bod) (rest : List AV) : AV := .vptr false (.view false (cVs b.me.pl) b.me.pl.length :: .view false (cRs false b.me.tr) b.me.tr.length :: .view false (cSs b.sp) b.sp.length :: .flt .f32 b.film :: .flt .f32 b.bend :: .view false (cFs b.w) b.w.length :: .flt .f32 b.fall.1 :: .flt .f32 b.fall.2.1 :: .flt .f32 b.fall.2.2 :: rest)
attribute [simp] Msh.vp Bod.vp
theorem c_ValidBody (b : Bod) (hs : b.Small) : Fun Tryz.prog 47 [b.av] [] (.bool (vldB b)) [] := by
  obtain ⟨h1, h2, h3⟩ := hs
  have h0 := h1.pl
  refine FnSpec.walkF dr_ok Tryz.func47 rfl (by kernel_rfl) rfl rfl rfl (by simp) ?_
  simp
  (first | refine callG_r ?_ | refine callD_r ?_); simp; (first | refine callN_flat (by with_reducible first | exact c_ValidMesh b.me h1) rfl ?_ | refine callN_new (by with_reducible first | exact c_ValidMesh b.me h1) ?_ | refine callM_flat (by with_reducible first | exact c_ValidMesh b.me h1) rfl ?_ | refine callM_new (by with_reducible first | exact c_ValidMesh b.me h1) ?_)
  simp
  refine ⟨fun a1 => ⟨fun a2 => ⟨fun a3 => ?_, fun a3 => ?_⟩, fun a2 => ?_⟩, fun a1 => ?_⟩
  · unfold vldB
    rw [decide_eq_false (p := b.w.length = b.me.pl.length) (by omega)]; simp
  · have hpl : b.me.pl.length ≤ 64 := by
      unfold vldM at a1
      simp only [Bool.and_eq_true, decide_eq_true_eq] at a1
      exact a1.1.1
    have hv : vldB b = b.sp.all (sprB b.me.pl.length) := by
      unfold vldB
      rw [a1, decide_eq_true (p := b.w.length = b.me.pl.length) (by omega), decide_eq_true (p := b.sp.length ≤ 200) (by omega)]; simp
    have hwn : IntKind.i64.wrap ((b.me.pl.length : Int) - 1) = (b.me.pl.length : Int) - 1 := wrap64 (by omega) (by omega)
    refine loopG_of (α := Nat) (fun k => k ≤ b.sp.length ∧ vldB b = (b.sp.drop k).all (sprB b.me.pl.length)) (fun k => b.sp.length - k) (fun k => [(30, .int .i64 k), (29, .int .i64 b.sp.length), (28, .view false (cSs b.sp) b.sp.length), (3, .int .i64 b.me.pl.length)]) (fun k => []) 0 ⟨by simp, by simpa using hv⟩ ?_ fun k ⟨hk, hi⟩ => ?_
    · (refine weak_gc [] ?_ ?_ ?_ ?_ ?_ <;> simp)
    have hw := nat_wrap (k := k) (by omega)
    by_cases c : k < b.sp.length
    · rw [List.drop_eq_getElem_cons c, List.all_cons] at hi
      simp [c, hw, hwn]
      (first | refine callG_r ?_ | refine callD_r ?_); simp; (first | refine callN_flat (by with_reducible first | exact c_within _ _ _) rfl ?_ | refine callN_new (by with_reducible first | exact c_within _ _ _) ?_ | refine callM_flat (by with_reducible first | exact c_within _ _ _) rfl ?_ | refine callM_new (by with_reducible first | exact c_within _ _ _) ?_)
      simp [hw, hwn]
      refine ⟨fun e1 => ?_, fun e1 => by rw [hi]; simp [sprB, e1]⟩
      (first | refine callG_r ?_ | refine callD_r ?_); simp; (first | refine callN_flat (by with_reducible first | exact c_within _ _ _) rfl ?_ | refine callN_new (by with_reducible first | exact c_within _ _ _) ?_ | refine callM_flat (by with_reducible first | exact c_within _ _ _) rfl ?_ | refine callM_new (by with_reducible first | exact c_within _ _ _) ?_)
      simp [hw, hwn]
      refine ⟨fun e2 => ⟨fun e3 => ⟨fun e4 => ?_, fun e4 => ?_⟩, fun e3 => by rw [hi]; simp [sprB, e3]⟩, fun e2 => by rw [hi]; simp [sprB, e2]⟩
      · intro e5
        rw [hi]; simp [sprB, geB, e4, e5]
      · have e5 : geB b.sp[k].2.2.1 = true := by unfold geB; simp; by_cases g : ford .f32 b.sp[k].2.2.1 0 = some .gt <;> simp [g] ; exact e4 g
        refine loopK_next (k + 1) (by omega) ⟨by omega, by rw [hi]; simp [sprB, e1, e2, e3, e5]⟩ ?_
        (refine weak_gc [] ?_ ?_ ?_ ?_ ?_ <;> simp)
    · obtain rfl : k = b.sp.length := by omega
      simp
      rw [hi]; simp
  · unfold vldB
    rw [decide_eq_false (p := b.sp.length ≤ 200) (by omega)]; simp
  · unfold vldB
    rw [a1]; simp
theorem vldB_pl {b : Bod} (h : vldB b = true) : b.me.pl.length ≤ 64 := by
  unfold vldB vldM at h
  simp only [Bool.and_eq_true, decide_eq_true_eq] at h
  exact h.1.1.1.1.1
theorem c_IsHeld (b : Bod) (held : List Int) (hs : b.Small) (hh : held.length ≤ 1048576) : Fun Tryz.prog 13 [b.av, .view false (cIs held) held.length] [] (.bool (vldH b held)) [] := by
  refine FnSpec.walkF dr_ok Tryz.func13 rfl (by kernel_rfl) rfl rfl rfl (by simp) ?_
  simp
  (first | refine callG_r ?_ | refine callD_r ?_); simp; (first | refine callN_flat (by with_reducible first | exact c_ValidBody b hs) rfl ?_ | refine callN_new (by with_reducible first | exact c_ValidBody b hs) ?_ | refine callM_flat (by with_reducible first | exact c_ValidBody b hs) rfl ?_ | refine callM_new (by with_reducible first | exact c_ValidBody b hs) ?_)
  simp
  refine ⟨fun a1 => ?_, fun a1 => ?_⟩
  · unfold vldH; rw [a1]; rfl
  · have hpl := vldB_pl a1
    have hv : vldH b held = pinsF b.me.pl.length (-1) held := by unfold vldH; rw [a1]; rfl
    have hn : IntKind.i64.wrap ((b.me.pl.length : Int) - 1) = (b.me.pl.length : Int) - 1 := wrap64 (by omega) (by omega)
    refine loopG_of (α := Nat × Int) (fun x => x.1 ≤ held.length ∧ -1 ≤ x.2 ∧ x.2 ≤ 64 ∧ vldH b held = pinsF b.me.pl.length x.2 (held.drop x.1)) (fun x => held.length - x.1)
      (fun x => [(2, .ptr 0 0), (5, .int .i64 x.2), (11, .view false (cIs held) held.length), (12, .int .i64 held.length), (13, .int .i64 x.1)])
      (fun x => [.blk true true 34 b.cells]) (0, -1) ⟨by simp, by simp, by simp, by simpa using hv⟩ ?_ fun x ⟨hx, hx0, hx1, hx2⟩ => ?_
    · (refine weak_gc [(some 0, 0)] ?_ ?_ ?_ ?_ ?_ <;> simp)
    · obtain ⟨j, last⟩ := x
      simp only at hx hx0 hx1 hx2
      have hw := nat_wrap (k := j) (by omega)
      have hl : IntKind.i64.wrap (last + 1) = last + 1 := wrap64 (by omega) (by omega)
      by_cases c : j < held.length
      · rw [List.drop_eq_getElem_cons c] at hx2
        simp [c, hw, hn, hl]
        (first | refine callG_r ?_ | refine callD_r ?_); simp; (first | refine callN_flat (by with_reducible first | exact c_within _ _ _) rfl ?_ | refine callN_new (by with_reducible first | exact c_within _ _ _) ?_ | refine callM_flat (by with_reducible first | exact c_within _ _ _) rfl ?_ | refine callM_new (by with_reducible first | exact c_within _ _ _) ?_)
        simp [hw, hn]
        refine ⟨fun e1 => by rw [hx2]; simp [pinsF, e1], fun e1 => ?_⟩
        have e2 := e1
        simp [inB] at e2
        refine loopK_next (j + 1, held[j]) ?_ ?_ ?_
        · simp; omega
        · refine ⟨by simp; omega, by simp; omega, by simp; omega, ?_⟩
          rw [hx2]; simp [pinsF, e1]
        · (refine weak_gc [(some 0, 0)] ?_ ?_ ?_ ?_ ?_ <;> simp)
      · obtain rfl : j = held.length := by omega
        simp
        rw [hx2]; simp [pinsF]
/-- A pointer to a desk that is only read. -/
abbrev Dsk.vp (d : Dsk) (rest : List AV) : AV := d.bo.vp (.view false (cIs d.held) d.held.length :: rest)
attribute [simp] Dsk.vp
end Go.Proofs.YtnjpigkijdnpkaaGreat
