/- A map of rows under keys of any width, in a heap of which only parts are known. The triangles of each edge, as the program reckons them.
Conditions: none. -/
import Derived.Test.YtnpflgeenecaeaaV1
import Derived.Test.YtnpflgeenecaeaaV2
import Derived.WideKeyPair
namespace Go.Proofs.Ytnpflgeenecaeaa
set_option linter.all false
open Go Go.Awp
set_option maxRecDepth 100000
set_option maxHeartbeats 4000000
set_option pp.deepTerms true

-- roots behind others
@[simp] theorem app_at (H t : Heap) : (H ++ t)[H.length]? = t[0]? := by rw [List.getElem?_append_right (Nat.le_refl _), Nat.sub_self]
@[simp] theorem app_atk (H t : Heap) (k : Nat) : (H ++ t)[H.length + k]? = t[k]? := by rw [List.getElem?_append_right (by omega), Nat.add_sub_cancel_left]
@[simp] theorem app_set (H t : Heap) (x : Root) : (H ++ t).set H.length x = H ++ t.set 0 x := by simp
@[simp] theorem app_setk (H t : Heap) (k : Nat) (x : Root) : (H ++ t).set (H.length + k) x = H ++ t.set k x := by simp
@[simp] theorem app_take (H t : Heap) (k : Nat) : (H ++ t).take (H.length + k) = H ++ t.take k := List.take_length_add_append k
@[simp] theorem app_take0 (H t : Heap) : (H ++ t).take H.length = H := List.take_left
theorem setL_app {H t : Heap} {r : Nat} (x : Root) (h : r < H.length) : setL (H ++ t) r x = setL H r x ++ t := by
  apply List.ext_getElem?
  intro j
  rw [setL_get, List.getElem?_append, List.getElem?_append, setL_get, setL_length]
  by_cases c : j < H.length
  · rw [if_pos c, if_pos c]
  · rw [if_neg c, if_neg c, if_neg (by omega)]
theorem setL_app2 {H t : Heap} (k : Nat) (x : Root) : setL (H ++ t) (H.length + k) x = H ++ setL t k x := by
  apply List.ext_getElem?
  intro j
  rw [setL_get, List.getElem?_append, List.getElem?_append, setL_get]
  by_cases c : j < H.length
  · rw [if_pos c, if_pos c, if_neg (by omega)]
  · rw [if_neg c, if_neg c]
    by_cases c2 : j = H.length + k
    · rw [if_pos c2, if_pos (by omega)]
    · rw [if_neg c2, if_neg (by omega)]
@[simp] theorem setL_appk (H t : Heap) (k : Nat) (x : Root) : setL (H ++ t) (H.length + k) x = H ++ setL t k x := setL_app2 k x
@[simp] theorem setL_app0 (H t : Heap) (x : Root) : setL (H ++ t) H.length x = H ++ setL t 0 x := setL_app2 0 x
theorem map_laid {H : Heap} {r q : Nat} {nw bx : Bool} {e : Nat} {ks : List (List Int)} {vs : List AV} {x : Root} (h : MapAt H r nw bx e ks vs) (hne : r ≠ q) : MapAt (setL H q x) r nw bx e ks vs :=
  ⟨by rw [setL_get, if_neg hne]; exact h.1, h.2⟩
theorem map_liv {H : Heap} {r : Nat} {nw bx : Bool} {e : Nat} {ks : List (List Int)} {vs : List AV} (h : MapAt H r nw bx e ks vs) : Go.Awp.liv H[r]? = true := by
  rw [h.1]; rfl
theorem inj_of_nodup {α β : Type} {f : α → β} : ∀ {l : List α}, (l.map f).Nodup → ∀ {a b : α}, a ∈ l → b ∈ l → f a = f b → a = b
  | [], _, a, _, ha, _, _ => by simp at ha
  | x :: l, h, a, b, ha, hb, e => by
    have h' : f x ∉ l.map f ∧ (l.map f).Nodup := by simpa using h
    by_cases ca : a = x
    · by_cases cb : b = x
      · rw [ca, cb]
      · exact absurd (List.mem_map.2 ⟨b, (List.mem_cons.1 hb).resolve_left cb, by rw [← e, ca]⟩) h'.1
    · by_cases cb : b = x
      · exact absurd (List.mem_map.2 ⟨a, (List.mem_cons.1 ha).resolve_left ca, by rw [e, cb]⟩) h'.1
      · exact inj_of_nodup h'.2 ((List.mem_cons.1 ha).resolve_left ca) ((List.mem_cons.1 hb).resolve_left cb) e
theorem putK_cons (k' k : List Int) (ks : List (List Int)) : putK (k' :: ks) k = if k' = k then k' :: ks else k' :: putK ks k := rfl
theorem putV_cons (k' k : List Int) (ks : List (List Int)) (v' v : AV) (vs : List AV) : putV (k' :: ks) (v' :: vs) k v = if k' = k then v :: vs else v' :: putV ks vs k v := rfl

/-- Entries: the key, the row's root, the row. -/
abbrev EntL := List Int × Nat × List Int
def keysL (es : List EntL) : List (List Int) := es.map fun x => x.1
def slcsL (es : List EntL) : List AV := es.map fun x => .slc x.2.1 0 x.2.2.length 1
/-- What of entries does not speak of roots. -/
abbrev KR := List Int × List Int
def strip (es : List EntL) : List KR := es.map fun x => (x.1, x.2.2)
def keysR (L : List KR) : List (List Int) := L.map fun x => x.1
def viewsR (L : List KR) : List AV := L.map fun x => .view true (cIs x.2) x.2.length
def pushR (k : List Int) (q : Int) : List KR → List KR
  | [] => [(k, [q])]
  | y :: L => if y.1 = k then (k, y.2 ++ [q]) :: L else y :: pushR k q L
def rowR (L : List KR) (k : List Int) : List Int := ((L.find? fun x => x.1 == k).map (·.2)).getD []
structure RowsL (H : Heap) (m e : Nat) (es : List EntL) : Prop where
  map : H[m]? = some (.blk true true e (rowA (keysL es) (slcsL es)))
  row : ∀ x ∈ es, H[x.2.1]? = some (.blk true false 2 (cIs x.2.2))
  off : ∀ x ∈ es, x.2.1 ≠ m
  apart : (es.map (·.2.1)).Nodup
  keys : (keysL es).Nodup
  wf : ∀ x ∈ es, x.1.length = kwid e ∧ WfK x.1
theorem RowsL.at {H : Heap} {m e : Nat} {es : List EntL} (h : RowsL H m e es) (t : Heap) : MapAt (H ++ t) m true true e (keysL es) (slcsL es) := by
  have hl := (List.getElem?_eq_some_iff.1 h.map).1
  refine ⟨by rw [List.getElem?_append_left hl]; exact h.map, by simp [keysL, slcsL], ⟨fun k hk => ?_, fun k hk => ?_, h.keys⟩⟩
  · obtain ⟨x, hx, rfl⟩ := List.mem_map.1 hk; exact (h.wf x hx).1
  · obtain ⟨x, hx, rfl⟩ := List.mem_map.1 hk; exact (h.wf x hx).2
theorem RowsL.map_at {H : Heap} {m e : Nat} {es : List EntL} (h : RowsL H m e es) : MapAt H m true true e (keysL es) (slcsL es) := by
  have := h.at []
  rwa [List.append_nil] at this
theorem RowsL.app {H : Heap} {m e : Nat} {es : List EntL} (h : RowsL H m e es) (t : Heap) : RowsL (H ++ t) m e es :=
  ⟨by rw [List.getElem?_append_left (List.getElem?_eq_some_iff.1 h.map).1]; exact h.map, fun x hx => by rw [List.getElem?_append_left (List.getElem?_eq_some_iff.1 (h.row x hx)).1]; exact h.row x hx, h.off, h.apart, h.keys, h.wf⟩
theorem RowsL.other {H : Heap} {m e l : Nat} {es : List EntL} (h : RowsL H m e es) (x : Root) (h1 : l ≠ m) (h2 : ∀ y ∈ es, y.2.1 ≠ l) : RowsL (H.set l x) m e es :=
  ⟨by rw [List.getElem?_set_ne h1]; exact h.map, fun y hy => by rw [List.getElem?_set_ne (fun e => h2 y hy e.symm)]; exact h.row y hy, h.off, h.apart, h.keys, h.wf⟩
theorem getM_ent : ∀ (es : List EntL) (p : List Int), getM (keysL es) (slcsL es) p .nils = match es.find? (fun x => x.1 == p) with
    | some x => .slc x.2.1 0 x.2.2.length 1
    | none => .nils
  | [], p => rfl
  | x :: es, p => by
    show (if x.1 = p then _ else getM (keysL es) (slcsL es) p .nils) = _
    by_cases c : x.1 = p
    · subst c; simp
    · simp [c, getM_ent es p]
theorem getM_views : ∀ (L : List KR) (p : List Int), getM (keysR L) (viewsR L) p .nils = match L.find? (fun x => x.1 == p) with
    | some x => .view true (cIs x.2) x.2.length
    | none => .nils
  | [], p => rfl
  | x :: L, p => by
    show (if x.1 = p then _ else getM (keysR L) (viewsR L) p .nils) = _
    by_cases c : x.1 = p
    · subst c; simp
    · simp [c, getM_views L p]
/-- An entry that is there gets a new row. -/
def setE (k : List Int) (r : Nat) (q : Int) : List EntL → List EntL
  | [] => [(k, r, [q])]
  | y :: es => if y.1 = k then (k, r, y.2.2 ++ [q]) :: es else y :: setE k r q es
theorem strip_setE (k : List Int) (r : Nat) (q : Int) : ∀ es : List EntL, strip (setE k r q es) = pushR k q (strip es)
  | [] => rfl
  | y :: es => by
    show strip (if y.1 = k then _ else _) = if y.1 = k then _ else _
    split
    · rfl
    · show _ :: strip (setE k r q es) = _ :: pushR k q (strip es)
      rw [strip_setE]
theorem put_setE {k : List Int} {r : Nat} {q : Int} : ∀ {es : List EntL},
    putK (keysL es) k = keysL (setE k r q es) ∧ putV (keysL es) (slcsL es) k (.slc r 0 (((es.find? fun y => y.1 == k).map (·.2.2.length)).getD 0 + 1) 1) = slcsL (setE k r q es)
  | [] => ⟨rfl, rfl⟩
  | y :: es => by
    show putK (y.1 :: keysL es) k = keysL (if y.1 = k then _ else _) ∧ putV (y.1 :: keysL es) (.slc y.2.1 0 y.2.2.length 1 :: slcsL es) k _ = slcsL (if y.1 = k then _ else _)
    rw [putK_cons, putV_cons]
    by_cases c : y.1 = k
    · rw [if_pos c, if_pos c, if_pos c, List.find?_cons_of_pos (by simpa using c)]
      refine ⟨by rw [c]; rfl, ?_⟩
      show _ :: slcsL es = .slc r 0 (y.2.2 ++ [q]).length 1 :: slcsL es
      simp
    · rw [if_neg c, if_neg c, if_neg c, List.find?_cons_of_neg (by simpa using c)]
      obtain ⟨g1, g2⟩ := put_setE (k := k) (r := r) (q := q) (es := es)
      exact ⟨by rw [g1]; rfl, by rw [g2]; rfl⟩
theorem putV_set {k : List Int} {x v : AV} : ∀ {ks : List (List Int)} {vs : List AV}, ks.length = vs.length → (putV ks vs k x).set (idxM ks k) v = putV ks vs k v
  | [], [], _ => rfl
  | [], _ :: _, h => by cases h
  | _ :: _, [], h => by cases h
  | k' :: ks, v' :: vs, h => by
    rw [putV_cons, putV_cons]
    show List.set _ (if k' = k then 0 else idxM ks k + 1) v = _
    by_cases c : k' = k
    · rw [if_pos c, if_pos c, if_pos c]; rfl
    · rw [if_neg c, if_neg c, if_neg c, List.set_cons_succ, putV_set (by simpa using h)]
theorem idxM_lt {k : List Int} : ∀ {ks : List (List Int)}, idxM ks k < (putK ks k).length
  | [] => by simp [idxM, putK]
  | k' :: ks => by
    rw [putK_cons]
    show (if k' = k then 0 else idxM ks k + 1) < _
    by_cases c : k' = k
    · rw [if_pos c, if_pos c]; simp
    · rw [if_neg c, if_neg c]
      have := idxM_lt (k := k) (ks := ks)
      simp only [List.length_cons]; omega
theorem find_of {es : List EntL} {k : List Int} {x : EntL} (h : es.find? (fun y => y.1 == k) = some x) : x ∈ es ∧ x.1 = k := ⟨List.mem_of_find?_eq_some h, by simpa using List.find?_some h⟩
theorem mem_setE {k : List Int} {r : Nat} {q : Int} : ∀ {es : List EntL} {y : EntL}, (keysL es).Nodup → y ∈ setE k r q es → (y ∈ es ∧ y.1 ≠ k) ∨ y = (k, r, (((es.find? fun y => y.1 == k).map (·.2.2)).getD []) ++ [q])
  | [], y, _, h => .inr (List.mem_singleton.1 h)
  | z :: es, y, hn, h => by
    have hn' : z.1 ∉ keysL es ∧ (keysL es).Nodup := by unfold keysL at hn ⊢; simpa using hn
    unfold setE at h
    by_cases c : z.1 = k
    · rw [if_pos c] at h
      rw [List.find?_cons_of_pos (by simpa using c)]
      rcases List.mem_cons.1 h with h | h
      · exact .inr h
      · exact .inl ⟨List.mem_cons_of_mem _ h, fun e => hn'.1 (List.mem_map.2 ⟨y, h, by rw [e, c]⟩)⟩
    · rw [if_neg c] at h
      rw [List.find?_cons_of_neg (by simpa using c)]
      rcases List.mem_cons.1 h with h | h
      · subst h; exact .inl ⟨List.mem_cons_self .., c⟩
      · rcases mem_setE hn'.2 h with ⟨g, g2⟩ | g
        · exact .inl ⟨List.mem_cons_of_mem _ g, g2⟩
        · exact .inr g
theorem keys_pushR (k : List Int) (q : Int) : ∀ L : List KR, keysR (pushR k q L) = if k ∈ keysR L then keysR L else keysR L ++ [k]
  | [] => by simp [pushR, keysR]
  | y :: L => by
    unfold pushR
    by_cases c : y.1 = k
    · rw [if_pos c]; simp [keysR, c]
    · have c' : ¬ k = y.1 := fun e => c e.symm
      have ih := keys_pushR k q L
      unfold keysR at ih ⊢
      rw [if_neg c]
      simp only [List.map_cons, List.mem_cons, c', false_or, ih]
      split <;> simp
theorem keysL_strip (es : List EntL) : keysL es = keysR (strip es) := by simp [keysL, keysR, strip]
theorem nodup_pushR {k : List Int} {q : Int} {L : List KR} (h : (keysR L).Nodup) : (keysR (pushR k q L)).Nodup := by
  rw [keys_pushR]
  split
  · exact h
  · rename_i c
    rw [List.nodup_append]
    refine ⟨h, by simp, fun a ha b hb => ?_⟩
    rw [List.mem_singleton.1 hb]
    exact fun e => c (e ▸ ha)
theorem roots_setE {k : List Int} {r : Nat} {q : Int} : ∀ {es : List EntL}, (keysL es).Nodup → (es.map (·.2.1)).Nodup → (∀ y ∈ es, y.2.1 ≠ r) → ((setE k r q es).map (·.2.1)).Nodup
  | [], _, _, _ => by simp [setE]
  | z :: es, hn, ha, hr => by
    have hn' : z.1 ∉ keysL es ∧ (keysL es).Nodup := by unfold keysL at hn ⊢; simpa using hn
    have ha' : z.2.1 ∉ es.map (·.2.1) ∧ (es.map (·.2.1)).Nodup := by simpa using ha
    unfold setE
    split
    · show (r :: es.map (·.2.1)).Nodup
      refine List.nodup_cons.2 ⟨fun h => ?_, ha'.2⟩
      obtain ⟨y, hy, e⟩ := List.mem_map.1 h
      exact hr y (List.mem_cons_of_mem _ hy) e
    · show (z.2.1 :: (setE k r q es).map (·.2.1)).Nodup
      refine List.nodup_cons.2 ⟨fun h => ?_, roots_setE hn'.2 ha'.2 fun y hy => hr y (List.mem_cons_of_mem _ hy)⟩
      obtain ⟨y, hy, e⟩ := List.mem_map.1 h
      rcases mem_setE hn'.2 hy with ⟨g, _⟩ | g
      · exact ha'.1 (List.mem_map.2 ⟨y, g, e⟩)
      · subst g; exact hr z (List.mem_cons_self ..) e.symm
/-- What is known behind an entry's new row: H is the heap before, H' the one behind. -/
theorem RowsL.push {H H' : Heap} {m e : Nat} {es : List EntL} {k : List Int} {q : Int} {r : Nat} (hR : RowsL H m e es) (hk : k.length = kwid e ∧ WfK k)
    (hm : H'[m]? = some (.blk true true e (rowA (putK (keysL es) k) (putV (keysL es) (slcsL es) k (.slc r 0 (((es.find? fun y => y.1 == k).map (·.2.2.length)).getD 0 + 1) 1)))))
    (hr : H'[r]? = some (.blk true false 2 (cIs ((((es.find? fun y => y.1 == k).map (·.2.2)).getD []) ++ [q])))) (hn : H.length ≤ r)
    (hH : ∀ y ∈ es, y.1 ≠ k → H'[y.2.1]? = H[y.2.1]?) : RowsL H' m e (setE k r q es) := by
  have hml := (List.getElem?_eq_some_iff.1 hR.map).1
  have hlt : ∀ y ∈ es, y.2.1 < H.length := fun y hy => (List.getElem?_eq_some_iff.1 (hR.row y hy)).1
  obtain ⟨g1, g2⟩ := put_setE (k := k) (r := r) (q := q) (es := es)
  refine ⟨by rw [hm, g1, g2], fun x hx => ?_, fun x hx => ?_, roots_setE hR.keys hR.apart fun y hy => by have := hlt y hy; omega, ?_, fun x hx => ?_⟩
  · rcases mem_setE hR.keys hx with ⟨g, gk⟩ | rfl
    · rw [hH x g gk]; exact hR.row x g
    · exact hr
  · rcases mem_setE hR.keys hx with ⟨g, gk⟩ | rfl
    · exact hR.off x g
    · show r ≠ m; omega
  · rw [keysL_strip, strip_setE]
    exact nodup_pushR (by rw [← keysL_strip]; exact hR.keys)
  · rcases mem_setE hR.keys hx with ⟨g, gk⟩ | rfl
    · exact hR.wf x g
    · exact hk
end Go.Proofs.Ytnpflgeenecaeaa
namespace Go.Proofs.Ytnpflgeenecaeaa
set_option linter.all false
open Go Go.Awp
set_option maxRecDepth 100000
set_option maxHeartbeats 4000000
set_option pp.deepTerms true

theorem arr_edge : WideMaps.ArrKey Try.prog 107 2 2 where
  hu := Try.underlying107
  plain := by kernel_rfl
  one := by kernel_rfl
  size := by kernel_rfl
theorem wf_lit64 {a : Int} (h : -9223372036854775808 ≤ a ∧ a < 9223372036854775808) : (Lit.int .i64 a).wf = true := by
  have e1 : IntKind.i64.min = -9223372036854775808 := by decide
  have e2 : IntKind.i64.max = 9223372036854775807 := by decide
  have h2 : Lit.wf (.int .i64 a) = decide (IntKind.i64.min ≤ a ∧ a ≤ IntKind.i64.max) := by simp [Lit.wf]
  rw [h2, e1, e2]
  exact decide_eq_true (by omega)
theorem types_some : ∃ m, Try.prog.types.size = m + 1 := ⟨Try.prog.types.size - 1, by kernel_rfl⟩
theorem key_edge : KeyOk Try.prog 107 2 where
  law := Maps.Keyed.of_law arr_edge.law
  lit k hl hw := by
    match k, hl with
    | [a, b], _ =>
      exact ⟨_, WideMaps.keyOf_pair arr_edge Try.underlying2 types_some (wf_lit64 (hw a (by simp))) (wf_lit64 (hw b (by simp)))⟩
theorem zero_row : zeroOne Try.prog 24 = some .nils := by kernel_rfl

def loI (a b : Int) : Int := if b < a then b else a
def hiI (a b : Int) : Int := if a < b then b else a
theorem c_edgeOf (a b : Int) : Fun Try.prog 81 [.int .i64 a, .int .i64 b] [] (.agg [.int .i64 (loI a b), .int .i64 (hiI a b)]) [] := by
  refine FnSpec.walkF dr_ok Try.func81 rfl (by kernel_rfl) rfl rfl rfl (by simp) ?_
  simp [mnI, mxI]
  exact ⟨rfl, rfl⟩
/-- The edges of a triangle, in the order in which they are met. -/
def edAt (t : List Int) (k : Nat) : Ed := (loI (t.getD k 0) (t.getD ((k + 1) % 3) 0), hiI (t.getD k 0) (t.getD ((k + 1) % 3) 0))
def ekey (e : Ed) : List Int := [e.1, e.2]
/-- Triangles of edges, as the program lays them down. -/
def tbe3 (L : List KR) (t : List Int) (i : Nat) (k : Nat) : List KR := (List.range k).foldl (fun L j => pushR (ekey (edAt t j)) i L) L
def tbeN (T : List (List Int)) (n : Nat) : List KR := (List.range n).foldl (fun L i => tbe3 L (T.getD i []) i 3) []
def keyE (L : List KR) : List Ed := L.map fun x => (x.1.getD 0 0, x.1.getD 1 0)
theorem ofVal_map : AV.ofVal (Value.map none) = .any := .trans rfl rfl
/-- Heap, entries, the list's root. -/
structure St where
  H : Heap
  es : List EntL
  l : Nat
structure InvT (m : Msh) (L : List KR) (c : Nat) (x : St) : Prop where
  box : x.H[0]? = some (.blk true true 55 m.cells)
  rows : RowsL x.H 1 2 x.es
  strip : strip x.es = L
  list : x.H[x.l]? = some (.blk true false 107 (cEs (keyE L)))
  len : ∀ y ∈ x.es, 1 ≤ y.2.2.length ∧ y.2.2.length ≤ c
  cnt : L.length ≤ c
theorem keyE_map (L : List KR) : keyE L = (keysR L).map fun k => (k.getD 0 0, k.getD 1 0) := by simp [keyE, keysR]
theorem keyE_in {k : List Int} {q : Int} {L : List KR} (h : k ∈ keysR L) : keyE (pushR k q L) = keyE L := by rw [keyE_map, keyE_map, keys_pushR, if_pos h]
theorem keyE_out {k : List Int} {q : Int} {L : List KR} (h : k ∉ keysR L) : keyE (pushR k q L) = keyE L ++ [(k.getD 0 0, k.getD 1 0)] := by rw [keyE_map, keyE_map, keys_pushR, if_neg h, List.map_append]; rfl
theorem length_pushR (k : List Int) (q : Int) : ∀ L : List KR, (pushR k q L).length ≤ L.length + 1
  | [] => by simp [pushR]
  | y :: L => by
    unfold pushR
    split
    · simp
    · have := length_pushR k q L; simp; omega
theorem putKV_length {k : List Int} {v : AV} : ∀ {ks : List (List Int)} {vs : List AV}, ks.length = vs.length → (putK ks k).length = (putV ks vs k v).length
  | [], [], _ => rfl
  | [], _ :: _, h => by cases h
  | _ :: _, [], h => by cases h
  | k' :: ks, v' :: vs, h => by
    rw [putK_cons, putV_cons]
    split
    · simpa using h
    · simpa using putKV_length (k := k) (v := v) (ks := ks) (vs := vs) (by simpa using h)
theorem inv_push {m : Msh} {L : List KR} {c : Nat} {H2 E : Heap} {es : List EntL} {l r : Nat} {k : List Int} {q : Int} (hR : RowsL H2 1 2 es) (hbox : H2[0]? = some (.blk true true 55 m.cells)) (hst : strip es = L)
    (hlist : H2[l]? = some (.blk true false 107 (cEs (keyE (pushR k q L))))) (hlen : ∀ y ∈ es, 1 ≤ y.2.2.length ∧ y.2.2.length ≤ c) (hcnt : L.length ≤ c) (hk : k.length = kwid 2 ∧ WfK k)
    (hm : E[1]? = some (.blk true true 2 (rowA (putK (keysL es) k) (putV (keysL es) (slcsL es) k (.slc r 0 (((es.find? fun y => y.1 == k).map (·.2.2.length)).getD 0 + 1) 1)))))
    (hr : E[r]? = some (.blk true false 2 (cIs ((((es.find? fun y => y.1 == k).map (·.2.2)).getD []) ++ [q])))) (hn : H2.length ≤ r)
    (hE : ∀ j, j < H2.length → j ≠ 1 → (∀ x, es.find? (fun y => y.1 == k) = some x → j ≠ x.2.1) → E[j]? = H2[j]?) : InvT m (pushR k q L) (c + 1) ⟨E, setE k r q es, l⟩ := by
  have hlt : ∀ y ∈ es, y.2.1 < H2.length := fun y hy => (List.getElem?_eq_some_iff.1 (hR.row y hy)).1
  refine ⟨?_, hR.push hk hm hr hn fun y hy hne => ?_, by rw [strip_setE, hst], ?_, fun y hy => ?_, ?_⟩
  · show E[0]? = _
    rw [hE 0 (List.getElem?_eq_some_iff.1 hbox).1 (by omega) fun x hx e => ?_]
    · exact hbox
    · have := hR.row x (find_of hx).1
      rw [← e, hbox] at this; cases this
  · refine hE _ (hlt y hy) (hR.off y hy) fun x hx e => hne ?_
    rw [inj_of_nodup (f := fun x : EntL => x.2.1) hR.apart hy (find_of hx).1 e]
    exact (find_of hx).2
  · show E[l]? = _
    rw [hE l (List.getElem?_eq_some_iff.1 hlist).1 (fun e => ?_) fun x hx e => ?_]
    · exact hlist
    · subst e; rw [hR.map] at hlist; cases hlist
    · have := hR.row x (find_of hx).1
      rw [← e, hlist] at this
      simp at this
  · rcases mem_setE hR.keys hy with ⟨g, _⟩ | rfl
    · have := hlen y g; omega
    · show 1 ≤ (_ ++ [q]).length ∧ (_ ++ [q]).length ≤ c + 1
      cases hf : es.find? (fun y => y.1 == k) with
      | none => simp
      | some x => have := hlen x (find_of hf).1; simp; omega
  · have := length_pushR k q L; omega
theorem tri_of {m : Msh} (hv : vldM m = true) {i : Nat} (h : i < m.tr.length) : ∃ a b c, m.tr[i] = [a, b, c] ∧ inB a 0 ((m.pl.length : Int) - 1) = true ∧ inB b 0 ((m.pl.length : Int) - 1) = true ∧ inB c 0 ((m.pl.length : Int) - 1) = true ∧ a ≠ b ∧ b ≠ c ∧ a ≠ c := by
  unfold vldM at hv
  simp only [Bool.and_eq_true, List.all_eq_true] at hv
  have h1 := hv.2 _ (List.getElem_mem h)
  rcases tri_cases m.tr[i] with ⟨_, e⟩ | ⟨a, b, c, e⟩
  · rw [e] at h1; cases h1
  · rw [e] at h1
    simp only [triB, Bool.and_eq_true, Bool.not_eq_true', decide_eq_false_iff_not] at h1
    exact ⟨a, b, c, e, h1.1.1.2, h1.1.2, h1.2, h1.1.1.1.1.1, h1.1.1.1.1.2, h1.1.1.1.2⟩
theorem vldM_len {m : Msh} (hv : vldM m = true) : m.pl.length ≤ 64 ∧ m.tr.length ≤ 128 := by
  unfold vldM at hv
  simp only [Bool.and_eq_true, decide_eq_true_eq] at hv
  exact hv.1
theorem keyE_nodup {L : List KR} (h : (keysR L).Nodup) (hl : ∀ k ∈ keysR L, k.length = 2) : (keyE L).Nodup := by
  rw [keyE_map]
  unfold List.Nodup at *
  rw [List.pairwise_map]
  refine h.imp_of_mem fun {a b} ha hb hne e => hne ?_
  have h1 := hl a ha
  have h2 := hl b hb
  match a, b, h1, h2 with
  | [a1, a2], [b1, b2], _, _ => simp at e; rw [e.1, e.2]
/-- All triangles of edges; the edges as they are met. -/
abbrev tbe (m : Msh) : List KR := tbeN m.tr m.tr.length
structure EdgesOk (m : Msh) (S : List Ed) : Prop where
  srt : S.Pairwise ltE
  mem : ∀ x, x ∈ S ↔ x ∈ keyE (tbe m)
  len : S.length = (keyE (tbe m)).length
theorem end_tbe {H : Heap} {es : List EntL} {l n : Nat} {c : List AV} {sl : List (Nat × AV)} {R : AV → Heap → Prop} {L : List KR} (hR : RowsL H 1 2 es) (hst : strip es = L) (hl : H[l]? = some (.blk true false 107 c)) (hc : ∀ a ∈ c, a.isPure = true) (hcn : ∀ a ∈ c, a.newB = true)
    (h2 : Go.Awp.look sl 2 = AV.mp 1) (h3 : Go.Awp.look sl 3 = AV.slc l 0 n 2) (hk : R (.tup [.mview true 2 (keysR L) (viewsR L), .slc 0 0 n 2]) [.blk true false 107 c]) : endGW Try.prog [ResultVar.tmp 2, ResultVar.tmp 3] [] R (U 57 sl) H := by
  have hll : l < H.length := (List.getElem?_eq_some_iff.1 hl).1
  have h1l : (1 : Nat) ≠ l := fun e => by subst e; rw [hR.map] at hl; cases hl
  have hks : keysL es = keysR L := by rw [keysL_strip, hst]
  refine ⟨_, _, Weak.trans (weak_freezeU (ws := viewsR L) (l1 := [(2, .mview true 2 (keysL es) (viewsR L)), (3, .slc l 0 n 2)]) (H1 := (List.replicate H.length .gone).set l (.blk true false 107 c))
    (fun q => q ≠ l) hR.map_at h1l (by rw [← hst]; simp [viewsR, strip, slcsL]) (fun q a b ha hb => ?_) (by simp) (fun q nw bx e cc hq => ?_) (by simp [h2, h3])) (weak_gc [(some l, 0)] (H' := [.blk true false 107 c]) (l' := [(2, .mview true 2 (keysL es) (viewsR L)), (3, .slc 0 0 n 2)]) ?_ ?_ ?_ ?_ ?_), ?_⟩
  · rw [← hst] at hb
    unfold slcsL at ha; unfold viewsR strip at hb
    rw [List.map_map] at hb
    rw [List.getElem?_map] at ha hb
    cases hx : es[q]? with
    | none => rw [hx] at ha; cases ha
    | some x =>
      rw [hx] at ha hb
      simp only [Option.map_some, Option.some.injEq] at ha hb
      subst ha; subst hb
      have hxm := List.mem_of_getElem? hx
      have hr := hR.row x hxm
      have hne : x.2.1 ≠ l := fun e => by rw [e, hl] at hr; simp at hr
      have := Froz.row (H := H) (F := fun q => q ≠ l) x.2.1 x.2.2.length 2 (cIs x.2.2) hr (by simp) hne
      rw [List.take_of_length_le (by simp)] at this
      exact this
  · by_cases e' : q = l
    · subst e'
      rw [List.getElem?_set_self (by simp; omega)] at hq
      cases hq
      exact ⟨hl, fun h => h rfl⟩
    · rw [List.getElem?_set_ne (fun e => e' e.symm), List.getElem?_replicate] at hq
      split at hq <;> cases hq
  · simp
  · simp
  · simp; exact hll
  · simp
  · simp [hll]
  · rw [hks]
    refine endG_keepT [(some 0, 0)] ?_ ?_ ?_ ?_ ?_ ?_ ?_ hk ?_ <;> simp
    · exact fun x hx => hcn x hx
    · intro x hx
      obtain ⟨y, _, rfl⟩ := List.mem_map.1 hx
      simp [AV.newB]
theorem c_tbe (m : Msh) (hs : m.Small) (hv : vldM m = true) {S : List Ed} (hS : EdgesOk m S) : Fun Try.prog 52 [m.av] [] (.tup [.mview true 2 (keysR (tbe m)) (viewsR (tbe m)), .slc 0 0 S.length 2]) [.blk true false 107 (cEs S)] := by
  obtain ⟨hl1, hl2⟩ := vldM_len hv
  refine FnSpec.walkW dr_ok Try.func52 rfl (by kernel_rfl) rfl rfl rfl (by simp) ?_
  simp
  simp [ofVal_map]
  refine make_r 2 Try.underlying102 ?_
  simp
  refine ⟨fun x hx => ?_, ?_⟩
  · unfold makeL at hx; simp at hx
  refine loopG_of (α := Nat × St) (fun x => x.1 ≤ m.tr.length ∧ InvT m (tbeN m.tr x.1) (3 * x.1) x.2) (fun x => m.tr.length - x.1)
    (fun x => [(15, .int .i64 x.1), (14, .int .i64 m.tr.length), (13, .view false (cRs false m.tr) m.tr.length), (4, .mp 1), (5, .slc x.2.l 0 (keyE (tbeN m.tr x.1)).length 2)])
    (fun x => x.2.H) (0, ⟨[.blk true true 55 m.cells, .blk true true 2 [], .blk true false 107 []], [], 2⟩) ⟨by simp, ⟨rfl, ⟨rfl, by simp, by simp, by simp, by simp [keysL], by simp⟩, rfl, rfl, by simp, by simp [tbeN]⟩⟩ ?_ fun x ⟨hx, hI⟩ => ?_
  · (refine weak_gc [(some 0, 0), (some 1, 0), (none, 107)] ?_ ?_ ?_ ?_ ?_ <;> simp [tbeN, keyE])
  obtain ⟨i, st⟩ := x
  simp only at hx hI ⊢
  have hw := nat_wrap (k := i) (by omega)
  by_cases b : i < m.tr.length
  · obtain ⟨a1, a2, a3, ht, ha1, ha2, ha3, hd1, hd2, hd3⟩ := tri_of hv b
    simp [b, hw]
    rw [ht]
    refine loopG_of (α := Nat × St) (fun x => x.1 ≤ 3 ∧ InvT m (tbe3 (tbeN m.tr i) [a1, a2, a3] i x.1) (3 * i + x.1) x.2) (fun x => 3 - x.1)
      (fun x => [(20, .int .i64 x.1), (6, .int .i64 i), (7, .view false (cIs [a1, a2, a3]) 3), (15, .int .i64 i), (14, .int .i64 m.tr.length), (13, .view false (cRs false m.tr) m.tr.length), (4, .mp 1), (5, .slc x.2.l 0 (keyE (tbe3 (tbeN m.tr i) [a1, a2, a3] i x.1)).length 2)])
      (fun x => x.2.H) (0, st) ⟨by simp, by simpa [tbe3] using hI⟩ ?_ fun x ⟨hx2, hI2⟩ => ?_
    · exact weak_UH rfl (by simp [tbe3])
    obtain ⟨k, ⟨H, es, l⟩⟩ := x
    simp only at hx2 hI2 ⊢
    obtain ⟨i1, i2, i3, i4, i5, i6⟩ := hI2
    simp only at i1 i2 i3 i4 i5 i6
    have hw2 := nat_wrap (k := k) (by omega)
    by_cases b2 : k < 3
    · have b3 : k < [a1, a2, a3].length := b2
      have b4 : (k : Int) < 3 := by omega
      obtain ⟨j, hj⟩ : ∃ j, (k + 1) % 3 = j := ⟨_, rfl⟩
      have hj3 : j < 3 := by omega
      have c3 : j < [a1, a2, a3].length := hj3
      have ej : ((k : Int) + 1).tmod 3 = (j : Int) := by
        rw [Int.tmod_eq_emod_of_nonneg (by omega)]; omega
      have hjI : (j : Int) < 3 := by omega
      have eEd : edAt [a1, a2, a3] k = (loI [a1, a2, a3][k] [a1, a2, a3][j], hiI [a1, a2, a3][k] [a1, a2, a3][j]) := by
        unfold edAt
        rw [hj, List.getD_eq_getElem?_getD, List.getD_eq_getElem?_getD, List.getElem?_eq_getElem b3, List.getElem?_eq_getElem c3]; rfl
      simp [b2, b3, b4, hw2, ej, hj3, hjI, c3]
      (first | refine callG_r ?_ | refine callD_r ?_); simp; (first | refine callN_flat (by with_reducible first | exact c_edgeOf _ _) rfl ?_ | refine callN_new (by with_reducible first | exact c_edgeOf _ _) ?_ | refine callM_flat (by with_reducible first | exact c_edgeOf _ _) rfl ?_ | refine callM_new (by with_reducible first | exact c_edgeOf _ _) ?_)
      generalize ha : loI [a1, a2, a3][k] [a1, a2, a3][j] = a at *
      generalize hb : hiI [a1, a2, a3][k] [a1, a2, a3][j] = b' at *
      have hA : ∀ x ∈ [a1, a2, a3], 0 ≤ x ∧ x < 64 := by
        simp [inB] at ha1 ha2 ha3
        intro x hx
        simp at hx
        rcases hx with rfl | rfl | rfl <;> omega
      have hAk := hA _ (List.getElem_mem b3)
      have hAj := hA _ (List.getElem_mem c3)
      have hwf : WfK [a, b'] := by
        intro x hx
        simp at hx
        unfold loI at ha; unfold hiI at hb
        rcases hx with rfl | rfl
        · split at ha <;> omega
        · split at hb <;> omega
      have hL : keysL es = keysR (tbe3 (tbeN m.tr i) [a1, a2, a3] i k) := by rw [keysL_strip, i3]
      have hnx : tbe3 (tbeN m.tr i) [a1, a2, a3] i (k + 1) = pushR [a, b'] i (tbe3 (tbeN m.tr i) [a1, a2, a3] i k) := by
        unfold tbe3
        rw [List.range_succ, List.foldl_append]
        simp only [List.foldl_cons, List.foldl_nil, eEd, ekey]
      generalize tbe3 (tbeN m.tr i) [a1, a2, a3] i k = L at *
      have hll : l < H.length := (List.getElem?_eq_some_iff.1 i4).1
      have hla : ∀ t : Heap, (H ++ t)[l]? = some (.blk true false 107 (cEs (keyE L))) := fun t => by rw [List.getElem?_append_left hll]; exact i4
      have hkl : (keyE L).length ≤ 384 := by simp [keyE]; omega
      simp
      refine look_r Try.underlying102 key_edge (k := [a, b']) rfl hwf zero_row (i2.at _) rfl rfl ?_
      rw [getM_ent]
      cases hf : es.find? (fun x => x.1 == [a, b']) with
      | some x =>
        obtain ⟨hx, hxk⟩ := find_of hf
        have hxl := i5 x hx
        have hx0 : ¬ x.2.2.length = 0 := by omega
        simp [hx0]
        refine entry_r Try.underlying102 key_edge (k := [a, b']) rfl hwf zero_row rfl (i2.at _) rfl rfl ?_
        rw [getM_ent, hf]
        have hx1 := i2.off x hx
        have hxH : x.2.1 < H.length := (List.getElem?_eq_some_iff.1 (i2.row x hx)).1
        have hR2 : RowsL (H ++ [Root.blk true true 107 [.int .i64 a, .int .i64 b'], Root.blk true false 2 (cIs [(i : Int)])]) 1 2 es := i2.app _
        have h2b : (H ++ [Root.blk true true 107 [.int .i64 a, .int .i64 b'], Root.blk true false 2 (cIs [(i : Int)])])[0]? = some (.blk true true 55 m.cells) := by
          rw [List.getElem?_append_left (by omega)]; exact i1
        have h2l := hla [Root.blk true true 107 [.int .i64 a, .int .i64 b'], Root.blk true false 2 (cIs [(i : Int)])]
        have h2i : (H ++ [Root.blk true true 107 [.int .i64 a, .int .i64 b'], Root.blk true false 2 (cIs [(i : Int)])])[H.length + 1]? = some (.blk true false 2 (cIs [(i : Int)])) := by simp
        have h2n : (H ++ [Root.blk true true 107 [.int .i64 a, .int .i64 b'], Root.blk true false 2 (cIs [(i : Int)])]).length = H.length + 2 := by simp
        generalize (H ++ [Root.blk true true 107 [.int .i64 a, .int .i64 b'], Root.blk true false 2 (cIs [(i : Int)])] : Heap) = H2 at *
        have hm1 : 1 < H2.length := (List.getElem?_eq_some_iff.1 hR2.map).1
        generalize hG : H2.set 1 _ = G
        have hGn : G.length = H2.length := by rw [← hG, List.length_set]
        have hGo : ∀ j, j ≠ 1 → G[j]? = H2[j]? := fun j hj => by rw [← hG, List.getElem?_set_ne (fun e => hj e.symm)]
        have hG1 : G[1]? = some (.blk true true 2 (rowA (putK (keysL es) [a, b']) (putV (keysL es) (slcsL es) [a, b'] (.slc x.2.1 0 x.2.2.length 1)))) := by rw [← hG, List.getElem?_set_self (by omega)]
        have hGx : G[x.2.1]? = some (.blk true false 2 (cIs x.2.2)) := by rw [hGo _ hx1]; exact hR2.row x hx
        have hGi : G[H.length + 1]? = some (.blk true false 2 (cIs [(i : Int)])) := by rw [hGo _ (by omega)]; exact h2i
        simp [hGx, hGi]
        refine ⟨by omega, by omega, ?_⟩
        have hxG : x.2.1 < G.length := by omega
        have hat : MapAt (G.set x.2.1 .gone ++ [.blk true false 2 (cIs (x.2.2 ++ [(i : Int)]))]) 1 true true 2 (putK (keysL es) [a, b']) (putV (keysL es) (slcsL es) [a, b'] (.slc x.2.1 0 x.2.2.length 1)) :=
          ⟨by rw [List.getElem?_append_left (by simp; omega), List.getElem?_set_ne (fun e => hx1 e), hG1], putKV_length hR2.map_at.2.1, hR2.map_at.2.2.put rfl hwf⟩
        refine estore_r idxM_lt hat rfl rfl rfl rfl ?_
        simp
        rw [putV_set hR2.map_at.2.1]
        have hin : [a, b'] ∈ keysR L := by rw [← hL, ← hxk]; exact List.mem_map.2 ⟨x, hx, rfl⟩
        generalize hE : List.set (G.set x.2.1 .gone ++ _) 1 _ = E
        have hI3 : InvT m (pushR [a, b'] i L) (3 * i + (k + 1)) ⟨E, setE [a, b'] G.length i es, l⟩ := by
          refine inv_push hR2 h2b i3 (by rw [keyE_in hin]; exact h2l) i5 i6 ⟨rfl, hwf⟩ ?_ ?_ (by omega) fun j hj hj1 hj2 => ?_
          · rw [hf, ← hE, List.getElem?_set_self (by simp; omega)]; rfl
          · rw [hf, ← hE, List.getElem?_set_ne (by omega), List.getElem?_append_right (by simp)]; simp
          · have := hj2 x hf
            rw [← hE, List.getElem?_set_ne (by omega), List.getElem?_append_left (by simp; omega), List.getElem?_set_ne (by omega), hGo _ hj1]
        refine loopK_next (k + 1, ⟨E, setE [a, b'] G.length i es, l⟩) (by simp; omega) ⟨by simp; omega, by rw [hnx]; exact hI3⟩ ?_
        refine weak_UH rfl ?_
        rw [hnx, keyE_in hin]
        simp [hw2]
      | none =>
        have mk1 : makeL 1 [AV.int .i64 0, AV.int .i64 0] = [.int .i64 0, .int .i64 0] := .trans rfl rfl
        have sp1 : splice [AV.int .i64 0, AV.int .i64 0] 0 [.int .i64 a, .int .i64 b'] = [.int .i64 a, .int .i64 b'] := .trans rfl rfl
        simp [hla, mk1, sp1]
        refine ⟨by omega, by omega, ?_⟩
        have hl1' : l ≠ 1 := fun e => by subst e; rw [i2.map] at i4; cases i4
        have hl0 : l ≠ 0 := fun e => by subst e; rw [i1] at i4; cases i4
        have hly : ∀ y ∈ es, y.2.1 ≠ l := fun y hy e => by
          have := i2.row y hy
          rw [e, i4] at this; simp at this
        have hH0 : 0 < H.length := (List.getElem?_eq_some_iff.1 i1).1
        generalize hK : (List.set (H ++ _) l Root.gone ++ _ : Heap) = H1
        have hR1 : RowsL H1 1 2 es := by rw [← hK]; exact ((i2.app _).other _ hl1' hly).app _
        have h1b : H1[0]? = some (.blk true true 55 m.cells) := by
          rw [← hK, List.getElem?_append_left (by simp), List.getElem?_set_ne hl0, List.getElem?_append_left hH0]; exact i1
        have h1e : H1[H.length]? = some (.blk true true 107 [.int .i64 a, .int .i64 b']) := by
          rw [← hK, List.getElem?_append_left (by simp), List.getElem?_set_ne (by omega)]; simp
        have h1l : H1[H.length + 2]? = some (.blk true false 107 (cEs (keyE L ++ [(a, b')]))) := by
          rw [← hK, List.getElem?_append_right (by simp)]; simp
        have h1n : H1.length = H.length + 3 := by rw [← hK]; simp
        have h1e' : ∀ t : Heap, (H1 ++ t)[H.length]? = some (.blk true true 107 [.int .i64 a, .int .i64 b']) := fun t => by rw [List.getElem?_append_left (by omega)]; exact h1e
        simp [h1e, h1e']
        refine entry_r Try.underlying102 key_edge (k := [a, b']) rfl hwf zero_row rfl (hR1.at _) rfl rfl ?_
        rw [getM_ent, hf]
        have hR2 : RowsL (H1 ++ [Root.blk true false 2 (cIs [(i : Int)])]) 1 2 es := hR1.app _
        have h2b : (H1 ++ [Root.blk true false 2 (cIs [(i : Int)])])[0]? = some (.blk true true 55 m.cells) := by
          rw [List.getElem?_append_left (by omega)]; exact h1b
        have h2l : (H1 ++ [Root.blk true false 2 (cIs [(i : Int)])])[H.length + 2]? = some (.blk true false 107 (cEs (keyE L ++ [(a, b')]))) := by
          rw [List.getElem?_append_left (by omega)]; exact h1l
        have h2i : (H1 ++ [Root.blk true false 2 (cIs [(i : Int)])])[H1.length]? = some (.blk true false 2 (cIs [(i : Int)])) := by simp
        have h2n : (H1 ++ [Root.blk true false 2 (cIs [(i : Int)])]).length = H1.length + 1 := by simp
        generalize (H1 ++ [Root.blk true false 2 (cIs [(i : Int)])] : Heap) = H2 at *
        have hm1 : 1 < H2.length := (List.getElem?_eq_some_iff.1 hR2.map).1
        generalize hG : H2.set 1 _ = G
        have hGn : G.length = H2.length := by rw [← hG, List.length_set]
        have hGo : ∀ j, j ≠ 1 → G[j]? = H2[j]? := fun j hj => by rw [← hG, List.getElem?_set_ne (fun e => hj e.symm)]
        have hG1 : G[1]? = some (.blk true true 2 (rowA (putK (keysL es) [a, b']) (putV (keysL es) (slcsL es) [a, b'] .nils))) := by rw [← hG, List.getElem?_set_self (by omega)]
        have hGi : G[H1.length]? = some (.blk true false 2 (cIs [(i : Int)])) := by rw [hGo _ (by omega)]; exact h2i
        simp [hGi]
        have hat : MapAt (G ++ [.blk true false 2 (cIs [(i : Int)])]) 1 true true 2 (putK (keysL es) [a, b']) (putV (keysL es) (slcsL es) [a, b'] .nils) :=
          ⟨by rw [List.getElem?_append_left (by omega), hG1], putKV_length hR2.map_at.2.1, hR2.map_at.2.2.put rfl hwf⟩
        refine estore_r idxM_lt hat rfl rfl rfl rfl ?_
        simp
        rw [putV_set hR2.map_at.2.1]
        have hout : [a, b'] ∉ keysR L := by
          rw [← hL]
          intro h
          obtain ⟨x, hx, e⟩ := List.mem_map.1 h
          have := List.find?_eq_none.1 hf x hx
          simp at this
          exact this e
        have hko : keyE (pushR [a, b'] i L) = keyE L ++ [(a, b')] := by rw [keyE_out hout]; rfl
        generalize hE : List.set (G ++ _) 1 _ = E
        have hI3 : InvT m (pushR [a, b'] i L) (3 * i + (k + 1)) ⟨E, setE [a, b'] G.length i es, H.length + 2⟩ := by
          refine inv_push hR2 h2b i3 (by rw [hko]; exact h2l) i5 i6 ⟨rfl, hwf⟩ ?_ ?_ (by omega) fun j hj hj1 hj2 => ?_
          · rw [hf, ← hE, List.getElem?_set_self (by simp; omega)]; rfl
          · rw [hf, ← hE, List.getElem?_set_ne (by omega), List.getElem?_append_right (by simp)]; simp
          · rw [← hE, List.getElem?_set_ne (by omega), List.getElem?_append_left (by omega), hGo _ hj1]
        refine loopK_next (k + 1, ⟨E, setE [a, b'] G.length i es, H.length + 2⟩) (by simp; omega) ⟨by simp; omega, by rw [hnx]; exact hI3⟩ ?_
        refine weak_UH rfl ?_
        rw [hnx, hko]
        simp [hw2]
    · obtain rfl : k = 3 := by omega
      simp [hw]
      have hnx : tbeN m.tr (i + 1) = tbe3 (tbeN m.tr i) [a1, a2, a3] i 3 := by
        unfold tbeN
        rw [List.range_succ, List.foldl_append]
        simp only [List.foldl_cons, List.foldl_nil]
        rw [List.getD_eq_getElem?_getD, List.getElem?_eq_getElem b, Option.getD_some, ht]
      refine loopK_next (i + 1, ⟨H, es, l⟩) (by simp; omega) ⟨by simp; omega, by rw [hnx]; exact ⟨i1, i2, i3, i4, i5, i6⟩⟩ ?_
      refine weak_UH rfl ?_
      rw [hnx]
      simp [hw]
  · obtain rfl : i = m.tr.length := by omega
    simp
    obtain ⟨i1, i2, i3, i4, i5, i6⟩ := hI
    obtain ⟨H, es, l⟩ := st
    simp only at i1 i2 i3 i4 i5 i6
    change strip es = tbe m at i3
    change H[l]? = some (.blk true false 107 (cEs (keyE (tbe m)))) at i4
    change (tbe m).length ≤ _ at i6
    have hnd : (keyE (tbe m)).Nodup := by
      have hk : keysR (tbe m) = keysL es := by rw [keysL_strip, i3]
      refine keyE_nodup (by rw [hk]; exact i2.keys) fun k hk' => ?_
      rw [hk] at hk'
      obtain ⟨x, hx, rfl⟩ := List.mem_map.1 hk'
      exact (i2.wf x hx).1
    have hkl : (keyE (tbe m)).length ≤ 384 := by simp [keyE]; omega
    have hT : tbeN m.tr m.tr.length = tbe m := rfl
    by_cases hz : keyE (tbe m) = []
    · have hS0 : S = [] := List.eq_nil_of_length_eq_zero (by rw [hS.len, hz]; rfl)
      subst hS0
      rw [hz] at i4
      simp only [hT, hz]
      refine callG_r ?_
      simp [i4]
      refine callN_fun c_sort0 (by simp) ?_
      simp
      refine end_tbe i2 i3 i4 (by simp) (by simp) (by simp) (by simp [hT, hz]) ⟨rfl, rfl⟩
    · simp only [hT]
      refine callG_on true [l] ?_
      simp [i4, liveB, restr, pasH]
      refine callN_fun (c_sort hnd (by omega) hz hS.srt hS.mem) (by simp) ?_
      simp [i4, mergeH]
      have hll : l < H.length := (List.getElem?_eq_some_iff.1 i4).1
      refine end_tbe (n := S.length) (i2.other _ (fun e => ?_) fun y hy e => ?_) i3 (List.getElem?_set_self hll) (by simp) (by simp) (by simp) (by simp [hT, hS.len]) ⟨rfl, rfl⟩
      · subst e; rw [i2.map] at i4; cases i4
      · have := i2.row y hy
        rw [e, i4] at this; simp at this
end Go.Proofs.Ytnpflgeenecaeaa
