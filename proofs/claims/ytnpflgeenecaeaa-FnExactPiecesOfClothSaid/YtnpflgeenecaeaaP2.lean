/- Contracts: the pieces of a cloth, as the program reckons them.
Conditions: none. -/
import Derived.Test.YtnpflgeenecaeaaK2
import Derived.Test.YtnpflgeenecaeaaP1
namespace Go.Proofs.Ytnpflgeenecaeaa
set_option linter.all false
open Go Go.Awp
set_option maxRecDepth 100000
set_option maxHeartbeats 4000000
set_option pp.deepTerms true

-- roots behind others
@[simp] theorem app_at (H t : Heap) : (H ++ t)[H.length]? = t[0]? := by rw [List.getElem?_append_right (Nat.le_refl _), Nat.sub_self]
@[simp] theorem app_atk (H t : Heap) (k : Nat) : (H ++ t)[H.length + k]? = t[k]? := by rw [List.getElem?_append_right (by omega), Nat.add_sub_cancel_left]
@[simp] theorem app_set (H t : Heap) (x : Root) : (H ++ t).set H.length x = H ++ t.set 0 x := by simp
@[simp] theorem app_setk (H t : Heap) (k : Nat) (x : Root) : (H ++ t).set (H.length + k) x = H ++ t.set k x := by simp
@[simp] theorem app_take (H t : Heap) (k : Nat) : (H ++ t).take (H.length + k) = H ++ t.take k := List.take_length_add_append k
@[simp] theorem app_take0 (H t : Heap) : (H ++ t).take H.length = H := List.take_left
theorem setL_app {H t : Heap} {r : Nat} (x : Root) (h : r < H.length) : setL (H ++ t) r x = setL H r x ++ t := by
  apply List.ext_getElem?
  intro j
  rw [setL_get, List.getElem?_append, List.getElem?_append, setL_get, setL_length]
  by_cases c : j < H.length
  · rw [if_pos c, if_pos c]
  · rw [if_neg c, if_neg c, if_neg (by omega)]
theorem setL_app2 {H t : Heap} (k : Nat) (x : Root) : setL (H ++ t) (H.length + k) x = H ++ setL t k x := by
  apply List.ext_getElem?
  intro j
  rw [setL_get, List.getElem?_append, List.getElem?_append, setL_get]
  by_cases c : j < H.length
  · rw [if_pos c, if_pos c, if_neg (by omega)]
  · rw [if_neg c, if_neg c]
    by_cases c2 : j = H.length + k
    · rw [if_pos c2, if_pos (by omega)]
    · rw [if_neg c2, if_neg (by omega)]
@[simp] theorem setL_appk (H t : Heap) (k : Nat) (x : Root) : setL (H ++ t) (H.length + k) x = H ++ setL t k x := setL_app2 k x
@[simp] theorem setL_app0 (H t : Heap) (x : Root) : setL (H ++ t) H.length x = H ++ setL t 0 x := setL_app2 0 x

/-- Entries of a map of rows: the key, the row's root, the row. -/
abbrev Ent := Int × Nat × List Int
def entK (es : List Ent) : List (List Int) := es.map fun x => [x.1]
def entS (es : List Ent) : List AV := es.map fun x => .slc x.2.1 0 x.2.2.length 1
def entW (es : List Ent) : List AV := es.map fun x => .view true (cIs x.2.2) x.2.2.length
structure Rows (H : Heap) (m : Nat) (es : List Ent) : Prop where
  map : H[m]? = some (.blk true true 0 (rowA (entK es) (entS es)))
  row : ∀ x ∈ es, H[x.2.1]? = some (.blk true false 2 (cIs x.2.2))
  off : ∀ x ∈ es, x.2.1 ≠ m
  apart : (es.map (·.2.1)).Nodup
  keys : (es.map (·.1)).Nodup
  wf : ∀ x ∈ es, I64 x.1
def rowOf (es : List Ent) (p : Int) : List Int := ((es.find? fun x => x.1 == p).map (·.2.2)).getD []
abbrev cloB (c : Clo) : Root := .blk true true 33 [.view false (cVs c.pl) c.pl.length, .view false (cVs c.ol) c.ol.length, .view false (cTs c.th) c.th.length, .view false (cIs c.pin) c.pin.length]
structure Inv1 (c : Clo) (x : Nat × Heap × List Ent) : Prop where
  le : x.1 ≤ c.th.length
  box : x.2.1[0]? = some (cloB c)
  rows : Rows x.2.1 1 x.2.2
  adj : ∀ p, rowOf x.2.2 p = adj (c.th.take x.1) p
theorem List.nodup_map_of_inj {α β : Type} {l : List α} (f : α → β) (hf : ∀ a b, f a = f b → a = b) (h : l.Nodup) : (l.map f).Nodup := by
  unfold List.Nodup at *
  rw [List.pairwise_map]
  exact h.imp fun hne e => hne (hf _ _ e)
theorem getM_ent : ∀ (es : List Ent) (p : Int), getM (entK es) (entS es) [p] .nils = match es.find? (fun x => x.1 == p) with
    | some x => .slc x.2.1 0 x.2.2.length 1
    | none => .nils
  | [], p => rfl
  | x :: es, p => by
    show (if [x.1] = [p] then _ else getM (entK es) (entS es) [p] .nils) = _
    by_cases c : x.1 = p
    · subst c; simp
    · simp [c, getM_ent es p]
theorem getM_entW : ∀ (es : List Ent) (p : Int), getM (entK es) (entW es) [p] .nils = match es.find? (fun x => x.1 == p) with
    | some x => .view true (cIs x.2.2) x.2.2.length
    | none => .nils
  | [], p => rfl
  | x :: es, p => by
    show (if [x.1] = [p] then _ else getM (entK es) (entW es) [p] .nils) = _
    by_cases c : x.1 = p
    · subst c; simp
    · simp [c, getM_entW es p]
theorem Rows.at {H : Heap} {m : Nat} {es : List Ent} (h : Rows H m es) (t : Heap) : MapAt (H ++ t) m true true 0 (entK es) (entS es) := by
  have hl := (List.getElem?_eq_some_iff.1 h.map).1
  refine ⟨by rw [List.getElem?_append_left hl]; exact h.map, by simp [entK, entS], ⟨fun k hk => ?_, fun k hk => ?_, ?_⟩⟩
  · obtain ⟨x, _, rfl⟩ := List.mem_map.1 hk; rfl
  · obtain ⟨x, hx, rfl⟩ := List.mem_map.1 hk
    intro y hy
    rw [List.mem_singleton.1 hy]
    have := h.wf x hx
    unfold I64 at this; omega
  · have : entK es = (es.map (·.1)).map fun x => [x] := by simp [entK]
    rw [this]
    exact List.nodup_map_of_inj _ (fun a b e => by simpa using e) h.keys
theorem map_key : KeyOk Try.prog 2 0 := keyOk_int Try.underlying2
theorem zero_row : zeroOne Try.prog 24 = some .nils := by kernel_rfl

def updE (p : Int) (r : Nat) (q : Int) (es : List Ent) : List Ent := es.map fun y => if y.1 = p then (p, r, y.2.2 ++ [q]) else y
theorem updE_id {p : Int} {r : Nat} {q : Int} : ∀ {es : List Ent}, (∀ y ∈ es, y.1 ≠ p) → updE p r q es = es
  | [], _ => rfl
  | y :: es, h => by
    show (if y.1 = p then _ else y) :: updE p r q es = _
    rw [if_neg (h y (List.mem_cons_self ..)), updE_id fun z hz => h z (List.mem_cons_of_mem _ hz)]
theorem entK_cons (y : Ent) (es : List Ent) : entK (y :: es) = [y.1] :: entK es := rfl
theorem entS_cons (y : Ent) (es : List Ent) : entS (y :: es) = .slc y.2.1 0 y.2.2.length 1 :: entS es := rfl
theorem updE_cons (p : Int) (r : Nat) (q : Int) (y : Ent) (es : List Ent) : updE p r q (y :: es) = (if y.1 = p then (p, r, y.2.2 ++ [q]) else y) :: updE p r q es := rfl
theorem putK_cons (k' k : List Int) (ks : List (List Int)) : putK (k' :: ks) k = if k' = k then k' :: ks else k' :: putK ks k := rfl
theorem putV_cons (k' k : List Int) (ks : List (List Int)) (v' v : AV) (vs : List AV) : putV (k' :: ks) (v' :: vs) k v = if k' = k then v :: vs else v' :: putV ks vs k v := rfl
theorem inj_of_nodup {α β : Type} {f : α → β} : ∀ {l : List α}, (l.map f).Nodup → ∀ {a b : α}, a ∈ l → b ∈ l → f a = f b → a = b
  | [], _, a, _, ha, _, _ => by simp at ha
  | x :: l, h, a, b, ha, hb, e => by
    have h' : f x ∉ l.map f ∧ (l.map f).Nodup := by simpa using h
    by_cases ca : a = x
    · by_cases cb : b = x
      · rw [ca, cb]
      · exact absurd (List.mem_map.2 ⟨b, (List.mem_cons.1 hb).resolve_left cb, by rw [← e, ca]⟩) h'.1
    · by_cases cb : b = x
      · exact absurd (List.mem_map.2 ⟨a, (List.mem_cons.1 ha).resolve_left ca, by rw [e, cb]⟩) h'.1
      · exact inj_of_nodup h'.2 ((List.mem_cons.1 ha).resolve_left ca) ((List.mem_cons.1 hb).resolve_left cb) e
theorem put_upd {p : Int} {r : Nat} {q : Int} : ∀ {es : List Ent} {x : Ent}, (es.map (·.1)).Nodup → es.find? (fun y => y.1 == p) = some x →
    putK (entK es) [p] = entK (updE p r q es) ∧ putV (entK es) (entS es) [p] (.slc r 0 (x.2.2.length + 1) 1) = entS (updE p r q es)
  | [], x, _, h => by simp at h
  | y :: es, x, hn, h => by
    have hn' : y.1 ∉ es.map (·.1) ∧ (es.map (·.1)).Nodup := by simpa using hn
    rw [entK_cons, entS_cons, updE_cons, putK_cons, putV_cons]
    by_cases c : y.1 = p
    · rw [List.find?_cons_of_pos (by simpa using c)] at h
      cases h
      have hid : updE p r q es = es := updE_id fun z hz e => hn'.1 (List.mem_map.2 ⟨z, hz, by rw [e, c]⟩)
      have c' : [y.1] = [p] := by rw [c]
      rw [hid, if_pos c', if_pos c', if_pos c, entK_cons, entS_cons]
      exact ⟨by rw [c], by simp⟩
    · rw [List.find?_cons_of_neg (by simpa using c)] at h
      obtain ⟨g1, g2⟩ := put_upd (r := r) (q := q) hn'.2 h
      have c' : ¬ [y.1] = [p] := fun e => c (by simpa using e)
      rw [if_neg c', if_neg c', if_neg c, entK_cons, entS_cons, g1, g2]
      exact ⟨rfl, rfl⟩
theorem put_add {p : Int} {r : Nat} {q : Int} : ∀ {es : List Ent}, es.find? (fun y => y.1 == p) = none →
    putK (entK es) [p] = entK (es ++ [(p, r, [q])]) ∧ putV (entK es) (entS es) [p] (.slc r 0 1 1) = entS (es ++ [(p, r, [q])])
  | [], _ => ⟨rfl, rfl⟩
  | y :: es, h => by
    have c : ¬ y.1 = p := by simpa using List.find?_eq_none.1 h y (List.mem_cons_self ..)
    rw [List.find?_cons_of_neg (by simpa using c)] at h
    obtain ⟨g1, g2⟩ := put_add (r := r) (q := q) h
    have c' : ¬ [y.1] = [p] := fun e => c (by simpa using e)
    rw [List.cons_append, entK_cons, entS_cons, entK_cons, entS_cons, putK_cons, putV_cons, if_neg c', if_neg c', g1, g2]
    exact ⟨rfl, rfl⟩
theorem find_upd {p z : Int} {r : Nat} {q : Int} : ∀ {es : List Ent}, (updE p r q es).find? (fun y => y.1 == z) = (es.find? (fun y => y.1 == z)).map fun y => if y.1 = p then (p, r, y.2.2 ++ [q]) else y
  | [] => rfl
  | y :: es => by
    have key : (if y.1 = p then (p, r, y.2.2 ++ [q]) else y).1 = y.1 := by split <;> simp_all
    show ((if y.1 = p then (p, r, y.2.2 ++ [q]) else y) :: updE p r q es).find? _ = _
    rw [List.find?_cons, List.find?_cons, key]
    cases y.1 == z with
    | true => rfl
    | false => exact find_upd
theorem map_laid {H : Heap} {r q : Nat} {nw bx : Bool} {e : Nat} {ks : List (List Int)} {vs : List AV} {x : Root} (h : MapAt H r nw bx e ks vs) (hne : r ≠ q) : MapAt (setL H q x) r nw bx e ks vs :=
  ⟨by rw [setL_get, if_neg hne]; exact h.1, h.2⟩
theorem map_liv {H : Heap} {r : Nat} {nw bx : Bool} {e : Nat} {ks : List (List Int)} {vs : List AV} (h : MapAt H r nw bx e ks vs) : Go.Awp.liv H[r]? = true := by
  rw [h.1]; rfl
/-- What is known behind an entry's new row. -/
structure Pushed (c : Clo) (H t H' : Heap) (es es' : List Ent) (p q : Int) : Prop where
  rows : Rows H' 1 es'
  row : ∀ z, rowOf es' z = if z = p then rowOf es z ++ [q] else rowOf es z
  box : H'[0]? = some (cloB c)
  at_ : ∀ i, H'[H.length + i]? = t[i]?
  len : H'.length = H.length + t.length
theorem push_upd {c : Clo} {H t : Heap} {es : List Ent} {p q : Int} {x : Ent} {j : Nat} (hR : Rows H 1 es) (hb : H[0]? = some (cloB c)) (hf : es.find? (fun y => y.1 == p) = some x) (ht : t[j]? = some (.blk true false 2 (cIs (x.2.2 ++ [q])))) :
    ∃ es', Pushed c H t (setL (setL (H ++ t) x.2.1 .gone) 1 (.blk true true 0 (rowA (putK (entK es) [p]) (putV (entK es) (entS es) [p] (.slc (H.length + j) 0 (x.2.2.length + 1) 1))))) es es' p q := by
  have hx := List.mem_of_find?_eq_some hf
  have hxp : x.1 = p := by simpa using List.find?_some hf
  have hl := (List.getElem?_eq_some_iff.1 hR.map).1
  have hxl := (List.getElem?_eq_some_iff.1 (hR.row x hx)).1
  have hx1 := hR.off x hx
  have get : ∀ i, i ≠ 1 → i ≠ x.2.1 → (setL (setL (H ++ t) x.2.1 .gone) 1 (.blk true true 0 (rowA (putK (entK es) [p]) (putV (entK es) (entS es) [p] (.slc (H.length + j) 0 (x.2.2.length + 1) 1)))))[i]? = (H ++ t)[i]? := fun i h1 h2 => by
    rw [setL_get, if_neg h1, setL_get, if_neg h2]
  have hx0 : x.2.1 ≠ 0 := fun e => by
    have := hR.row x hx
    rw [e, hb] at this; cases this
  obtain ⟨g1, g2⟩ := put_upd (r := H.length + j) (q := q) hR.keys hf
  have kz : ∀ y ∈ es, y.1 ≠ p → y.2.1 ≠ x.2.1 := fun y hy hne e => hne (by rw [inj_of_nodup (f := fun x : Ent => x.2.1) hR.apart hy hx e, hxp])
  refine ⟨updE p (H.length + j) q es, ⟨?_, fun y hy => ?_, fun y hy => ?_, ?_, ?_, fun y hy => ?_⟩, fun z => ?_, ?_, fun i => ?_, by simp [setL_length]⟩
  · rw [setL_get, if_pos rfl, setL_get, if_neg (fun e => hx1 e.symm), List.getElem?_append_left hl, hR.map, g1, g2]; rfl
  · obtain ⟨y0, hy0, rfl⟩ := List.mem_map.1 hy
    by_cases e : y0.1 = p
    · have : y0 = x := inj_of_nodup (f := fun x : Ent => x.1) hR.keys hy0 hx (by rw [e, hxp])
      subst this
      rw [if_pos e]
      show (_ : Heap)[H.length + j]? = some (Root.blk true false 2 (cIs (y0.2.2 ++ [q])))
      rw [get _ (by omega) (by omega), List.getElem?_append_right (by omega), Nat.add_sub_cancel_left]; exact ht
    · rw [if_neg e, get _ (hR.off y0 hy0) (kz y0 hy0 e), List.getElem?_append_left (List.getElem?_eq_some_iff.1 (hR.row y0 hy0)).1]
      exact hR.row y0 hy0
  · obtain ⟨y0, hy0, rfl⟩ := List.mem_map.1 hy
    split
    · show H.length + j ≠ 1; omega
    · exact hR.off y0 hy0
  · unfold List.Nodup updE
    rw [List.map_map, List.pairwise_map]
    have hpw : es.Pairwise fun a b => a.2.1 ≠ b.2.1 := by have := hR.apart; unfold List.Nodup at this; rwa [List.pairwise_map] at this
    have hpk : es.Pairwise fun a b => a.1 ≠ b.1 := by have := hR.keys; unfold List.Nodup at this; rwa [List.pairwise_map] at this
    refine ((hpw.and hpk).imp_of_mem fun {a b} ha hb' hab => ?_)
    have la := (List.getElem?_eq_some_iff.1 (hR.row a ha)).1
    have lb := (List.getElem?_eq_some_iff.1 (hR.row b hb')).1
    show (if a.1 = p then (p, H.length + j, a.2.2 ++ [q]) else a).2.1 ≠ (if b.1 = p then (p, H.length + j, b.2.2 ++ [q]) else b).2.1
    by_cases e1 : a.1 = p
    · by_cases e2 : b.1 = p
      · exact absurd (e1.trans e2.symm) hab.2
      · rw [if_pos e1, if_neg e2]; show H.length + j ≠ _; omega
    · by_cases e2 : b.1 = p
      · rw [if_neg e1, if_pos e2]; show _ ≠ H.length + j; omega
      · rw [if_neg e1, if_neg e2]; exact hab.1
  · have : (updE p (H.length + j) q es).map (·.1) = es.map (·.1) := by
      unfold updE
      rw [List.map_map]
      refine List.map_congr_left fun y _ => ?_
      show (if y.1 = p then _ else y).1 = y.1
      split <;> simp_all
    rw [this]; exact hR.keys
  · obtain ⟨y0, hy0, rfl⟩ := List.mem_map.1 hy
    split
    · rename_i e; show I64 p; rw [← e]; exact hR.wf y0 hy0
    · exact hR.wf y0 hy0
  · unfold rowOf
    rw [find_upd]
    by_cases e : z = p
    · subst e
      rw [if_pos rfl, hf]
      simp [hxp]
    · rw [if_neg e]
      cases h : es.find? (fun y => y.1 == z) with
      | none => rfl
      | some y =>
        have : y.1 = z := by simpa using List.find?_some h
        simp only [Option.map_some, Option.getD_some]
        rw [if_neg (by rw [this]; exact e)]
  · rw [get 0 (by omega) (fun e => hx0 e.symm), List.getElem?_append_left (by omega)]; exact hb
  · rw [get _ (by omega) (by omega), List.getElem?_append_right (by omega), Nat.add_sub_cancel_left]
theorem push_add {c : Clo} {H t : Heap} {es : List Ent} {p q : Int} {j : Nat} (hR : Rows H 1 es) (hb : H[0]? = some (cloB c)) (hp : I64 p) (hf : es.find? (fun y => y.1 == p) = none) (ht : t[j]? = some (.blk true false 2 (cIs [q]))) :
    ∃ es', Pushed c H t (setL (H ++ t) 1 (.blk true true 0 (rowA (putK (entK es) [p]) (putV (entK es) (entS es) [p] (.slc (H.length + j) 0 1 1))))) es es' p q := by
  have hl := (List.getElem?_eq_some_iff.1 hR.map).1
  have get : ∀ i, i ≠ 1 → (setL (H ++ t) 1 (.blk true true 0 (rowA (putK (entK es) [p]) (putV (entK es) (entS es) [p] (.slc (H.length + j) 0 1 1)))))[i]? = (H ++ t)[i]? := fun i h1 => by
    rw [setL_get, if_neg h1]
  have hno : ∀ y ∈ es, y.1 ≠ p := fun y hy => by simpa using List.find?_eq_none.1 hf y hy
  obtain ⟨g1, g2⟩ := put_add (r := H.length + j) (q := q) hf
  refine ⟨es ++ [(p, H.length + j, [q])], ⟨?_, fun y hy => ?_, fun y hy => ?_, ?_, ?_, fun y hy => ?_⟩, fun z => ?_, ?_, fun i => ?_, by simp [setL_length]⟩
  · rw [setL_get, if_pos rfl, List.getElem?_append_left hl, hR.map, g1, g2]; rfl
  · rcases List.mem_append.1 hy with h | h
    · rw [get _ (hR.off y h), List.getElem?_append_left (List.getElem?_eq_some_iff.1 (hR.row y h)).1]; exact hR.row y h
    · rw [List.mem_singleton.1 h]
      show (_ : Heap)[H.length + j]? = _
      rw [get _ (by omega), List.getElem?_append_right (by omega), Nat.add_sub_cancel_left]; exact ht
  · rcases List.mem_append.1 hy with h | h
    · exact hR.off y h
    · rw [List.mem_singleton.1 h]; show H.length + j ≠ 1; omega
  · rw [List.map_append, List.nodup_append]
    refine ⟨hR.apart, by simp, fun a ha b hb' => ?_⟩
    obtain ⟨y, hy, rfl⟩ := List.mem_map.1 ha
    have := (List.getElem?_eq_some_iff.1 (hR.row y hy)).1
    simp at hb'; subst hb'; omega
  · rw [List.map_append, List.nodup_append]
    refine ⟨hR.keys, by simp, fun a ha b hb' => ?_⟩
    obtain ⟨y, hy, rfl⟩ := List.mem_map.1 ha
    simp at hb'; subst hb'; exact hno y hy
  · rcases List.mem_append.1 hy with h | h
    · exact hR.wf y h
    · rw [List.mem_singleton.1 h]; exact hp
  · unfold rowOf
    rw [List.find?_append]
    by_cases e : z = p
    · subst e
      rw [if_pos rfl, hf]; simp
    · rw [if_neg e]
      have e' : ¬ p = z := fun h => e h.symm
      cases es.find? (fun y => y.1 == z) with
      | none => simp [List.find?_cons_of_neg, e']
      | some y => rfl
  · rw [get 0 (by omega), List.getElem?_append_left (by omega)]; exact hb
  · rw [get _ (by omega), List.getElem?_append_right (by omega), Nat.add_sub_cancel_left]
theorem adj_take {th : List Th} {k : Nat} (h : k < th.length) (p : Int) : adj (th.take (k + 1)) p = adj (th.take k) p ++ adj1 th[k] p := by
  unfold adj
  rw [← List.take_append_getElem h, List.flatMap_append]; simp
end Go.Proofs.Ytnpflgeenecaeaa
