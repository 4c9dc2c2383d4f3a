/- Maps of the call's own and maps that nobody changes: made, looked into, written, on abstract values.
Conditions: none. -/
import Derived.Test.YtbjfkhjckfodbaaApd
import Derived.Maps.Keyed
import Derived.WideKeyArr
namespace Go.Awp
set_option linter.all false
open Go

def WfK (k : List Int) : Prop := ∀ x ∈ k, -9223372036854775808 ≤ x ∧ x < 9223372036854775808
/-- Keys of a type. -/
structure KeyOk (P : Program) (kt : TypeId) (e : Nat) : Prop where
  law : Maps.Keyed P kt
  lit : ∀ k : List Int, k.length = kwid e → WfK k → ∃ l, keyOf P kt (keyV e k) = some l
def keyA (e : Nat) (k : List Int) : AV := if e = 0 then .int .i64 (k.headD 0) else .agg (k.map (AV.int .i64))
def rowA : List (List Int) → List AV → List AV
  | k :: ks, v :: vs => k.map (AV.int .i64) ++ v :: rowA ks vs
  | _, _ => []
def getM : List (List Int) → List AV → List Int → AV → AV
  | k' :: ks, v :: vs, k, z => if k' = k then v else getM ks vs k z
  | _, _, _, z => z
def putK : List (List Int) → List Int → List (List Int)
  | k' :: ks, k => if k' = k then k' :: ks else k' :: putK ks k
  | [], k => [k]
def putV : List (List Int) → List AV → List Int → AV → List AV
  | k' :: ks, v' :: vs, k, v => if k' = k then v :: vs else v' :: putV ks vs k v
  | _, _, _, v => [v]
def idxM : List (List Int) → List Int → Nat
  | k' :: ks, k => if k' = k then 0 else idxM ks k + 1
  | [], _ => 0
structure KeysOk (e : Nat) (ks : List (List Int)) : Prop where
  len : ∀ k ∈ ks, k.length = kwid e
  wf : ∀ k ∈ ks, WfK k
  nodup : ks.Nodup

theorem keyV_inj {e : Nat} {k k' : List Int} (h : k.length = kwid e) (h' : k'.length = kwid e) (hv : keyV e k = keyV e k') : k = k' := by
  unfold keyV at hv
  unfold kwid at h h'
  by_cases c : e = 0
  · rw [if_pos c] at h h'
    rw [if_pos c, if_pos c] at hv
    obtain ⟨a, rfl⟩ := List.length_eq_one_iff.1 h
    obtain ⟨b, rfl⟩ := List.length_eq_one_iff.1 h'
    have : a = b := by injection hv
    rw [this]
  · rw [if_neg c, if_neg c] at hv
    have h1 : (k.map (Value.int .i64)).toArray = (k'.map (Value.int .i64)).toArray := by injection hv
    have h2 := congrArg Array.toList h1
    simp only at h2
    exact List.map_inj_right (fun x y h => by injection h) |>.1 h2
theorem rel_keyA {w : World} {E : Env} {e : Nat} {k : List Int} {v : Value} (h : VRel w E (keyA e k) v) : v = keyV e k := by
  unfold keyA at h; unfold keyV
  split at h
  · rename_i c; rw [if_pos c]; cases h; rfl
  · rename_i c; rw [if_neg c]
    cases h with
    | agg _ vs h1 h2 h3 =>
      have key : vs = (k.map (Value.int .i64)).toArray := by
       apply Array.ext_getElem?
       intro i
       have et : (k.map (Value.int .i64)).toArray[i]? = (k[i]?).map (Value.int .i64) := by simp
       rw [et]
       cases hi : k[i]? with
       | none =>
         have : k.length ≤ i := List.getElem?_eq_none_iff.1 hi
         rw [Array.getElem?_eq_none (by simp at h1; omega)]; rfl
       | some x =>
         have hlt := (List.getElem?_eq_some_iff.1 hi).1
         have hv : vs[i]? = some (vs[i]'(by simp at h1; omega)) := Array.getElem?_eq_getElem (by simp at h1; omega)
         have := h3 i (.int .i64 x) _ (by rw [List.getElem?_map, hi]; rfl) hv
         rw [hv]
         generalize vs[i]'(by simp at h1; omega) = u at this
         cases this; rfl
      rw [key]
theorem entL_get (e : Nat) : ∀ (ks : List (List Int)) (us : List Value) (i j : Nat), ks.length = us.length → (entL e i ks us)[j]? = (ks[j]?).bind fun k => (us[j]?).map fun u => { key := keyV e k, val := u, born := i + j }
  | [], [], i, j, _ => by simp [entL]
  | k :: ks, u :: us, i, 0, _ => by simp [entL]
  | k :: ks, u :: us, i, j + 1, h => by
    simp only [entL, List.getElem?_cons_succ]
    rw [entL_get e ks us (i + 1) j (by simpa using h)]
    have : i + 1 + j = i + (j + 1) := by omega
    rw [this]
  | [], _ :: _, _, _, h => by cases h
  | _ :: _, [], _, _, h => by cases h
theorem entL_length (e : Nat) : ∀ (ks : List (List Int)) (us : List Value) (i : Nat), ks.length = us.length → (entL e i ks us).length = ks.length
  | [], [], i, _ => rfl
  | k :: ks, u :: us, i, h => by simp only [entL, List.length_cons]; rw [entL_length e ks us (i + 1) (by simpa using h)]
  | [], _ :: _, _, h => by cases h
  | _ :: _, [], _, h => by cases h
/-- Cells that stand for a map's row tell its keys. -/
theorem row_match {w : World} {E : Env} {e : Nat} : ∀ {ks : List (List Int)} {vs : List AV} {ks' : List (List Int)} {us : List Value}, ks.length = vs.length → ks'.length = us.length → (∀ k ∈ ks, k.length = kwid e) → (∀ k ∈ ks', k.length = kwid e) →
    (rowA ks vs).length = (rowV ks' us).length → (∀ (i : Nat) a, (rowA ks vs)[i]? = some a → ∃ v, (rowV ks' us)[i]? = some v ∧ v.oneCell' = true ∧ VRel w E a v) →
    ks = ks' ∧ (∀ (j : Nat) a u, vs[j]? = some a → us[j]? = some u → u.oneCell' = true ∧ VRel w E a u)
  | [], [], [], [], _, _, _, _, _, _ => ⟨rfl, fun j a u h => by simp at h⟩
  | [], [], k' :: ks', u :: us, _, _, _, _, hl, _ => by simp [rowA, rowV] at hl
  | k :: ks, v :: vs, [], [], _, _, _, _, hl, _ => by simp [rowA, rowV] at hl
  | k :: ks, v :: vs, k' :: ks', u :: us, h1, h2, h3, h4, hl, hr => by
    have l1 := h3 k (List.mem_cons_self ..)
    have l2 := h4 k' (List.mem_cons_self ..)
    have ek : k = k' := by
      apply List.ext_getElem?
      intro i
      by_cases c : i < kwid e
      · have g1 : k[i]? = some (k[i]'(by omega)) := List.getElem?_eq_getElem (by omega)
        have g2 : k'[i]? = some (k'[i]'(by omega)) := List.getElem?_eq_getElem (by omega)
        obtain ⟨x, x1, _, x2⟩ := hr i (.int .i64 (k[i]'(by omega))) (by
          simp only [rowA]
          rw [List.getElem?_append_left (by simp; omega), List.getElem?_map, g1]; rfl)
        simp only [rowV] at x1
        rw [List.getElem?_append_left (by simp; omega), List.getElem?_map, g2] at x1
        simp at x1
        subst x1
        rw [g1, g2]
        generalize k[i]'(by omega) = y at x2
        generalize k'[i]'(by omega) = y' at x2
        cases x2; rfl
      · rw [List.getElem?_eq_none (by omega), List.getElem?_eq_none (by omega)]
    subst ek
    have at_ : ∀ i, (rowA (k :: ks) (v :: vs))[kwid e + i]? = (v :: rowA ks vs)[i]? ∧ (rowV (k :: ks') (u :: us))[kwid e + i]? = (u :: rowV ks' us)[i]? := fun i => by
      simp only [rowA, rowV]
      rw [List.getElem?_append_right (by simp; omega), List.getElem?_append_right (by simp; omega)]
      simp only [List.length_map, l1, Nat.add_sub_cancel_left]
      exact ⟨trivial, trivial⟩
    have hl' : (rowA ks vs).length = (rowV ks' us).length := by
      simp only [rowA, rowV, List.length_append, List.length_cons, List.length_map] at hl; omega
    obtain ⟨r1, r2⟩ := row_match (by simpa using h1) (by simpa using h2) (fun k hk => h3 k (List.mem_cons_of_mem _ hk)) (fun k hk => h4 k (List.mem_cons_of_mem _ hk)) hl' fun i a ha => by
      obtain ⟨x, x1, x2⟩ := hr (kwid e + (i + 1)) a (by rw [(at_ (i + 1)).1]; exact ha)
      rw [(at_ (i + 1)).2] at x1
      exact ⟨x, x1, x2⟩
    refine ⟨by rw [r1], fun j a x ha hx => ?_⟩
    cases j with
    | zero =>
      simp at ha hx; subst ha; subst hx
      obtain ⟨x, x1, x2, x3⟩ := hr (kwid e + 0) v (by rw [(at_ 0).1]; rfl)
      rw [(at_ 0).2] at x1
      simp at x1; subst x1
      exact ⟨x2, x3⟩
    | succ j => exact r2 j a x (by simpa using ha) (by simpa using hx)
  | [], _ :: _, _, _, h, _, _, _, _, _ => by cases h
  | _ :: _, [], _, _, h, _, _, _, _, _ => by cases h
  | _, _, [], _ :: _, _, h, _, _, _, _ => by cases h
  | _, _, _ :: _, [], _, h, _, _, _, _ => by cases h
theorem row_length {e : Nat} : ∀ {ks : List (List Int)} {vs : List AV} {us : List Value}, ks.length = vs.length → ks.length = us.length → (rowA ks vs).length = (rowV ks us).length
  | [], [], [], _, _ => rfl
  | k :: ks, v :: vs, u :: us, h1, h2 => by
    simp only [rowA, rowV, List.length_append, List.length_cons, List.length_map]
    rw [row_length (e := e) (by simpa using h1) (by simpa using h2)]
  | [], _ :: _, _, h, _ => by cases h
  | _ :: _, [], _, h, _ => by cases h
  | [], [], _ :: _, _, h => by cases h
  | _ :: _, _ :: _, [], _, h => by cases h
/-- The row that stands for a map, cell by cell. -/
theorem row_rel {w : World} {E : Env} {e : Nat} (hp : ∀ n, VRel w E (.int .i64 n) (.int .i64 n)) : ∀ {ks : List (List Int)} {vs : List AV} {us : List Value}, ks.length = vs.length → ks.length = us.length →
    (∀ (j : Nat) a u, vs[j]? = some a → us[j]? = some u → u.oneCell' = true ∧ VRel w E a u) → ∀ (i : Nat) a, (rowA ks vs)[i]? = some a → ∃ v, (rowV ks us)[i]? = some v ∧ v.oneCell' = true ∧ VRel w E a v
  | [], [], [], _, _, _, i, a, h => by simp [rowA] at h
  | k :: ks, v :: vs, u :: us, h1, h2, hr, i, a, h => by
    simp only [rowA] at h
    simp only [rowV]
    rw [List.getElem?_append] at h ⊢
    simp only [List.length_map] at h ⊢
    split at h
    · rename_i c
      rw [if_pos c]
      rw [List.getElem?_map] at h ⊢
      cases hk : k[i]? with
      | none => rw [hk] at h; cases h
      | some x => rw [hk] at h; simp at h; subst h; exact ⟨_, rfl, rfl, hp x⟩
    · rename_i c
      rw [if_neg c]
      generalize i - k.length = j at h ⊢
      cases j with
      | zero =>
        simp at h; subst h
        obtain ⟨g1, g2⟩ := hr 0 v u rfl rfl
        exact ⟨u, rfl, g1, g2⟩
      | succ j =>
        simp only [List.getElem?_cons_succ] at h ⊢
        exact row_rel (e := e) hp (by simpa using h1) (by simpa using h2) (fun j a u ha hu => hr (j + 1) a u (by simpa using ha) (by simpa using hu)) j a h
  | [], _ :: _, _, h, _, _, _, _, _ => by cases h
  | _ :: _, [], _, h, _, _, _, _, _ => by cases h
  | [], [], _ :: _, _, h, _, _, _, _ => by cases h
  | _ :: _, _ :: _, [], _, h, _, _, _, _ => by cases h
theorem getM_at : ∀ {ks : List (List Int)} {vs : List AV} {k : List Int} {z : AV} {j : Nat} {a : AV}, ks.Nodup → ks[j]? = some k → vs[j]? = some a → getM ks vs k z = a
  | k' :: ks, v :: vs, k, z, 0, a, _, h1, h2 => by simp at h1 h2; subst h1; subst h2; simp [getM]
  | k' :: ks, v :: vs, k, z, j + 1, a, hn, h1, h2 => by
    have h1' : ks[j]? = some k := by simpa using h1
    have : k' ≠ k := fun e => (List.nodup_cons.1 hn).1 (by rw [e]; exact List.mem_of_getElem? h1')
    simp only [getM, if_neg this]
    exact getM_at (List.nodup_cons.1 hn).2 h1' (by simpa using h2)
  | [], _, _, _, _, _, _, h, _ => by simp at h
  | _ :: _, [], _, _, _, _, _, _, h => by simp at h
theorem getM_none : ∀ {ks : List (List Int)} {vs : List AV} {k : List Int} {z : AV}, k ∉ ks → getM ks vs k z = z
  | k' :: ks, v :: vs, k, z, h => by
    have : k' ≠ k := fun e => h (by rw [e]; exact List.mem_cons_self ..)
    simp only [getM, if_neg this]
    exact getM_none fun hk => h (List.mem_cons_of_mem _ hk)
  | [], _, _, _, _ => by simp [getM]
  | _ :: _, [], _, _, _ => by simp [getM]
theorem putK_mem : ∀ {ks : List (List Int)} {k : List Int}, k ∈ ks → putK ks k = ks
  | k' :: ks, k, h => by
    simp only [putK]
    split
    · rfl
    · rename_i c
      rw [putK_mem ((List.mem_cons.1 h).resolve_left fun e => c e.symm)]
theorem putK_new : ∀ {ks : List (List Int)} {k : List Int}, k ∉ ks → putK ks k = ks ++ [k]
  | k' :: ks, k, h => by
    have : k' ≠ k := fun e => h (by rw [e]; exact List.mem_cons_self ..)
    simp only [putK, if_neg this, List.cons_append]
    rw [putK_new fun hk => h (List.mem_cons_of_mem _ hk)]
  | [], k, _ => rfl
theorem putV_at : ∀ {ks : List (List Int)} {vs : List AV} {k : List Int} {v : AV} {j : Nat}, ks.Nodup → ks.length = vs.length → ks[j]? = some k → putV ks vs k v = vs.set j v
  | k' :: ks, v' :: vs, k, v, 0, _, _, h1 => by simp at h1; subst h1; simp [putV]
  | k' :: ks, v' :: vs, k, v, j + 1, hn, hl, h1 => by
    have h1' : ks[j]? = some k := by simpa using h1
    have : k' ≠ k := fun e => (List.nodup_cons.1 hn).1 (by rw [e]; exact List.mem_of_getElem? h1')
    simp only [putV, if_neg this, List.set_cons_succ]
    rw [putV_at (List.nodup_cons.1 hn).2 (by simpa using hl) h1']
  | [], _, _, _, _, _, _, h => by simp at h
  | _ :: _, [], _, _, _, _, h, _ => by cases h
theorem putV_new : ∀ {ks : List (List Int)} {vs : List AV} {k : List Int} {v : AV}, k ∉ ks → ks.length = vs.length → putV ks vs k v = vs ++ [v]
  | k' :: ks, v' :: vs, k, v, h, hl => by
    have : k' ≠ k := fun e => h (by rw [e]; exact List.mem_cons_self ..)
    simp only [putV, if_neg this, List.cons_append]
    rw [putV_new (fun hk => h (List.mem_cons_of_mem _ hk)) (by simpa using hl)]
  | [], [], k, v, _, _ => rfl
  | [], _ :: _, _, _, _, h => by cases h
  | _ :: _, [], _, _, _, h => by cases h
theorem idxM_at : ∀ {ks : List (List Int)} {k : List Int} {j : Nat}, ks.Nodup → ks[j]? = some k → idxM ks k = j
  | k' :: ks, k, 0, _, h1 => by simp at h1; subst h1; simp [idxM]
  | k' :: ks, k, j + 1, hn, h1 => by
    have h1' : ks[j]? = some k := by simpa using h1
    have : k' ≠ k := fun e => (List.nodup_cons.1 hn).1 (by rw [e]; exact List.mem_of_getElem? h1')
    simp only [idxM, if_neg this]
    rw [idxM_at (List.nodup_cons.1 hn).2 h1']
  | [], _, _, _, h => by simp at h
theorem idxM_new : ∀ {ks : List (List Int)} {k : List Int}, k ∉ ks → idxM ks k = ks.length
  | k' :: ks, k, h => by
    have : k' ≠ k := fun e => h (by rw [e]; exact List.mem_cons_self ..)
    simp only [idxM, if_neg this, List.length_cons]
    rw [idxM_new fun hk => h (List.mem_cons_of_mem _ hk)]
  | [], k, _ => rfl

/-- A type's zero, of one cell. -/
def zeroOne (P : Program) (e : TypeId) : Option AV := ((P.info? e).bind (·.zero)).bind fun z => if z.oneCell' then some (AV.of1 z) else none
theorem run_zeroOne {P : Program} {e : TypeId} {z : AV} (h : zeroOne P e = some z) : ∃ v : Value, (∀ w : World, (zeroValue e).run P w = .ok v w) ∧ v.oneCell' = true ∧ z = AV.of1 v := by
  unfold zeroOne at h
  cases hi : P.info? e with
  | none => simp [hi] at h
  | some i =>
    cases hz : i.zero with
    | none => simp [hi, hz] at h
    | some z0 =>
      simp only [hi, hz, Option.bind_some] at h
      split at h
      · cases h
        exact ⟨z0, fun w => by simp [zeroValue, typeInfo, hi, hz], ‹_›, rfl⟩
      · cases h
def mapT (d : Option TypeDesc) (K : TypeId → TypeId → Prop) : Prop := match d with
  | some (.map k e) => K k e
  | _ => False
theorem mapT_some {d : Option TypeDesc} {K : TypeId → TypeId → Prop} (h : mapT d K) : ∃ k e, d = some (.map k e) ∧ K k e := by
  unfold mapT at h
  split at h
  · exact ⟨_, _, rfl, h⟩
  · exact h.elim
/-- A map's root. -/
def MapAt (H : Heap) (r : Nat) (nw bx : Bool) (e : Nat) (ks : List (List Int)) (vs : List AV) : Prop := H[r]? = some (.blk nw bx e (rowA ks vs)) ∧ ks.length = vs.length ∧ KeysOk e ks
def lookupG (P : Program) (t : TypeId) (m x : AV) (ok : Bool) (H : Heap) (K : AV → Prop) : Prop :=
  mapT (P.underlying t) fun kt et => ok = false ∧ ∃ (e : Nat) (k : List Int) (z : AV), KeyOk P kt e ∧ k.length = kwid e ∧ WfK k ∧ x = keyA e k ∧ zeroOne P et = some z ∧
    match m with
    | .mp r => ∃ nw bx ks vs, MapAt H r nw bx e ks vs ∧ K (getM ks vs k z)
    | .mview _ e' ks vs => e' = e ∧ KeysOk e ks ∧ K (getM ks vs k z)
    | _ => False
def mapUpdateG (P : Program) (t : TypeId) (m x v : AV) (H : Heap) (K : AV → Heap → Prop) : Prop :=
  mapT (P.underlying t) fun kt et => ∃ (e : Nat) (k : List Int), KeyOk P kt e ∧ k.length = kwid e ∧ WfK k ∧ x = keyA e k ∧ v.cellsOf = some [v] ∧
    match m with
    | .mp r => ∃ nw bx ks vs, MapAt H r nw bx e ks vs ∧ (bx || v.isPure) = true ∧ K .any (H.set r (.blk nw bx e (rowA (putK ks k) (putV ks vs k v))))
    | _ => False
def mapEntryG (P : Program) (t : TypeId) (m x : AV) (H : Heap) (K : AV → Heap → Prop) : Prop :=
  mapT (P.underlying t) fun kt et => ∃ (e : Nat) (k : List Int) (z : AV), KeyOk P kt e ∧ k.length = kwid e ∧ WfK k ∧ x = keyA e k ∧ zeroOne P et = some z ∧ z.isPure = true ∧
    match m with
    | .mp r => ∃ nw bx ks vs, MapAt H r nw bx e ks vs ∧ K (.tup [getM ks vs k z, .int .i64 (idxM ks k)]) (H.set r (.blk nw bx e (rowA (putK ks k) (putV ks vs k (getM ks vs k z)))))
    | _ => False
def entryStoreG (m s v : AV) (H : Heap) (K : AV → Heap → Prop) : Prop :=
  match m, s with
  | .mp r, .int .i64 i => ∃ (j : Nat) (nw bx : Bool) (e : Nat) (ks : List (List Int)) (vs : List AV), i = j ∧ j < ks.length ∧ MapAt H r nw bx e ks vs ∧ v.cellsOf = some [v] ∧ (bx || v.isPure) = true ∧ K .any (H.set r (.blk nw bx e (rowA ks (vs.set j v))))
  | _, _ => False
def makeMapG (P : Program) (t : TypeId) (H : Heap) (K : AV → Heap → Prop) : Prop :=
  mapT (P.underlying t) fun _ _ => ∃ e, K (.mp H.length) (H ++ [.blk true true e []])

section
variable {P : Program} {w : World} {map : Nat → Option (Option (Nat × Nat))} {H : Heap} {X : Nat → Prop} {B : Nat}

theorem one_of {a : AV} {v : Value} {E : Env} (h : VRel w E a v) (hc : a.cellsOf = some [a]) : v.oneCell' = true := by
  cases h <;> first | rfl | (cases hc; done) | exact (IfcIs.one ‹_›).1
/-- What stands behind a map's root. -/
theorem map_root {r : Nat} {nw bx : Bool} {e : Nat} {ks : List (List Int)} {vs : List AV} {v : Value} (hW : WRel w (env map H X B) H) (hm : VRel w (env map H X B) (.mp r) v) (h : MapAt H r nw bx e ks vs) :
    ∃ b us, v = .map (some b) ∧ map r = some (some (b, 0)) ∧ w.heap[b]? = some (.map (entL e 0 ks us).toArray ks.length) ∧ ks.length = us.length ∧ bx = true ∧ (nw = true → B ≤ b) ∧
      ∀ (j : Nat) a u, vs[j]? = some a → us[j]? = some u → u.oneCell' = true ∧ VRel w (env map H X B) a u := by
  obtain ⟨h1, h2, h3⟩ := h
  cases hm with
  | mp r b hb =>
    rcases hW.root r _ _ _ _ h1 with ⟨q1, _⟩ | ⟨b', N, arr, q1, q2, q3, q4, q6, q5⟩
    · rw [q1] at hb; cases hb
    · rw [q1] at hb; cases hb
      obtain ⟨o, o1, ks', us, p1, p2, p3, p4⟩ := q2
      obtain ⟨s1, s2⟩ := q3
      subst s1; subst p3; subst p4
      obtain ⟨g1, g2⟩ := row_match (E := env map H X B) h2 p1 h3.len p2 (by simpa using s2) (fun i a ha => by
        obtain ⟨x, x1, x2, x3⟩ := q5 i a ha
        exact ⟨x, by simpa using x1, x2, x3⟩)
      subst g1
      exact ⟨b, us, rfl, q1, o1, p1, rfl, q6, g2⟩
theorem ent_lit {kt : TypeId} {e : Nat} {ks : List (List Int)} {us : List Value} (hK : KeyOk P kt e) (hk : KeysOk e ks) (hl : ks.length = us.length) : ∀ x ∈ (entL e 0 ks us), ∃ l, keyOf P kt x.key = some l := by
  intro x hx
  obtain ⟨j, hj⟩ := List.getElem?_of_mem hx
  rw [entL_get e ks us 0 j hl] at hj
  cases h1 : ks[j]? with
  | none => rw [h1] at hj; cases hj
  | some k =>
    cases h2 : us[j]? with
    | none => rw [h1, h2] at hj; cases hj
    | some u =>
      rw [h1, h2] at hj; cases hj
      have := List.mem_of_getElem? h1
      exact hK.lit k (hk.len k this) (hk.wf k this)
/-- A key is found where it stands, or nowhere. -/
theorem find_key {kt : TypeId} {e : Nat} {ks : List (List Int)} {us : List Value} {k : List Int} (hK : KeyOk P kt e) (hk : KeysOk e ks) (hl : ks.length = us.length) (hkl : k.length = kwid e) (hkw : WfK k) (w : World) :
    ((Instr.findKey kt (keyV e k) (entL e 0 ks us)).run P w = .ok none w ∧ k ∉ ks) ∨
    ∃ j u, (Instr.findKey kt (keyV e k) (entL e 0 ks us)).run P w = .ok (some (j, u)) w ∧ ks[j]? = some k ∧ us[j]? = some u := by
  obtain ⟨l, hl0⟩ := hK.lit k hkl hkw
  rcases hK.law.find w hl0 (entL e 0 ks us) (ent_lit hK hk hl) with ⟨h1, h2⟩ | ⟨j, x, h1, h2, h3⟩
  · refine .inl ⟨h1, fun hm => ?_⟩
    obtain ⟨j, hj⟩ := List.getElem?_of_mem hm
    have hlt := (List.getElem?_eq_some_iff.1 hj).1
    have hu : us[j]? = some (us[j]'(by omega)) := List.getElem?_eq_getElem (by omega)
    have he : (entL e 0 ks us)[j]? = some { key := keyV e k, val := us[j]'(by omega), born := 0 + j } := by rw [entL_get e ks us 0 j hl, hj, hu]; rfl
    exact h2 _ (List.mem_of_getElem? he) rfl
  · rw [entL_get e ks us 0 j hl] at h2
    cases g1 : ks[j]? with
    | none => rw [g1] at h2; cases h2
    | some k' =>
      cases g2 : us[j]? with
      | none => rw [g1, g2] at h2; cases h2
      | some u =>
        rw [g1, g2] at h2; cases h2
        have := keyV_inj (hk.len k' (List.mem_of_getElem? g1)) hkl h3
        subst this
        exact .inr ⟨j, u, h1, g1, g2⟩
theorem ent_modify {e : Nat} {ks : List (List Int)} {us : List Value} {j : Nat} {k : List Int} {u : Value} (hl : ks.length = us.length) (h1 : ks[j]? = some k) (g : MapEntry → MapEntry)
    (hg : ∀ x : MapEntry, x.key = keyV e k → g x = { key := keyV e k, val := u, born := x.born }) : (entL e 0 ks us).toArray.modify j g = (entL e 0 ks (us.set j u)).toArray := by
  have hlt := (List.getElem?_eq_some_iff.1 h1).1
  apply Array.ext_getElem?
  intro i
  have e2 : (entL e 0 ks (us.set j u)).toArray[i]? = (entL e 0 ks (us.set j u))[i]? := by simp
  rw [Array.getElem?_modify, e2, entL_get e ks _ 0 i (by simpa using hl)]
  have e1 : (entL e 0 ks us).toArray[i]? = (entL e 0 ks us)[i]? := by simp
  rw [e1, entL_get e ks us 0 i hl, List.getElem?_set]
  by_cases c : j = i
  · subst c
    rw [if_pos rfl, if_pos rfl, if_pos (by omega), h1]
    have hu : us[j]? = some (us[j]'(by omega)) := List.getElem?_eq_getElem (by omega)
    rw [hu]
    simp only [Option.bind_some, Option.map_some]
    rw [hg _ rfl]
  · rw [if_neg c, if_neg c]
theorem ent_modifyL {e : Nat} {ks : List (List Int)} {us : List Value} {j : Nat} {k : List Int} {u : Value} (hl : ks.length = us.length) (h1 : ks[j]? = some k) (g : MapEntry → MapEntry)
    (hg : ∀ x : MapEntry, x.key = keyV e k → g x = { key := keyV e k, val := u, born := x.born }) : (entL e 0 ks us).modify j g = entL e 0 ks (us.set j u) := by
  have := ent_modify hl h1 g hg
  simpa using this
theorem ent_push {e : Nat} : ∀ {ks : List (List Int)} {us : List Value} {i : Nat} {k : List Int} {u : Value}, ks.length = us.length → entL e i ks us ++ [{ key := keyV e k, val := u, born := i + ks.length }] = entL e i (ks ++ [k]) (us ++ [u])
  | [], [], i, k, u, _ => rfl
  | k' :: ks, u' :: us, i, k, u, h => by
    have := ent_push (e := e) (ks := ks) (us := us) (i := i + 1) (k := k) (u := u) (by simpa using h)
    simp only [entL, List.cons_append, List.length_cons]
    rw [← this]
    have : i + 1 + ks.length = i + (ks.length + 1) := by omega
    rw [this]
  | [], _ :: _, _, _, _, h => by cases h
  | _ :: _, [], _, _, _, h => by cases h
theorem ent_push0 {e : Nat} {ks : List (List Int)} {us : List Value} {k : List Int} {u : Value} (h : ks.length = us.length) : (entL e 0 ks us).toArray.push { key := keyV e k, val := u, born := ks.length } = (entL e 0 (ks ++ [k]) (us ++ [u])).toArray := by
  rw [← ent_push h]
  simp
theorem KeysOk.put {e : Nat} {ks : List (List Int)} {k : List Int} (h : KeysOk e ks) (hl : k.length = kwid e) (hw : WfK k) : KeysOk e (putK ks k) := by
  by_cases c : k ∈ ks
  · rw [putK_mem c]; exact h
  · rw [putK_new c]
    refine ⟨fun x hx => ?_, fun x hx => ?_, ?_⟩
    · rcases List.mem_append.1 hx with g | g
      · exact h.len x g
      · rw [List.mem_singleton.1 g]; exact hl
    · rcases List.mem_append.1 hx with g | g
      · exact h.wf x g
      · rw [List.mem_singleton.1 g]; exact hw
    · rw [List.nodup_append]
      refine ⟨h.nodup, by simp, fun a ha b hb => ?_⟩
      rw [List.mem_singleton.1 hb]
      exact fun e => c (by rw [← e]; exact ha)
theorem put_len {ks : List (List Int)} {vs : List AV} {k : List Int} {v : AV} : ∀ (_ : ks.length = vs.length), (putK ks k).length = (putV ks vs k v).length := by
  induction ks generalizing vs with
  | nil => intro h; cases vs with
    | nil => rfl
    | cons _ _ => cases h
  | cons k' ks ih =>
    intro h
    cases vs with
    | nil => cases h
    | cons v' vs =>
      simp only [putK, putV]
      split
      · simpa using h
      · simp only [List.length_cons]; rw [ih (by simpa using h)]

theorem lookupG_ok {t : TypeId} {m x : AV} {vm vx : Value} {ok : Bool} {K : AV → Prop} (hW : WRel w (env map H X B) H) (hm : VRel w (env map H X B) m vm) (hx : VRel w (env map H X B) x vx) (h : lookupG P t m x ok H K) :
    PureOk P w (env map H X B) (Instr.lookup t vm vx ok) K := by
  obtain ⟨kt, et, ht, hok, e, k, z, hK, hkl, hkw, rfl, hz, h⟩ := mapT_some h
  subst hok
  have ex := rel_keyA hx
  subst ex
  obtain ⟨zv, z1, z2, rfl⟩ := run_zeroOne hz
  obtain ⟨l, hl⟩ := hK.lit k hkl hkw
  have go : ∀ {b : Nat} {ks : List (List Int)} {us : List Value} {vs : List AV}, w.heap[b]? = some (.map (entL e 0 ks us).toArray ks.length) → ks.length = us.length → KeysOk e ks → vs.length = us.length →
      (∀ (j : Nat) a u, vs[j]? = some a → us[j]? = some u → VRel w (env map H X B) a u) → K (getM ks vs k (AV.of1 zv)) → PureOk P w (env map H X B) (Instr.lookup t (.map (some b)) (keyV e k) false) K := by
    intro b ks us vs hb hlu hks hlv hrel hk
    rcases find_key hK hks hlu hkl hkw w with ⟨h1, h2⟩ | ⟨j, u, h1, h2, h3⟩
    · rw [getM_none h2] at hk
      refine .of (v := zv) ?_ (rel_of1 w _ zv) hk
      simp [Instr.lookup, run_underlying ht, MapKept.run_getObj_map hb, hK.law.check w _ hl, h1, z1]
    · have hlt := (List.getElem?_eq_some_iff.1 h3).1
      have hv : vs[j]? = some (vs[j]'(by omega)) := List.getElem?_eq_getElem (by omega)
      rw [getM_at hks.nodup h2 hv] at hk
      refine .of (v := u) ?_ (hrel j _ u hv h3) hk
      simp [Instr.lookup, run_underlying ht, MapKept.run_getObj_map hb, hK.law.check w _ hl, h1]
  split at h
  · obtain ⟨nw, bx, ks, vs, hat, hk⟩ := h
    obtain ⟨b, us, rfl, _, hb, hlu, _, _, hrel⟩ := map_root hW hm hat
    have := hat.2.1
    exact go hb hlu hat.2.2 (by omega) (fun j a u ha hu => (hrel j a u ha hu).2) hk
  · obtain ⟨rfl, hks, hk⟩ := h
    cases hm with
    | mview nw _ ks vs b us hlt hbb hmut hh h1 h2 hkk hr =>
      exact go hh h1 hks h2 (fun j a u ha hu => (hr j a u ha hu).of_pure) hk
  · exact h.elim
/-- A map's block written anew. -/
theorem good_map {K : AV → Heap → Prop} {av : AV} {v : Value} {nw bx : Bool} {e r b : Nat} {ks ks' : List (List Int)} {vs vs' : List AV} {us' : List Value} (hW : WRel w (env map H X B) H) (hat : MapAt H r nw bx e ks vs) (hmr : map r = some (some (b, 0)))
    {es : Array MapEntry} {clock : Nat} (hb : w.heap[b]? = some (.map es clock)) (hn : nw = true → B ≤ b) (hbx : bx = true) (h1 : ks'.length = us'.length) (h2 : ks'.length = vs'.length) (hk' : KeysOk e ks')
    (hrel : ∀ (j : Nat) a u, vs'[j]? = some a → us'[j]? = some u → u.oneCell' = true ∧ VRel w (env map H X B) a u)
    (hk : K av (H.set r (.blk nw bx e (rowA ks' vs')))) (hv : ∀ E' w', Later (env map H X B) w E' w' → VRel w' E' av v) :
    Good map H X B w K v { w with heap := w.heap.setIfInBounds b (.map (entL e 0 ks' us').toArray ks'.length) } := by
  subst hbx
  have hlt := block_lt hb
  have hl := row_length (e := e) h2 h1
  have hset : ({ w with heap := w.heap.setIfInBounds b (.map (entL e 0 ks' us').toArray ks'.length) } : World).heap[b]? = some (.map (entL e 0 ks' us').toArray ks'.length) := by
    show (w.heap.setIfInBounds b _)[b]? = _
    rw [Array.getElem?_setIfInBounds_self_of_lt hlt]
  have hoth : ∀ b', b' ≠ b → ({ w with heap := w.heap.setIfInBounds b (.map (entL e 0 ks' us').toArray ks'.length) } : World).heap[b']? = w.heap[b']? := fun b' hb' => by
    show (w.heap.setIfInBounds b _)[b']? = _
    rw [Array.getElem?_setIfInBounds_ne (fun e => hb' e.symm)]
  have hL : Later (env map H X B) w (env map (H.set r (.blk nw true e (rowA ks' vs'))) X B) { w with heap := w.heap.setIfInBounds b (.map (entL e 0 ks' us').toArray ks'.length) } := by
    refine ⟨fun _ _ h => h, Nat.le_refl _, fun b' hb' g => ?_, by simp, fun b' hb' g => hoth b' fun e' => g (.inl ?_)⟩
    · rcases g with ⟨r', N', new', box', e', c', hr', hm'⟩ | g
      · rcases set_get hr' with ⟨g1, g2⟩ | ⟨rfl, g2⟩
        · exact .inl ⟨r', N', new', box', e', c', g2, hm'⟩
        · exact .inl ⟨r', N', _, _, _, _, hat.1, hm'⟩
      · exact .inr g
    · subst e'; exact ⟨r, 0, _, _, _, _, hat.1, hmr⟩
  have := good_setN (K := fun a h => a = .any ∧ h = H.set r (.blk nw true e (rowA ks' vs'))) (av := .any) (v := v) (w' := { w with heap := w.heap.setIfInBounds b (.map (entL e 0 ks' us').toArray ks'.length) }) (cells' := rowA ks' vs') (arr' := (rowV ks' us').toArray) hW hat.1 hmr rfl rfl rfl (by simp) hoth
    ⟨_, hset, ks', us', h1, hk'.len, rfl, rfl⟩ hn ⟨rfl, by simpa using hl⟩ (by simp [hl]) (fun i a ha => by
      obtain ⟨x, x1, x2, x3⟩ := row_rel (E := env map H X B) (e := e) (fun n => .int .i64 n) h2 h1 hrel i a ha
      exact ⟨x, by simpa using x1, x2, x3⟩) ⟨rfl, rfl⟩ (fun _ _ => .any _)
  obtain ⟨m2, a2, H2, ⟨rfl, rfl⟩, k2, k3, k4⟩ := this
  have hm2 : m2 = map := by
    funext q
    by_cases c : q < H.length ∨ H.length ≤ q
    · rcases c with c | c
      · exact k4.out q (.inl c)
      · exact k4.out q (.inr (by simpa using c))
    · omega
  subst hm2
  exact ⟨_, av, _, hk, hv _ _ hL, k3, k4⟩
theorem us_put {ks : List (List Int)} {us : List Value} {j : Nat} {u : Value} : (us.set j u).length = us.length := by simp
theorem rel_set {vs : List AV} {us : List Value} {j : Nat} {a0 : AV} {u0 : Value} {E : Env} (hlv : vs.length = us.length) (hrel : ∀ (j : Nat) a u, vs[j]? = some a → us[j]? = some u → u.oneCell' = true ∧ VRel w E a u) (h1 : u0.oneCell' = true) (h2 : VRel w E a0 u0) :
    ∀ (i : Nat) a u, (vs.set j a0)[i]? = some a → (us.set j u0)[i]? = some u → u.oneCell' = true ∧ VRel w E a u := by
  intro i a u ha hu
  rw [List.getElem?_set] at ha hu
  by_cases c : j = i
  · subst c
    rw [if_pos rfl] at ha hu
    split at ha
    · split at hu
      · cases ha; cases hu; exact ⟨h1, h2⟩
      · cases hu
    · cases ha
  · rw [if_neg c] at ha hu
    exact hrel i a u ha hu
theorem rel_push {vs : List AV} {us : List Value} {a0 : AV} {u0 : Value} {E : Env} (hlv : vs.length = us.length) (hrel : ∀ (j : Nat) a u, vs[j]? = some a → us[j]? = some u → u.oneCell' = true ∧ VRel w E a u) (h1 : u0.oneCell' = true) (h2 : VRel w E a0 u0) :
    ∀ (i : Nat) a u, (vs ++ [a0])[i]? = some a → (us ++ [u0])[i]? = some u → u.oneCell' = true ∧ VRel w E a u := by
  intro i a u ha hu
  rw [List.getElem?_append] at ha hu
  by_cases c : i < vs.length
  · rw [if_pos c] at ha; rw [if_pos (by omega)] at hu
    exact hrel i a u ha hu
  · rw [if_neg c] at ha; rw [if_neg (by omega)] at hu
    rw [← hlv] at hu
    generalize i - vs.length = q at ha hu
    cases q with
    | zero => simp at ha hu; subst ha; subst hu; exact ⟨h1, h2⟩
    | succ q => simp at ha

theorem mapUpdateG_ok {t : TypeId} {m x v : AV} {vm vx vv : Value} {K : AV → Heap → Prop} {o : Oper} {ρ : Operand → Value} (hm : VRel w (env map H X B) m vm) (hx : VRel w (env map H X B) x vx) (hv : VRel w (env map H X B) v vv) (hW : WRel w (env map H X B) H)
    (he : (execOp ρ o) = (do Instr.mapUpdate t vm vx vv; pure .skip)) (h : mapUpdateG P t m x v H K) : OpRun P o ρ w (Good map H X B w K) := by
  obtain ⟨kt, et, ht, e, k, hK, hkl, hkw, rfl, hvc, h⟩ := mapT_some h
  have ex := rel_keyA hx
  subst ex
  obtain ⟨l, hl⟩ := hK.lit k hkl hkw
  have hone := one_of hv hvc
  split at h
  · obtain ⟨nw, bx, ks, vs, hat, hp, hk⟩ := h
    obtain ⟨b, us, rfl, hmr, hb, hlu, hbx, hnb, hrel⟩ := map_root hW hm hat
    have hlv := hat.2.1
    have hks := hat.2.2
    rcases find_key hK hks hlu hkl hkw w with ⟨h1, h2⟩ | ⟨j, u, h1, h2, h3⟩
    · rw [putK_new h2, putV_new h2 hlv] at hk
      have hex : (execOp ρ o).run P w = .ok .skip { w with heap := w.heap.setIfInBounds b (.map (entL e 0 (ks ++ [k]) (us ++ [vv])).toArray (ks ++ [k]).length) } := by
        rw [he, ← ent_push0 hlu]
        simp [Instr.mapUpdate, run_underlying ht, MapKept.run_getObj_map hb, hK.law.check w _ hl, h1, MapKept.run_setObj_map _ hb]
      refine .skip hex (good_map hW hat hmr hb hnb hbx (by simp; omega) (by simp; omega) (by rw [← putK_new h2]; exact hks.put hkl hkw) (rel_push (by omega) hrel hone hv) hk fun _ _ _ => .any _)
    · rw [putK_mem (List.mem_of_getElem? h2), putV_at hks.nodup hlv h2] at hk
      have hlt := (List.getElem?_eq_some_iff.1 h2).1
      have hkey : ((entL e 0 ks us)[j]?.map (·.key)).getD (keyV e k) = keyV e k := by rw [entL_get e ks us 0 j hlu, h2, h3]; rfl
      have hex : (execOp ρ o).run P w = .ok .skip { w with heap := w.heap.setIfInBounds b (.map (entL e 0 ks (us.set j vv)).toArray ks.length) } := by
        rw [he, ← ent_modify hlu h2 (fun x => { x with key := keyV e k, val := vv }) (fun x _ => rfl)]
        simp [Instr.mapUpdate, run_underlying ht, MapKept.run_getObj_map hb, hK.law.check w _ hl, h1, hkey, hK.law.stays w hl, MapKept.run_setObj_map _ hb]
      refine .skip hex (good_map hW hat hmr hb hnb hbx (by simp; omega) (by simp; omega) hks (rel_set (by omega) hrel hone hv) hk fun _ _ _ => .any _)
  · exact h.elim
theorem mapEntryG_ok {t : TypeId} {m x : AV} {vm vx : Value} {K : AV → Heap → Prop} {o : Oper} {ρ : Operand → Value} (hm : VRel w (env map H X B) m vm) (hx : VRel w (env map H X B) x vx) (hW : WRel w (env map H X B) H)
    (he : (execOp ρ o) = (do pure (.value (← Instr.mapEntry t vm vx)))) (h : mapEntryG P t m x H K) : OpRun P o ρ w (Good map H X B w K) := by
  obtain ⟨kt, et, ht, e, k, z, hK, hkl, hkw, rfl, hz, hzp, h⟩ := mapT_some h
  have ex := rel_keyA hx
  subst ex
  obtain ⟨l, hl⟩ := hK.lit k hkl hkw
  obtain ⟨zv, z1, z2, rfl⟩ := run_zeroOne hz
  split at h
  · obtain ⟨nw, bx, ks, vs, hat, hk⟩ := h
    obtain ⟨b, us, rfl, hmr, hb, hlu, hbx, hnb, hrel⟩ := map_root hW hm hat
    have hlv := hat.2.1
    have hks := hat.2.2
    rcases find_key hK hks hlu hkl hkw w with ⟨h1, h2⟩ | ⟨j, u, h1, h2, h3⟩
    · rw [putK_new h2, getM_none h2, putV_new h2 hlv, idxM_new h2] at hk
      have hex : (execOp ρ o).run P w = .ok (.value (.tuple #[zv, .int .i64 ks.length])) { w with heap := w.heap.setIfInBounds b (.map (entL e 0 (ks ++ [k]) (us ++ [zv])).toArray (ks ++ [k]).length) } := by
        rw [he, ← ent_push0 hlu]
        simp [Instr.mapEntry, run_underlying ht, MapKept.run_getObj_map hb, hK.law.check w _ hl, h1, z1, MapKept.run_setObj_map _ hb, goInt]
      refine .value hex (good_map hW hat hmr hb hnb hbx (by simp; omega) (by simp; omega) (by rw [← putK_new h2]; exact hks.put hkl hkw) (rel_push (by omega) hrel z2 (rel_of1 w _ zv)) hk fun E' w' L => ?_)
      refine .tup _ _ rfl fun i a v ha hv => ?_
      match i with
      | 0 => simp at ha hv; subst ha; subst hv; exact rel_of1 _ _ _
      | 1 => simp at ha hv; subst ha; subst hv; exact .int _ _
      | i + 2 => simp at ha
    · have hlt := (List.getElem?_eq_some_iff.1 h2).1
      have hv : vs[j]? = some (vs[j]'(by omega)) := List.getElem?_eq_getElem (by omega)
      obtain ⟨g1, g2⟩ := hrel j _ u hv h3
      rw [putK_mem (List.mem_of_getElem? h2), getM_at hks.nodup h2 hv, putV_at hks.nodup hlv h2, idxM_at hks.nodup h2] at hk
      have hset : vs.set j (vs[j]'(by omega)) = vs := by simp
      rw [hset] at hk
      have hset' : us.set j u = us := by
        apply List.ext_getElem?
        intro i
        rw [List.getElem?_set]
        split
        · rename_i c; subst c; rw [if_pos (by omega), h3]
        · rfl
      have hkey : ((entL e 0 ks us)[j]?.map (·.key)).getD (keyV e k) = keyV e k := by rw [entL_get e ks us 0 j hlu, h2, h3]; rfl
      have hborn : ((entL e 0 ks us)[j]?.map (fun x => (x.born : Int))).getD 0 = j := by rw [entL_get e ks us 0 j hlu, h2, h3]; simp
      have hmod : (entL e 0 ks us).modify j (fun x => { x with key := keyV e k }) = entL e 0 ks us := by
        apply List.ext_getElem?
        intro i
        rw [List.getElem?_modify]
        by_cases c : j = i
        · subst c
          rw [entL_get e ks us 0 j hlu, h2, h3]; simp
        · simp [c]
      have hex : (execOp ρ o).run P w = .ok (.value (.tuple #[u, .int .i64 j])) { w with heap := w.heap.setIfInBounds b (.map (entL e 0 ks us).toArray ks.length) } := by
        rw [he]
        simp [Instr.mapEntry, run_underlying ht, MapKept.run_getObj_map hb, hK.law.check w _ hl, h1, hkey, hborn, hmod, hK.law.stays w hl, MapKept.run_setObj_map _ hb, goInt]
      refine .value hex (good_map hW hat hmr hb hnb hbx (by omega) (by omega) hks hrel hk fun E' w' L => ?_)
      refine .tup _ _ rfl fun i a v ha hv => ?_
      match i with
      | 0 => simp at ha hv; subst ha; subst hv; exact g2.later L
      | 1 => simp at ha hv; subst ha; subst hv; exact .int _ _
      | i + 2 => simp at ha
  · exact h.elim
theorem entryStoreG_ok {t : TypeId} {m s v : AV} {vm vs' vv : Value} {K : AV → Heap → Prop} {o : Oper} {ρ : Operand → Value} (hm : VRel w (env map H X B) m vm) (hs : VRel w (env map H X B) s vs') (hv : VRel w (env map H X B) v vv) (hW : WRel w (env map H X B) H)
    (he : (execOp ρ o) = (do Instr.entryStore t vm vs' vv; pure .skip)) (h : entryStoreG m s v H K) : OpRun P o ρ w (Good map H X B w K) := by
  unfold entryStoreG at h
  split at h
  · rename_i r i
    obtain ⟨j, nw, bx, e, ks, vs, rfl, hj, hat, hvc, hp, hk⟩ := h
    have hone := one_of hv hvc
    obtain ⟨b, us, rfl, hmr, hb, hlu, hbx, hnb, hrel⟩ := map_root hW hm hat
    have hlv := hat.2.1
    have hks := hat.2.2
    cases hs
    have h2 : ks[j]? = some (ks[j]'hj) := List.getElem?_eq_getElem hj
    have h3 : us[j]? = some (us[j]'(by omega)) := List.getElem?_eq_getElem (by omega)
    have hfind : (entL e 0 ks us).findIdx? (fun x => (x.born : Int) == (j : Int)) = some j := by
      rw [List.findIdx?_eq_some_iff_getElem]
      have hl := entL_length e ks us 0 hlu
      refine ⟨by omega, ?_, fun i hi => ?_⟩
      · have := entL_get e ks us 0 j hlu
        rw [h2, h3] at this
        rw [(List.getElem?_eq_some_iff.1 this).2]; simp
      · have g2 : ks[i]? = some (ks[i]'(by omega)) := List.getElem?_eq_getElem (by omega)
        have g3 : us[i]? = some (us[i]'(by omega)) := List.getElem?_eq_getElem (by omega)
        have := entL_get e ks us 0 i hlu
        rw [g2, g3] at this
        rw [(List.getElem?_eq_some_iff.1 this).2]; simp; omega
    have hex : (execOp ρ o).run P w = .ok .skip { w with heap := w.heap.setIfInBounds b (.map (entL e 0 ks (us.set j vv)).toArray ks.length) } := by
      have hmod := ent_modifyL (e := e) (u := vv) hlu h2 (fun x => { x with val := vv }) (fun x hx => by cases x; simp at hx; subst hx; rfl)
      rw [he]
      simp [Instr.entryStore, MapKept.run_getObj_map hb, asInt, asIntOf, hfind, hmod, MapKept.run_setObj_map _ hb]
    exact .skip hex (good_map hW hat hmr hb hnb hbx (by simp; omega) (by simp; omega) hks (rel_set (by omega) hrel hone hv) hk fun _ _ _ => .any _)
  · exact h.elim
theorem makeMapG_ok {t : TypeId} {K : AV → Heap → Prop} {o : Oper} {ρ : Operand → Value} (hfree : ∀ av H', K av H' → ∀ r, H.length ≤ r → r < H'.length → map r = none) (hW : WRel w (env map H X B) H) (hB : B ≤ w.heap.size)
    (he : (execOp ρ o) = (do pure (.value (← Instr.makeMap t none)))) (h : makeMapG P t H K) : OpRun P o ρ w (Good map H X B w K) := by
  obtain ⟨kt, et, ht, e, hk⟩ := mapT_some h
  refine .value (v := .map (some w.heap.size)) (w' := (w.drewN 0).alloc (.map #[] 0)) ?_ ?_
  · rw [he]
    simp [Instr.makeMap]
    rfl
  · exact good_newN (N0 := 0) (e := e) (arr := #[]) (cs := []) ⟨[], [], rfl, fun k hk => by simp at hk, rfl, rfl⟩ ⟨rfl, rfl⟩ hW hB (Nat.le_refl _) (fun i a ha => by simp at ha) hk (hfree _ _ hk _ (Nat.le_refl _) (by simp)) (fun E' hm => .mp _ _ hm)
end
end Go.Awp
