/- Literals, make, append: on abstract values.
Conditions: none. -/
import Derived.Test.YtbjfkhjckfodbaaSli
namespace Go.Awp
set_option linter.all false
open Go

section
variable {P : Program} {w : World} {map : Nat → Option (Option (Nat × Nat))} {H : Heap} {X : Nat → Prop} {B : Nat}

/-- Parts laid into cells. -/
def fillL (place : Nat → Option (Nat × Nat)) (cells : List AV) : List (Nat × AV) → Option (List AV)
  | [] => some cells
  | (i, x) :: rest =>
    match place i, x.cellsOf with
    | some (off, size), some cs => if cs.length = size ∧ off + cs.length ≤ cells.length then fillL place (splice cells off cs) rest else none
    | _, _ => none

theorem foldl_splice (off : Nat) : ∀ (l : List Value) (k : Nat) (arr : Array Value), off + k + l.length ≤ arr.size →
    ((l.zipIdx k).foldl (fun cs (x : Value × Nat) => cs.setIfInBounds (off + x.2) x.1) arr).toList = splice arr.toList (off + k) l
  | [], k, arr, _ => by simp [splice]
  | v :: l, k, arr, h => by
    have hl : (v :: l).length = l.length + 1 := rfl
    rw [hl] at h
    rw [List.zipIdx_cons, List.foldl_cons, foldl_splice off l (k + 1) _ (by simp; omega)]
    apply List.ext_getElem?
    intro i
    rw [splice_get _ _ _ (by simp; omega), splice_get _ _ _ (by simp; omega)]
    simp only [Array.toList_setIfInBounds, List.getElem?_set, List.length_cons]
    by_cases c1 : i < off + k
    · rw [if_pos (by omega), if_neg (by omega), if_pos c1]
    · rw [if_neg c1]
      by_cases c2 : i = off + k
      · subst c2
        rw [if_pos (by omega), if_pos rfl, if_pos (by simp; omega), if_pos (by omega), Nat.sub_self]; rfl
      · rw [if_neg (by omega)]
        by_cases c3 : i < off + (k + 1) + l.length
        · rw [if_pos (by omega), if_pos (by omega)]
          obtain ⟨m, hm⟩ : ∃ m, i - (off + k) = m + 1 := ⟨i - (off + k) - 1, by omega⟩
          rw [hm, List.getElem?_cons_succ]
          congr 1; omega
        · rw [if_neg (by omega), if_neg (by omega), if_neg (by omega)]

def CRel (w : World) (E : Env) (cells : List AV) (arr : Array Value) : Prop :=
  cells.length = arr.size ∧ (∀ (i : Nat) u, arr[i]? = some u → u.oneCell' = true) ∧ ∀ (i : Nat) a u, cells[i]? = some a → arr[i]? = some u → VRel w E a u

theorem crel_splice {E : Env} {cells cs : List AV} {arr vs : Array Value} {off : Nat} (h : CRel w E cells arr) (hc : CRel w E cs vs) (hfit : off + cs.length ≤ cells.length) (arr' : Array Value)
    (ha : arr'.toList = splice arr.toList off vs.toList) : CRel w E (splice cells off cs) arr' := by
  have hl := h.1
  have hcl := hc.1
  have hl2 : (splice arr.toList off vs.toList).length = arr.size := by rw [splice_length _ _ _ (by simp; omega)]; simp
  have hsz : arr'.size = arr.size := by rw [← Array.length_toList, ha, hl2]
  have hget : ∀ (i : Nat), arr'[i]? = if i < off then arr[i]? else if i < off + cs.length then vs[i - off]? else arr[i]? := by
    intro i
    rw [← Array.getElem?_toList, ha, splice_get _ _ _ (by simp; omega)]
    simp [hcl]
  refine ⟨by rw [splice_length _ _ _ hfit, hsz, hl], fun i u hu => ?_, fun i a u hi hu => ?_⟩
  · rw [hget] at hu
    split at hu
    · exact h.2.1 i u hu
    · split at hu
      · exact hc.2.1 _ u hu
      · exact h.2.1 i u hu
  · rw [splice_get _ _ _ hfit] at hi
    rw [hget] at hu
    split at hu
    · rw [if_pos ‹_›] at hi; exact h.2.2 i a u hi hu
    · rw [if_neg ‹_›] at hi
      split at hu
      · rw [if_pos ‹_›] at hi; exact hc.2.2 _ a u hi hu
      · rw [if_neg ‹_›] at hi; exact h.2.2 i a u hi hu

theorem fillL_ok {E : Env} {place : Nat → Option (Nat × Nat)} : ∀ (ps : List (Nat × AV)) (vs : List (Nat × Value)) (cells out : List AV) (arr : Array Value),
    ps.length = vs.length → (∀ (i : Nat) p v, ps[i]? = some p → vs[i]? = some v → p.1 = v.1 ∧ VRel w E p.2 v.2) → CRel w E cells arr → fillL place cells ps = some out →
    ∃ arr', Instr.fill place arr vs = some arr' ∧ CRel w E out arr'
  | [], vs, cells, out, arr, hl, _, hc, h => by
    cases vs with
    | nil => cases h; exact ⟨arr, rfl, hc⟩
    | cons _ _ => cases hl
  | (i, x) :: ps, vs, cells, out, arr, hl, hr, hc, h => by
    cases vs with
    | nil => cases hl
    | cons v vs =>
      obtain ⟨h1, h2⟩ := hr 0 (i, x) v rfl rfl
      simp only at h1 h2
      unfold fillL at h
      split at h
      · rename_i off size cs hp hcs
        split at h
        · rename_i hfit
          obtain ⟨g1, g2, g3⟩ := rel_cells h2 hcs
          have hsp := foldl_splice off v.2.cells.toList 0 arr (by have := hc.1; simp; omega)
          have hcr := crel_splice hc ⟨g1, g2, g3⟩ hfit.2 _ hsp
          obtain ⟨arr', e1, e2⟩ := fillL_ok ps vs _ out _ (by simpa using hl) (fun j p u hj hu => hr (j + 1) p u (by simpa using hj) (by simpa using hu)) hcr h
          refine ⟨arr', ?_, e2⟩
          unfold Instr.fill
          rw [← h1, hp]
          have c1 : ¬ (v.2.cells.size ≠ size || decide (off + v.2.cells.size > arr.size)) = true := by
            have := hc.1
            simp; omega
          simp only
          rw [if_neg c1, ← e1]
          congr 1
          rw [← Array.foldl_toList, Array.toList_zipIdx]
        · cases h
      · cases h

/-- Where a struct's or an array's parts lie. -/
def placesOf (P : Program) (t : TypeId) : Option (Nat → Option (Nat × Nat)) :=
  match P.underlying t with
  | some (.struct fields) => (fields.toList.mapM fun f => (szOf P f.type).map fun s => (f.offset, s)).map fun l => fun i => l[i]?
  | some (.array _ e) => (szOf P e).map fun s => fun i => some (i * s, s)
  | _ => none

def partsA (ρ : Operand → AV) (ps : Array (Nat × Operand)) : List (Nat × AV) := ps.toList.map fun p => (p.1, ρ p.2)

def buildG (P : Program) (t : TypeId) (ps : List (Nat × AV)) (K : AV → Prop) : Prop :=
  match zeroOf P t, placesOf P t with
  | some zs, some place => ∃ out, fillL place zs ps = some out ∧ K (.agg out)
  | _, _ => False

theorem run_places : ∀ (fields : List Field) (l : List (Nat × Nat)) (w : World), (fields.mapM fun f => (szOf P f.type).map fun s => (f.offset, s)) = some l →
    (fields.mapM fun f => (do pure (f.offset, ← sizeOf f.type) : Sem (Nat × Nat))).run P w = .ok l w
  | [], l, w, h => by simp at h; subst h; simp
  | f :: fs, l, w, h => by
    rw [List.mapM_cons] at h ⊢
    cases hs : szOf P f.type with
    | none => simp [hs] at h
    | some s =>
      cases hm : (fs.mapM fun f => (szOf P f.type).map fun s => (f.offset, s)) with
      | none => simp [hs, hm] at h
      | some l' =>
        simp [hs, hm] at h
        subst h
        have ih := run_places fs l' w hm
        simp only [Sem.run_bind, run_sizeOf hs, Result.andThen_ok, Sem.run_pure, ih]

theorem crel_zero {E : Env} {z : Value} (h : z.cells.all (·.oneCell') = true) : CRel w E (z.cells.toList.map AV.of1) z.cells := by
  refine ⟨by simp, fun i u hu => all_one h hu, fun i a u ha hu => ?_⟩
  rw [List.getElem?_map, Array.getElem?_toList, hu] at ha
  cases ha
  exact rel_of1 _ _ u

theorem buildG_ok {t : TypeId} {ps : List (Nat × AV)} {vs : Array (Nat × Value)} {K : AV → Prop} {E : Env} (hl : ps.length = vs.size)
    (hr : ∀ (i : Nat) p v, ps[i]? = some p → vs[i]? = some v → p.1 = v.1 ∧ VRel w E p.2 v.2) (h : buildG P t ps K) : PureOk P w E (Instr.build t vs) K := by
  unfold buildG at h
  split at h
  · rename_i zs place hz hp
    obtain ⟨out, ho, hk⟩ := h
    obtain ⟨z, h1, rfl, h3⟩ := run_zero hz w
    obtain ⟨arr', e1, e2⟩ := fillL_ok ps vs.toList _ out z.cells (by simpa using hl) (fun i p v hi hv => hr i p v hi (by simpa using hv)) (crel_zero h3) ho
    refine .of (v := .agg arr') ?_ (.agg _ _ e2.1 e2.2.1 e2.2.2) hk
    unfold placesOf at hp
    split at hp
    · rename_i fields hu
      cases hm : (fields.toList.mapM fun f => (szOf P f.type).map fun s => (f.offset, s)) with
      | none => simp [hm] at hp
      | some l =>
        simp [hm] at hp
        subst hp
        have hrun := run_places (P := P) fields.toList l w hm
        have hrun' : (fields.mapM fun f => (do pure (f.offset, ← sizeOf f.type) : Sem (Nat × Nat))).run P w = .ok l.toArray w := by
          rw [Array.mapM_eq_mapM_toList, Sem.run_map, hrun]
          rfl
        have e1' : Instr.fill (fun i => l.toArray[i]?) z.cells vs.toList = some arr' := by
          rw [← e1]; congr 1; funext i; simp
        simp only [Instr.build, Sem.run_bind, h1, Result.andThen_ok, run_underlying hu, hrun', e1']
        rfl
    · rename_i len e hu
      cases hs : szOf P e with
      | none => simp [hs] at hp
      | some s =>
        simp [hs] at hp
        subst hp
        simp only [Instr.build, Sem.run_bind, h1, Result.andThen_ok, run_underlying hu, run_sizeOf hs, e1]
        rfl
    · cases hp
  · exact h.elim

/-- A row of the call's own is given up: it is memory that nobody changes any more. -/
def freeze1 (H : Heap) (a : AV) : AV × Heap :=
  match a with
  | .slc r 0 n q =>
    match H[r]? with
    | some (.blk true false _ cells) => if n * q ≤ cells.length then (.view true (cells.take (n * q)) n, H.set r .gone) else (a, H)
    | _ => (a, H)
  | a => (a, H)

theorem gone_get {H : Heap} {r r' : Nat} {new box : Bool} {e : TypeId} {cells : List AV} (h : (H.set r .gone)[r']? = some (.blk new box e cells)) : r' ≠ r ∧ H[r']? = some (.blk new box e cells) := by
  rcases set_get h with h | ⟨_, h⟩
  · exact h
  · cases h

theorem step_gone (r : Nat) : Step map H w map (H.set r .gone) w :=
  ⟨rfl, rfl, rfl, Nat.le_refl _, fun _ _ _ => rfl, fun _ _ h => h, fun _ _ => rfl, by simp, fun b _ ⟨r', N, new, box, e, cells, h1, h2⟩ => ⟨r', N, new, box, e, cells, (gone_get h1).2, h2⟩⟩

theorem wrel_gone (hW : WRel w (env map H X B) H) (r : Nat) : WRel w (env map (H.set r .gone) X B) (H.set r .gone) := by
  have hL := (step_gone (w := w) (map := map) (H := H) r).later (X := X) (B := B)
  refine ⟨fun r' new box e cells h => ?_, fun r1 r2 b N1 N2 n1 n2 x1 x2 e1 e2 c1 c2 h1 h2 hm1 hm2 => hW.inj r1 r2 b N1 N2 _ _ _ _ _ _ _ _ (gone_get h1).2 (gone_get h2).2 hm1 hm2, hW.glob.later hL⟩
  have h' := (gone_get h).2
  exact (hW.root r' new box e cells h').later hL (fun _ _ _ => rfl)

theorem freeze1_ok {a : AV} {v : Value} (hX : ∀ b, X b → ¬ mutOf map H b) (hW : WRel w (env map H X B) H) (hr : VRel w (env map H X B) a v) :
    VRel w (env map (freeze1 H a).2 X B) (freeze1 H a).1 v ∧ WRel w (env map (freeze1 H a).2 X B) (freeze1 H a).2 ∧ Step map H w map (freeze1 H a).2 w := by
  unfold freeze1
  split
  · rename_i r n q
    split
    · rename_i e cells hH
      split
      · rename_i hle
        refine ⟨?_, wrel_gone hW r, step_gone r⟩
        have hL := (step_gone (w := w) (map := map) (H := H) r).later (X := X) (B := B)
        cases hr with
        | slcv _ _ hm => simp; exact .view0 _ _ _ _ (Nat.zero_le _)
        | slc _ _ _ _ b N cap hm h1 h2 h3 =>
          rcases hW.root r true false e cells hH with ⟨q1, _⟩ | ⟨b', N', arr, q1, q2, q3, q4, q6, q5⟩
          · rw [q1] at hm; cases hm
          · rw [q1] at hm; cases hm
            replace q2 := q2.cells
            replace q3 : arr.size = N := q3
            rw [q3] at q4
            have hnot : ¬ (env map (H.set r .gone) X B).live b := by
              rintro (⟨r', N', new', box', e', c', g1, g2⟩ | g)
              · obtain ⟨g3, g4⟩ := gone_get g1
                exact g3 (hW.inj r' r b _ _ _ _ _ _ _ _ _ _ g4 hH g2 q1)
              · exact hX b g ⟨r, N + 1, _, _, _, _, hH, q1⟩
            refine .view _ _ _ b 0 cap h1 h2 (block_lt q2) q6 hnot (fun j => arr.getD j undef) (fun j a' ha' => ?_) (fun j a' ha' => ?_) (fun j a' ha' => ?_)
            all_goals
              rw [List.getElem?_take] at ha'
              split at ha'
              · obtain ⟨u, u1, u2, u3⟩ := q5 j a' ha'
                have hu : arr.getD j undef = u := by rw [Array.getD_eq_getD_getElem?, u1]; rfl
                first
                  | (rw [cell_at q2, Nat.zero_add, u1, hu])
                  | (rw [hu]; exact u2)
                  | (rw [hu]; exact u3.later hL.pure)
              · cases ha'
      · exact ⟨hr, hW, Step.refl _ _ _⟩
    · exact ⟨hr, hW, Step.refl _ _ _⟩
  · exact ⟨hr, hW, Step.refl _ _ _⟩
end
end Go.Awp
