/- Slice literals, make, append: rows of the call's own, on abstract values.
Conditions: none. -/
import Derived.Test.YtbjfkhjckfodbaaApp
namespace Go.Awp
set_option linter.all false
open Go

section
variable {P : Program} {w : World} {map : Nat → Option (Option (Nat × Nat))} {H : Heap} {X : Nat → Prop} {B : Nat}

def frzL : List (Nat × AV) → Heap → List (Nat × AV) × Heap
  | [], H => ([], H)
  | (i, a) :: l, H => ((i, (freeze1 H a).1) :: (frzL l (freeze1 H a).2).1, (frzL l (freeze1 H a).2).2)

theorem mut_freeze {a : AV} {b : Nat} (h : mutOf map (freeze1 H a).2 b) : mutOf map H b := by
  unfold freeze1 at h
  have gone : ∀ r, mutOf map (H.set r .gone) b → mutOf map H b := fun r ⟨r', N, new, box, e, c, h1, h2⟩ => ⟨r', N, new, box, e, c, (gone_get h1).2, h2⟩
  split at h
  · split at h
    · split at h
      · exact gone _ h
      · exact h
    · exact h
  · exact h

theorem frzL_ok : ∀ (ps : List (Nat × AV)) (vs : List (Nat × Value)) (H : Heap), (∀ b, X b → ¬ mutOf map H b) → WRel w (env map H X B) H → ps.length = vs.length →
    (∀ (i : Nat) p v, ps[i]? = some p → vs[i]? = some v → p.1 = v.1 ∧ VRel w (env map H X B) p.2 v.2) →
    (frzL ps H).1.length = vs.length ∧ (∀ (i : Nat) p v, (frzL ps H).1[i]? = some p → vs[i]? = some v → p.1 = v.1 ∧ VRel w (env map (frzL ps H).2 X B) p.2 v.2) ∧
      WRel w (env map (frzL ps H).2 X B) (frzL ps H).2 ∧ Step map H w map (frzL ps H).2 w
  | [], vs, H, _, hW, hl, _ => by
    cases vs with
    | nil => exact ⟨rfl, fun i p v h => by simp [frzL] at h, hW, Step.refl _ _ _⟩
    | cons _ _ => cases hl
  | (i, a) :: ps, vs, H, hX, hW, hl, hr => by
    cases vs with
    | nil => cases hl
    | cons v vs =>
      obtain ⟨h1, h2⟩ := hr 0 (i, a) v rfl rfl
      obtain ⟨g1, g2, g3⟩ := freeze1_ok hX hW h2
      have hL := g3.later (X := X) (B := B)
      obtain ⟨k1, k2, k3, k4⟩ := frzL_ok ps vs (freeze1 H a).2 (fun b hb hm => hX b hb (mut_freeze hm)) g2 (by simpa using hl) (fun j p u hj hu => by
        obtain ⟨q1, q2⟩ := hr (j + 1) p u (by simpa using hj) (by simpa using hu)
        exact ⟨q1, q2.later hL⟩)
      refine ⟨by simp [frzL, k1], fun j p u hj hu => ?_, k3, g3.trans k4⟩
      cases j with
      | zero =>
        simp [frzL] at hj hu
        subst hj; subst hu
        exact ⟨h1, g1.later (k4.later (X := X) (B := B))⟩
      | succ j => exact k2 j p u (by simpa [frzL] using hj) (by simpa using hu)

def makeL (n : Nat) (zs : List AV) : List AV := (List.range (n * zs.length)).map fun i => zs.getD (i % zs.length) .any

theorem crel_make {E : Env} {z : Value} (h : z.cells.all (·.oneCell') = true) (n : Nat) : CRel w E (makeL n (z.cells.toList.map AV.of1)) (madeCells z.cells (n * z.cells.size)) := by
  have hat : ∀ (i : Nat) u, (madeCells z.cells (n * z.cells.size))[i]? = some u → i < n * z.cells.size ∧ z.cells[i % z.cells.size]? = some u := by
    intro i u hu
    unfold madeCells at hu
    rw [Array.getElem?_map] at hu
    have hi : i < n * z.cells.size := by
      rcases Nat.lt_or_ge i (n * z.cells.size) with h | h
      · exact h
      · rw [Array.getElem?_eq_none (by simpa using h)] at hu; cases hu
    rw [Array.getElem?_eq_getElem (by simpa using hi)] at hu
    simp at hu
    have hp : 0 < z.cells.size := Nat.pos_of_ne_zero (fun e => by rw [e] at hi; omega)
    have hm := Nat.mod_lt i hp
    refine ⟨hi, ?_⟩
    rw [Array.getElem?_eq_getElem hm]
    rw [getElem!_pos z.cells _ hm] at hu
    rw [hu]
  refine ⟨by simp [makeL, size_madeCells], fun i u hu => all_one h (hat i u hu).2, fun i a u ha hu => ?_⟩
  obtain ⟨h1, h2⟩ := hat i u hu
  unfold makeL at ha
  rw [List.getElem?_map, List.getElem?_range (by simpa using h1)] at ha
  simp only [Option.map_some, Option.some.injEq, List.length_map, Array.length_toList] at ha
  subst ha
  rw [List.getD_eq_getElem?_getD, List.getElem?_map, Array.getElem?_toList, h2]
  exact rel_of1 _ _ u

theorem size_fill {place : Nat → Option (Nat × Nat)} : ∀ {vs : List (Nat × Value)} {arr arr' : Array Value}, Instr.fill place arr vs = some arr' → arr'.size = arr.size
  | [], arr, arr', h => by cases h; rfl
  | (i, v) :: vs, arr, arr', h => by
    unfold Instr.fill at h
    split at h
    · cases h
    · rename_i off size _
      split at h
      · cases h
      · have h1 := size_fill h
        rw [h1, ← Array.foldl_toList]
        have key : ∀ (l : List (Value × Nat)) (a : Array Value), (l.foldl (fun cs (x : Value × Nat) => cs.setIfInBounds (off + x.2) x.1) a).size = a.size := by
          intro l
          induction l with
          | nil => intro a; rfl
          | cons x l ih => intro a; rw [List.foldl_cons, ih]; simp
        exact key _ _

def buildSliceG (P : Program) (t : TypeId) (len : Nat) (ps : List (Nat × AV)) (H : Heap) (K : AV → Heap → Prop) : Prop :=
  match P.underlying t with
  | some (.slice e) =>
    match szOf P e, zeroOf P e with
    | some sz, some zs =>
      len * sz ≤ 16777216 ∧ len ≤ 16777216 ∧ zs.length = sz ∧ ∃ out, fillL (fun i => some (i * sz, sz)) (makeL len zs) (frzL ps H).1 = some out ∧ out.all AV.isPure = true ∧
        (if len = 0 then K .nils (frzL ps H).2 else K (.slc (frzL ps H).2.length 0 len sz) ((frzL ps H).2 ++ [.blk true false e out]))
    | _, _ => False
  | _ => False

theorem Good.step {map' : Nat → Option (Option (Nat × Nat))} {H' : Heap} {w' : World} {K : AV → Heap → Prop} {v : Value} {w'' : World} (hs : Step map H w map' H' w') (h : Good map' H' X B w' K v w'') : Good map H X B w K v w'' := by
  obtain ⟨m, av, H2, h1, h2, h3, h4⟩ := h
  exact ⟨m, av, H2, h1, h2, h3, hs.trans h4⟩

theorem crel_get {E : Env} {cells : List AV} {arr : Array Value} (h : CRel w E cells arr) {i : Nat} {a : AV} (ha : cells[i]? = some a) : ∃ u, arr[i]? = some u ∧ u.oneCell' = true ∧ VRel w E a u := by
  have hi := (List.getElem?_eq_some_iff.1 ha).1
  have hu : arr[i]? = some (arr[i]'(by have := h.1; omega)) := Array.getElem?_eq_getElem (by have := h.1; omega)
  exact ⟨_, hu, h.2.1 i _ hu, h.2.2 i a _ ha hu⟩

theorem crel_pure {E : Env} {cells : List AV} {arr : Array Value} (h : CRel w E cells arr) (hp : cells.all AV.isPure = true) {i : Nat} {a : AV} (ha : cells[i]? = some a) : ∃ u, arr[i]? = some u ∧ u.oneCell' = true ∧ VRel w E.pure a u := by
  obtain ⟨u, h1, h2, h3⟩ := crel_get h ha
  rw [List.all_eq_true] at hp
  exact ⟨u, h1, h2, h3.to_pure (hp a (List.mem_of_getElem? ha))⟩

/-- A new block that no root tells of. -/
theorem good_junk {K : AV → Heap → Prop} {av : AV} {v : Value} {o : Obj} {n0 : Nat} (hW : WRel w (env map H X B) H) (hk : K av H) (hv : ∀ E', VRel ((w.drewN n0).alloc o) E' av v) :
    Good map H X B w K v ((w.drewN n0).alloc o) := by
  have hst : Step map H w map H ((w.drewN n0).alloc o) :=
    ⟨rfl, rfl, rfl, by simp, fun b hb _ => heap_alloc_old (w.drewN n0) _ hb, fun _ _ h => h, fun _ _ => rfl, Nat.le_refl _, fun _ _ h => h⟩
  refine ⟨map, av, H, hk, hv _, ⟨fun r new box e cells hr => ?_, hW.inj, hW.glob.later (hst.later (X := X) (B := B))⟩, hst⟩
  exact (hW.root r new box e cells hr).later hst.later (fun b N hm => heap_alloc_old (w.drewN n0) _ (hW.lt hr hm))

theorem buildSliceG_ok {t : TypeId} {len : Nat} {ps : List (Nat × AV)} {vs : Array (Nat × Value)} {K : AV → Heap → Prop} {o : Oper} {ρ : Operand → Value} (hfree : ∀ av H', K av H' → ∀ r, H.length ≤ r → r < H'.length → map r = none) (hX : ∀ b, X b → b < w.heap.size ∧ ¬ mutOf map H b) (hW : WRel w (env map H X B) H) (hB : B ≤ w.heap.size)
    (hl : ps.length = vs.size) (hr : ∀ (i : Nat) p v, ps[i]? = some p → vs[i]? = some v → p.1 = v.1 ∧ VRel w (env map H X B) p.2 v.2)
    (he : (execOp ρ o) = (do pure (.value (← Instr.buildSlice t len vs)))) (h : buildSliceG P t len ps H K) : OpRun P o ρ w (Good map H X B w K) := by
  unfold buildSliceG at h
  split at h
  · rename_i e hu
    split at h
    · rename_i sz zs hsz hz
      obtain ⟨h1, h1', h2, out, ho, hp, hk⟩ := h
      obtain ⟨k1, k2, k3, k4⟩ := frzL_ok ps vs.toList H (fun b hb => (hX b hb).2) hW (by simpa using hl) (fun i p v hi hv => hr i p v hi (by simpa using hv))
      obtain ⟨z, z1, rfl, z3⟩ := run_zero hz w
      have hzs : z.cells.size = sz := by simpa using h2
      have hcm := crel_make (w := w) (E := env map (frzL ps H).2 X B) z3 len
      obtain ⟨arr', e1, e2⟩ := fillL_ok _ vs.toList _ out _ k1 k2 hcm ho
      refine .value (v := .slice (some ⟨w.heap.size, 0, none⟩) len len) (w' := (w.drewN 0).alloc (.cells arr' e)) ?_ ?_
      · rw [he]
        have hn : ¬ (len * sz > 2 ^ 24) := by omega
        have hfill : Instr.fill (fun i => some (i * sz, sz)) (madeCells z.cells (len * sz)) vs.toList = some arr' := by rw [← hzs]; rw [← hzs] at e1; exact e1
        by_cases h0 : len * sz = 0
        · have hm : madeCells z.cells (len * sz) = (Array.range (len * sz)).map ((#[] : Array Value)[· % (#[] : Array Value).size]!) := by
            rw [h0]; simp [madeCells]
          rw [hm] at hfill
          simp only [Instr.buildSlice, Sem.run_bind, run_underlying hu, Result.andThen_ok, run_sizeOf hsz, if_neg hn, if_pos h0, Sem.run_pure, hfill, newRow, run_newObj]
          rfl
        · simp only [Instr.buildSlice, Sem.run_bind, run_underlying hu, Result.andThen_ok, run_sizeOf hsz, if_neg hn, if_neg h0, Sem.run_pure, z1, newRow, run_newObj]
          simp only [madeCells] at hfill
          rw [hfill]
          rfl
      · refine Good.step k4 ?_
        have hsz' : arr'.size = len * sz := by
          have := e2.1
          have h3 : out.length = (makeL len (z.cells.toList.map AV.of1)).length := by
            rw [this]
            have := hcm.1
            have h4 := size_fill e1
            omega
          rw [← this, h3]; simp [makeL, hzs]
        have hmx : len ≤ maxLen := by unfold maxLen; omega
        by_cases h0 : len = 0
        · rw [if_pos h0] at hk
          subst h0
          exact good_junk k3 hk (fun E' => .nils)
        · rw [if_neg h0] at hk
          exact good_new (box := false) (e := e) k3 hB (by have := e2.1; omega) (fun i a ha => crel_pure e2 hp ha) hk (hfree _ _ hk _ k4.len (by simp)) (fun E' hm => .slc _ _ _ _ _ _ _ hm (Nat.le_refl _) hmx (by omega))
    · exact h.elim
  · exact h.elim
def bytesOf (P : Program) (t : TypeId) : Option Nat := (P.info? t).map (·.bytes)

/-- Rows of rows may hold rows of the call's own. -/
def isRow (u : Option TypeDesc) : Bool := match u with
  | some (.slice _) => true
  | _ => false
def makeSliceG (P : Program) (t : TypeId) (l c : AV) (H : Heap) (K : AV → Heap → Prop) : Prop :=
  match P.underlying t, l, c with
  | some (.slice e), .int _ l, .int _ c =>
    match szOf P e, bytesOf P e, zeroOf P e with
    | some sz, some by_, some zs => 0 ≤ l ∧ l ≤ c ∧ (by_ : Int) * c ≤ 281474976710656 ∧ c ≤ 9223372036854775807 ∧ zs.length = sz ∧ zs.all AV.isPure = true ∧
        K (.slc H.length 0 l.toNat sz) (H ++ [.blk true (isRow (P.underlying e)) e (makeL c.toNat zs)])
    | _, _, _ => False
  | _, _, _ => False

theorem makeSliceG_ok {t : TypeId} {l c : AV} {vl vc : Value} {K : AV → Heap → Prop} {o : Oper} {ρ : Operand → Value} (hfree : ∀ av H', K av H' → ∀ r, H.length ≤ r → r < H'.length → map r = none) (hl : VRel w (env map H X B) l vl) (hc : VRel w (env map H X B) c vc) (hW : WRel w (env map H X B) H) (hB : B ≤ w.heap.size)
    (he : (execOp ρ o) = (do pure (.value (← Instr.makeSlice t vl vc)))) (h : makeSliceG P t l c H K) : OpRun P o ρ w (Good map H X B w K) := by
  unfold makeSliceG at h
  split at h
  · rename_i e kl l kc c hu
    cases hl; cases hc
    split at h
    · rename_i sz by_ zs hsz hby hz
      obtain ⟨h1, h2, h3, h4, h5, hp, hk⟩ := h
      unfold szOf at hsz; unfold bytesOf at hby; unfold zeroOf at hz
      cases hi : P.info? e with
      | none => simp [hi] at hsz
      | some i =>
        cases hzz : i.zero with
        | none => simp [hi, hzz] at hz
        | some z =>
          simp only [hi, hzz, Option.bind_some] at hz
          simp [hi] at hsz hby
          split at hz
          · rename_i hone
            cases hz
            subst hsz; subst hby
            have hrun := run_make (P := P) w t e i z hu hi hzz kl kc l c h1 h2 h3 h4
            have hzs : z.cells.size = i.size := by simpa using h5
            refine .value (v := .slice (some ⟨w.heap.size, 0, none⟩) l.toNat c.toNat) (w' := (w.drewN 0).alloc (.cells (madeCells z.cells (c.toNat * i.size)) e)) ?_ ?_
            · rw [he]; simp only [Sem.run_bind, hrun, Result.andThen_ok, Sem.run_pure]; rfl
            · have hcm := crel_make (w := w) (E := env map H X B) hone c.toNat
              rw [hzs] at hcm
              refine good_new (box := isRow (P.underlying e)) hW hB (Nat.le_of_eq hcm.1) (fun j a ha => ?_) hk (hfree _ _ hk _ (Nat.le_refl _) (by simp)) (fun E' hm => .slc _ _ _ _ _ _ _ hm (by omega) (by unfold maxLen; omega) (by simp [size_madeCells]))
              obtain ⟨u, u1, u2, u3⟩ := crel_pure hcm (all_make hp) ha
              refine ⟨u, u1, u2, ?_⟩
              split
              · exact u3.of_pure
              · exact u3
          · cases hz
    · exact h.elim
  · exact h.elim
where
  all_make {zs : List AV} {n : Nat} (h : zs.all AV.isPure = true) : (makeL n zs).all AV.isPure = true := by
    rw [List.all_eq_true] at h ⊢
    intro a ha
    unfold makeL at ha
    obtain ⟨i, _, rfl⟩ := List.mem_map.1 ha
    rw [List.getD_eq_getElem?_getD]
    cases hz : zs[i % zs.length]? with
    | none => rfl
    | some b => exact h b (List.mem_of_getElem? hz)
end
end Go.Awp
