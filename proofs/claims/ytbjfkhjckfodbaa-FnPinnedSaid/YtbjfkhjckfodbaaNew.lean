/- Stores, new blocks, fields, indexes, slices: on abstract values.
Conditions: none. -/
import Derived.Test.YtbjfkhjckfodbaaMem
namespace Go.Awp
set_option linter.all false
open Go

section
variable {P : Program} {w : World} {map : Nat → Option (Option (Nat × Nat))} {H : Heap} {X : Nat → Prop} {B : Nat}

theorem set_get {H : Heap} {x y : Root} {r r' : Nat} (h : (H.set r x)[r']? = some y) : (r' ≠ r ∧ H[r']? = some y) ∨ (r' = r ∧ y = x) := by
  rw [List.getElem?_set] at h
  split at h
  · split at h
    · cases h; exact .inr ⟨by omega, rfl⟩
    · cases h
  · exact .inl ⟨by omega, h⟩

/-- A live root's block holds other cells. -/
theorem good_setN {K : AV → Heap → Prop} {av : AV} {v : Value} {new box : Bool} {e : TypeId} {r b N : Nat} {cells cells' : List AV} {arr' : Array Value} {w' : World}
    (hW : WRel w (env map H X B) H) (hr : H[r]? = some (.blk new box e cells)) (hm : map r = some (some (b, N))) (hos : w'.os = w.os) (htape : w'.tape = w.tape) (hout : w'.output = w.output) (hsize : w'.heap.size = w.heap.size) (hother : ∀ b', b' ≠ b → w'.heap[b']? = w.heap[b']?)
    (hat : RowAt w' b N e arr') (hn : new = true → B ≤ b) (hN : SizeIs N box arr' cells') (hlen : cells'.length ≤ arr'.size)
    (hc : ∀ (i : Nat) a, cells'[i]? = some a → ∃ u, arr'[i]? = some u ∧ u.oneCell' = true ∧ VRel w (if box then env map H X B else (env map H X B).pure) a u)
    (hk : K av (H.set r (.blk new box e cells'))) (hv : ∀ E' w', VRel w' E' av v) :
    Good map H X B w K v w' := by
  have hmut : ∀ b', mutOf map (H.set r (.blk new box e cells')) b' → mutOf map H b' := by
    rintro b' ⟨r', N', new', box', e', c', hr', hm'⟩
    rcases set_get hr' with ⟨h1, h2⟩ | ⟨rfl, h2⟩
    · exact ⟨r', N', new', box', e', c', h2, hm'⟩
    · exact ⟨r', N', new, box, e, cells, hr, hm'⟩
  have hst : Step map H w map (H.set r (.blk new box e cells')) w' :=
    ⟨hos, htape, hout, by omega, fun b' hb' hn' => hother b' (fun e' => hn' (by subst e'; exact ⟨r, N, new, box, e, cells, hr, hm⟩)), fun _ _ h => h, fun _ _ => rfl, by simp, fun b' _ h => hmut b' h⟩
  have hL := hst.later (X := X) (B := B)
  refine ⟨map, av, _, hk, hv _ _, ⟨fun r' new' box' e' c' hr' => ?_, fun r1 r2 b' N1 N2 n1 n2 x1 x2 e1 e2 c1 c2 h1 h2 hm1 hm2 => ?_, hW.glob.later hL⟩, hst⟩
  · rcases set_get hr' with ⟨h1, h2⟩ | ⟨rfl, h2⟩
    · refine (hW.root r' new' box' e' c' h2).later hL (fun b' N' hm' => ?_)
      refine hother b' (fun e' => h1 ?_)
      subst e'
      exact hW.inj r' r _ _ _ _ _ _ _ _ _ _ _ h2 hr hm' hm
    · cases h2
      refine .inr ⟨b, N, arr', hm, hat, hN, hlen, hn, fun i a ha => ?_⟩
      obtain ⟨u, g1, g2, g3⟩ := hc i a ha
      refine ⟨u, g1, g2, ?_⟩
      cases box
      · exact g3.later hL.pure
      · exact g3.later hL
  · have back : ∀ {r0 : Nat} {n0 x0 : Bool} {e0 : TypeId} {c0 : List AV}, (H.set r (.blk new box e cells'))[r0]? = some (.blk n0 x0 e0 c0) → ∃ n x e c, H[r0]? = some (.blk n x e c) := by
      intro r0 n0 x0 e0 c0 h0
      rcases set_get h0 with ⟨_, g2⟩ | ⟨rfl, _⟩
      · exact ⟨_, _, _, _, g2⟩
      · exact ⟨_, _, _, _, hr⟩
    obtain ⟨_, _, _, _, g1⟩ := back h1
    obtain ⟨_, _, _, _, g2⟩ := back h2
    exact hW.inj r1 r2 b' N1 N2 _ _ _ _ _ _ _ _ g1 g2 hm1 hm2

theorem good_set {K : AV → Heap → Prop} {av : AV} {v : Value} {new box : Bool} {e : TypeId} {r b N : Nat} {cells cells' : List AV} {arr arr' : Array Value}
    (hW : WRel w (env map H X B) H) (hr : H[r]? = some (.blk new box e cells)) (hm : map r = some (some (b, N + 1))) (hb : w.heap[b]? = some (.cells arr e (0, 0))) (hn : new = true → B ≤ b)
    (hN : arr'.size = N) (hlen : cells'.length ≤ N)
    (hc : ∀ (i : Nat) a, cells'[i]? = some a → ∃ u, arr'[i]? = some u ∧ u.oneCell' = true ∧ VRel w (if box then env map H X B else (env map H X B).pure) a u)
    (hk : K av (H.set r (.blk new box e cells'))) (hv : ∀ E' w', VRel w' E' av v) :
    Good map H X B w K v (w.setRow b arr') :=
  good_setN (N := N + 1) hW hr hm rfl rfl rfl (by simp) (fun b' h => setRow_other w b b' arr' (fun e => h e)) (.of_cells N (setRow_heap w b arr arr' e _ hb)) hn hN (by omega) hc hk hv

/-- Cells laid over others. -/
def splice {α : Type} (cells : List α) (off : Nat) (cs : List α) : List α := cells.take off ++ cs ++ cells.drop (off + cs.length)

theorem splice_length {α : Type} (cells : List α) (off : Nat) (cs : List α) (h : off + cs.length ≤ cells.length) : (splice cells off cs).length = cells.length := by
  simp [splice]; omega
theorem splice_get {α : Type} (cells : List α) (off : Nat) (cs : List α) (h : off + cs.length ≤ cells.length) (i : Nat) :
    (splice cells off cs)[i]? = if i < off then cells[i]? else if i < off + cs.length then cs[i - off]? else cells[i]? := by
  unfold splice
  have h1 : (cells.take off).length = off := by simp; omega
  rw [List.append_assoc, List.getElem?_append, h1]
  split
  · rw [List.getElem?_take, if_pos ‹_›]
  · rw [List.getElem?_append]
    split
    · rw [if_pos (by omega)]
    · rw [if_neg (by omega), List.getElem?_drop]
      congr 1
      omega

def storeG (P : Program) (t : TypeId) (a x : AV) (H : Heap) (K : AV → Heap → Prop) : Prop :=
  match szOf P t, a, x.cellsOf with
  | some sz, .ptr r off, some cs =>
    match H[r]? with
    | some (.blk new box e cells) => cs.length = sz ∧ off + cs.length ≤ cells.length ∧ (box || cs.all AV.isPure) = true ∧ K .any (H.set r (.blk new box e (splice cells off cs)))
    | _ => False
  | _, _, _ => False

theorem storeG_ok {t : TypeId} {a x : AV} {va vx : Value} {K : AV → Heap → Prop} {o : Oper} {ρ : Operand → Value} (ha : VRel w (env map H X B) a va) (hx : VRel w (env map H X B) x vx) (hW : WRel w (env map H X B) H)
    (he : (execOp ρ o) = (do Instr.storeAt t va vx; pure .skip)) (h : storeG P t a x H K) : OpRun P o ρ w (Good map H X B w K) := by
  unfold storeG at h
  split at h
  · rename_i sz r off cs hsz hcs
    split at h
    · rename_i new box e cells hr
      obtain ⟨h1, h2, h3, hk⟩ := h
      obtain ⟨g1, g2, g3⟩ := rel_cells hx hcs
      cases ha with
      | ptr r off b N hm =>
        rcases hW.root r new box e cells hr with ⟨q1, _⟩ | ⟨b', N', arr, q1, q2, q3, q4, q6, q5⟩
        · rw [q1] at hm; cases hm
        · rw [q1] at hm; cases hm
          replace q2 := q2.cells
          replace q3 : arr.size = N := q3
          rw [q3] at q4
          have hfit : off + 0 + vx.cells.toList.length ≤ arr.size := by simp; omega
          have hrun := run_storeCells_at P b off e vx.cells.toList 0 arr w q2 hfit (fun u hu => by
            obtain ⟨i, hi⟩ := List.getElem?_of_mem hu
            exact g2 i u (by simpa using hi))
          have hex : (execOp ρ o).run P w = .ok .skip (w.setRow b (arr.toList.take (off + 0) ++ vx.cells.toList ++ arr.toList.drop (off + 0 + vx.cells.toList.length)).toArray) := by
            rw [he]
            have : vx.cells.size = sz := by omega
            simp [Instr.storeAt, Instr.sureAddr, storeVar, run_sizeOf hsz, this, hrun]
          refine .skip hex ?_
          have hsp : (arr.toList.take (off + 0) ++ vx.cells.toList ++ arr.toList.drop (off + 0 + vx.cells.toList.length)) = splice arr.toList off vx.cells.toList := by simp [splice]
          rw [hsp]
          have hl : (splice arr.toList off vx.cells.toList).length = N := by
            rw [splice_length _ _ _ (by simp; omega)]
            simp [q3]
          refine good_set hW hr q1 q2 q6 (by simpa using hl) (by rw [splice_length _ _ _ h2]; exact q4) (fun i a' ha' => ?_) hk (fun _ _ => .any _)
          rw [splice_get _ _ _ h2] at ha'
          rw [List.getElem?_toArray, splice_get _ _ _ (by simp; omega)]
          have hlen : vx.cells.toList.length = cs.length := by simp [g1]
          rw [hlen]
          by_cases c1 : i < off
          · rw [if_pos c1] at ha' ⊢
            obtain ⟨u, u1, u2, u3⟩ := q5 i a' ha'
            exact ⟨u, by simpa using u1, u2, u3⟩
          · rw [if_neg c1] at ha' ⊢
            by_cases c2 : i < off + cs.length
            · rw [if_pos c2] at ha' ⊢
              have hlt := (List.getElem?_eq_some_iff.1 ha').1
              have hu : vx.cells[i - off]? = some (vx.cells[i - off]'(by omega)) := Array.getElem?_eq_getElem (by omega)
              refine ⟨vx.cells[i - off]'(by omega), by simpa using hu, g2 _ _ hu, ?_⟩
              have hrel := g3 (i - off) a' _ ha' hu
              cases box with
              | true => exact hrel
              | false =>
                simp only [Bool.false_or, List.all_eq_true] at h3
                exact hrel.to_pure (h3 a' (List.mem_of_getElem? ha'))
            · rw [if_neg c2] at ha' ⊢
              obtain ⟨u, u1, u2, u3⟩ := q5 i a' ha'
              exact ⟨u, by simpa using u1, u2, u3⟩
    · exact h.elim
  · exact h.elim

/-- A type's zero, cell by cell. -/
def zeroOf (P : Program) (e : TypeId) : Option (List AV) :=
  ((P.info? e).bind (·.zero)).bind fun z => if z.cells.all (·.oneCell') then some (z.cells.toList.map AV.of1) else none

theorem run_zero {e : TypeId} {zs : List AV} (h : zeroOf P e = some zs) (w : World) : ∃ z : Value, (zeroValue e).run P w = .ok z w ∧ zs = z.cells.toList.map AV.of1 ∧ z.cells.all (·.oneCell') = true := by
  unfold zeroOf at h
  cases hi : P.info? e with
  | none => simp [hi] at h
  | some i =>
    cases hz : i.zero with
    | none => simp [hi, hz] at h
    | some z =>
      simp only [hi, hz, Option.bind_some] at h
      split at h
      · cases h
        exact ⟨z, by simp [zeroValue, typeInfo, hi, hz], rfl, ‹_›⟩
      · cases h

theorem all_one {vs : Array Value} (h : vs.all (·.oneCell') = true) {i : Nat} {u : Value} (hu : vs[i]? = some u) : u.oneCell' = true := by
  rw [Array.all_eq_true] at h
  obtain ⟨hi, rfl⟩ := Array.getElem?_eq_some_iff.1 hu
  exact h i hi

def allocG (P : Program) (e : TypeId) (H : Heap) (K : AV → Heap → Prop) : Prop :=
  match zeroOf P e with
  | some zs => K (.ptr H.length 0) (H ++ [.blk true true e zs])
  | none => False

theorem allocG_ok {e : TypeId} {K : AV → Heap → Prop} {o : Oper} {ρ : Operand → Value} (hfree : ∀ av H', K av H' → ∀ r, H.length ≤ r → r < H'.length → map r = none) (hW : WRel w (env map H X B) H) (hB : B ≤ w.heap.size)
    (he : (execOp ρ o) = (do pure (.value (← Instr.alloc e true (.tuple #[]))))) (h : allocG P e H K) : OpRun P o ρ w (Good map H X B w K) := by
  unfold allocG at h
  split at h
  · rename_i zs hz
    obtain ⟨z, h1, rfl, h3⟩ := run_zero hz w
    refine .value (v := .pointer (some ⟨w.heap.size, 0, none⟩)) (w' := (w.drewN 0).alloc (.cells z.cells e)) ?_ ?_
    · rw [he]
      simp [Instr.alloc, h1, newVar, newRow]
      rfl
    · refine good_new hW hB (by simp) (fun i a ha => ?_) h (hfree _ _ h _ (Nat.le_refl _) (by simp)) (fun E' hm => .ptr _ _ _ _ hm)
      rw [List.getElem?_map, Array.getElem?_toList] at ha
      cases hu : z.cells[i]? with
      | none => simp [hu] at ha
      | some u => simp [hu] at ha; subst ha; exact ⟨u, rfl, all_one h3 hu, rel_of1 _ _ u⟩
  · exact h.elim

def boxG (e : TypeId) (x : AV) (H : Heap) (K : AV → Heap → Prop) : Prop :=
  match x.cellsOf with
  | some cs => K (.ptr H.length 0) (H ++ [.blk true true e cs])
  | none => False

theorem boxG_ok {e : TypeId} {x : AV} {vx : Value} {K : AV → Heap → Prop} {o : Oper} {ρ : Operand → Value} (hfree : ∀ av H', K av H' → ∀ r, H.length ≤ r → r < H'.length → map r = none) (hx : VRel w (env map H X B) x vx) (hW : WRel w (env map H X B) H) (hB : B ≤ w.heap.size)
    (he : (execOp ρ o) = (do pure (.value (← Instr.box e vx)))) (h : boxG e x H K) : OpRun P o ρ w (Good map H X B w K) := by
  unfold boxG at h
  split at h
  · rename_i cs hcs
    obtain ⟨g1, g2, g3⟩ := rel_cells hx hcs
    refine .value (v := .pointer (some ⟨w.heap.size, 0, none⟩)) (w' := (w.drewN 0).alloc (.cells vx.cells e)) ?_ ?_
    · rw [he]
      simp [Instr.box, newVar, newRow]
      rfl
    · refine good_new hW hB (by omega) (fun i a ha => ?_) h (hfree _ _ h _ (Nat.le_refl _) (by simp)) (fun E' hm => .ptr _ _ _ _ hm)
      have hi := (List.getElem?_eq_some_iff.1 ha).1
      have hu : vx.cells[i]? = some (vx.cells[i]'(by omega)) := Array.getElem?_eq_getElem (by omega)
      exact ⟨_, hu, g2 i _ hu, g3 i a _ ha hu⟩
  · exact h.elim

def fieldAddrG (P : Program) (s : TypeId) (a : AV) (f : Nat) (K : AV → Prop) : Prop :=
  match P.underlying s with
  | some (.struct fields) =>
    match fields[f]? with
    | some fd =>
      match szOf P fd.type with
      | some (_ + 1) =>
        match a with
        | .ptr r off => K (.ptr r (off + fd.offset))
        | .vptr new cells => K (.vptr new (cells.drop fd.offset))
        | _ => False
      | _ => False
    | _ => False
  | _ => False

theorem vptr_drop {E : Env} {new : Bool} {cells : List AV} {b off n : Nat} (h : VRel w E (.vptr new cells) (.pointer (some ⟨b, off, none⟩))) : VRel w E (.vptr new (cells.drop n)) (.pointer (some ⟨b, off + n, none⟩)) := by
  cases h with
  | vptr new cells b off hlt hb hmut u hc ho hr =>
    exact .vptr _ _ _ _ hlt hb hmut (fun j => u (n + j)) (fun j a ha => by rw [List.getElem?_drop] at ha; rw [Nat.add_assoc]; exact hc _ a ha)
      (fun j a ha => by rw [List.getElem?_drop] at ha; exact ho _ a ha) (fun j a ha => by rw [List.getElem?_drop] at ha; exact hr _ a ha)

theorem fieldAddrG_ok {s : TypeId} {a : AV} {v : Value} {f : Nat} {K : AV → Prop} {E : Env} (ha : VRel w E a v) (h : fieldAddrG P s a f K) : PureOk P w E (Instr.fieldAt s v f) K := by
  unfold fieldAddrG at h
  split at h
  · rename_i fields hu
    split at h
    · rename_i fd hf
      split at h
      · rename_i m hsz
        split at h
        · cases ha with
          | ptr _ _ b N hm =>
            refine .of (v := .pointer (some ⟨b, _ + fd.offset, none⟩)) ?_ (.ptr _ _ _ _ hm) h
            simp [Instr.fieldAt, run_underlying hu, hf, Instr.sureAddr, fieldPlace, run_sizeOf hsz, add_none]
        · cases ha with
          | vptr new cells b off hlt hb hmut u hc ho hr =>
            refine .of (v := .pointer (some ⟨b, off + fd.offset, none⟩)) ?_ (vptr_drop (.vptr _ _ _ _ hlt hb hmut u hc ho hr)) h
            simp [Instr.fieldAt, run_underlying hu, hf, Instr.sureAddr, fieldPlace, run_sizeOf hsz, add_none]
        · exact h.elim
      · exact h.elim
    · exact h.elim
  · exact h.elim

def indexAddrG (P : Program) (t : TypeId) (x i : AV) (K : AV → Prop) : Prop :=
  match i with
  | .int _ i =>
    match P.underlying t with
    | some (.slice e) =>
      match szOf P e with
      | some sz =>
        match x with
        | .slc r off n _ => 0 ≤ i ∧ i < n ∧ K (.ptr r (off + i.toNat * sz))
        | .view new cells n => 0 ≤ i ∧ i < n ∧ K (.vptr new (cells.drop (i.toNat * sz)))
        | _ => False
      | _ => False
    | some (.array len e) =>
      match szOf P e with
      | some sz =>
        match x with
        | .ptr r off => 0 ≤ i ∧ i < len ∧ K (.ptr r (off + i.toNat * sz))
        | .vptr new cells => 0 ≤ i ∧ i < len ∧ K (.vptr new (cells.drop (i.toNat * sz)))
        | _ => False
      | _ => False
    | _ => False
  | _ => False

theorem indexAddrG_ok {t : TypeId} {x i : AV} {vx vi : Value} {K : AV → Prop} {E : Env} (hx : VRel w E x vx) (hi : VRel w E i vi) (h : indexAddrG P t x i K) : PureOk P w E (Instr.indexAt t vx vi) K := by
  unfold indexAddrG at h
  split at h
  · cases hi
    split at h
    · rename_i e hu
      split at h
      · rename_i sz hsz
        split at h
        · obtain ⟨h1, h2, h⟩ := h
          cases hx with
          | slc _ _ _ _ b N cap hm hn hmx hN =>
            refine .of (v := .pointer (some ⟨b, _ + (Int.toNat _) * sz, none⟩)) ?_ (.ptr _ _ _ _ hm) h
            simp [Instr.indexAt, asIntOf, run_underlying hu, h1, h2, run_sizeOf hsz, add_none]
          | slcv r q hm => omega
        · obtain ⟨h1, h2, h⟩ := h
          cases hx with
          | view0 new cells A cap hm => omega
          | view new cells n b off cap hn hm hlt hb hmut u hc ho hr =>
            refine .of (v := .pointer (some ⟨b, off + (Int.toNat _) * sz, none⟩)) ?_ (vptr_drop (.vptr _ _ _ _ hlt hb hmut u hc ho hr)) h
            simp [Instr.indexAt, asIntOf, run_underlying hu, h1, h2, run_sizeOf hsz, add_none]
        · exact h.elim
      · exact h.elim
    · rename_i len e hu
      split at h
      · rename_i sz hsz
        split at h
        · obtain ⟨h1, h2, h⟩ := h
          cases hx with
          | ptr _ _ b N hm =>
            refine .of (v := .pointer (some ⟨b, _ + (Int.toNat _) * sz, none⟩)) ?_ (.ptr _ _ _ _ hm) h
            simp [Instr.indexAt, Instr.sureAddr, asIntOf, run_underlying hu, h1, h2, run_sizeOf hsz, add_none]
        · obtain ⟨h1, h2, h⟩ := h
          cases hx with
          | vptr new cells b off hlt hb hmut u hc ho hr =>
            refine .of (v := .pointer (some ⟨b, off + (Int.toNat _) * sz, none⟩)) ?_ (vptr_drop (.vptr _ _ _ _ hlt hb hmut u hc ho hr)) h
            simp [Instr.indexAt, Instr.sureAddr, asIntOf, run_underlying hu, h1, h2, run_sizeOf hsz, add_none]
        · exact h.elim
      · exact h.elim
    · exact h.elim
  · exact h.elim
end
end Go.Awp
