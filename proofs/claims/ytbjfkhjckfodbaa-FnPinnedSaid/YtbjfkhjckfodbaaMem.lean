/- Operations on memory: loads, stores, new blocks, on abstract values.
Conditions: none. -/
import Derived.Test.YtbjfkhjckfodbaaOps
namespace Go.Awp
set_option linter.all false
open Go

/-- Some outcome that the continuation takes. -/
def Good (map : Nat → Option (Option (Nat × Nat))) (H : Heap) (X : Nat → Prop) (B : Nat) (w : World) (K : AV → Heap → Prop) (v : Value) (w' : World) : Prop :=
  ∃ map' av H', K av H' ∧ VRel w' (env map' H' X B) av v ∧ WRel w' (env map' H' X B) H' ∧ Step map H w map' H' w'

section
variable {P : Program} {w : World} {map : Nat → Option (Option (Nat × Nat))} {H : Heap} {X : Nat → Prop} {B : Nat}

theorem PureOk.good {o : Oper} {ρ : Operand → Value} {s : Sem Value} {K : AV → Heap → Prop} (hW : WRel w (env map H X B) H) (h : PureOk P w (env map H X B) s (K · H))
    (he : ∀ v n, s.run P w = .ok v (w.drewN n) → (execOp ρ o).run P w = .ok (.value v) (w.drewN n)) : OpRun P o ρ w (Good map H X B w K) := by
  obtain ⟨v, n, av, h1, h2, h3⟩ := h
  exact .value (he v n h1) ⟨map, av, H, h3, h2, hW.drewN n, Step.drewN map H w n⟩

theorem good_same {K : AV → Heap → Prop} {av : AV} {v : Value} (hW : WRel w (env map H X B) H) (hr : VRel w (env map H X B) av v) (hk : K av H) : Good map H X B w K v w :=
  ⟨map, av, H, hk, hr, hW, Step.refl map H w⟩

theorem exists_list {α β : Type} (R : Nat → α → β → Prop) : ∀ (l : List α) (k : Nat), (∀ (i : Nat) a, l[i]? = some a → ∃ b, R (k + i) a b) →
    ∃ l' : List β, l'.length = l.length ∧ ∀ (i : Nat) a b, l[i]? = some a → l'[i]? = some b → R (k + i) a b
  | [], _, _ => ⟨[], rfl, fun i a b h => by simp at h⟩
  | x :: l, k, h => by
    obtain ⟨y, hy⟩ := h 0 x rfl
    obtain ⟨l', hl, hr⟩ := exists_list R l (k + 1) (fun i a ha => by
      have := h (i + 1) a (by simpa using ha)
      rwa [show k + (i + 1) = k + 1 + i by omega] at this)
    refine ⟨y :: l', by simp [hl], fun i a b ha hb => ?_⟩
    cases i with
    | zero => simp at ha hb; subst ha; subst hb; exact hy
    | succ i =>
      have := hr i a b (by simpa using ha) (by simpa using hb)
      rwa [show k + 1 + i = k + (i + 1) by omega] at this

def aggOf (P : Program) (t : TypeId) : Option Bool :=
  (P.underlying t).map fun d => match d with
    | .struct _ | .array _ _ => true
    | _ => false
def szOf (P : Program) (t : TypeId) : Option Nat := (P.info? t).map (·.size)

theorem run_isAgg {t : TypeId} {b : Bool} (h : aggOf P t = some b) (w : World) : (isAgg t).run P w = .ok b w := by
  unfold aggOf at h
  cases hu : P.underlying t with
  | none => simp [hu] at h
  | some d =>
    simp [hu] at h
    cases d <;> simp at h <;> subst h <;> simp [isAgg, run_underlying hu]
theorem run_sizeOf {t : TypeId} {n : Nat} (h : szOf P t = some n) (w : World) : (sizeOf t).run P w = .ok n w := by
  unfold szOf at h
  cases hi : P.info? t with
  | none => simp [hi] at h
  | some i => simp [hi] at h; subst h; simp [sizeOf, typeInfo, hi]

theorem add_none (b off n : Nat) : (⟨b, off, none⟩ : Addr).add n = ⟨b, off + n, none⟩ := by
  unfold Addr.add; split <;> simp_all

/-- What a load of some cells gives. -/
def loadL (agg : Bool) (sz : Nat) (cells : List AV) (off : Nat) : Option AV :=
  if agg then (if off + sz ≤ cells.length then some (.agg ((cells.drop off).take sz)) else none) else cells[off]?

theorem run_loadVar {t : TypeId} {ag : Bool} {sz : Nat} {cells : List AV} {off o0 b : Nat} {av : AV} {E : Env} (ha : aggOf P t = some ag) (hs : szOf P t = some sz)
    (hc : ∀ (j : Nat) a, cells[j]? = some a → ∃ v, w.cell? ⟨b, o0 + j, none⟩ = some v ∧ v.oneCell' = true ∧ VRel w E a v) (hl : loadL ag sz cells off = some av) :
    ∃ v, (loadVar t ⟨b, o0 + off, none⟩).run P w = .ok v w ∧ VRel w E av v := by
  unfold loadL at hl
  cases ag with
  | true =>
    simp only [if_true] at hl
    split at hl
    · rename_i hle
      cases hl
      obtain ⟨vs, hvl, hvr⟩ := exists_list (fun j a v => w.cell? ⟨b, o0 + j, none⟩ = some v ∧ v.oneCell' = true ∧ VRel w E a v) ((cells.drop off).take sz) off (fun i a hi => by
        rw [List.getElem?_take] at hi
        split at hi
        · rw [List.getElem?_drop] at hi
          exact hc _ a hi
        · cases hi)
      have hlen : ((cells.drop off).take sz).length = sz := by rw [List.length_take, List.length_drop]; omega
      have hat : ∀ (j : Nat) v, vs[j]? = some v → ∃ a, ((cells.drop off).take sz)[j]? = some a := fun j v hv => by
        have h1 := (List.getElem?_eq_some_iff.1 hv).1
        rw [hvl] at h1
        exact ⟨_, List.getElem?_eq_getElem h1⟩
      have hrun := run_loadCells_list (P := P) w ⟨b, o0 + off, none⟩ vs (fun j v hv => by
        obtain ⟨a, ha'⟩ := hat j v hv
        rw [add_none, Nat.add_assoc]
        exact (hvr j a v ha' hv).1)
      rw [hvl, hlen] at hrun
      refine ⟨.agg vs.toArray, ?_, .agg _ _ (by simp [hvl]) (fun i v hv => ?_) (fun i a v hi hv => ?_)⟩
      · simp [loadVar, run_isAgg ha, run_sizeOf hs, hrun]
      · rw [List.getElem?_toArray] at hv
        obtain ⟨a, ha'⟩ := hat i v hv
        exact (hvr i a v ha' hv).2.1
      · rw [List.getElem?_toArray] at hv
        exact (hvr i a v hi hv).2.2
    · cases hl
  | false =>
    simp only [Bool.false_eq_true, if_false] at hl
    obtain ⟨v, h1, h2, h3⟩ := hc off av hl
    exact ⟨v, by simp [loadVar, run_isAgg ha, h1], h3⟩

def loadG (P : Program) (t : TypeId) (a : AV) (H : Heap) (K : AV → Prop) : Prop :=
  match aggOf P t, szOf P t with
  | some ag, some sz =>
    match a with
    | .ptr r off =>
      match H[r]? with
      | some (.blk _ _ _ cells) => ∃ av, loadL ag sz cells off = some av ∧ K av
      | _ => False
    | .vptr _ cells => ∃ av, loadL ag sz cells 0 = some av ∧ K av
    | _ => False
  | _, _ => False

theorem cell_at {b j : Nat} {arr : Array Value} {e : TypeId} (h : w.heap[b]? = some (.cells arr e (0, 0))) : w.cell? ⟨b, j, none⟩ = arr[j]? := by simp [World.cell?, h]

theorem loadG_run {t : TypeId} {a : AV} {x : Value} {K : AV → Prop} (hx : VRel w (env map H X B) a x) (hW : WRel w (env map H X B) H) (h : loadG P t a H K) :
    ∃ ad v av, x = .pointer (some ad) ∧ (loadVar t ad).run P w = .ok v w ∧ VRel w (env map H X B) av v ∧ K av := by
  unfold loadG at h
  split at h
  · rename_i ag sz hag hsz
    split at h
    · split at h
      · rename_i r off _ new box e cells hr
        obtain ⟨av, hl, hk⟩ := h
        cases hx with
        | ptr r off b N hm =>
          rcases hW.root r new box e cells hr with ⟨h1, _⟩ | ⟨b', N', arr, h1, h2, h3, h4, h6, h5⟩
          · rw [h1] at hm; cases hm
          · rw [h1] at hm; cases hm
            obtain ⟨v, hrun, hrel⟩ := run_loadVar (P := P) (w := w) (o0 := 0) (b := b) (E := env map H X B) hag hsz (fun j a' ha' => by
              obtain ⟨v, hv1, hv2, hv3⟩ := h5 j a' ha'
              refine ⟨v, by rw [cell_at h2.cells, Nat.zero_add]; exact hv1, hv2, ?_⟩
              cases box
              · exact hv3.of_pure
              · exact hv3) hl
            rw [Nat.zero_add] at hrun
            exact ⟨_, v, av, rfl, hrun, hrel, hk⟩
      · exact h.elim
    · obtain ⟨av, hl, hk⟩ := h
      cases hx with
      | vptr new cells b off hlt hb hmut u hc ho hr =>
        obtain ⟨v, hrun, hrel⟩ := run_loadVar (P := P) (w := w) (o0 := off) (b := b) (E := env map H X B) hag hsz (fun j a' ha' => ⟨u j, hc j a' ha', ho j a' ha', (hr j a' ha').of_pure⟩) hl
        rw [Nat.add_zero] at hrun
        exact ⟨_, v, av, rfl, hrun, hrel, hk⟩
    · exact h.elim
  · exact h.elim

theorem loadG_ok {t : TypeId} {a : AV} {x : Value} {K : AV → Prop} (hx : VRel w (env map H X B) a x) (hW : WRel w (env map H X B) H) (h : loadG P t a H K) :
    PureOk P w (env map H X B) (Instr.loadAt t x) K := by
  obtain ⟨ad, v, av, rfl, h1, h2, h3⟩ := loadG_run hx hW h
  exact .of (v := v) (by simp [Instr.loadAt, Instr.sureAddr, h1]) h2 h3

/-- The cells of a value. -/
def AV.cellsOf : AV → Option (List AV)
  | .agg l => some l
  | .any | .tup _ => none
  | a => some [a]

def AV.isPure : AV → Bool
  | .int .. | .bool _ | .flt .. | .str _ | .ifc _ | .nilp | .nils | .view .. | .vptr .. | .nilf | .any | .mview .. => true
  | .clo _ [] [] => true
  | _ => false

theorem VRel.to_pure {E : Env} {a : AV} {v : Value} (hp : a.isPure = true) (h : VRel w E a v) : VRel w E.pure a v := by
  cases h with
  | any v => exact .any v
  | int k n => exact .int k n
  | bool b => exact .bool b
  | flt k x r h hr => exact .flt k x r h hr
  | str s => exact .str s
  | ifc z v h => exact .ifc z v h
  | nilp => exact .nilp
  | nils => exact .nils
  | view0 new cells A cap hm => exact .view0 new cells A cap hm
  | view new cells n b off cap hn hm hlt hb hmut u hc ho hr => exact .view new cells n b off cap hn hm hlt hb hmut u hc ho hr
  | vptr new cells b off hlt hb hmut u hc ho hr => exact .vptr new cells b off hlt hb hmut u hc ho hr
  | nilf => exact .nilf
  | mview new e ks vs b us hlt hb hmut hh h1 h2 hk hr => exact .mview new e ks vs b us hlt hb hmut hh h1 h2 hk hr
  | clo f first caps vf vc h1 h2 h3 h4 =>
    cases first with
    | nil => cases caps with
      | nil => exact .clo f [] [] vf vc h1 h2 (fun i a v h => by simp at h) (fun i a v h => by simp at h)
      | cons _ _ => cases hp
    | cons _ _ => cases hp
  | _ => cases hp

theorem rel_cells {E : Env} {a : AV} {v : Value} {cs : List AV} (h : VRel w E a v) (hc : a.cellsOf = some cs) :
    cs.length = v.cells.size ∧ (∀ (i : Nat) u, v.cells[i]? = some u → u.oneCell' = true) ∧ ∀ (i : Nat) c u, cs[i]? = some c → v.cells[i]? = some u → VRel w E c u := by
  have one : ∀ (a' : AV) (v' : Value), VRel w E a' v' → v'.oneCell' = true → cs = [a'] → v'.cells = #[v'] →
      cs.length = v'.cells.size ∧ (∀ (i : Nat) u, v'.cells[i]? = some u → u.oneCell' = true) ∧ ∀ (i : Nat) c u, cs[i]? = some c → v'.cells[i]? = some u → VRel w E c u := by
    intro a' v' hr ho hcs hv
    subst hcs
    rw [hv]
    refine ⟨rfl, fun i u hu => ?_, fun i c u hc hu => ?_⟩
    · cases i with
      | zero => simp at hu; subst hu; exact ho
      | succ i => simp at hu
    · cases i with
      | zero => simp at hu hc; subst hu; subst hc; exact hr
      | succ i => simp at hu
  cases h with
  | agg l vs h1 h2 h3 => cases hc; exact ⟨h1, h2, h3⟩
  | any v => cases hc
  | tup l vs h1 h3 => cases hc
  | int k n => cases hc; exact one _ _ (.int k n) rfl rfl rfl
  | bool b => cases hc; exact one _ _ (.bool b) rfl rfl rfl
  | flt k x r h hr => cases hc; exact one _ _ (.flt k x r h hr) rfl rfl rfl
  | str s => cases hc; exact one _ _ (.str s) rfl rfl rfl
  | ifc z v h => cases hc; exact one _ _ (.ifc z v h) h.one.1 rfl h.one.2
  | nilp => cases hc; exact one _ _ .nilp rfl rfl rfl
  | ptr r off b N h => cases hc; exact one _ _ (.ptr r off b N h) rfl rfl rfl
  | nils => cases hc; exact one _ _ .nils rfl rfl rfl
  | slc r off n q b N cap h hn hm hN => cases hc; exact one _ _ (.slc r off n q b N cap h hn hm hN) rfl rfl rfl
  | slcv r q h => cases hc; exact one _ _ (.slcv r q h) rfl rfl rfl
  | view0 new cells A cap hm => cases hc; exact one _ _ (.view0 new cells A cap hm) rfl rfl rfl
  | view new cells n b off cap hn hm hlt hb hmut u hc' ho hr => cases hc; exact one _ _ (.view new cells n b off cap hn hm hlt hb hmut u hc' ho hr) rfl rfl rfl
  | vptr new cells b off hlt hb hmut u hc' ho hr => cases hc; exact one _ _ (.vptr new cells b off hlt hb hmut u hc' ho hr) rfl rfl rfl
  | clo f first caps vf vc h1 h2 h3 h4 => cases hc; exact one _ _ (.clo f first caps vf vc h1 h2 h3 h4) rfl rfl rfl
  | nilf => cases hc; exact one _ _ .nilf rfl rfl rfl
  | mp r b h => cases hc; exact one _ _ (.mp r b h) rfl rfl rfl
  | mview new e ks vs b us hlt hb hmut hh h1 h2 hk hr => cases hc; exact one _ _ (.mview new e ks vs b us hlt hb hmut hh h1 h2 hk hr) rfl rfl rfl

theorem get_append {H : Heap} {x : Root} {r : Nat} {y : Root} (h : (H ++ [x])[r]? = some y) : (r < H.length ∧ H[r]? = some y) ∨ (r = H.length ∧ y = x) := by
  rw [List.getElem?_append] at h
  split at h
  · exact .inl ⟨‹_›, h⟩
  · rename_i hge
    have : r - H.length = 0 := by
      have := (List.getElem?_eq_some_iff.1 h).1
      simp at this; omega
    rw [this] at h
    simp at h
    exact .inr ⟨by omega, h.symm⟩

/-- A new block for a new root. -/
theorem good_newN {K : AV → Heap → Prop} {av : AV} {v : Value} {box : Bool} {e : TypeId} {cs : List AV} {arr : Array Value} {n0 N0 : Nat} {ob : Obj} (hob : ObjIs N0 e arr ob) (hsz : SizeIs N0 box arr cs)
    (hW : WRel w (env map H X B) H) (hB : B ≤ w.heap.size) (hlen : cs.length ≤ arr.size)
    (hc : ∀ (i : Nat) a, cs[i]? = some a → ∃ u, arr[i]? = some u ∧ u.oneCell' = true ∧ VRel w (if box then env map H X B else (env map H X B).pure) a u)
    (hk : K av (H ++ [.blk true box e cs]))
    (hfree : map H.length = none)
    (hv : ∀ E', E'.map H.length = some (some (w.heap.size, N0)) → VRel ((w.drewN n0).alloc ob) E' av v) :
    Good map H X B w K v ((w.drewN n0).alloc ob) := by
  let map' : Nat → Option (Option (Nat × Nat)) := fun r => if r = H.length then some (some (w.heap.size, N0)) else map r
  have hmap : ∀ r, r < H.length → map' r = map r := fun r hr => by simp only [map']; rw [if_neg (by omega)]
  have hmapn : map' H.length = some (some (w.heap.size, N0)) := by simp [map']
  have hsame : ∀ r x, map r = some x → map' r = some x := fun r x hx => by
    simp only [map']
    split
    · rename_i e; subst e; rw [hfree] at hx; cases hx
    · exact hx
  have hmut : ∀ b, b < w.heap.size → mutOf map' (H ++ [.blk true box e cs]) b → mutOf map H b := by
    rintro b hb ⟨r, N, new, box', e', cells, hr, hm⟩
    rcases get_append hr with ⟨h1, h2⟩ | ⟨rfl, h2⟩
    · exact ⟨r, N, new, box', e', cells, h2, by rw [← hmap r h1]; exact hm⟩
    · rw [hmapn] at hm; cases hm; omega
  have hst : Step map H w map' (H ++ [.blk true box e cs]) ((w.drewN n0).alloc ob) :=
    ⟨rfl, rfl, rfl, by simp, fun b hb _ => heap_alloc_old (w.drewN n0) _ hb, hsame, fun r hr => by
      have : r ≠ H.length := by rcases hr with hr | hr; omega; simp at hr; omega
      simp only [map']; rw [if_neg this], by simp, hmut⟩
  have hL := hst.later (X := X) (B := B)
  refine ⟨map', av, _, hk, hv _ hmapn, ⟨fun r new' box' e' cells hr => ?_, fun r r' b N N' new1 new2 box1 box2 e1 e2 c1 c2 hr hr' hm hm' => ?_, hW.glob.later hL⟩, hst⟩
  · rcases get_append hr with ⟨h1, h2⟩ | ⟨rfl, h2⟩
    · refine (hW.root r new' box' e' cells h2).later hL (fun b N hm => ?_)
      exact heap_alloc_old (w.drewN n0) _ (hW.lt h2 hm)
    · cases h2
      refine .inr ⟨w.heap.size, N0, arr, hmapn, ⟨_, heap_alloc_new (w.drewN n0) _, hob⟩, hsz, hlen, fun _ => hB, fun i a ha => ?_⟩
      obtain ⟨u, h1, h2, h3⟩ := hc i a ha
      refine ⟨u, h1, h2, ?_⟩
      cases box
      · exact h3.later hL.pure
      · exact h3.later hL
  · have hm : map' r = some (some (b, N)) := hm
    have hm' : map' r' = some (some (b, N')) := hm'
    rcases get_append hr with ⟨h1, h2⟩ | ⟨rfl, h2⟩
    · rcases get_append hr' with ⟨h1', h2'⟩ | ⟨rfl, h2'⟩
      · rw [hmap r h1] at hm; rw [hmap r' h1'] at hm'
        exact hW.inj r r' b N N' _ _ _ _ _ _ _ _ h2 h2' hm hm'
      · rw [hmapn] at hm'; cases hm'
        rw [hmap r h1] at hm
        exact absurd (hW.lt h2 hm) (Nat.lt_irrefl _)
    · rcases get_append hr' with ⟨h1', h2'⟩ | ⟨rfl, h2'⟩
      · rw [hmapn] at hm; cases hm
        rw [hmap r' h1'] at hm'
        exact absurd (hW.lt h2' hm') (Nat.lt_irrefl _)
      · rfl
theorem good_new {K : AV → Heap → Prop} {av : AV} {v : Value} {box : Bool} {e : TypeId} {cs : List AV} {arr : Array Value} {n0 : Nat}
    (hW : WRel w (env map H X B) H) (hB : B ≤ w.heap.size) (hlen : cs.length ≤ arr.size)
    (hc : ∀ (i : Nat) a, cs[i]? = some a → ∃ u, arr[i]? = some u ∧ u.oneCell' = true ∧ VRel w (if box then env map H X B else (env map H X B).pure) a u)
    (hk : K av (H ++ [.blk true box e cs]))
    (hfree : map H.length = none)
    (hv : ∀ E', E'.map H.length = some (some (w.heap.size, arr.size + 1)) → VRel ((w.drewN n0).alloc (.cells arr e)) E' av v) :
    Good map H X B w K v ((w.drewN n0).alloc (.cells arr e)) :=
  good_newN (N0 := arr.size + 1) rfl rfl hW hB hlen hc hk hfree hv
end
end Go.Awp
