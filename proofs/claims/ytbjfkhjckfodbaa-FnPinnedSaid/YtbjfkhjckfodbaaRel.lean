/- Abstract values and how they stand for the machine's values; what a step may change.
Conditions: none. -/
import Derived.Test.YtbjfkhjckfodbaaGlob
import Derived.Maps.AppendAt
import Derived.Laws.OwnMore
namespace Go.Awp
set_option linter.all false
open Go

/-- What is known of a value. 'ptr', 'slc': into a root of the heap below; 'view', 'vptr': memory that nobody changes. -/
inductive AV where
  | any
  | int (k : IntKind) (n : Int)
  | bool (b : Bool)
  | flt (k : FloatKind) (x : Nat)
  | str (s : ByteArray)
  /-- an interface value of which only is known whether it is nil -/
  | ifc (z : Bool)
  | agg (l : List AV)
  | tup (l : List AV)
  | nilp
  | ptr (r off : Nat)
  | nils
  | slc (r off n q : Nat)
  | view (new : Bool) (cells : List AV) (n : Nat)
  | vptr (new : Bool) (cells : List AV)
  | clo (f : FuncId) (first caps : List AV)
  | nilf
  /-- a map of the call's own; a map that nobody changes: its kind of keys, the keys, the values -/
  | mp (r : Nat)
  | mview (new : Bool) (e : Nat) (ks : List (List Int)) (vs : List AV)
  deriving Inhabited

/-- A block that the call may change: whether the call made it, its element type, what its first cells hold. A 'box' may hold pointers into other roots. A map is a 'box' whose cells are its keys' numbers and values, entry by entry. -/
inductive Root where
  | gone
  | blk (new box : Bool) (e : TypeId) (cells : List AV)
  deriving Inhabited
abbrev Heap := List Root

structure Env where
  map : Nat → Option (Option (Nat × Nat))
  live : Nat → Prop
  base : Nat

def Env.pure (E : Env) : Env := { E with map := fun _ => none }

/-- How many numbers a key is: a plain one ('e' is 0), or an array of 'e' ones. -/
def kwid (e : Nat) : Nat := if e = 0 then 1 else e
def keyV (e : Nat) (k : List Int) : Value := if e = 0 then .int .i64 (k.headD 0) else .agg (k.map (Value.int .i64)).toArray
/-- Entries out of keys and values. -/
def entL (e : Nat) : Nat → List (List Int) → List Value → List MapEntry
  | i, k :: ks, v :: vs => { key := keyV e k, val := v, born := i } :: entL e (i + 1) ks vs
  | _, _, _ => []
/-- The row that stands for a map. -/
def rowV : List (List Int) → List Value → List Value
  | k :: ks, v :: vs => k.map (Value.int .i64) ++ v :: rowV ks vs
  | _, _ => []
/-- 'o' is the object that a row stands for: cells, or a map (N is 0). -/
def ObjIs : Nat → TypeId → Array Value → Obj → Prop
  | 0, e, arr, o => ∃ (ks : List (List Int)) (vs : List Value), ks.length = vs.length ∧ (∀ k ∈ ks, k.length = kwid e) ∧ arr = (rowV ks vs).toArray ∧ o = .map (entL e 0 ks vs).toArray ks.length
  | _ + 1, e, arr, o => o = .cells arr e (0, 0)
def RowAt (w : World) (b N : Nat) (e : TypeId) (arr : Array Value) : Prop := ∃ o, w.heap[b]? = some o ∧ ObjIs N e arr o
theorem RowAt.of_eq {w w' : World} {b N : Nat} {e : TypeId} {arr : Array Value} (h : RowAt w b N e arr) (he : w'.heap[b]? = w.heap[b]?) : RowAt w' b N e arr := by
  obtain ⟨o, h1, h2⟩ := h
  exact ⟨o, he.trans h1, h2⟩
theorem RowAt.cells {w : World} {b N : Nat} {e : TypeId} {arr : Array Value} (h : RowAt w b (N + 1) e arr) : w.heap[b]? = some (.cells arr e (0, 0)) := by
  obtain ⟨o, h1, h2⟩ := h
  have h2 : o = .cells arr e (0, 0) := h2
  rw [h1, h2]
theorem RowAt.of_cells {w : World} {b : Nat} (N : Nat) {e : TypeId} {arr : Array Value} (h : w.heap[b]? = some (.cells arr e (0, 0))) : RowAt w b (N + 1) e arr := ⟨_, h, rfl⟩
def SizeIs : Nat → Bool → Array Value → List AV → Prop
  | 0, box, arr, cells => box = true ∧ cells.length = arr.size
  | N + 1, _, arr, _ => arr.size = N

/-- Whether an interface value is nil. -/
def IfcIs : Bool → Value → Prop
  | true, v => v = .nilIface
  | false, v => ∃ t p, v = .iface t p
theorem IfcIs.one {z : Bool} {v : Value} (h : IfcIs z v) : v.oneCell' = true ∧ v.cells = #[v] := by
  cases z with
  | true => have h : v = .nilIface := h; subst h; exact ⟨rfl, rfl⟩
  | false => obtain ⟨t, p, rfl⟩ := h; exact ⟨rfl, rfl⟩

inductive VRel (w : World) : Env → AV → Value → Prop
  | any {E : Env} (v : Value) : VRel w E .any v
  | int {E : Env} (k : IntKind) (n : Int) : VRel w E (.int k n) (.int k n)
  | bool {E : Env} (b : Bool) : VRel w E (.bool b) (.bool b)
  | flt {E : Env} (k : FloatKind) (x r : Nat) (h : cn k r = x) (hr : r < 2 ^ k.format.width) : VRel w E (.flt k x) (.float k r)
  | str {E : Env} (s : ByteArray) : VRel w E (.str s) (.string s)
  | ifc {E : Env} (z : Bool) (v : Value) (h : IfcIs z v) : VRel w E (.ifc z) v
  | agg {E : Env} (l : List AV) (vs : Array Value) (h1 : l.length = vs.size) (h2 : ∀ (i : Nat) v, vs[i]? = some v → v.oneCell' = true)
      (h3 : ∀ (i : Nat) a v, l[i]? = some a → vs[i]? = some v → VRel w E a v) : VRel w E (.agg l) (.agg vs)
  | tup {E : Env} (l : List AV) (vs : Array Value) (h1 : l.length = vs.size)
      (h3 : ∀ (i : Nat) a v, l[i]? = some a → vs[i]? = some v → VRel w E a v) : VRel w E (.tup l) (.tuple vs)
  | nilp {E : Env} : VRel w E .nilp (.pointer none)
  | ptr {E : Env} (r off b N : Nat) (h : E.map r = some (some (b, N + 1))) : VRel w E (.ptr r off) (.pointer (some ⟨b, off, none⟩))
  | nils {E : Env} {A : Option Addr} : VRel w E .nils (.slice A 0 0)
  | slc {E : Env} (r off n q b N cap : Nat) (h : E.map r = some (some (b, N + 1))) (hn : n ≤ cap) (hm : cap ≤ maxLen) (hN : off + cap * q = N) :
      VRel w E (.slc r off n q) (.slice (some ⟨b, off, none⟩) n cap)
  | slcv {E : Env} {A : Option Addr} (r q : Nat) (h : E.map r = some none) : VRel w E (.slc r 0 0 q) (.slice A 0 0)
  | view0 {E : Env} (new : Bool) (cells : List AV) (A : Option Addr) (cap : Nat) (hm : cap ≤ maxLen) : VRel w E (.view new cells 0) (.slice A 0 cap)
  | view {E : Env} (new : Bool) (cells : List AV) (n b off cap : Nat) (hn : n ≤ cap) (hm : cap ≤ maxLen) (hlt : b < w.heap.size) (hb : new = true → E.base ≤ b) (hmut : ¬ E.live b)
      (u : Nat → Value) (hc : ∀ (j : Nat) a, cells[j]? = some a → w.cell? ⟨b, off + j, none⟩ = some (u j)) (ho : ∀ (j : Nat) a, cells[j]? = some a → (u j).oneCell' = true)
      (hr : ∀ (j : Nat) a, cells[j]? = some a → VRel w E.pure a (u j)) : VRel w E (.view new cells n) (.slice (some ⟨b, off, none⟩) n cap)
  | vptr {E : Env} (new : Bool) (cells : List AV) (b off : Nat) (hlt : b < w.heap.size) (hb : new = true → E.base ≤ b) (hmut : ¬ E.live b)
      (u : Nat → Value) (hc : ∀ (j : Nat) a, cells[j]? = some a → w.cell? ⟨b, off + j, none⟩ = some (u j)) (ho : ∀ (j : Nat) a, cells[j]? = some a → (u j).oneCell' = true)
      (hr : ∀ (j : Nat) a, cells[j]? = some a → VRel w E.pure a (u j)) : VRel w E (.vptr new cells) (.pointer (some ⟨b, off, none⟩))
  | clo {E : Env} (f : FuncId) (first caps : List AV) (vf vc : Array Value) (h1 : first.length = vf.size) (h2 : caps.length = vc.size)
      (h3 : ∀ (i : Nat) a v, first[i]? = some a → vf[i]? = some v → VRel w E a v) (h4 : ∀ (i : Nat) a v, caps[i]? = some a → vc[i]? = some v → VRel w E a v) :
      VRel w E (.clo f first caps) (.func (.func f) vf vc)
  | nilf {E : Env} : VRel w E .nilf .nilFunc
  | mp {E : Env} (r b : Nat) (h : E.map r = some (some (b, 0))) : VRel w E (.mp r) (.map (some b))
  | mview {E : Env} (new : Bool) (e : Nat) (ks : List (List Int)) (vs : List AV) (b : Nat) (us : List Value) (hlt : b < w.heap.size) (hb : new = true → E.base ≤ b) (hmut : ¬ E.live b)
      (hh : w.heap[b]? = some (.map (entL e 0 ks us).toArray ks.length)) (h1 : ks.length = us.length) (h2 : vs.length = us.length) (hk : ∀ k ∈ ks, k.length = kwid e)
      (hr : ∀ (j : Nat) a u, vs[j]? = some a → us[j]? = some u → VRel w E.pure a u) : VRel w E (.mview new e ks vs) (.map (some b))

/-- What a later world and a later list of roots keep of what is known. -/
structure Later (E : Env) (w : World) (E' : Env) (w' : World) : Prop where
  map : ∀ r x, E.map r = some x → E'.map r = some x
  base : E'.base ≤ E.base
  live : ∀ b, b < w.heap.size → E'.live b → E.live b
  size : w.heap.size ≤ w'.heap.size
  block : ∀ b, b < w.heap.size → ¬ E.live b → w'.heap[b]? = w.heap[b]?

theorem Later.pure {E E' : Env} {w w' : World} (h : Later E w E' w') : Later E.pure w E'.pure w' :=
  ⟨fun _ _ h => h, h.base, h.live, h.size, h.block⟩

theorem VRel.later {w w' : World} {E : Env} {a : AV} {v : Value} (h : VRel w E a v) : ∀ {E' : Env}, Later E w E' w' → VRel w' E' a v := by
  induction h with
  | any v => exact fun _ => .any v
  | int k n => exact fun _ => .int k n
  | bool b => exact fun _ => .bool b
  | flt k x r h hr => exact fun _ => .flt k x r h hr
  | str s => exact fun _ => .str s
  | ifc z v h => exact fun _ => .ifc z v h
  | agg l vs h1 h2 h3 ih => exact fun L => .agg l vs h1 h2 fun i a v ha hv => ih i a v ha hv L
  | tup l vs h1 h3 ih => exact fun L => .tup l vs h1 fun i a v ha hv => ih i a v ha hv L
  | nilp => exact fun _ => .nilp
  | ptr r off b N h => exact fun L => .ptr r off b N (L.map r _ h)
  | nils => exact fun _ => .nils
  | slc r off n q b N cap h hn hm hN => exact fun L => .slc r off n q b N cap (L.map r _ h) hn hm hN
  | slcv r q h => exact fun L => .slcv r q (L.map r _ h)
  | view0 new cells A cap hm => exact fun _ => .view0 new cells A cap hm
  | view new cells n b off cap hn hm hlt hb hmut u hc ho hr ih =>
    exact fun L => .view new cells n b off cap hn hm (Nat.lt_of_lt_of_le hlt L.size) (fun e => Nat.le_trans L.base (hb e)) (fun e => hmut (L.live b hlt e)) u
      (fun j a ha => by rw [← hc j a ha]; exact World.cell?_of_block (a := ⟨b, off + j, none⟩) (L.block b hlt hmut)) ho fun j a ha => ih j a ha L.pure
  | vptr new cells b off hlt hb hmut u hc ho hr ih =>
    exact fun L => .vptr new cells b off (Nat.lt_of_lt_of_le hlt L.size) (fun e => Nat.le_trans L.base (hb e)) (fun e => hmut (L.live b hlt e)) u
      (fun j a ha => by rw [← hc j a ha]; exact World.cell?_of_block (a := ⟨b, off + j, none⟩) (L.block b hlt hmut)) ho fun j a ha => ih j a ha L.pure
  | clo f first caps vf vc h1 h2 h3 h4 ih3 ih4 =>
    exact fun L => .clo f first caps vf vc h1 h2 (fun i a v ha hv => ih3 i a v ha hv L) (fun i a v ha hv => ih4 i a v ha hv L)
  | nilf => exact fun _ => .nilf
  | mp r b h => exact fun L => .mp r b (L.map r _ h)
  | mview new e ks vs b us hlt hb hmut hh h1 h2 hk hr ih =>
    exact fun L => .mview new e ks vs b us (Nat.lt_of_lt_of_le hlt L.size) (fun e => Nat.le_trans L.base (hb e)) (fun e => hmut (L.live b hlt e)) ((L.block b hlt hmut).trans hh) h1 h2 hk fun j a u ha hu => ih j a u ha hu L.pure

/-- What holds without roots holds with any. -/
theorem VRel.of_pure {w : World} {E : Env} {a : AV} {v : Value} (h : VRel w E.pure a v) : VRel w E a v := by
  generalize he : E.pure = E0 at h
  induction h generalizing E with
  | any v => exact .any v
  | int k n => exact .int k n
  | bool b => exact .bool b
  | flt k x r h hr => exact .flt k x r h hr
  | str s => exact .str s
  | ifc z v h => exact .ifc z v h
  | agg l vs h1 h2 h3 ih => exact .agg l vs h1 h2 fun i a v ha hv => ih i a v ha hv he
  | tup l vs h1 h3 ih => exact .tup l vs h1 fun i a v ha hv => ih i a v ha hv he
  | nilp => exact .nilp
  | ptr r off b N h => subst he; cases h
  | nils => exact .nils
  | slc r off n q b N cap h hn hm hN => subst he; cases h
  | slcv r q h => subst he; cases h
  | view0 new cells A cap hm => exact .view0 new cells A cap hm
  | view new cells n b off cap hn hm hlt hb hmut u hc ho hr ih => subst he; exact .view new cells n b off cap hn hm hlt hb hmut u hc ho hr
  | vptr new cells b off hlt hb hmut u hc ho hr ih => subst he; exact .vptr new cells b off hlt hb hmut u hc ho hr
  | clo f first caps vf vc h1 h2 h3 h4 ih3 ih4 => exact .clo f first caps vf vc h1 h2 (fun i a v ha hv => ih3 i a v ha hv he) (fun i a v ha hv => ih4 i a v ha hv he)
  | nilf => exact .nilf
  | mp r b h => subst he; cases h
  | mview new e ks vs b us hlt hb hmut hh h1 h2 hk hr ih => subst he; exact .mview new e ks vs b us hlt hb hmut hh h1 h2 hk hr

/-- The blocks of live roots. -/
def mutOf (map : Nat → Option (Option (Nat × Nat))) (H : Heap) (b : Nat) : Prop :=
  ∃ (r N : Nat) (new box : Bool) (e : TypeId) (cells : List AV), H[r]? = some (.blk new box e cells) ∧ map r = some (some (b, N))

def env (map : Nat → Option (Option (Nat × Nat))) (H : Heap) (X : Nat → Prop) (B : Nat) : Env :=
  { map, live := fun b => mutOf map H b ∨ X b, base := B }

/-- What a live root's block holds. -/
def RootRel (w : World) (E : Env) (r : Nat) (new box : Bool) (e : TypeId) (cells : List AV) : Prop :=
  (E.map r = some none ∧ cells = [] ∧ box = false) ∨
  ∃ (b N : Nat) (arr : Array Value), E.map r = some (some (b, N)) ∧ RowAt w b N e arr ∧ SizeIs N box arr cells ∧ cells.length ≤ arr.size ∧ (new = true → E.base ≤ b) ∧
    ∀ (i : Nat) a, cells[i]? = some a → ∃ v, arr[i]? = some v ∧ v.oneCell' = true ∧ VRel w (if box then E else E.pure) a v

/-- What is known of package variables, which nobody changes. -/
def GlobOk (w : World) (E : Env) : Prop := ∀ p ∈ globs, (∃ o, w.heap[p.1]? = some o ∧ p.2 o) ∧ ¬ E.live p.1
theorem GlobOk.later {w w' : World} {E E' : Env} (h : GlobOk w E) (L : Later E w E' w') : GlobOk w' E' := by
  intro p hp
  obtain ⟨⟨o, h1, h2⟩, h3⟩ := h p hp
  have hlt : p.1 < w.heap.size := (Array.getElem?_eq_some_iff.1 h1).1
  exact ⟨⟨o, by rw [L.block _ hlt h3]; exact h1, h2⟩, fun e => h3 (L.live _ hlt e)⟩
theorem GlobOk.live {w : World} {E E' : Env} (h : GlobOk w E) (hl : ∀ b, E'.live b → E.live b) : GlobOk w E' := fun p hp => ⟨(h p hp).1, fun e => (h p hp).2 (hl _ e)⟩

structure WRel (w : World) (E : Env) (H : Heap) : Prop where
  root : ∀ (r : Nat) new box e cells, H[r]? = some (.blk new box e cells) → RootRel w E r new box e cells
  inj : ∀ (r r' b N N' : Nat) new new' box box' e e' cells cells', H[r]? = some (.blk new box e cells) → H[r']? = some (.blk new' box' e' cells') → E.map r = some (some (b, N)) → E.map r' = some (some (b, N')) → r = r'
  glob : GlobOk w E

/-- A step of the world that changes live roots' blocks alone, and makes new ones. -/
structure Step (map : Nat → Option (Option (Nat × Nat))) (H : Heap) (w : World) (map' : Nat → Option (Option (Nat × Nat))) (H' : Heap) (w' : World) : Prop where
  os : w'.os = w.os
  tape : w'.tape = w.tape
  output : w'.output = w.output
  size : w.heap.size ≤ w'.heap.size
  block : ∀ b, b < w.heap.size → ¬ mutOf map H b → w'.heap[b]? = w.heap[b]?
  same : ∀ r x, map r = some x → map' r = some x
  out : ∀ r, r < H.length ∨ H'.length ≤ r → map' r = map r
  len : H.length ≤ H'.length
  old : ∀ b, b < w.heap.size → mutOf map' H' b → mutOf map H b

theorem Step.refl (map : Nat → Option (Option (Nat × Nat))) (H : Heap) (w : World) : Step map H w map H w :=
  ⟨rfl, rfl, rfl, Nat.le_refl _, fun _ _ _ => rfl, fun _ _ h => h, fun _ _ => rfl, Nat.le_refl _, fun _ _ h => h⟩

theorem Step.trans {m1 m2 m3 : Nat → Option (Option (Nat × Nat))} {H1 H2 H3 : Heap} {w1 w2 w3 : World} (h : Step m1 H1 w1 m2 H2 w2) (k : Step m2 H2 w2 m3 H3 w3) : Step m1 H1 w1 m3 H3 w3 :=
  ⟨k.os.trans h.os, k.tape.trans h.tape, k.output.trans h.output, Nat.le_trans h.size k.size,
    fun b hb hn => (k.block b (Nat.lt_of_lt_of_le hb h.size) (fun e => hn (h.old b hb e))).trans (h.block b hb hn),
    fun r x hx => k.same r x (h.same r x hx), fun r hr => hr.elim (fun hr => (k.out r (.inl (Nat.lt_of_lt_of_le hr h.len))).trans (h.out r (.inl hr))) (fun hr => (k.out r (.inr hr)).trans (h.out r (.inr (Nat.le_trans k.len hr)))), Nat.le_trans h.len k.len,
    fun b hb e => h.old b hb (k.old b (Nat.lt_of_lt_of_le hb h.size) e)⟩

theorem Step.later {map map' : Nat → Option (Option (Nat × Nat))} {H H' : Heap} {w w' : World} {X : Nat → Prop} {B : Nat} (h : Step map H w map' H' w') : Later (env map H X B) w (env map' H' X B) w' :=
  ⟨h.same, Nat.le_refl _, fun b hb e => e.imp (h.old b hb) id, h.size, fun b hb hn => h.block b hb (fun e => hn (.inl e))⟩

theorem Step.drewN (map : Nat → Option (Option (Nat × Nat))) (H : Heap) (w : World) (n : Nat) : Step map H w map H (w.drewN n) :=
  ⟨rfl, rfl, rfl, Nat.le_refl _, fun _ _ _ => rfl, fun _ _ h => h, fun _ _ => rfl, Nat.le_refl _, fun _ _ h => h⟩

theorem later_drewN (E : Env) (w : World) (n : Nat) : Later E w E (w.drewN n) :=
  ⟨fun _ _ h => h, Nat.le_refl _, fun _ _ h => h, Nat.le_refl _, fun _ _ _ => rfl⟩

theorem RootRel.later {w w' : World} {E E' : Env} {r : Nat} {new box : Bool} {e : TypeId} {cells : List AV} (h : RootRel w E r new box e cells) (L : Later E w E' w')
    (hb : ∀ b N, E.map r = some (some (b, N)) → w'.heap[b]? = w.heap[b]?) : RootRel w' E' r new box e cells := by
  rcases h with ⟨h1, h2, h3⟩ | ⟨b, N, arr, h1, h2, h3, h4, h6, h5⟩
  · exact .inl ⟨L.map r _ h1, h2, h3⟩
  · refine .inr ⟨b, N, arr, L.map r _ h1, h2.of_eq (hb b N h1), h3, h4, fun hn => Nat.le_trans L.base (h6 hn), fun i a ha => ?_⟩
    obtain ⟨v, hv, ho, hrel⟩ := h5 i a ha
    refine ⟨v, hv, ho, ?_⟩
    cases box
    · exact hrel.later L.pure
    · exact hrel.later L

theorem WRel.drewN {w : World} {E : Env} {H : Heap} (h : WRel w E H) (n : Nat) : WRel (w.drewN n) E H :=
  ⟨fun r new box e cells hr => (h.root r new box e cells hr).later (later_drewN E w n) (fun _ _ _ => rfl), h.inj, h.glob.later (later_drewN E w n)⟩

theorem block_lt {w : World} {b : Nat} {o : Obj} (h : w.heap[b]? = some o) : b < w.heap.size := (Array.getElem?_eq_some_iff.1 h).1

theorem WRel.lt {w : World} {E : Env} {H : Heap} (h : WRel w E H) {r : Nat} {new box : Bool} {e : TypeId} {cells : List AV} (hr : H[r]? = some (.blk new box e cells)) {b N : Nat} (hm : E.map r = some (some (b, N))) : b < w.heap.size := by
  rcases h.root r new box e cells hr with ⟨h1, _⟩ | ⟨b', N', arr, h1, h2, _⟩
  · rw [h1] at hm; cases hm
  · rw [h1] at hm; cases hm
    obtain ⟨o, h2, _⟩ := h2
    exact block_lt h2
end Go.Awp
