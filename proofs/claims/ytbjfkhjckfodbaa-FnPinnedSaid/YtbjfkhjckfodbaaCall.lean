/- Calls: what a function's contract says, how the caller hands its roots on, what it gets back.
Conditions: none. -/
import Derived.Test.YtbjfkhjckfodbaaOp
namespace Go.Awp
set_option linter.all false
open Go

def RelL (w : World) (E : Env) (avs : List AV) (vs : Array Value) : Prop :=
  avs.length = vs.size ∧ ∀ (i : Nat) a v, avs[i]? = some a → vs[i]? = some v → VRel w E a v

/-- A function's contract: of arguments as told, over roots as told, it comes to a result and roots that R takes. -/
def FnSpec (P : Program) (f : FuncId) (avs : List AV) (Hin : Heap) (R : AV → Heap → Prop) : Prop :=
  ∀ (map : Nat → Option (Option (Nat × Nat))) (w : World) (vs : Array Value) (X : Nat → Prop), (∀ b, X b → b < w.heap.size ∧ ¬ mutOf map Hin b) → (∀ r, Hin.length ≤ r → map r = none) →
    WRel w (env map Hin X w.heap.size) Hin → RelL w (env map Hin X w.heap.size) avs vs →
    Does P f vs w fun v w' => ∃ map' av H', R av H' ∧ VRel w' (env map' H' (fun b => X b ∨ b < w.heap.size) w.heap.size) av v ∧ WRel w' (env map' H' X w.heap.size) H' ∧
      (∀ (r : Nat) new box e cells, Hin.length ≤ r → H'[r]? = some (.blk new box e cells) → RootRel w' (env map' H' (fun b => X b ∨ b < w.heap.size) w.heap.size) r new box e cells ∧ new = true) ∧
      (∀ (r : Nat), r < Hin.length → ∃ new box e cells, H'[r]? = some (.blk new box e cells)) ∧ Step map Hin w map' H' w'

/-- As 'FnSpec', but what is handed back may lie in what the arguments only let read. -/
def FnSpecV (P : Program) (f : FuncId) (avs : List AV) (Hin : Heap) (R : AV → Heap → Prop) : Prop :=
  ∀ (map : Nat → Option (Option (Nat × Nat))) (w : World) (vs : Array Value) (X : Nat → Prop), (∀ b, X b → b < w.heap.size ∧ ¬ mutOf map Hin b) → (∀ r, Hin.length ≤ r → map r = none) →
    WRel w (env map Hin X w.heap.size) Hin → RelL w (env map Hin X w.heap.size) avs vs →
    Does P f vs w fun v w' => ∃ map' av H', R av H' ∧ VRel w' (env map' H' X w.heap.size) av v ∧ WRel w' (env map' H' X w.heap.size) H' ∧
      (∀ (r : Nat) new box e cells, Hin.length ≤ r → H'[r]? = some (.blk new box e cells) → RootRel w' (env map' H' X w.heap.size) r new box e cells ∧ new = true) ∧
      (∀ (r : Nat), r < Hin.length → ∃ new box e cells, H'[r]? = some (.blk new box e cells)) ∧ Step map Hin w map' H' w'

theorem FnSpec.mono {P : Program} {f : FuncId} {avs : List AV} {Hin : Heap} {R R' : AV → Heap → Prop} (h : FnSpec P f avs Hin R) (hr : ∀ av H', R av H' → R' av H') : FnSpec P f avs Hin R' :=
  fun map w vs X h1 h2 h3 h4 => (h map w vs X h1 h2 h3 h4).mono fun _ _ ⟨m, av, H', g, rest⟩ => ⟨m, av, H', hr _ _ g, rest⟩

/-- How the caller's value is handed on: roots by new numbers, own memory that the callee only reads as a view. -/
inductive PassV : Bool → List Nat → Heap → AV → AV → Prop
  | any {own : Bool} {σ : List Nat} {H : Heap} (a : AV) : PassV own σ H a .any
  | flat {own : Bool} {σ : List Nat} {H : Heap} (a : AV) (h : a.flat = true) : PassV own σ H a a
  | clo0 {own : Bool} {σ : List Nat} {H : Heap} (f : FuncId) : PassV own σ H (.clo f [] []) (.clo f [] [])
  | ptr {own : Bool} {σ : List Nat} {H : Heap} (r i off : Nat) (h : σ[i]? = some r) : PassV own σ H (.ptr r off) (.ptr i off)
  | slc {own : Bool} {σ : List Nat} {H : Heap} (r i off n q : Nat) (h : σ[i]? = some r) : PassV own σ H (.slc r off n q) (.slc i off n q)
  | agg {own : Bool} {σ : List Nat} {H : Heap} (l l' : List AV) (hl : l'.length = l.length) (h : ∀ (i : Nat) a a', l[i]? = some a → l'[i]? = some a' → PassV own σ H a a') : PassV own σ H (.agg l) (.agg l')
  | nils {own : Bool} {σ : List Nat} {H : Heap} : PassV own σ H .nils (.view false [] 0)
  | view0 {own : Bool} {σ : List Nat} {H : Heap} (new new' : Bool) (cells cells' : List AV) : PassV own σ H (.view new cells 0) (.view new' cells' 0)
  | view {own : Bool} {σ : List Nat} {H : Heap} (new : Bool) (cells cells' : List AV) (n : Nat) (g : Nat → AV) (h1 : ∀ (j : Nat) a', cells'[j]? = some a' → cells[j]? = some (g j)) (h2 : ∀ (j : Nat) a', cells'[j]? = some a' → PassV false [] [] (g j) a') :
      PassV own σ H (.view new cells n) (.view false cells' n)
  | vptr {own : Bool} {σ : List Nat} {H : Heap} (new : Bool) (cells cells' : List AV) (g : Nat → AV) (h1 : ∀ (j : Nat) a', cells'[j]? = some a' → cells[j]? = some (g j)) (h2 : ∀ (j : Nat) a', cells'[j]? = some a' → PassV false [] [] (g j) a') :
      PassV own σ H (.vptr new cells) (.vptr false cells')
  | clo {own : Bool} {σ : List Nat} {H : Heap} (f : FuncId) (l l' c c' : List AV) (hl : l'.length = l.length) (hc : c'.length = c.length) (h : ∀ (i : Nat) a a', l[i]? = some a → l'[i]? = some a' → PassV own σ H a a') (h' : ∀ (i : Nat) a a', c[i]? = some a → c'[i]? = some a' → PassV own σ H a a') : PassV own σ H (.clo f l c) (.clo f l' c')
  | ownS {own : Bool} {σ : List Nat} {H : Heap} (ho : own = true) (r off n q : Nat) (new : Bool) (e : TypeId) (cells cells' : List AV) (hr : r ∉ σ) (hH : H[r]? = some (.blk new false e cells)) (g : Nat → AV)
      (h1 : ∀ (j : Nat) a', cells'[j]? = some a' → cells[off + j]? = some (g j)) (h2 : ∀ (j : Nat) a', cells'[j]? = some a' → PassV false [] [] (g j) a') :
      PassV own σ H (.slc r off n q) (.view false cells' n)
  | ownP {own : Bool} {σ : List Nat} {H : Heap} (ho : own = true) (r off : Nat) (new box : Bool) (e : TypeId) (cells cells' : List AV) (hr : r ∉ σ) (hH : H[r]? = some (.blk new box e cells)) (g : Nat → AV) (hp : cells'.all AV.isPure = true)
      (h1 : ∀ (j : Nat) a', cells'[j]? = some a' → cells[off + j]? = some (g j)) (h2 : ∀ (j : Nat) a', cells'[j]? = some a' → PassV own σ H (g j) a') :
      PassV own σ H (.ptr r off) (.vptr false cells')
  | ownB {own : Bool} {σ : List Nat} {H : Heap} (ho : own = true) (r off n q : Nat) (new : Bool) (e : TypeId) (cells cells' : List AV) (hr : r ∉ σ) (hH : H[r]? = some (.blk new true e cells)) (g : Nat → AV) (hp : cells'.all AV.isPure = true)
      (h1 : ∀ (j : Nat) a', cells'[j]? = some a' → cells[off + j]? = some (g j)) (h2 : ∀ (j : Nat) a', cells'[j]? = some a' → PassV own σ H (g j) a') :
      PassV own σ H (.slc r off n q) (.view false cells' n)

theorem PassV.view_flat {own : Bool} {σ : List Nat} {H : Heap} (new : Bool) (cells : List AV) (n : Nat) (h : cells.all AV.flat = true) : PassV own σ H (.view new cells n) (.view false cells n) :=
  .view new cells cells n (fun j => cells.getD j .any) (fun j a' ha => by rw [List.getD_eq_getElem?_getD, ha]; rfl) fun j a' ha => by
    rw [List.getD_eq_getElem?_getD, ha]
    exact .flat _ (List.all_eq_true.1 h a' (List.mem_of_getElem? ha))
theorem PassV.vptr_flat {own : Bool} {σ : List Nat} {H : Heap} (new : Bool) (cells : List AV) (h : cells.all AV.flat = true) : PassV own σ H (.vptr new cells) (.vptr false cells) :=
  .vptr new cells cells (fun j => cells.getD j .any) (fun j a' ha => by rw [List.getD_eq_getElem?_getD, ha]; rfl) fun j a' ha => by
    rw [List.getD_eq_getElem?_getD, ha]
    exact .flat _ (List.all_eq_true.1 h a' (List.mem_of_getElem? ha))
theorem PassV.own_flat {σ : List Nat} {H : Heap} (r off n q : Nat) (new : Bool) (e : TypeId) (cells : List AV) (hr : r ∉ σ) (hH : H[r]? = some (.blk new false e cells)) (h : cells.all AV.flat = true) :
    PassV true σ H (.slc r off n q) (.view false ((cells.drop off).take (n * q)) n) :=
  .ownS rfl r off n q new e cells _ hr hH (fun j => cells.getD (off + j) .any) (fun j a' ha => by
      rw [List.getElem?_take] at ha
      split at ha
      · rw [List.getElem?_drop] at ha; rw [List.getD_eq_getElem?_getD, ha]; rfl
      · cases ha) fun j a' ha => by
    rw [List.getElem?_take] at ha
    split at ha
    · rw [List.getElem?_drop] at ha; rw [List.getD_eq_getElem?_getD, ha]
      exact .flat _ (List.all_eq_true.1 h a' (List.mem_of_getElem? ha))
    · cases ha
theorem PassV.own_flat0 {σ : List Nat} {H : Heap} (r n q : Nat) (new : Bool) (e : TypeId) (cells : List AV) (hr : r ∉ σ) (hH : H[r]? = some (.blk new false e cells)) (h : cells.all AV.flat = true) :
    PassV true σ H (.slc r 0 n q) (.view false cells n) :=
  .ownS rfl r 0 n q new e cells _ hr hH (fun j => cells.getD j .any) (fun j a' ha => by rw [Nat.zero_add, List.getD_eq_getElem?_getD, ha]; rfl) fun j a' ha => by
    rw [List.getD_eq_getElem?_getD, ha]
    exact .flat _ (List.all_eq_true.1 h a' (List.mem_of_getElem? ha))

section
variable {P : Program} {w : World} {map : Nat → Option (Option (Nat × Nat))} {H : Heap} {X : Nat → Prop} {B : Nat}

theorem PassV.rel {own : Bool} {σ : List Nat} {H0 : Heap} {a a' : AV} (hp : PassV own σ H0 a a') : ∀ {E Ec : Env} {v : Value}, (own = true → E = env map H0 X B ∧ WRel w E H0) → VRel w E a v →
    (∀ (i r : Nat) x, σ[i]? = some r → E.map r = some x → Ec.map i = some x) → (∀ b, b < w.heap.size → Ec.live b → E.live b) →
    (own = true → ∀ (r : Nat) new box e cells b N, r ∉ σ → H0[r]? = some (.blk new box e cells) → E.map r = some (some (b, N)) → ¬ Ec.live b) → VRel w Ec a' v := by
  induction hp with
  | any a => exact fun _ _ _ _ _ => .any _
  | flat a h =>
    intro E Ec v _ hr _ _ _
    cases hr <;> first | (cases h; done) | (constructor <;> assumption)
  | clo0 f =>
    intro E Ec v _ hr _ _ _
    cases hr with
    | clo _ _ _ vf vc h1 h2 _ _ => exact .clo f [] [] vf vc h1 h2 (fun i a v h => by simp at h) (fun i a v h => by simp at h)
  | ptr r i off h =>
    intro E Ec v _ hr hm _ _
    cases hr with
    | ptr _ _ b N hx => exact .ptr _ _ b N (hm i r _ h hx)
  | slc r i off n q h =>
    intro E Ec v _ hr hm _ _
    cases hr with
    | slc _ _ _ _ b N cap hx h1 h2 h3 => exact .slc _ _ _ _ b N cap (hm i r _ h hx) h1 h2 h3
    | slcv _ _ hx => exact .slcv _ _ (hm i r _ h hx)
  | agg l l' hl h ih =>
    intro E Ec v hW hr hm hlv hown
    cases hr with
    | agg _ vs h1 h2 h3 =>
      refine .agg l' vs (by omega) h2 fun i a' v ha' hv => ?_
      have hi := (List.getElem?_eq_some_iff.1 ha').1
      have ha : l[i]? = some (l[i]'(by omega)) := List.getElem?_eq_getElem (by omega)
      exact ih i _ a' ha ha' hW (h3 i _ v ha hv) hm hlv hown
  | nils =>
    intro E Ec v _ hr _ _ _
    cases hr; exact .view0 _ _ _ _ (Nat.zero_le _)
  | view0 new new' cells cells' =>
    intro E Ec v _ hr _ _ _
    cases hr with
    | view0 _ _ A cap hm => exact .view0 _ _ _ _ hm
    | view _ _ _ b off cap hn hm _ _ _ u _ _ _ => exact .view0 _ _ _ _ hm
  | view new cells cells' n g h1 h2 ih =>
    intro E Ec v _ hr _ hlv _
    cases hr with
    | view0 _ _ A cap hm => exact .view0 _ _ _ _ hm
    | view _ _ _ b off cap hn hm hlt hb hmut u hc ho hrr =>
      refine .view false cells' n b off cap hn hm hlt (fun e => by cases e) (fun e => hmut (hlv b hlt e)) u (fun j a' ha' => hc j _ (h1 j a' ha')) (fun j a' ha' => ho j _ (h1 j a' ha')) fun j a' ha' => ?_
      exact ih j a' ha' (fun e => by cases e) (hrr j _ (h1 j a' ha')) (fun i r x h => by simp at h) hlv (fun e => by cases e)
  | vptr new cells cells' g h1 h2 ih =>
    intro E Ec v _ hr _ hlv _
    cases hr with
    | vptr _ _ b off hlt hb hmut u hc ho hrr =>
      refine .vptr false cells' b off hlt (fun e => by cases e) (fun e => hmut (hlv b hlt e)) u (fun j a' ha' => hc j _ (h1 j a' ha')) (fun j a' ha' => ho j _ (h1 j a' ha')) fun j a' ha' => ?_
      exact ih j a' ha' (fun e => by cases e) (hrr j _ (h1 j a' ha')) (fun i r x h => by simp at h) hlv (fun e => by cases e)
  | clo f l l' c c' hl hc h h' ih ih' =>
    intro E Ec v hW hr hm hlv hown
    cases hr with
    | clo _ _ _ vf vc h1 h2 h3 h4 =>
      refine .clo f l' c' vf vc (by omega) (by omega) (fun i a' v ha' hv => ?_) (fun i a' v ha' hv => ?_)
      · have hi := (List.getElem?_eq_some_iff.1 ha').1
        have ha : l[i]? = some (l[i]'(by omega)) := List.getElem?_eq_getElem (by omega)
        exact ih i _ a' ha ha' hW (h3 i _ v ha hv) hm hlv hown
      · have hi := (List.getElem?_eq_some_iff.1 ha').1
        have ha : c[i]? = some (c[i]'(by omega)) := List.getElem?_eq_getElem (by omega)
        exact ih' i _ a' ha ha' hW (h4 i _ v ha hv) hm hlv hown
  | ownS ho r off n q new e cells cells' hrs hH g h1 h2 ih =>
    intro E Ec v hW hr _ hlv hown
    obtain ⟨hE, hW⟩ := hW ho
    cases hr with
    | slcv _ _ hx =>
      exact .view0 _ _ _ _ (Nat.zero_le _)
    | slc _ _ _ _ b N cap hx k1 k2 k3 =>
      rcases hW.root r new false e cells hH with ⟨q1, _⟩ | ⟨b', N', arr, q1, q2, q3, q4, q6, q5⟩
      · rw [q1] at hx; cases hx
      · rw [q1] at hx; cases hx
        replace q2 := q2.cells
        replace q3 : arr.size = N := q3
        rw [q3] at q4
        refine .view false cells' n b off cap k1 k2 (block_lt q2) (fun e => by cases e) (hown ho r _ _ _ _ b (N + 1) hrs hH q1) (fun j => arr.getD (off + j) undef) (fun j a' ha' => ?_) (fun j a' ha' => ?_) (fun j a' ha' => ?_)
        all_goals
          obtain ⟨u, u1, u2, u3⟩ := q5 _ _ (h1 j a' ha')
          have hu : arr.getD (off + j) undef = u := by rw [Array.getD_eq_getD_getElem?, u1]; rfl
          rw [hu]
        · rw [cell_at q2, u1]
        · exact u2
        · exact ih j a' ha' (fun e => by cases e) u3 (fun i r x h => by simp at h) hlv (fun e => by cases e)
  | ownP ho r off new box e cells cells' hrs hH g hpu h1 h2 ih =>
    intro E Ec v hW hr hm hlv hown
    have hW0 := hW
    obtain ⟨hE, hW⟩ := hW ho
    cases hr with
    | ptr _ _ b N hx =>
      rcases hW.root r new box e cells hH with ⟨q1, _⟩ | ⟨b', N', arr, q1, q2, q3, q4, q6, q5⟩
      · rw [q1] at hx; cases hx
      · rw [q1] at hx; cases hx
        replace q2 := q2.cells
        replace q3 : arr.size = N := q3
        rw [q3] at q4
        refine .vptr false cells' b off (block_lt q2) (fun e => by cases e) (hown ho r _ _ _ _ b (N + 1) hrs hH q1) (fun j => arr.getD (off + j) undef) (fun j a' ha' => ?_) (fun j a' ha' => ?_) (fun j a' ha' => ?_)
        all_goals
          obtain ⟨u, u1, u2, u3⟩ := q5 _ _ (h1 j a' ha')
          have hu : arr.getD (off + j) undef = u := by rw [Array.getD_eq_getD_getElem?, u1]; rfl
          rw [hu]
        · rw [cell_at q2, u1]
        · exact u2
        · have u4 : VRel w E (g j) u := by
            cases box
            · exact u3.of_pure
            · exact u3
          exact (ih j a' ha' hW0 u4 hm hlv hown).to_pure (List.all_eq_true.1 hpu a' (List.mem_of_getElem? ha'))
  | ownB ho r off n q new e cells cells' hrs hH g hpu h1 h2 ih =>
    intro E Ec v hW hr hm hlv hown
    have hW0 := hW
    obtain ⟨hE, hW⟩ := hW ho
    cases hr with
    | slcv _ _ hx =>
      exact .view0 _ _ _ _ (Nat.zero_le _)
    | slc _ _ _ _ b N cap hx k1 k2 k3 =>
      rcases hW.root r new true e cells hH with ⟨q1, _⟩ | ⟨b', N', arr, q1, q2, q3, q4, q6, q5⟩
      · rw [q1] at hx; cases hx
      · rw [q1] at hx; cases hx
        replace q2 := q2.cells
        refine .view false cells' n b off cap k1 k2 (block_lt q2) (fun e => by cases e) (hown ho r _ _ _ _ b (N + 1) hrs hH q1) (fun j => arr.getD (off + j) undef) (fun j a' ha' => ?_) (fun j a' ha' => ?_) (fun j a' ha' => ?_)
        all_goals
          obtain ⟨u, u1, u2, u3⟩ := q5 _ _ (h1 j a' ha')
          have hu : arr.getD (off + j) undef = u := by rw [Array.getD_eq_getD_getElem?, u1]; rfl
          rw [hu]
        · rw [cell_at q2, u1]
        · exact u2
        · exact (ih j a' ha' hW0 u3 hm hlv hown).to_pure (List.all_eq_true.1 hpu a' (List.mem_of_getElem? ha'))
end
end Go.Awp
