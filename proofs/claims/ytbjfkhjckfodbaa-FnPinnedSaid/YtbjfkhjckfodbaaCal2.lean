/- The rule of calls.
Conditions: none. -/
import Derived.Test.YtbjfkhjckfodbaaCall
namespace Go.Awp
set_option linter.all false
open Go

def mapc (map : Nat → Option (Option (Nat × Nat))) (σ : List Nat) : Nat → Option (Option (Nat × Nat)) := fun i => (σ[i]?).bind map
def backN (σ : List Nat) (n r : Nat) : Nat := if r < σ.length then σ.getD r 0 else n + (r - σ.length)
def Root.ren (f : Nat → Nat) : Root → Root
  | .blk new true e cells => .blk new true e (cells.map (AV.ren f))
  | x => x
def withNew : Root → Root → Root
  | .blk nw _ _ _, .blk _ box e cells => .blk nw box e cells
  | _, x => x
def mergeSet (f : Nat → Nat) : List Nat → List Root → Heap → Heap
  | r :: σ, x :: xs, H => mergeSet f σ xs (H.set r (withNew (H.getD r .gone) (x.ren f)))
  | _, _, H => H
/-- What a call leaves of the caller's roots. -/
def mergeH (σ : List Nat) (H H' : Heap) : Heap := mergeSet (backN σ H.length) σ H' H ++ (H'.drop σ.length).map (Root.ren (backN σ H.length))

def AV.noView : AV → Bool
  | .ptr .. | .slc .. | .clo _ [] [] => true
  | a => a.flat
def Root.noView : Root → Bool
  | .blk _ _ _ cells => cells.all AV.noView
  | .gone => true

/-- The roots that are handed on. -/
def HinOk (σ : List Nat) (H Hin : Heap) : Prop :=
  Hin.length = σ.length ∧ σ.Nodup ∧ ∀ (i r : Nat), σ[i]? = some r → ∃ new box e cells cells', H[r]? = some (.blk new box e cells) ∧ Hin[i]? = some (.blk false box e cells') ∧ cells'.length ≤ cells.length ∧ (box = true → cells'.length = cells.length) ∧
    ∀ (j : Nat) a a', cells[j]? = some a → cells'[j]? = some a' → PassV false σ H a a'

def PassL (own : Bool) (σ : List Nat) (H : Heap) (avs avs' : List AV) : Prop :=
  avs'.length = avs.length ∧ ∀ (i : Nat) a a', avs[i]? = some a → avs'[i]? = some a' → PassV own σ H a a'

def callB (P : Program) (f : FuncId) (avs : List AV) (H : Heap) (K : AV → Heap → Prop) : Prop :=
  ∃ (own : Bool) (σ : List Nat) (avs' : List AV) (Hin : Heap) (R : AV → Heap → Prop), (FnSpec P f avs' Hin R ∨ own = false ∧ FnSpecV P f avs' Hin R) ∧ HinOk σ H Hin ∧ PassL own σ H avs avs' ∧
    ∀ av H', R av H' → (own = true → (H'.take σ.length).all Root.noView = true) ∧ K (av.ren (backN σ H.length)) (mergeH σ H H')

/-- A call that is told on the caller's own roots. -/
def Inl (P : Program) (f : FuncId) (avs : List AV) (H : Heap) (K : AV → Heap → Prop) : Prop :=
  ∀ (map : Nat → Option (Option (Nat × Nat))) (w : World) (vs : Array Value) (X : Nat → Prop) (B : Nat), (∀ av H', K av H' → ∀ r, H.length ≤ r → r < H'.length → map r = none) → (∀ b, X b → b < w.heap.size ∧ ¬ mutOf map H b) →
    WRel w (env map H X B) H → B ≤ w.heap.size → RelL w (env map H X B) avs vs → Does P f vs w (Good map H X B w K)
def callG (P : Program) (f : FuncId) (avs : List AV) (H : Heap) (K : AV → Heap → Prop) : Prop := callB P f avs H K ∨ Inl P f avs H K

theorem mergeSet_length (f : Nat → Nat) : ∀ (σ : List Nat) (xs : List Root) (H : Heap), (mergeSet f σ xs H).length = H.length
  | [], _, H => rfl
  | _ :: _, [], H => rfl
  | r :: σ, x :: xs, H => by rw [mergeSet, mergeSet_length]; simp

theorem mergeSet_other (f : Nat → Nat) : ∀ (σ : List Nat) (xs : List Root) (H : Heap) (r : Nat), r ∉ σ → (mergeSet f σ xs H)[r]? = H[r]?
  | [], _, H, r, _ => rfl
  | _ :: _, [], H, r, _ => rfl
  | s :: σ, x :: xs, H, r, h => by
    rw [mergeSet, mergeSet_other f σ xs _ r (fun e => h (List.mem_cons_of_mem _ e)), List.getElem?_set_ne (fun e => h (by rw [e]; exact List.mem_cons_self ..))]

theorem mergeSet_at (f : Nat → Nat) : ∀ (σ : List Nat) (xs : List Root) (H : Heap) (i r : Nat) (x : Root), σ.Nodup → σ[i]? = some r → xs[i]? = some x → r < H.length →
    (mergeSet f σ xs H)[r]? = some (withNew (H.getD r .gone) (x.ren f))
  | [], _, H, i, r, x, _, h, _, _ => by simp at h
  | _ :: _, [], H, i, r, x, _, _, h, _ => by simp at h
  | s :: σ, y :: xs, H, 0, r, x, hn, h1, h2, hr => by
    simp at h1 h2
    subst h1; subst h2
    rw [mergeSet, mergeSet_other f σ xs _ _ (List.nodup_cons.1 hn).1, List.getElem?_set_self hr]
  | s :: σ, y :: xs, H, i + 1, r, x, hn, h1, h2, hr => by
    have h1' : σ[i]? = some r := by simpa using h1
    have hne : s ≠ r := fun e => (List.nodup_cons.1 hn).1 (by rw [e]; exact List.mem_of_getElem? h1')
    rw [mergeSet, mergeSet_at f σ xs _ i r x (List.nodup_cons.1 hn).2 h1' (by simpa using h2) (by simpa using hr)]
    simp [List.getD_eq_getElem?_getD, List.getElem?_set_ne hne]

theorem VRel.renamed_noView {w : World} {E E' : Env} {a : AV} {v : Value} {f : Nat → Nat} (hn : a.noView = true) (h : VRel w E a v) (hmap : ∀ r x, E.map r = some x → E'.map (f r) = some x) : VRel w E' (a.ren f) v := by
  cases h with
  | any v => simp only [AV.ren]; exact .any v
  | int k n => simp only [AV.ren]; exact .int k n
  | bool b => simp only [AV.ren]; exact .bool b
  | flt k x r h hr => simp only [AV.ren]; exact .flt k x r h hr
  | str s => simp only [AV.ren]; exact .str s
  | ifc z v h => simp only [AV.ren]; exact .ifc z v h
  | nilp => simp only [AV.ren]; exact .nilp
  | nils => simp only [AV.ren]; exact .nils
  | nilf => simp only [AV.ren]; exact .nilf
  | ptr r off b N h => simp only [AV.ren]; exact .ptr _ off b N (hmap r _ h)
  | slc r off n q b N cap h hc hm hN => simp only [AV.ren]; exact .slc _ off n q b N cap (hmap r _ h) hc hm hN
  | slcv r q h => simp only [AV.ren]; exact .slcv _ q (hmap r _ h)
  | clo g first caps vf vc h1 h2 h3 h4 =>
    cases first with
    | nil => cases caps with
      | nil => simp only [AV.ren, List.map_nil]; exact .clo g [] [] vf vc h1 h2 (fun i a v h => by simp at h) (fun i a v h => by simp at h)
      | cons _ _ => cases hn
    | cons _ _ => cases hn
  | _ => cases hn

theorem RootRel.renamed {w : World} {E E' : Env} {r r' : Nat} {new new' box : Bool} {e : TypeId} {cells : List AV} {f : Nat → Nat} (h : RootRel w E r new box e cells)
    (hm : ∀ y, E.map r = some y → E'.map r' = some y) (hnew : ∀ b N, E.map r = some (some (b, N)) → new' = true → E'.base ≤ b)
    (hel : ∀ (a : AV) (u : Value), a ∈ cells → VRel w (if box then E else E.pure) a u → VRel w (if box then E' else E'.pure) (if box then a.ren f else a) u) :
    RootRel w E' r' new' box e (if box then cells.map (AV.ren f) else cells) := by
  rcases h with ⟨h1, h2, h3⟩ | ⟨b, N, arr, h1, h2, h3, h4, h6, h5⟩
  · subst h3; subst h2
    exact .inl ⟨hm _ h1, rfl, rfl⟩
  · refine .inr ⟨b, N, arr, hm _ h1, h2, (by cases N with | zero => exact ⟨h3.1, by cases box <;> simpa using h3.2⟩ | succ N => exact h3), by cases box <;> simpa using h4, hnew b N h1, fun i a ha => ?_⟩
    cases box with
    | false =>
      obtain ⟨u, u1, u2, u3⟩ := h5 i a ha
      exact ⟨u, u1, u2, hel a u (List.mem_of_getElem? ha) u3⟩
    | true =>
      simp only [if_true, List.getElem?_map] at ha
      cases hc : cells[i]? with
      | none => simp [hc] at ha
      | some a0 =>
        simp [hc] at ha
        subst ha
        obtain ⟨u, u1, u2, u3⟩ := h5 i a0 hc
        exact ⟨u, u1, u2, hel a0 u (List.mem_of_getElem? hc) u3⟩

theorem ren_blk {f : Nat → Nat} {x : Root} {new box : Bool} {e : TypeId} {cells : List AV} (h : x.ren f = .blk new box e cells) : ∃ cells0, x = .blk new box e cells0 ∧ cells = (if box then cells0.map (AV.ren f) else cells0) := by
  cases x with
  | gone => cases h
  | blk nw bx e0 c0 =>
    cases bx with
    | true => simp only [Root.ren] at h; cases h; exact ⟨c0, rfl, rfl⟩
    | false => simp only [Root.ren] at h; cases h; exact ⟨_, rfl, rfl⟩

section
variable {P : Program} {w : World} {map : Nat → Option (Option (Nat × Nat))} {H : Heap} {X : Nat → Prop} {B : Nat}

theorem callG_ok {f : FuncId} {avs : List AV} {vs : Array Value} {K : AV → Heap → Prop} (hfree : ∀ av H', K av H' → ∀ r, H.length ≤ r → r < H'.length → map r = none) (hX : ∀ b, X b → b < w.heap.size ∧ ¬ mutOf map H b)
    (hW : WRel w (env map H X B) H) (hB : B ≤ w.heap.size) (hargs : RelL w (env map H X B) avs vs) (h : callG P f avs H K) : Does P f vs w (Good map H X B w K) := by
  rcases h with h | h
  rotate_left
  · exact h map w vs X B hfree hX hW hB hargs
  obtain ⟨own, σ, avs', Hin, R, hspec0, ⟨hHl, hnd, hHin⟩, ⟨hal, hpass⟩, hk⟩ := h
  obtain ⟨Y, hY1, hY2, hspec⟩ : ∃ Y : (Nat → Prop) → Nat → Nat → Prop, (∀ X n b, X b → Y X n b) ∧ (own = true → ∀ X n b, b < n → Y X n b) ∧
      ∀ (map : Nat → Option (Option (Nat × Nat))) (w : World) (vs : Array Value) (X : Nat → Prop), (∀ b, X b → b < w.heap.size ∧ ¬ mutOf map Hin b) → (∀ r, Hin.length ≤ r → map r = none) →
        WRel w (env map Hin X w.heap.size) Hin → RelL w (env map Hin X w.heap.size) avs' vs →
        Does P f vs w fun v w' => ∃ map' av H', R av H' ∧ VRel w' (env map' H' (Y X w.heap.size) w.heap.size) av v ∧ WRel w' (env map' H' X w.heap.size) H' ∧
          (∀ (r : Nat) new box e cells, Hin.length ≤ r → H'[r]? = some (.blk new box e cells) → RootRel w' (env map' H' (Y X w.heap.size) w.heap.size) r new box e cells ∧ new = true) ∧
          (∀ (r : Nat), r < Hin.length → ∃ new box e cells, H'[r]? = some (.blk new box e cells)) ∧ Step map Hin w map' H' w' := by
    rcases hspec0 with h | ⟨ho, h⟩
    · exact ⟨fun X n b => X b ∨ b < n, fun X n b hb => .inl hb, fun _ X n b hb => .inr hb, h⟩
    · refine ⟨fun X n b => X b, fun X n b hb => hb, fun e => ?_, h⟩
      rw [ho] at e; cases e
  have hσ : ∀ (i r : Nat), σ[i]? = some r → r < H.length := fun i r hr => by
    obtain ⟨_, _, _, _, _, h1, _⟩ := hHin i r hr
    exact (List.getElem?_eq_some_iff.1 h1).1
  let mc := mapc map σ
  have hmc : ∀ (i r : Nat), σ[i]? = some r → mc i = map r := fun i r h => by simp only [mc, mapc, h]; rfl
  have F1 : ∀ b, mutOf mc Hin b → mutOf map H b := by
    rintro b ⟨i, N, nw, bx, e, c, h1, h2⟩
    have hi := (List.getElem?_eq_some_iff.1 h1).1
    have hr : σ[i]? = some (σ[i]'(by omega)) := List.getElem?_eq_getElem (by omega)
    obtain ⟨new, box, e', cells, cells', g1, _⟩ := hHin i _ hr
    exact ⟨_, N, new, box, e', cells, g1, by rw [← hmc i _ hr]; exact h2⟩
  have F2 : ∀ (r : Nat) new box e cells b N, r ∉ σ → H[r]? = some (.blk new box e cells) → map r = some (some (b, N)) → ¬ mutOf mc Hin b := by
    rintro r new box e cells b N hr hH hm ⟨i, N', nw, bx, e', c, h1, h2⟩
    have hi := (List.getElem?_eq_some_iff.1 h1).1
    have hs : σ[i]? = some (σ[i]'(by omega)) := List.getElem?_eq_getElem (by omega)
    obtain ⟨new', box', e'', cells', _, g1, _⟩ := hHin i _ hs
    have := hW.inj r _ b N N' _ _ _ _ _ _ _ _ hH g1 hm (by show map _ = _; rw [← hmc i _ hs]; exact h2)
    exact hr (by rw [this]; exact List.mem_of_getElem? hs)
  let Xc : Nat → Prop := fun b => own = false ∧ (X b ∨ mutOf map H b) ∧ ¬ mutOf mc Hin b
  have hlive0 : ∀ b, (env mc Hin Xc w.heap.size).live b → (env map H X B).live b := by
    rintro b (h | ⟨_, h | h, _⟩)
    · exact .inl (F1 b h)
    · exact .inr h
    · exact .inl h
  have hmut_lt : ∀ b, mutOf map H b → b < w.heap.size := by
    rintro b ⟨r, N, new, box, e, c, h1, h2⟩
    exact hW.lt h1 h2
  have hXc : ∀ b, Xc b → b < w.heap.size := by
    rintro b ⟨_, h | h, _⟩
    · exact (hX b h).1
    · exact hmut_lt b h
  have hown0 : own = true → ∀ (r : Nat) new box e cells b N, r ∉ σ → H[r]? = some (.blk new box e cells) → (env map H X B).map r = some (some (b, N)) → ¬ (env mc Hin Xc w.heap.size).live b := by
    rintro ho r new box e cells b N hr hH hm (h | ⟨h, _⟩)
    · exact F2 r _ _ _ _ b N hr hH hm h
    · rw [ho] at h; cases h
  have hmcx : ∀ (i r : Nat) x, σ[i]? = some r → (env map H X B).map r = some x → (env mc Hin Xc w.heap.size).map i = some x := fun i r x h1 h2 => by
    show mc i = some x; rw [hmc i r h1]; exact h2
  have hfreec : ∀ r, Hin.length ≤ r → mc r = none := fun r hr => by
    simp only [mc, mapc, List.getElem?_eq_none (by omega : σ.length ≤ r)]; rfl
  have hWc : WRel w (env mc Hin Xc w.heap.size) Hin := by
    refine ⟨fun i new box e cells hi => ?_, fun i i' b N N' n1 n2 x1 x2 e1 e2 c1 c2 hi hi' hm hm' => ?_, hW.glob.live hlive0⟩
    · have hil := (List.getElem?_eq_some_iff.1 hi).1
      have hs : σ[i]? = some (σ[i]'(by omega)) := List.getElem?_eq_getElem (by omega)
      obtain ⟨new', box', e', cells', cells'', g1, g2, g3, g5, g4⟩ := hHin i _ hs
      rw [hi] at g2; cases g2
      rcases hW.root _ _ _ _ _ g1 with ⟨q1, q2, q3⟩ | ⟨b', N', arr, q1, q2, q3, q4, q6, q5⟩
      · refine .inl ⟨hmcx _ _ _ hs q1, ?_, q3⟩
        subst q2
        exact List.eq_nil_of_length_eq_zero (by simpa using g3)
      · refine .inr ⟨b', N', arr, hmcx _ _ _ hs q1, q2, (by cases N' with | zero => exact ⟨q3.1, by rw [g5 q3.1]; exact q3.2⟩ | succ N' => exact q3), by omega, (fun e => by cases e), fun j a' ha' => ?_⟩
        have hj := (List.getElem?_eq_some_iff.1 ha').1
        have ha : cells'[j]? = some (cells'[j]'(by omega)) := List.getElem?_eq_getElem (by omega)
        obtain ⟨u, u1, u2, u3⟩ := q5 j _ ha
        refine ⟨u, u1, u2, ?_⟩
        have hp := g4 j _ _ ha ha'
        cases box with
        | true => exact hp.rel (X := X) (B := B) (map := map) (w := w) (fun e => by cases e) u3 hmcx (fun b _ h => hlive0 b h) (fun e => by cases e)
        | false => exact hp.rel (X := X) (B := B) (map := map) (w := w) (E := (env map H X B).pure) (Ec := (env mc Hin Xc w.heap.size).pure) (fun e => by cases e) u3 (fun i r x _ h => by cases h) (fun b _ h => hlive0 b h) (fun e => by cases e)
    · have h1 := (List.getElem?_eq_some_iff.1 hi).1
      have h1' := (List.getElem?_eq_some_iff.1 hi').1
      have hs : σ[i]? = some (σ[i]'(by omega)) := List.getElem?_eq_getElem (by omega)
      have hs' : σ[i']? = some (σ[i']'(by omega)) := List.getElem?_eq_getElem (by omega)
      obtain ⟨_, _, _, _, _, g1, _⟩ := hHin i _ hs
      obtain ⟨_, _, _, _, _, g1', _⟩ := hHin i' _ hs'
      have hm2 : map (σ[i]'(by omega)) = some (some (b, N)) := by rw [← hmc i _ hs]; exact hm
      have hm2' : map (σ[i']'(by omega)) = some (some (b, N')) := by rw [← hmc i' _ hs']; exact hm'
      exact (List.getElem?_inj (by omega) hnd).1 (by rw [hs, hs', hW.inj _ _ b N N' _ _ _ _ _ _ _ _ g1 g1' hm2 hm2'])
  have hargsc : RelL w (env mc Hin Xc w.heap.size) avs' vs := by
    refine ⟨by rw [hal]; exact hargs.1, fun i a' v ha' hv => ?_⟩
    have hi := (List.getElem?_eq_some_iff.1 ha').1
    have ha : avs[i]? = some (avs[i]'(by omega)) := List.getElem?_eq_getElem (by omega)
    exact (hpass i _ a' ha ha').rel (X := X) (B := B) (map := map) (w := w) (fun _ => ⟨rfl, hW⟩) (hargs.2 i _ v ha hv) hmcx (fun b _ h => hlive0 b h) hown0
  refine (hspec mc w vs Xc (fun b hb => ⟨hXc b hb, hb.2.2⟩) hfreec hWc hargsc).mono ?_
  rintro v w' ⟨map', av, H', hR, hrel, hW', hnews, hkept, hst⟩
  obtain ⟨hnv, hK⟩ := hk av H' hR
  have hlen' : σ.length ≤ H'.length := by have := hst.len; omega
  have hlen2 : (mergeH σ H H').length = H.length + (H'.length - σ.length) := by simp [mergeH, mergeSet_length]
  have hfr := hfree _ _ hK
  let map2 : Nat → Option (Option (Nat × Nat)) := fun r => if H.length ≤ r ∧ r < H.length + (H'.length - σ.length) then map' (r - H.length + σ.length) else map r
  have hm2old : ∀ r, r < H.length → map2 r = map r := fun r hr => by simp only [map2]; rw [if_neg (by omega)]
  have hm2new : ∀ k, σ.length + k < H'.length → map2 (H.length + k) = map' (σ.length + k) := fun k hk' => by
    simp only [map2]; rw [if_pos (by omega)]; congr 1; omega
  have hmσ : ∀ (i r : Nat), σ[i]? = some r → ∀ y, map r = some y → map' i = some y := fun i r h y hy => hst.same i y (by rw [hmc i r h]; exact hy)
  have hlive_root : ∀ (i r : Nat), σ[i]? = some r → ∃ y, map r = some y := fun i r h => by
    obtain ⟨_, _, _, _, _, g1, _⟩ := hHin i r h
    rcases hW.root _ _ _ _ _ g1 with ⟨q1, _⟩ | ⟨b', N', arr, q1, _⟩
    · exact ⟨_, q1⟩
    · exact ⟨_, q1⟩
  have hback : ∀ r x, map' r = some x → map2 (backN σ H.length r) = some x := by
    intro r x hx
    unfold backN
    by_cases c : r < σ.length
    · rw [if_pos c]
      have hs : σ[r]? = some (σ[r]'c) := List.getElem?_eq_getElem c
      have hg : σ.getD r 0 = σ[r]'c := by rw [List.getD_eq_getElem?_getD, hs]; rfl
      rw [hg, hm2old _ (hσ r _ hs)]
      obtain ⟨y, hy⟩ := hlive_root r _ hs
      rw [hmσ r _ hs y hy] at hx
      cases hx; exact hy
    · rw [if_neg c]
      by_cases c2 : r < H'.length
      · obtain ⟨k, rfl⟩ : ∃ k, r = σ.length + k := ⟨r - σ.length, by omega⟩
        rw [Nat.add_sub_cancel_left, hm2new k c2]; exact hx
      · rw [hst.out r (.inr (by omega)), hfreec r (by omega)] at hx
        cases hx
  -- what stands where behind the call
  have hget : ∀ (r : Nat) (new box : Bool) (e : TypeId) (cells : List AV), (mergeH σ H H')[r]? = some (Root.blk new box e cells) →
      (r < H.length ∧ r ∉ σ ∧ H[r]? = some (Root.blk new box e cells)) ∨
      (∃ (i : Nat) (nw0 : Bool) (cells0 : List AV), σ[i]? = some r ∧ H'[i]? = some (Root.blk nw0 box e cells0) ∧ cells = (if box then cells0.map (AV.ren (backN σ H.length)) else cells0) ∧ ∃ (box1 : Bool) (e1 : TypeId) (c1 : List AV), H[r]? = some (Root.blk new box1 e1 c1)) ∨
      (∃ (k : Nat) (cells0 : List AV), r = H.length + k ∧ H'[σ.length + k]? = some (Root.blk new box e cells0) ∧ cells = (if box then cells0.map (AV.ren (backN σ H.length)) else cells0)) := by
    intro r new box e cells hr
    unfold mergeH at hr
    rw [List.getElem?_append, mergeSet_length] at hr
    split at hr
    · rename_i hlt
      by_cases c : r ∈ σ
      · obtain ⟨i, hi⟩ := List.getElem?_of_mem c
        obtain ⟨nw, bx, e0, c0, c1, g1, g2, _⟩ := hHin i r hi
        obtain ⟨nw', bx', e', c', k1⟩ := hkept i (List.getElem?_eq_some_iff.1 g2).1
        rw [mergeSet_at _ σ H' H i r _ hnd hi k1 hlt, List.getD_eq_getElem?_getD, g1] at hr
        simp only [Option.getD_some, Option.some.injEq] at hr
        cases bx' with
        | true =>
          simp only [Root.ren, withNew] at hr
          cases hr
          exact .inr (.inl ⟨i, nw', c', hi, k1, rfl, _, _, _, g1⟩)
        | false =>
          simp only [Root.ren, withNew] at hr
          cases hr
          exact .inr (.inl ⟨i, nw', _, hi, k1, rfl, _, _, _, g1⟩)
      · rw [mergeSet_other _ _ _ _ _ c] at hr
        exact .inl ⟨hlt, c, hr⟩
    · rename_i hge
      rw [List.getElem?_map, List.getElem?_drop] at hr
      cases hx : H'[σ.length + (r - H.length)]? with
      | none => simp [hx] at hr
      | some x =>
        simp [hx] at hr
        obtain ⟨c0, rfl, h2⟩ := ren_blk hr
        exact .inr (.inr ⟨r - H.length, c0, by omega, hx, h2⟩)
  have G1 : ∀ b, mutOf map2 (mergeH σ H H') b → (∃ r N new box e cells, r ∉ σ ∧ H[r]? = some (.blk new box e cells) ∧ map r = some (some (b, N))) ∨ mutOf map' H' b := by
    rintro b ⟨r, N, new, box, e, cells, h1, h2⟩
    rcases hget r new box e cells h1 with ⟨g1, g2, g3⟩ | ⟨i, nw0, c0, g1, g2, _, bx1, e1, c1, g4⟩ | ⟨k, c0, rfl, g2, _⟩
    · exact .inl ⟨r, N, new, box, e, cells, g2, g3, by rw [← hm2old r g1]; exact h2⟩
    · rw [hm2old r (hσ i r g1)] at h2
      exact .inr ⟨i, N, nw0, box, e, c0, g2, hmσ i r g1 _ h2⟩
    · rw [hm2new k (List.getElem?_eq_some_iff.1 g2).1] at h2
      exact .inr ⟨_, N, new, box, e, c0, g2, h2⟩
  have liveOld : own = false → ∀ b, (env map2 (mergeH σ H H') X B).live b → (env map' H' Xc w.heap.size).live b := by
    intro ho b hb
    by_cases c : mutOf mc Hin b
    · obtain ⟨i, N, nw, bx, e, cc, g1, g2⟩ := c
      obtain ⟨nw', bx', e', c', k1⟩ := hkept i (List.getElem?_eq_some_iff.1 g1).1
      exact .inl ⟨i, N, nw', bx', e', c', k1, hst.same i _ g2⟩
    · rcases hb with h | h
      · rcases G1 b h with ⟨r, N, new, box, e, cells, _, h1, h2⟩ | h
        · exact .inr ⟨ho, .inr ⟨r, N, new, box, e, cells, h1, h2⟩, c⟩
        · exact .inl h
      · exact .inr ⟨ho, .inl h, c⟩
  have liveNew : ∀ b, (env map2 (mergeH σ H H') X B).live b → (env map' H' (Y Xc w.heap.size) w.heap.size).live b := by
    cases ho : own with
    | false =>
      intro b hb
      rcases liveOld ho b hb with h | h
      · exact .inl h
      · exact .inr (hY1 _ _ _ h)
    | true =>
      rintro b (h | h)
      · rcases G1 b h with ⟨r, N, new, box, e, cells, _, h1, h2⟩ | h
        · exact .inr (hY2 ho _ _ _ (hW.lt h1 h2))
        · exact .inl h
      · exact .inr (hY2 ho _ _ _ (hX b h).1)
  have hst2 : Step map H w map2 (mergeH σ H H') w' := by
    refine ⟨hst.os, hst.tape, hst.output, hst.size, fun b hb hn => hst.block b hb (fun e => hn (F1 b e)), fun r x hx => ?_, fun r hr => ?_, by rw [hlen2]; omega, fun b hb h => ?_⟩
    · simp only [map2]
      split
      · rename_i c
        rw [hfr r c.1 (by rw [hlen2]; exact c.2)] at hx; cases hx
      · exact hx
    · rw [hlen2] at hr
      simp only [map2]; rw [if_neg (by omega)]
    · rcases G1 b h with ⟨r, N, new, box, e, cells, _, h1, h2⟩ | h
      · exact ⟨r, N, new, box, e, cells, h1, h2⟩
      · exact F1 b (hst.old b hb h)
  have hL2 := hst2.later (X := X) (B := B)
  refine ⟨map2, _, _, hK, hrel.renamed (E' := env map2 (mergeH σ H H') X B) hback hB (fun b _ h => liveNew b h), ⟨fun r new box e cells hr => ?_, fun r r' b N N' n1 n2 x1 x2 e1 e2 c1 c2 hr hr' hm hm' => ?_, hW.glob.later hL2⟩, hst2⟩
  · rcases hget r new box e cells hr with ⟨g1, g2, g3⟩ | ⟨i, nw0, c0, g1, g2, rfl, bx1, e1, c1, g4⟩ | ⟨k, c0, rfl, g2, rfl⟩
    · refine (hW.root r new box e cells g3).later hL2 (fun b N hm => ?_)
      exact hst.block b (hW.lt g3 hm) (F2 r _ _ _ _ b N g2 g3 hm)
    · refine (hW'.root i nw0 box e c0 g2).renamed (fun y hy => ?_) (fun b N hm hn => ?_) (fun a u ha hau => ?_)
      · obtain ⟨z, hz⟩ := hlive_root i r g1
        have hy' : map' i = some y := hy
        rw [hmσ i r g1 z hz] at hy'
        cases hy'
        show map2 r = some _
        rw [hm2old r (hσ i r g1)]; exact hz
      · obtain ⟨z, hz⟩ := hlive_root i r g1
        have hm' : map' i = some (some (b, N)) := hm
        rw [hmσ i r g1 z hz] at hm'
        cases hm'
        rcases hW.root r _ _ _ _ g4 with ⟨q1, _⟩ | ⟨b', N', arr, q1, _, _, _, q6, _⟩
        · have q1' : map r = some none := q1
          rw [hz] at q1'; cases q1'
        · have q1' : map r = some (some (b', N')) := q1
          rw [hz] at q1'; cases q1'
          exact q6 hn
      · cases ho : own with
        | false =>
          cases box with
          | true => exact VRel.renamed hau (E' := env map2 (mergeH σ H H') X B) hback hB (fun b _ h => liveOld ho b h)
          | false => exact hau.later (E' := (env map2 (mergeH σ H H') X B).pure) ⟨fun r x h => (by cases h), hB, fun b _ h => liveOld ho b h, Nat.le_refl _, fun _ _ _ => rfl⟩
        | true =>
          have hnv' := List.all_eq_true.1 (hnv ho) (.blk nw0 box e c0) (List.mem_of_getElem? (i := i) (by
            rw [List.getElem?_take, if_pos (by have := (List.getElem?_eq_some_iff.1 g1).1; omega)]; exact g2))
          have hav : a.noView = true := List.all_eq_true.1 hnv' a ha
          cases box with
          | true => exact VRel.renamed_noView hav hau hback
          | false =>
            have := VRel.renamed_noView (E' := (env map2 (mergeH σ H H') X B).pure) (f := id) hav hau (fun r x h => by cases h)
            rw [ren_id hav] at this
            exact this
    · have hk2 := hnews (σ.length + k) new box e c0 (by omega) g2
      refine hk2.1.renamed (fun y hy => ?_) (fun b N hm hn => ?_) (fun a u ha hau => ?_)
      · show map2 (H.length + k) = some y
        rw [hm2new k (List.getElem?_eq_some_iff.1 g2).1]; exact hy
      · rcases hk2.1 with ⟨q1, _⟩ | ⟨b', N', arr, q1, _, _, _, q6, _⟩
        · rw [q1] at hm; cases hm
        · rw [q1] at hm; cases hm
          exact Nat.le_trans hB (q6 hk2.2)
      · cases box with
        | true => exact VRel.renamed hau (E' := env map2 (mergeH σ H H') X B) hback hB (fun b _ h => liveNew b h)
        | false => exact hau.later (E' := (env map2 (mergeH σ H H') X B).pure) ⟨fun r x h => (by cases h), hB, fun b _ h => liveNew b h, Nat.le_refl _, fun _ _ _ => rfl⟩
  · have hm : map2 r = some (some (b, N)) := hm
    have hm' : map2 r' = some (some (b, N')) := hm'
    have clash : ∀ (r0 k N0 N1 : Nat) nw bx e0 c0 nw1 bx1 e1 c1, r0 ∉ σ → H[r0]? = some (.blk nw bx e0 c0) → map r0 = some (some (b, N0)) → H'[σ.length + k]? = some (.blk nw1 bx1 e1 c1) → map' (σ.length + k) = some (some (b, N1)) → False := by
      intro r0 k N0 N1 nw bx e0 c0 nw1 bx1 e1 c1 g1 g2 g3 g4 g5
      exact F2 r0 _ _ _ _ b N0 g1 g2 g3 (hst.old b (hW.lt g2 g3) ⟨_, N1, nw1, bx1, e1, c1, g4, g5⟩)
    rcases hget r _ _ _ _ hr with ⟨g1, g2, g3⟩ | ⟨i, nw0, c0, g1, g2, _, bx1, e1', c1', g4⟩ | ⟨k, c0, rfl, g2, _⟩
    · rw [hm2old r g1] at hm
      rcases hget r' _ _ _ _ hr' with ⟨k1, k2, k3⟩ | ⟨i', nw0', c0', k1, k2, _, bx2, e2', c2', k4⟩ | ⟨k', c0', rfl, k2, _⟩
      · rw [hm2old r' k1] at hm'
        exact hW.inj r r' b N N' _ _ _ _ _ _ _ _ g3 k3 hm hm'
      · rw [hm2old r' (hσ i' r' k1)] at hm'
        exact hW.inj r r' b N N' _ _ _ _ _ _ _ _ g3 k4 hm hm'
      · rw [hm2new k' (List.getElem?_eq_some_iff.1 k2).1] at hm'
        exact (clash r k' N N' _ _ _ _ _ _ _ _ g2 g3 hm k2 hm').elim
    · rw [hm2old r (hσ i r g1)] at hm
      rcases hget r' _ _ _ _ hr' with ⟨k1, k2, k3⟩ | ⟨i', nw0', c0', k1, k2, _, bx2, e2', c2', k4⟩ | ⟨k', c0', rfl, k2, _⟩
      · rw [hm2old r' k1] at hm'
        exact hW.inj r r' b N N' _ _ _ _ _ _ _ _ g4 k3 hm hm'
      · rw [hm2old r' (hσ i' r' k1)] at hm'
        exact hW.inj r r' b N N' _ _ _ _ _ _ _ _ g4 k4 hm hm'
      · rw [hm2new k' (List.getElem?_eq_some_iff.1 k2).1] at hm'
        have := hW'.inj i (σ.length + k') b N N' _ _ _ _ _ _ _ _ g2 k2 (hmσ i r g1 _ hm) hm'
        have := (List.getElem?_eq_some_iff.1 g1).1
        omega
    · rw [hm2new k (List.getElem?_eq_some_iff.1 g2).1] at hm
      rcases hget r' _ _ _ _ hr' with ⟨k1, k2, k3⟩ | ⟨i', nw0', c0', k1, k2, _, bx2, e2', c2', k4⟩ | ⟨k', c0', rfl, k2, _⟩
      · rw [hm2old r' k1] at hm'
        exact (clash r' k N' N _ _ _ _ _ _ _ _ k2 k3 hm' g2 hm).elim
      · rw [hm2old r' (hσ i' r' k1)] at hm'
        have := hW'.inj i' (σ.length + k) b N' N _ _ _ _ _ _ _ _ k2 g2 (hmσ i' r' k1 _ hm') hm
        have := (List.getElem?_eq_some_iff.1 k1).1
        omega
      · rw [hm2new k' (List.getElem?_eq_some_iff.1 k2).1] at hm'
        have := hW'.inj (σ.length + k) (σ.length + k') b N N' _ _ _ _ _ _ _ _ g2 k2 hm hm'
        omega
where
  ren_id {a : AV} (h : a.noView = true) : a.ren id = a := by
    cases a with
    | clo g x y =>
      cases x with
      | nil => cases y with
        | nil => simp [AV.ren]
        | cons _ _ => cases h
      | cons _ _ => cases h
    | agg l => cases h
    | tup l => cases h
    | _ => simp [AV.ren]
end
end Go.Awp
