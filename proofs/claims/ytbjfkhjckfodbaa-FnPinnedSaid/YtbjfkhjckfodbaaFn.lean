/- A function's contract out of the goal of its body; roots renamed and forgotten.
Conditions: none. -/
import Derived.Test.YtbjfkhjckfodbaaWp
namespace Go.Awp
set_option linter.all false
open Go

/-- New places for roots: 'none': an empty row that is not there yet. -/
def oldN (n0 n : Nat) (τ : List (Option Nat)) (r : Nat) : Nat := if r < n0 then r else ((τ[r - n0]?).join).getD n

/-- 'a'' tells no more than 'a', its roots by their new numbers. -/
inductive LeV (f : Nat → Nat) (H' : Heap) : AV → AV → Prop
  | any (a : AV) : LeV f H' a .any
  | ren (a a' : AV) (h : a = a'.ren f) : LeV f H' a a'
  | nils (r q : Nat) (e : TypeId) (h : H'[r]? = some (.blk true false e [])) (hr : f r = 0) : LeV f H' .nils (.slc r 0 0 q)

def leV (f : Nat → Nat) (Z : Nat → Prop) (a a' : AV) : Prop := a' = .any ∨ a = a'.ren f ∨ (a = .nils ∧ ∃ r q, a' = .slc r 0 0 q ∧ Z r)
def leL (f : Nat → Nat) (Z : Nat → Prop) : List AV → List AV → Prop
  | [], [] => True
  | a :: l, a' :: l' => leV f Z a a' ∧ leL f Z l l'
  | _, _ => False

theorem leL_get {f : Nat → Nat} {Z : Nat → Prop} : ∀ {l l' : List AV}, leL f Z l l' → l'.length = l.length ∧ ∀ (i : Nat) a a', l[i]? = some a → l'[i]? = some a' → leV f Z a a'
  | [], [], _ => ⟨rfl, fun i a a' h => by simp at h⟩
  | a :: l, a' :: l', h => by
    obtain ⟨h1, h2⟩ := leL_get h.2
    refine ⟨by simp [h1], fun i b b' hb hb' => ?_⟩
    cases i with
    | zero => simp at hb hb'; subst hb; subst hb'; exact h.1
    | succ i => exact h2 i b b' (by simpa using hb) (by simpa using hb')
  | [], _ :: _, h => h.elim
  | _ :: _, [], h => h.elim

section
variable {w : World}

theorem VRel.unren {E E' : Env} {f : Nat → Nat} {b : AV} {v : Value} (h : VRel w E b v) (hm : ∀ r x, E.map (f r) = some x → E'.map r = some x) (hb : E'.base ≤ E.base) (hl : ∀ b, E'.live b → E.live b) : ∀ (a : AV), b = a.ren f → VRel w E' a v := by
  have hp : Later E.pure w E'.pure w := ⟨fun r x h => (by cases h), hb, fun b _ => hl b, Nat.le_refl _, fun _ _ _ => rfl⟩
  induction h with
  | any v => intro a e; cases a <;> simp only [AV.ren] at e <;> first | (cases e; done) | exact .any v
  | int k n => intro a e; cases a <;> simp only [AV.ren] at e <;> cases e; exact .int k n
  | bool b => intro a e; cases a <;> simp only [AV.ren] at e <;> cases e; exact .bool b
  | flt k x r h hr => intro a e; cases a <;> simp only [AV.ren] at e <;> cases e; exact .flt k x r h hr
  | str s => intro a e; cases a <;> simp only [AV.ren] at e <;> cases e; exact .str s
  | ifc z v h => intro a e; cases a <;> simp only [AV.ren] at e <;> cases e; exact .ifc _ _ h
  | nilp => intro a e; cases a <;> simp only [AV.ren] at e <;> cases e; exact .nilp
  | nils => intro a e; cases a <;> simp only [AV.ren] at e <;> cases e; exact .nils
  | nilf => intro a e; cases a <;> simp only [AV.ren] at e <;> cases e; exact .nilf
  | mp r b h => intro a e; cases a <;> simp only [AV.ren] at e <;> cases e; exact .mp _ b (hm _ _ h)
  | mview new e ks vs b us hlt hbb hmut hh h1 h2 hk hr ih =>
    intro a e'; cases a <;> simp only [AV.ren] at e' <;> cases e'
    exact .mview _ _ _ _ _ us hlt (fun e => Nat.le_trans hb (hbb e)) (fun e => hmut (hl _ e)) hh h1 h2 hk fun j a u ha hu => (hr j a u ha hu).later hp
  | ptr r off b N h => intro a e; cases a <;> simp only [AV.ren] at e <;> cases e; exact .ptr _ _ b N (hm _ _ h)
  | slc r off n q b N cap h h1 h2 h3 => intro a e; cases a <;> simp only [AV.ren] at e <;> cases e; exact .slc _ _ _ _ b N cap (hm _ _ h) h1 h2 h3
  | slcv r q h => intro a e; cases a <;> simp only [AV.ren] at e <;> cases e; exact .slcv _ _ (hm _ _ h)
  | view0 new cells A cap hmx => intro a e; cases a <;> simp only [AV.ren] at e <;> cases e; exact .view0 _ _ _ _ hmx
  | view new cells n b off cap hn hmx hlt hbb hmut u hc ho hr ih =>
    intro a e; cases a <;> simp only [AV.ren] at e <;> cases e
    exact .view _ _ _ _ _ _ hn hmx hlt (fun e => Nat.le_trans hb (hbb e)) (fun e => hmut (hl _ e)) u hc ho fun j a ha => (hr j a ha).later hp
  | vptr new cells b off hlt hbb hmut u hc ho hr ih =>
    intro a e; cases a <;> simp only [AV.ren] at e <;> cases e
    exact .vptr _ _ _ _ hlt (fun e => Nat.le_trans hb (hbb e)) (fun e => hmut (hl _ e)) u hc ho fun j a ha => (hr j a ha).later hp
  | agg l vs h1 h2 h3 ih =>
    intro a e; cases a <;> simp only [AV.ren] at e <;> cases e
    rename_i l'
    refine .agg l' vs (by simpa using h1) h2 fun i a v ha hv => ih i (a.ren f) v (by rw [List.getElem?_map, ha]; rfl) hv hm hb hl hp a rfl
  | tup l vs h1 h3 ih =>
    intro a e; cases a <;> simp only [AV.ren] at e <;> cases e
    rename_i l'
    refine .tup l' vs (by simpa using h1) fun i a v ha hv => ih i (a.ren f) v (by rw [List.getElem?_map, ha]; rfl) hv hm hb hl hp a rfl
  | clo g x y vf vc h1 h2 h3 h4 ih3 ih4 =>
    intro a e; cases a <;> simp only [AV.ren] at e <;> cases e
    rename_i x' y'
    exact .clo _ x' y' vf vc (by simpa using h1) (by simpa using h2) (fun i a v ha hv => ih3 i (a.ren f) v (by rw [List.getElem?_map, ha]; rfl) hv hm hb hl hp a rfl)
      (fun i a v ha hv => ih4 i (a.ren f) v (by rw [List.getElem?_map, ha]; rfl) hv hm hb hl hp a rfl)
end

/-- What is forgotten and renamed: 'τ' tells for each new root behind the first n0 which old one it is. -/
structure Gc (n0 : Nat) (τ : List (Option Nat)) (s : List AV) (H : Heap) (s' : List AV) (H' : Heap) : Prop where
  len : H'.length = n0 + τ.length
  le : n0 ≤ H.length
  nodup : (τ.filterMap id).Nodup
  big : ∀ (k r : Nat), τ[k]? = some (some r) → n0 ≤ r ∧ r < H.length
  slots : leL (oldN n0 H.length τ) (fun r => n0 ≤ r ∧ τ[r - n0]? = some none) s s'
  roots : ∀ (r : Nat) new box e cells, H'[r]? = some (.blk new box e cells) → (n0 ≤ r ∧ τ[r - n0]? = some none ∧ new = true ∧ box = false ∧ cells = []) ∨
    ∃ cells0, H[oldN n0 H.length τ r]? = some (.blk new box e cells0) ∧ (box = false → cells0 = cells) ∧ (box = true → leL (oldN n0 H.length τ) (fun r => n0 ≤ r ∧ τ[r - n0]? = some none) cells0 cells)

theorem gc_sim {n0 : Nat} {τ : List (Option Nat)} {s s' : List AV} {H H' : Heap} (g : Gc n0 τ s H s' H') {m0 : Nat → Option (Option (Nat × Nat))} {H0 : Heap} (h0 : H0.length = n0) {w0 : World} {X : Nat → Prop} {a : Act} {w : World}
    (hm0 : ∀ r, H0.length ≤ r → m0 r = none) (h : Sim m0 H0 w0 X s H a w) : Sim m0 H0 w0 X s' H' a w := by
  obtain ⟨map, h1, h2, h3, h4, h5⟩ := h
  let map' : Nat → Option (Option (Nat × Nat)) := fun r => if r < n0 then map r else match τ[r - n0]? with
    | some (some k) => map k
    | some none => some none
    | none => none
  have hold : ∀ r x, map (oldN n0 H.length τ r) = some x → map' r = some x := by
    intro r x hx
    unfold oldN at hx
    simp only [map']
    split
    · rename_i c; rw [if_pos c] at hx; exact hx
    · rename_i c
      rw [if_neg c] at hx
      cases ht : τ[r - n0]? with
      | none => rw [ht] at hx; simp at hx; rw [h4 _ (Nat.le_refl _)] at hx; cases hx
      | some o =>
        cases o with
        | none => rw [ht] at hx; simp at hx; rw [h4 _ (Nat.le_refl _)] at hx; cases hx
        | some k => rw [ht] at hx; simpa using hx
  -- where a live new root comes from
  have hfrom : ∀ (r : Nat) new box e cells b N, H'[r]? = some (.blk new box e cells) → map' r = some (some (b, N)) →
      ∃ cells0, H[oldN n0 H.length τ r]? = some (.blk new box e cells0) ∧ map (oldN n0 H.length τ r) = some (some (b, N)) := by
    intro r new box e cells b N hr hm
    rcases g.roots r new box e cells hr with ⟨c1, c2, _⟩ | ⟨cells0, c1, _⟩
    · simp only [map'] at hm
      rw [if_neg (by omega), c2] at hm
      cases hm
    · refine ⟨cells0, c1, ?_⟩
      simp only [map'] at hm
      unfold oldN at c1 ⊢
      split at hm
      · rename_i c; rw [if_pos c]; exact hm
      · rename_i c
        rw [if_neg c] at c1 ⊢
        cases ht : τ[r - n0]? with
        | none => rw [ht] at hm; cases hm
        | some o =>
          cases o with
          | none => rw [ht] at hm; cases hm
          | some k => rw [ht] at hm; simpa using hm
  have hmut : ∀ b, mutOf map' H' b → mutOf map H b := by
    rintro b ⟨r, N, new, box, e, cells, c1, c2⟩
    obtain ⟨cells0, d1, d2⟩ := hfrom r new box e cells b N c1 c2
    exact ⟨_, N, new, box, e, cells0, d1, d2⟩
  have hlive : ∀ b, (env map' H' X w0.heap.size).live b → (env map H X w0.heap.size).live b := fun b hb => hb.imp (hmut b) id
  have hval : ∀ (a0 a1 : AV) (v : Value), leV (oldN n0 H.length τ) (fun r => n0 ≤ r ∧ τ[r - n0]? = some none) a0 a1 → VRel w (env map H X w0.heap.size) a0 v → VRel w (env map' H' X w0.heap.size) a1 v := by
    rintro a0 a1 v (rfl | e | ⟨rfl, r, q, rfl, hr, hz⟩) hv
    · exact .any v
    · exact hv.unren (E' := env map' H' X w0.heap.size) hold (Nat.le_refl _) hlive a1 e
    · cases hv
      refine .slcv r q ?_
      show map' r = some none
      simp only [map']
      rw [if_neg (by omega), hz]
  have hpure : Later (env map H X w0.heap.size).pure w (env map' H' X w0.heap.size).pure w := ⟨fun r x h => (by cases h), Nat.le_refl _, fun b _ h => hlive b h, Nat.le_refl _, fun _ _ _ => rfl⟩
  refine ⟨map', ⟨?_, fun i a1 v ha hv => ?_⟩, ⟨fun r new box e cells hr => ?_, fun r r' b N N' n1 n2 x1 x2 e1 e2 c1 c2 hr hr' hm hm' => ?_, h2.glob.live hlive⟩, ⟨h3.os, h3.tape, h3.output, h3.size, h3.block, fun r x hx => ?_, fun r hr => ?_, ?_, fun b hb hm => h3.old b hb (hmut b hm)⟩, fun r hr => ?_, h5⟩
  · rw [(leL_get g.slots).1]; exact h1.1
  · have hl := leL_get g.slots
    have hi := (List.getElem?_eq_some_iff.1 ha).1
    have h0' : s[i]? = some (s[i]'(by omega)) := List.getElem?_eq_getElem (by omega)
    exact hval _ a1 v (hl.2 i _ a1 h0' ha) (h1.2 i _ v h0' hv)
  · rcases g.roots r new box e cells hr with ⟨c1, c2, rfl, rfl, rfl⟩ | ⟨cells0, c1, c2⟩
    · refine .inl ⟨?_, rfl, rfl⟩
      show map' r = some none
      simp only [map']; rw [if_neg (by omega), c2]
    · obtain ⟨cr, cb⟩ := c2
      rcases h2.root _ _ _ _ _ c1 with ⟨d1, d2, d3⟩ | ⟨b, N, arr, d1, d2, d3, d4, d6, d5⟩
      · subst d3
        refine .inl ⟨hold r _ d1, ?_, rfl⟩
        rw [← cr rfl]; exact d2
      · cases box with
        | false =>
          have e1 := cr rfl
          subst e1
          refine .inr ⟨b, N, arr, hold r _ d1, d2, d3, d4, d6, fun i a1 ha => ?_⟩
          obtain ⟨u, u1, u2, u3⟩ := d5 i a1 ha
          exact ⟨u, u1, u2, u3.later hpure⟩
        | true =>
          have hl := leL_get (cb rfl)
          refine .inr ⟨b, N, arr, hold r _ d1, d2, (by cases N with | zero => exact ⟨d3.1, hl.1.trans d3.2⟩ | succ N => exact d3), by omega, d6, fun i a1 ha => ?_⟩
          have hi := (List.getElem?_eq_some_iff.1 ha).1
          have h0' : cells0[i]? = some (cells0[i]'(by omega)) := List.getElem?_eq_getElem (by omega)
          obtain ⟨u, u1, u2, u3⟩ := d5 i _ h0'
          exact ⟨u, u1, u2, hval _ a1 u (hl.2 i _ a1 h0' ha) u3⟩
  · obtain ⟨d0, d1, d2⟩ := hfrom r _ _ _ _ b N hr hm
    obtain ⟨d0', d1', d2'⟩ := hfrom r' _ _ _ _ b N' hr' hm'
    have heq := h2.inj _ _ b N N' _ _ _ _ _ _ _ _ d1 d1' d2 d2'
    have hval2 : ∀ (q : Nat) (nw bx : Bool) (e0 : TypeId) (c0 : List AV), H'[q]? = some (.blk nw bx e0 c0) → ∀ b N, map' q = some (some (b, N)) → n0 ≤ q → τ[q - n0]? = some (some (oldN n0 H.length τ q)) := by
      intro q nw bx e0 c0 hq b N hmq hge
      simp only [map'] at hmq
      rw [if_neg (by omega)] at hmq
      unfold oldN
      rw [if_neg (by omega)]
      cases ht : τ[q - n0]? with
      | none => rw [ht] at hmq; cases hmq
      | some o =>
        cases o with
        | none => rw [ht] at hmq; cases hmq
        | some k => simp
    by_cases c : r < n0
    · by_cases c' : r' < n0
      · unfold oldN at heq; rw [if_pos c, if_pos c'] at heq; exact heq
      · have := g.big _ _ (hval2 r' _ _ _ _ hr' b N' hm' (by omega))
        have e3 : oldN n0 H.length τ r = r := by unfold oldN; rw [if_pos c]
        omega
    · by_cases c' : r' < n0
      · have := g.big _ _ (hval2 r _ _ _ _ hr b N hm (by omega))
        have e3 : oldN n0 H.length τ r' = r' := by unfold oldN; rw [if_pos c']
        omega
      · have g1 := hval2 r _ _ _ _ hr b N hm (by omega)
        have g2 := hval2 r' _ _ _ _ hr' b N' hm' (by omega)
        rw [← heq] at g2
        have := inj_of_nodup τ g.nodup _ _ _ g1 g2
        omega
  · have hlt : r < n0 := by
      rcases Nat.lt_or_ge r n0 with c | c
      · exact c
      · rw [hm0 r (by omega)] at hx; cases hx
    simp only [map']; rw [if_pos hlt]; exact h3.same r x hx
  · have := g.len
    rcases hr with hr | hr
    · simp only [map']; rw [if_pos (by omega)]; exact h3.out r (.inl hr)
    · simp only [map']; rw [if_neg (by omega), List.getElem?_eq_none (by omega), hm0 r (by omega)]
  · have := g.len; omega
  · have := g.len
    simp only [map']; rw [if_neg (by omega), List.getElem?_eq_none (by omega)]
where
  inj_of_nodup : ∀ (τ : List (Option Nat)), (τ.filterMap id).Nodup → ∀ (i j k : Nat), τ[i]? = some (some k) → τ[j]? = some (some k) → i = j
    | [], _, i, j, k, h, _ => by simp at h
    | none :: τ, hn, i, j, k, h1, h2 => by
      cases i with
      | zero => simp at h1
      | succ i => cases j with
        | zero => simp at h2
        | succ j => rw [inj_of_nodup τ (by simpa using hn) i j k (by simpa using h1) (by simpa using h2)]
    | some x :: τ, hn, i, j, k, h1, h2 => by
      have hn' : x ∉ τ.filterMap id ∧ (τ.filterMap id).Nodup := by simpa using hn
      have mem : ∀ (m : Nat), τ[m]? = some (some x) → False := fun m hm => hn'.1 (List.mem_filterMap.2 ⟨some x, List.mem_of_getElem? hm, rfl⟩)
      cases i with
      | zero =>
        simp at h1; subst h1
        cases j with
        | zero => rfl
        | succ j => exact (mem j (by simpa using h2)).elim
      | succ i =>
        cases j with
        | zero => simp at h2; subst h2; exact (mem i (by simpa using h1)).elim
        | succ j => rw [inj_of_nodup τ hn'.2 i j k (by simpa using h1) (by simpa using h2)]

theorem Weak.gc {H0 : Heap} {s s' : List AV} {H H' : Heap} (τ : List (Option Nat)) (g : Gc H0.length τ s H s' H') : Weak H0 s H s' H' :=
  fun _ _ _ _ _ _ hm0 h => gc_sim g rfl hm0 h

/-- The values that a function hands back. -/
def resL (P : Program) (s : List AV) (H : Heap) : List ResultVar → (List AV → Prop) → Prop
  | [], K => K []
  | .tmp t :: rs, K => resL P s H rs fun l => K (s.getD t .any :: l)
  | .cell a t :: rs, K => loadG P t (s.getD a .any) H fun av => resL P s H rs fun l => K (av :: l)

def resOne : List AV → AV
  | [a] => a
  | l => .tup l

/-- A body's end: the results, what is forgotten, what the caller is told. -/
def endG (P : Program) (rs : List ResultVar) (Hin : Heap) (R : AV → Heap → Prop) (s : List AV) (H : Heap) : Prop :=
  resL P s H rs fun l => ∃ τ av' H', Gc Hin.length τ [resOne l] H [av'] H' ∧ AllNew av' ∧
    (∀ (r : Nat) new box e cells, Hin.length ≤ r → H'[r]? = some (.blk new box e cells) → new = true ∧ ∀ a ∈ cells, AllNew a) ∧
    (∀ (r : Nat), r < Hin.length → ∃ new box e cells, H'[r]? = some (.blk new box e cells)) ∧ R av' H'

section
variable {P : Program} {w : World} {map : Nat → Option (Option (Nat × Nat))} {H : Heap} {X : Nat → Prop} {B : Nat}

def resRun (tmps : Array Value) : ResultVar → Sem Value
  | .tmp t => Pure.pure (tmps.getD t undef)
  | .cell a t => do loadVar t (← asAddr (tmps.getD a undef))

theorem resL_ok {s : List AV} {tmps : Array Value} (hs : SRel w (env map H X B) s tmps) (hW : WRel w (env map H X B) H) : ∀ (rs : List ResultVar) (K : List AV → Prop), resL P s H rs K →
    ∃ vs l, (rs.mapM (resRun tmps)).run P w = .ok vs w ∧ l.length = vs.length ∧
      (∀ (i : Nat) a v, l[i]? = some a → vs[i]? = some v → VRel w (env map H X B) a v) ∧ K l
  | [], K, h => ⟨[], [], by simp, rfl, fun i a v h => by simp at h, h⟩
  | .tmp t :: rs, K, h => by
    obtain ⟨vs, l, h1, h2, h3, h4⟩ := resL_ok hs hW rs _ h
    refine ⟨tmps.getD t undef :: vs, s.getD t .any :: l, by simp only [List.mapM_cons, resRun, Sem.run_bind, Sem.run_pure, Result.andThen_ok, h1], by simp [h2], fun i a v ha hv => ?_, h4⟩
    cases i with
    | zero =>
      have := rel_eval (a := { tmps, defers := [] }) hs (.tmp t)
      have e1 : s.getD t .any = a := Option.some.inj ha
      have e2 : tmps.getD t undef = v := Option.some.inj hv
      rw [← e1, ← e2]
      exact this
    | succ i => exact h3 i a v (by simpa using ha) (by simpa using hv)
  | .cell a t :: rs, K, h => by
    have hp := rel_eval (a := { tmps, defers := [] }) hs (.tmp a)
    have hp' : VRel w (env map H X B) (s.getD a .any) (tmps.getD a undef) := hp
    obtain ⟨ad, v, av, e1, e2, e3, h'⟩ := loadG_run hp' hW h
    obtain ⟨vs, l, h1, h2, h3, h4⟩ := resL_ok hs hW rs _ h'
    refine ⟨v :: vs, av :: l, ?_, by simp [h2], fun i a v ha hv => ?_, h4⟩
    · rw [List.mapM_cons]
      simp only [resRun, e1, asAddr, Sem.run_bind, Sem.run_pure, Result.andThen_ok, e2, h1]
    · cases i with
      | zero => simp at ha hv; subst ha; subst hv; exact e3
      | succ i => exact h3 i a v (by simpa using ha) (by simpa using hv)

theorem results_ok {fn : Func} {s : List AV} {tmps : Array Value} (hs : SRel w (env map H X B) s tmps) (hW : WRel w (env map H X B) H) {K : List AV → Prop} (h : resL P s H fn.results.toList K) :
    ∃ v l, (results fn tmps).run P w = .ok v w ∧ VRel w (env map H X B) (resOne l) v ∧ K l := by
  obtain ⟨vs, l, h1, h2, h3, h4⟩ := resL_ok hs hW _ _ h
  refine ⟨if h : vs.length = 1 then vs[0] else .tuple vs.toArray, l, ?_, ?_, h4⟩
  · have hres : results fn tmps = (do let vs ← fn.results.mapM (resRun tmps); pure (if h : vs.size = 1 then vs[0] else .tuple vs)) := by
      unfold results
      congr 1
    rw [hres, Array.mapM_eq_mapM_toList]
    simp only [Sem.run_bind, Sem.run_map, h1, Result.andThen_ok, Sem.run_pure, List.size_toArray, List.getElem_toArray]
  · by_cases c : vs.length = 1
    · rw [dif_pos c]
      obtain ⟨v, rfl⟩ := List.length_eq_one_iff.1 c
      obtain ⟨a, rfl⟩ := List.length_eq_one_iff.1 h2
      exact h3 0 a v rfl rfl
    · rw [dif_neg c]
      have hl : resOne l = .tup l := by
        match l, h2 with
        | [], _ => rfl
        | [a], h2 => exact absurd h2.symm c
        | _ :: _ :: _, _ => rfl
      rw [hl]
      exact .tup _ _ (by simpa using h2) fun i a v ha hv => h3 i a v ha (by simpa using hv)

theorem FnSpec.of_goalW {f : FuncId} {fn : Func} {c : Code} {nt : Nat} {rs : List ResultVar} {avs : List AV} {Hin : Heap} {R : AV → Heap → Prop} {dr : List Oper → List AV → Heap → (List AV → Heap → Prop) → Prop} {ok : List Oper → Bool} (hdr : DrawOk P ok dr)
    (hf : P.funcs[f]? = some fn) (hb : fn.body = some c) (hdo : drawsOk ok c = true) (hname : (fn.name == "runtime.NumGoroutine") = false)
    (hnt : fn.ntmps = nt) (hrs : fn.results.toList = rs) {K : Exit → List AV → Heap → Prop} (hK : ∀ e s H, K e s H → ∃ s1 H1, Weak Hin s H s1 H1 ∧ (match e with
      | .normal => endG P rs Hin R s1 H1
      | .ret => endG P rs Hin R s1 H1
      | _ => False)) (h : codeG P dr Hin c (avs ++ List.replicate (nt - avs.length) .any) Hin K) : FnSpec P f avs Hin R := by
  subst hnt; subst hrs
  intro map w vs X hX hfree hW hargs
  have hcalls : Calls P f vs w fun e w' => ∃ v, e = .returned v ∧ ∃ map' av H', R av H' ∧ VRel w' (env map' H' (fun b => X b ∨ b < w.heap.size) w.heap.size) av v ∧ WRel w' (env map' H' X w.heap.size) H' ∧
      (∀ (r : Nat) new box e cells, Hin.length ≤ r → H'[r]? = some (.blk new box e cells) → RootRel w' (env map' H' (fun b => X b ∨ b < w.heap.size) w.heap.size) r new box e cells ∧ new = true) ∧
      (∀ (r : Nat), r < Hin.length → ∃ new box e cells, H'[r]? = some (.blk new box e cells)) ∧ Step map Hin w map' H' w' := by
    refine calls_of_wp hf hb ?_
    have hs0 : Sim map Hin w X (avs ++ List.replicate (fn.ntmps - avs.length) .any) Hin { tmps := vs ++ Array.replicate (fn.ntmps - vs.size) undef, defers := [] } w := by
      refine ⟨map, ⟨by simp [hargs.1], fun i a v ha hv => ?_⟩, hW, Step.refl _ _ _, hfree, rfl⟩
      rw [List.getElem?_append] at ha
      rw [Array.getElem?_append, ← hargs.1] at hv
      split at ha
      · rw [if_pos ‹_›] at hv; exact hargs.2 i a v ha hv
      · rw [List.getElem?_replicate] at ha
        split at ha
        · cases ha; exact .any _
        · cases ha
    refine codeG_ok hdr hX hfree c _ _ _ _ _ _ hdo (fun e s H a w' hk0 hs => ?_) hs0 h
    obtain ⟨s, H, hwk, hk⟩ := hK e s H hk0
    replace hs := hwk map w X a w' hX hfree hs
    have fin : endG P fn.results.toList Hin R s H → a.defers = [] ∧ ∃ v, (results fn a.tmps).run P w' = .ok v w' ∧ (∃ v', Ending.returned v = .returned v' ∧ ∃ map' av H', R av H' ∧ VRel w' (env map' H' (fun b => X b ∨ b < w.heap.size) w.heap.size) av v' ∧ WRel w' (env map' H' X w.heap.size) H' ∧
      (∀ (r : Nat) new box e cells, Hin.length ≤ r → H'[r]? = some (.blk new box e cells) → RootRel w' (env map' H' (fun b => X b ∨ b < w.heap.size) w.heap.size) r new box e cells ∧ new = true) ∧
      (∀ (r : Nat), r < Hin.length → ∃ new box e cells, H'[r]? = some (.blk new box e cells)) ∧ Step map Hin w map' H' w') := by
      intro he
      obtain ⟨m1, k1, k2, k3, k4, k5⟩ := hs
      refine ⟨k5, ?_⟩
      obtain ⟨v, l, r1, r2, τ, av', H', g, n1, n2, n3, hR⟩ := results_ok k1 k2 he
      refine ⟨v, r1, v, rfl, ?_⟩
      have hsim : Sim map Hin w X [resOne l] H { tmps := #[v], defers := [] } w' := by
        refine ⟨m1, ⟨rfl, fun i a' v' ha hv => ?_⟩, k2, k3, k4, rfl⟩
        cases i with
        | zero => simp at ha hv; subst ha; subst hv; exact r2
        | succ i => simp at ha
      obtain ⟨m2, q1, q2, q3, q4, _⟩ := gc_sim g rfl hfree hsim
      have hval := q1.2 0 av' v rfl rfl
      have hlive : ∀ b, (env m2 H' (fun b => X b ∨ b < w.heap.size) w.heap.size).live b → (env m2 H' X w.heap.size).live b ∨ b < (env m2 H' X w.heap.size).base := by
        rintro b (hb | hb | hb)
        · exact .inl (.inl hb)
        · exact .inl (.inr hb)
        · exact .inr hb
      refine ⟨m2, av', H', hR, hval.fresh n1 rfl rfl hlive, q2, fun r new box e cells hr hH => ⟨?_, (n2 r new box e cells hr hH).1⟩, n3, q3⟩
      have hall := (n2 r new box e cells hr hH).2
      rcases q2.root r new box e cells hH with hx | ⟨b, N, arr, d1, d2, d3, d4, d6, d5⟩
      · exact .inl hx
      · refine .inr ⟨b, N, arr, d1, d2, d3, d4, d6, fun i a' ha => ?_⟩
        obtain ⟨u, u1, u2, u3⟩ := d5 i a' ha
        refine ⟨u, u1, u2, ?_⟩
        cases box with
        | true => exact VRel.fresh (E := env m2 H' X w.heap.size) (hall a' (List.mem_of_getElem? ha)) u3 rfl rfl hlive
        | false => exact VRel.fresh (E := (env m2 H' X w.heap.size).pure) (hall a' (List.mem_of_getElem? ha)) u3 rfl rfl hlive
    cases e with
    | normal => exact fin hk
    | ret => exact fin hk
    | _ => exact hk.elim
  intro o a next Q hn
  obtain ⟨fnb, hbody⟩ : ∃ b, fn.body = some b := ⟨c, hb⟩
  have hrun : (callFunc f vs).run P w = .ok (.enter f vs) w := by
    have hb' : fn.body.isNone = false := by rw [hb]; rfl
    simp only [callFunc, Sem.run_bind, run_program, Result.andThen_ok, hf, hname, hb', Bool.false_eq_true, if_false, Sem.run_pure]
  rw [hrun, Oper.upon_enter]
  refine hcalls.mono fun e w' ⟨v, he, hr⟩ => ?_
  subst he
  exact hn v w' hr

theorem FnSpec.of_goalK {f : FuncId} {fn : Func} {c : Code} {nt : Nat} {rs : List ResultVar} {avs : List AV} {Hin : Heap} {R : AV → Heap → Prop} {dr : List Oper → List AV → Heap → (List AV → Heap → Prop) → Prop} {ok : List Oper → Bool} (hdr : DrawOk P ok dr)
    (hf : P.funcs[f]? = some fn) (hb : fn.body = some c) (hdo : drawsOk ok c = true) (hname : (fn.name == "runtime.NumGoroutine") = false)
    (hnt : fn.ntmps = nt) (hrs : fn.results.toList = rs) {K : Exit → List AV → Heap → Prop} (hK : ∀ e s H, K e s H → (match e with
      | .normal => endG P rs Hin R s H
      | .ret => endG P rs Hin R s H
      | _ => False)) (h : codeG P dr Hin c (avs ++ List.replicate (nt - avs.length) .any) Hin K) : FnSpec P f avs Hin R :=
  FnSpec.of_goalW hdr hf hb hdo hname hnt hrs (fun e s H h => ⟨s, H, Weak.refl _ _ _, hK e s H h⟩) h

/-- As 'endG', where what is handed back may lie in what the arguments only let read. -/
def endGV (P : Program) (rs : List ResultVar) (Hin : Heap) (R : AV → Heap → Prop) (s : List AV) (H : Heap) : Prop :=
  resL P s H rs fun l => ∃ τ av' H', Gc Hin.length τ [resOne l] H [av'] H' ∧
    (∀ (r : Nat) new box e cells, Hin.length ≤ r → H'[r]? = some (.blk new box e cells) → new = true) ∧
    (∀ (r : Nat), r < Hin.length → ∃ new box e cells, H'[r]? = some (.blk new box e cells)) ∧ R av' H'
theorem FnSpecV.of_goalK {f : FuncId} {fn : Func} {c : Code} {nt : Nat} {rs : List ResultVar} {avs : List AV} {Hin : Heap} {R : AV → Heap → Prop} {dr : List Oper → List AV → Heap → (List AV → Heap → Prop) → Prop} {ok : List Oper → Bool} (hdr : DrawOk P ok dr)
    (hf : P.funcs[f]? = some fn) (hb : fn.body = some c) (hdo : drawsOk ok c = true) (hname : (fn.name == "runtime.NumGoroutine") = false)
    (hnt : fn.ntmps = nt) (hrs : fn.results.toList = rs) {K : Exit → List AV → Heap → Prop} (hK : ∀ e s H, K e s H → (match e with
      | .normal => endGV P rs Hin R s H
      | .ret => endGV P rs Hin R s H
      | _ => False)) (h : codeG P dr Hin c (avs ++ List.replicate (nt - avs.length) .any) Hin K) : FnSpecV P f avs Hin R := by
  subst hnt; subst hrs
  intro map w vs X hX hfree hW hargs
  have hcalls : Calls P f vs w fun e w' => ∃ v, e = .returned v ∧ ∃ map' av H', R av H' ∧ VRel w' (env map' H' X w.heap.size) av v ∧ WRel w' (env map' H' X w.heap.size) H' ∧
      (∀ (r : Nat) new box e cells, Hin.length ≤ r → H'[r]? = some (.blk new box e cells) → RootRel w' (env map' H' X w.heap.size) r new box e cells ∧ new = true) ∧
      (∀ (r : Nat), r < Hin.length → ∃ new box e cells, H'[r]? = some (.blk new box e cells)) ∧ Step map Hin w map' H' w' := by
    refine calls_of_wp hf hb ?_
    have hs0 : Sim map Hin w X (avs ++ List.replicate (fn.ntmps - avs.length) .any) Hin { tmps := vs ++ Array.replicate (fn.ntmps - vs.size) undef, defers := [] } w := by
      refine ⟨map, ⟨by simp [hargs.1], fun i a v ha hv => ?_⟩, hW, Step.refl _ _ _, hfree, rfl⟩
      rw [List.getElem?_append] at ha
      rw [Array.getElem?_append, ← hargs.1] at hv
      split at ha
      · rw [if_pos ‹_›] at hv; exact hargs.2 i a v ha hv
      · rw [List.getElem?_replicate] at ha
        split at ha
        · cases ha; exact .any _
        · cases ha
    refine codeG_ok hdr hX hfree c _ _ _ _ _ _ hdo (fun e s H a w' hk0 hs => ?_) hs0 h
    have hk := hK e s H hk0
    have fin : endGV P fn.results.toList Hin R s H → a.defers = [] ∧ ∃ v, (results fn a.tmps).run P w' = .ok v w' ∧ (∃ v', Ending.returned v = .returned v' ∧ ∃ map' av H', R av H' ∧ VRel w' (env map' H' X w.heap.size) av v' ∧ WRel w' (env map' H' X w.heap.size) H' ∧
      (∀ (r : Nat) new box e cells, Hin.length ≤ r → H'[r]? = some (.blk new box e cells) → RootRel w' (env map' H' X w.heap.size) r new box e cells ∧ new = true) ∧
      (∀ (r : Nat), r < Hin.length → ∃ new box e cells, H'[r]? = some (.blk new box e cells)) ∧ Step map Hin w map' H' w') := by
      intro he
      obtain ⟨m1, k1, k2, k3, k4, k5⟩ := hs
      refine ⟨k5, ?_⟩
      obtain ⟨v, l, r1, r2, τ, av', H', g, n2, n3, hR⟩ := results_ok k1 k2 he
      refine ⟨v, r1, v, rfl, ?_⟩
      have hsim : Sim map Hin w X [resOne l] H { tmps := #[v], defers := [] } w' := by
        refine ⟨m1, ⟨rfl, fun i a' v' ha hv => ?_⟩, k2, k3, k4, rfl⟩
        cases i with
        | zero => simp at ha hv; subst ha; subst hv; exact r2
        | succ i => simp at ha
      obtain ⟨m2, q1, q2, q3, q4, _⟩ := gc_sim g rfl hfree hsim
      have hval := q1.2 0 av' v rfl rfl
      exact ⟨m2, av', H', hR, hval, q2, fun r new box e cells hr hH => ⟨q2.root r new box e cells hH, n2 r new box e cells hr hH⟩, n3, q3⟩
    cases e with
    | normal => exact fin hk
    | ret => exact fin hk
    | _ => exact hk.elim
  intro o a next Q hn
  obtain ⟨fnb, hbody⟩ : ∃ b, fn.body = some b := ⟨c, hb⟩
  have hrun : (callFunc f vs).run P w = .ok (.enter f vs) w := by
    have hb' : fn.body.isNone = false := by rw [hb]; rfl
    simp only [callFunc, Sem.run_bind, run_program, Result.andThen_ok, hf, hname, hb', Bool.false_eq_true, if_false, Sem.run_pure]
  rw [hrun, Oper.upon_enter]
  refine hcalls.mono fun e w' ⟨v, he, hr⟩ => ?_
  subst he
  exact hn v w' hr

theorem FnSpec.of_goal {f : FuncId} {fn : Func} {c : Code} {nt : Nat} {rs : List ResultVar} {avs : List AV} {Hin : Heap} {R : AV → Heap → Prop} {dr : List Oper → List AV → Heap → (List AV → Heap → Prop) → Prop} {ok : List Oper → Bool} (hdr : DrawOk P ok dr)
    (hf : P.funcs[f]? = some fn) (hb : fn.body = some c) (hdo : drawsOk ok c = true) (hname : (fn.name == "runtime.NumGoroutine") = false)
    (hnt : fn.ntmps = nt) (hrs : fn.results.toList = rs) (h : codeG P dr Hin c (avs ++ List.replicate (nt - avs.length) .any) Hin fun e s H => match e with
      | .normal => endG P rs Hin R s H
      | .ret => endG P rs Hin R s H
      | _ => False) : FnSpec P f avs Hin R :=
  FnSpec.of_goalK hdr hf hb hdo hname hnt hrs (fun _ _ _ h => h) h
end
end Go.Awp
