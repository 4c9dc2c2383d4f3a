/- Regions, code, bodies: the goal of a whole function, and its contract out of it.
Conditions: none. -/
import Derived.Test.YtbjfkhjckfodbaaGo
import Derived.Tactics
namespace Go.Awp
set_option linter.all false
open Go

def setDst (s : List AV) (d : Option Tmp) (av : AV) : List AV :=
  match d with
  | some d => s.set d av
  | none => s

/-- The operations of a region, one behind the other. -/
def opsG (P : Program) (all : List Oper) : List Oper → List AV → Heap → (List AV → Heap → Prop) → Prop
  | [], s, H, K => K s H
  | o :: rest, s, H, K =>
    match o.guard with
    | none => opG P o.op (evalA s) H fun av H' => opsG P all rest (setDst s o.dst av) H' K
    | some (j, want) =>
      match (all[j]?).bind (·.dst) with
      | none => False
      | some g =>
        match s[g]? with
        | some (.bool t) =>
          (t = want → opG P o.op (evalA (s.set g (.bool want))) H fun av H' => opsG P all rest (setDst (s.set g (.bool want)) o.dst av) H' K) ∧
          (t = !want → opsG P all rest (setDst (s.set g (.bool (!want))) o.dst (.tup [])) H K)
        | some (.tup []) => opsG P all rest (setDst s o.dst (.tup [])) H K
        | _ => False

/-- The machine stands as told. -/
def Sim (m0 : Nat → Option (Option (Nat × Nat))) (H0 : Heap) (w0 : World) (X : Nat → Prop) (s : List AV) (H : Heap) (a : Act) (w : World) : Prop :=
  ∃ map, SRel w (env map H X w0.heap.size) s a.tmps ∧ WRel w (env map H X w0.heap.size) H ∧ Step m0 H0 w0 map H w ∧ (∀ r, H.length ≤ r → map r = none) ∧ a.defers = []

section
variable {P : Program} {m0 : Nat → Option (Option (Nat × Nat))} {H0 : Heap} {w0 : World} {X : Nat → Prop}

theorem srel_set {w : World} {E : Env} {s : List AV} {tmps : Array Value} (h : SRel w E s tmps) (d : Option Tmp) {av : AV} {v : Value} (hv : VRel w E av v) (a : Act) (ha : a.tmps = tmps) : SRel w E (setDst s d av) (a.put d v).tmps := by
  subst ha
  cases d with
  | none => exact h
  | some d =>
    refine ⟨by simp [setDst, Act.put, h.1], fun i a' v' ha' hv' => ?_⟩
    simp only [setDst, Act.put, List.getElem?_set, Array.getElem?_setIfInBounds] at ha' hv'
    split at ha'
    · rename_i e; subst e
      split at ha'
      · rename_i hlt
        rw [if_pos rfl, if_pos (by have := h.1; omega)] at hv'
        cases ha'; cases hv'; exact hv
      · cases ha'
    · rename_i e
      rw [if_neg e] at hv'
      exact h.2 i a' v' ha' hv'

theorem srel_later {w w' : World} {E E' : Env} {s : List AV} {tmps : Array Value} (h : SRel w E s tmps) (L : Later E w E' w') : SRel w' E' s tmps :=
  ⟨h.1, fun i a v ha hv => (h.2 i a v ha hv).later L⟩

theorem sim_op {o : Oper} {s : List AV} {H : Heap} {a : Act} {w : World} {K : AV → Heap → Prop} {next : Act → World → Prop} {Q : Exit → Act → World → Prop} (hX : ∀ b, X b → b < w0.heap.size ∧ ¬ mutOf m0 H0 b)
    (hs : Sim m0 H0 w0 X s H a w) (h : opG P o.op (evalA s) H K) (hn : ∀ av H' a' w', K av H' → Sim m0 H0 w0 X (setDst s o.dst av) H' a' w' → next a' w') : o.wp P a w next Q := by
  obtain ⟨map, h1, h2, h3, h4, h5⟩ := hs
  have hrun := opG_ok (o := o) (fun av H' _ r hr _ => h4 r hr) (fun b hb => ⟨Nat.lt_of_lt_of_le (hX b hb).1 h3.size, fun hm => (hX b hb).2 (h3.old b (hX b hb).1 hm)⟩) h2 h3.size (fun x => rel_eval h1 x) h
  refine hrun a next Q fun v w' ⟨map', av, H', k1, k2, k3, k4⟩ => ?_
  refine hn av H' _ w' k1 ⟨map', srel_set (srel_later h1 k4.later) o.dst k2 a rfl, k3, h3.trans k4, fun r hr => ?_, ?_⟩
  · rw [k4.out r (.inr hr)]; exact h4 r (Nat.le_trans k4.len hr)
  · cases hd : o.dst <;> simp [Act.put, h5]

theorem sim_set {s : List AV} {H : Heap} {a : Act} {w : World} {g : Nat} {t : Bool} (hs : Sim m0 H0 w0 X s H a w) (hg : s[g]? = some (.bool t)) : Sim m0 H0 w0 X (s.set g (.bool t)) H a w := by
  have : s.set g (.bool t) = s := by
    apply List.ext_getElem?
    intro i
    rw [List.getElem?_set]
    split
    · rename_i e; subst e
      split
      · exact hg.symm
      · rw [List.getElem?_eq_none (by omega)]
    · rfl
  rw [this]; exact hs

theorem rel_undef {w : World} {E : Env} : VRel w E (.tup []) undef := .tup [] #[] rfl fun i a v h => by simp at h
theorem sim_skip {s : List AV} {H : Heap} {a : Act} {w : World} (d : Option Tmp) (hs : Sim m0 H0 w0 X s H a w) : Sim m0 H0 w0 X (setDst s d (.tup [])) H (a.put d undef) w := by
  obtain ⟨map, h1, h2, h3, h4, h5⟩ := hs
  exact ⟨map, srel_set h1 d rel_undef a rfl, h2, h3, h4, by cases d <;> simp [Act.put, h5]⟩

theorem sim_bool {s : List AV} {H : Heap} {a : Act} {w : World} {g : Nat} {t : Bool} (hs : Sim m0 H0 w0 X s H a w) (hg : s[g]? = some (.bool t)) : a.tmps[g]? = some (.bool t) := by
  obtain ⟨map, h1, _⟩ := hs
  have hlt := (List.getElem?_eq_some_iff.1 hg).1
  have hv : a.tmps[g]? = some (a.tmps[g]'(by have := h1.1; omega)) := Array.getElem?_eq_getElem (by have := h1.1; omega)
  have := h1.2 g _ _ hg hv
  rw [hv]
  generalize a.tmps[g]'(by have := h1.1; omega) = v at this
  cases this; rfl

theorem rel_tup0 {w : World} {E : Env} {v : Value} (h : VRel w E (.tup []) v) : v = .tuple #[] := by
  cases h with
  | tup _ vs h1 _ =>
    have : vs = #[] := Array.eq_empty_of_size_eq_zero (by simpa using h1.symm)
    rw [this]
theorem sim_tup {s : List AV} {H : Heap} {a : Act} {w : World} {g : Nat} (hs : Sim m0 H0 w0 X s H a w) (hg : s[g]? = some (.tup [])) : a.tmps[g]? = some (.tuple #[]) := by
  obtain ⟨map, h1, _⟩ := hs
  have hlt := (List.getElem?_eq_some_iff.1 hg).1
  have hv : a.tmps[g]? = some (a.tmps[g]'(by have := h1.1; omega)) := Array.getElem?_eq_getElem (by have := h1.1; omega)
  have := rel_tup0 (h1.2 g _ _ hg hv)
  rw [hv, this]

theorem opsG_ok (hX : ∀ b, X b → b < w0.heap.size ∧ ¬ mutOf m0 H0 b) (all : List Oper) {Q : Exit → Act → World → Prop} : ∀ (l : List Oper) (s : List AV) (H : Heap) (a : Act) (w : World) (K : List AV → Heap → Prop),
    (∀ s H a w, K s H → Sim m0 H0 w0 X s H a w → Q .normal a w) → Sim m0 H0 w0 X s H a w → opsG P all l s H K → wpList P all.toArray Q l a w
  | [], s, H, a, w, K, hQ, hs, h => hQ s H a w h hs
  | o :: rest, s, H, a, w, K, hQ, hs, h => by
    unfold opsG at h
    unfold wpList
    split at h
    · rename_i hg
      have hw : Region.wanted o (yielded all.toArray a.tmps) = true := by simp [Region.wanted, hg]
      rw [if_pos hw]
      exact .inl (sim_op hX hs h fun av H' a' w' hk hs' => opsG_ok hX all rest _ H' a' w' K hQ hs' hk)
    · rename_i j want hg
      split at h
      · exact h.elim
      · rename_i g hgd
        split at h
        · rename_i t hsg
          have ht := sim_bool hs hsg
          have hy : yielded all.toArray a.tmps j = some t := by
            have hgd' : (all.toArray[j]?).bind (·.dst) = some g := by simpa using hgd
            unfold yielded
            rw [hgd']
            simp only [Option.bind_some, ht]
          by_cases e : t = want
          · have hw : Region.wanted o (yielded all.toArray a.tmps) = true := by simp [Region.wanted, hg, hy, e]
            rw [if_pos hw]
            subst e
            exact .inl (sim_op hX (sim_set hs hsg) (h.1 rfl) fun av H' a' w' hk hs' => opsG_ok hX all rest _ H' a' w' K hQ hs' hk)
          · have hw : ¬ Region.wanted o (yielded all.toArray a.tmps) = true := by simp [Region.wanted, hg, hy, e]
            rw [if_neg hw]
            have e' : t = !want := by cases t <;> cases want <;> simp_all
            have h2 := h.2 e'
            subst e'
            exact opsG_ok hX all rest _ H _ w K hQ (sim_skip o.dst (sim_set hs hsg)) h2
        · rename_i hsg
          have ht := sim_tup hs hsg
          have hy : yielded all.toArray a.tmps j = none := by
            have hgd' : (all.toArray[j]?).bind (·.dst) = some g := by simpa using hgd
            unfold yielded
            rw [hgd']
            simp only [Option.bind_some, ht]
          have hw : ¬ Region.wanted o (yielded all.toArray a.tmps) = true := by simp [Region.wanted, hg, hy]
          rw [if_neg hw]
          exact opsG_ok hX all rest _ H _ w K hQ (sim_skip o.dst hs) h
        · exact h.elim

/-- What follows from what is known of a state. -/
def Weak (H0 : Heap) (s : List AV) (H : Heap) (s' : List AV) (H' : Heap) : Prop :=
  ∀ (m0 : Nat → Option (Option (Nat × Nat))) (w0 : World) (X : Nat → Prop) (a : Act) (w : World), (∀ b, X b → b < w0.heap.size ∧ ¬ mutOf m0 H0 b) → (∀ r, H0.length ≤ r → m0 r = none) → Sim m0 H0 w0 X s H a w → Sim m0 H0 w0 X s' H' a w

theorem Weak.refl (H0 : Heap) (s : List AV) (H : Heap) : Weak H0 s H s H := fun _ _ _ _ _ _ _ h => h

/-- Code, whose regions keep the text's order or may be run in it. -/
def codeG (P : Program) (dr : List Oper → List AV → Heap → (List AV → Heap → Prop) → Prop) (H0 : Heap) : Code → List AV → Heap → (Exit → List AV → Heap → Prop) → Prop
  | .skip, s, H, Q => Q .normal s H
  | .label _, s, H, Q => Q .normal s H
  | .region _ ops d, s, H, Q => match d with
    | false => opsG P ops.toList ops.toList s H (Q .normal)
    | true => dr ops.toList s H (Q .normal)
  | .seq x y, s, H, Q => codeG P dr H0 x s H fun e s' H' => match e with
    | .normal => codeG P dr H0 y s' H' Q
    | e => Q e s' H'
  | .cond c x y, s, H, Q => match evalA s c with
    | .bool t => (t = true → codeG P dr H0 x s H Q) ∧ (t = false → codeG P dr H0 y s H Q)
    | _ => False
  | .block id x, s, H, Q => codeG P dr H0 x s H fun e s' H' => match e with
    | .exit id' => if id' = id then Q .normal s' H' else Q (.exit id') s' H'
    | e => Q e s' H'
  | .loop x, s, H, Q => ∃ I : Nat → List AV → Heap → Prop, (∃ n s1 H1, Weak H0 s H s1 H1 ∧ I n s1 H1) ∧ ∀ n s H, I n s H → codeG P dr H0 x s H fun e s' H' => match e with
    | .normal => ∃ m s1 H1, m < n ∧ Weak H0 s' H' s1 H1 ∧ I m s1 H1
    | e => Q e s' H'
  | .exit id, s, H, Q => Q (.exit id) s H
  | .ret, s, H, Q => Q .ret s H
  | _, _, _, _ => False

/-- All drawn regions of some code pass a check. -/
def drawsOk (ok : List Oper → Bool) : Code → Bool
  | .region _ ops d => match d with
    | false => true
    | true => ok ops.toList
  | .seq x y => drawsOk ok x && drawsOk ok y
  | .cond _ x y => drawsOk ok x && drawsOk ok y
  | .block _ x => drawsOk ok x
  | .loop x => drawsOk ok x
  | _ => true

/-- What a rule for drawn regions must do. -/
def DrawOk (P : Program) (ok : List Oper → Bool) (dr : List Oper → List AV → Heap → (List AV → Heap → Prop) → Prop) : Prop :=
  ∀ (id : Nat) (ops : List Oper) (m0 : Nat → Option (Option (Nat × Nat))) (H0 : Heap) (w0 : World) (X : Nat → Prop) (s : List AV) (H : Heap) (K : List AV → Heap → Prop) (Q : Exit → Act → World → Prop) (a : Act) (w : World), ok ops = true →
    (∀ b, X b → b < w0.heap.size ∧ ¬ mutOf m0 H0 b) → (∀ r, H0.length ≤ r → m0 r = none) → (∀ s H a w, K s H → Sim m0 H0 w0 X s H a w → Q .normal a w) → Sim m0 H0 w0 X s H a w → dr ops s H K → (Code.region id ops.toArray true).wp P Q a w

theorem codeG_ok {dr : List Oper → List AV → Heap → (List AV → Heap → Prop) → Prop} {ok : List Oper → Bool} (hdr : DrawOk P ok dr) (hX : ∀ b, X b → b < w0.heap.size ∧ ¬ mutOf m0 H0 b) (hm0 : ∀ r, H0.length ≤ r → m0 r = none) : ∀ (c : Code) (s : List AV) (H : Heap) (a : Act) (w : World) (K : Exit → List AV → Heap → Prop) (Q : Exit → Act → World → Prop),
    drawsOk ok c = true → (∀ e s H a w, K e s H → Sim m0 H0 w0 X s H a w → Q e a w) → Sim m0 H0 w0 X s H a w → codeG P dr H0 c s H K → c.wp P Q a w := by
  intro c
  induction c with
  | skip => intro s H a w K Q hd hQ hs h; exact wp_skip (hQ _ _ _ _ _ h hs)
  | label l => intro s H a w K Q hd hQ hs h; exact wp_label (hQ _ _ _ _ _ h hs)
  | exit id => intro s H a w K Q hd hQ hs h; exact wp_exit (hQ _ _ _ _ _ h hs)
  | ret => intro s H a w K Q hd hQ hs h; exact wp_ret (hQ _ _ _ _ _ h hs)
  | region id ops d =>
    intro s H a w K Q hd hQ hs h
    cases d with
    | false =>
      have := opsG_ok (Q := Q) hX ops.toList ops.toList s H a w _ (fun s H a w hk hs => hQ .normal s H a w hk hs) hs h
      exact wp_region_list this
    | true =>
      have := hdr id ops.toList m0 H0 w0 X s H (K .normal) Q a w hd hX hm0 (fun s H a w hk hs => hQ .normal s H a w hk hs) hs h
      simpa using this
  | seq x y ihx ihy =>
    intro s H a w K Q hd hQ hs h
    simp only [drawsOk, Bool.and_eq_true] at hd
    refine wp_seq (ihx s H a w _ _ hd.1 (fun e s' H' a' w' hk hs' => ?_) hs h)
    cases e with
    | normal => exact ihy s' H' a' w' K Q hd.2 hQ hs' hk
    | _ => exact hQ _ _ _ _ _ hk hs'
  | cond c x y ihx ihy =>
    intro s H a w K Q hd hQ hs h
    simp only [drawsOk, Bool.and_eq_true] at hd
    unfold codeG at h
    split at h
    · rename_i t ht
      have hv : a.eval c = .bool t := by
        obtain ⟨map, h1, _⟩ := hs
        have := rel_eval h1 c
        rw [ht] at this
        generalize a.eval c = v at this
        cases this; rfl
      exact wp_cond_split hv (fun e => ihx s H a w K Q hd.1 hQ hs (h.1 e)) (fun e => ihy s H a w K Q hd.2 hQ hs (h.2 e))
    · exact h.elim
  | block id x ih =>
    intro s H a w K Q hd hQ hs h
    refine wp_block (ih s H a w _ _ hd (fun e s' H' a' w' hk hs' => ?_) hs h)
    cases e with
    | exit id' =>
      simp only [Exit.inBlock] at hk ⊢
      split
      · rename_i e; rw [if_pos e] at hk; exact hQ _ _ _ _ _ hk hs'
      · rename_i e; rw [if_neg e] at hk; exact hQ _ _ _ _ _ hk hs'
    | _ => exact hQ _ _ _ _ _ hk hs'
  | loop x ih =>
    intro s H a w K Q hd hQ hs h
    obtain ⟨I, ⟨n, s1, H1, hw1, hI⟩, hround⟩ := h
    have hs1 := hw1 m0 w0 X a w hX hm0 hs
    intro b k cs
    have key : ∀ n s H a w, I n s H → Sim m0 H0 w0 X s H a w →
        ∃ e a' w', Q e a' w' ∧ Arrives P (lone (b.at a (.code x :: .inLoop x :: k)) cs w) b k cs e a' w' := by
      intro n
      induction n using Nat.strongRecOn with
      | _ n ihn =>
        intro s H a w hI hs
        have hx := ih s H a w _ (fun e a w => match e with | .normal => ∃ m s H, m < n ∧ I m s H ∧ Sim m0 H0 w0 X s H a w | e => Q e a w) hd (fun e s' H' a' w' hk hs' => by
          cases e with
          | normal =>
            obtain ⟨m, s2, H2, hlt, hw2, hI2⟩ := hk
            exact ⟨m, s2, H2, hlt, hI2, hw2 m0 w0 X a' w' hX hm0 hs'⟩
          | _ => exact hQ _ _ _ _ _ hk hs') hs (hround n s H hI)
        obtain ⟨e, a₁, w₁, hq, harr⟩ := hx b (.inLoop x :: k) cs
        cases e with
        | normal =>
          obtain ⟨m, s2, H2, hlt, hI2, hs2⟩ := hq
          obtain ⟨e₂, a₂, w₂, hq₂, harr₂⟩ := ihn m hlt s2 H2 a₁ w₁ hI2 hs2
          exact ⟨e₂, a₂, w₂, hq₂, .of_steps (Steps.trans harr (.one step_inLoop)) harr₂⟩
        | exit id => exact ⟨_, a₁, w₁, hq, .pass (x := .inLoop x) rfl (fun _ _ => .inl (by simp)) harr⟩
        | goto l => exact ⟨_, a₁, w₁, hq, .pass (x := .inLoop x) rfl (fun _ _ => .inl (by simp)) harr⟩
        | ret => exact ⟨_, a₁, w₁, hq, .pass (x := .inLoop x) rfl (fun _ _ => .inl (by simp)) harr⟩
        | panic ch => exact ⟨_, a₁, w₁, hq, .pass (x := .inLoop x) rfl (fun _ _ => .inl (by simp)) harr⟩
        | outgrown => exact ⟨_, a₁, w₁, hq, .pass (x := .inLoop x) rfl (fun _ _ => .inl (by simp)) harr⟩
    obtain ⟨e, a', w', hq, harr⟩ := key n s1 H1 a w hI hs1
    exact ⟨e, a', w', hq, .of_steps (.one step_loop) harr⟩
  | rangeFunc f p x y _ _ => intro s H a w K Q hd hQ hs h; exact h.elim
  | scope x _ => intro s H a w K Q hd hQ hs h; exact h.elim
  | goto l => intro s H a w K Q hd hQ hs h; exact h.elim
  | refuse y => intro s H a w K Q hd hQ hs h; exact h.elim
end
end Go.Awp
