/- One operation of any kind: its goal, and that the machine does it.
Conditions: none. -/
import Derived.Test.YtbjfkhjckfodbaaCal2
namespace Go.Awp
set_option linter.all false
open Go

def pickG (c a b : AV) (K : AV → Prop) : Prop :=
  match c with
  | .bool t => (t = true → K a) ∧ (t = false → K b)
  | _ => False

def nilG (x : AV) (K : AV → Prop) : Prop :=
  match x with
  | .ptr r off => K (.ptr r off)
  | .vptr n c => K (.vptr n c)
  | .clo f a b => K (.clo f a b)
  | _ => False

def mxI (k : IntKind) (x y : Int) : AV := .int k (if y > x then y else x)
def mnI (k : IntKind) (x y : Int) : AV := .int k (if y < x then y else x)

/-- The greater and the lesser of two numbers; of zeros the one with or without a sign. -/
def fmax (k : FloatKind) (x y : Nat) : Nat :=
  match ford k x y with
  | none => qnan k
  | some .lt => y
  | some .gt => x
  | some .eq => if (k.decode x).neg then y else x
def fmin (k : FloatKind) (x y : Nat) : Nat :=
  match ford k x y with
  | none => qnan k
  | some .lt => x
  | some .gt => y
  | some .eq => if (k.decode x).neg then x else y

def mxG (mx : Bool) (a b : AV) (K : AV → Prop) : Prop :=
  match a, b with
  | .int k x, .int _ y => K (if mx then mxI k x y else mnI k x y)
  | .flt k x, .flt k' y => k = k' ∧ K (.flt k (if mx then fmax k x y else fmin k x y))
  | _, _ => False

def builtinG (P : Program) (b : Builtin) (ts : Array TypeId) (args : List AV) (H : Heap) (K : AV → Heap → Prop) : Prop :=
  match b with
  | .len => (match args, ts.toList with
    | [x], [t] => lenG P t x (K · H)
    | _, _ => False)
  | .append => (match args, ts.toList with
    | [s, x], [t, t'] => t' = t ∧ appendG P t s x H K
    | _, _ => False)
  | .max => (match args with
    | [a, b] => mxG true a b (K · H)
    | _ => False)
  | .min => (match args with
    | [a, b] => mxG false a b (K · H)
    | _ => False)
  | .clear => (match args, ts.toList with
    | [x], [t] => clearG P t x H K
    | _, _ => False)
  | _ => False

def callOpG (P : Program) (c : Call) (ρ : Operand → AV) (H : Heap) (K : AV → Heap → Prop) : Prop :=
  match c.callee with
  | .builtin b => builtinG P b c.argTypes (c.args.toList.map ρ) H K
  | .value f =>
    match ρ f with
    | .clo g first caps => callG P g (first ++ c.args.toList.map ρ ++ caps) H K
    | _ => False
  | _ => False

def opG (P : Program) (o : Op) (ρ : Operand → AV) (H : Heap) (K : AV → Heap → Prop) : Prop :=
  match o with
  | .move x => K (ρ x) H
  | .assign x => K (ρ x) H
  | .pick c a b => pickG (ρ c) (ρ a) (ρ b) (K · H)
  | .alloc e => allocG P e H K
  | .box e x => boxG e (ρ x) H K
  | .build t ps => buildG P t (partsA ρ ps) (K · H)
  | .buildSlice t len ps => buildSliceG P t len (partsA ρ ps) H K
  | .load t a => loadG P t (ρ a) H (K · H)
  | .store t a x => storeG P t (ρ a) (ρ x) H K
  | .nilCheck x => nilG (ρ x) (K · H)
  | .binOp op t x y _ => binX P op t (isNilC y) (ρ x) (ρ y) (K · H)
  | .unOp op _ x => unG op (ρ x) (K · H)
  | .convert s d x => cvtX P s d (ρ x) H (K · H)
  | .makeSlice t l c => makeSliceG P t (ρ l) (ρ c) H K
  | .slice t x lo hi none => sliceG P t (ρ x) (lo.map ρ) (hi.map ρ) (K · H)
  | .fieldAddr s x f => fieldAddrG P s (ρ x) f (K · H)
  | .field t x f => fieldG P t (ρ x) f (K · H)
  | .indexAddr t x i => indexAddrG P t (ρ x) (ρ i) (K · H)
  | .index t x i => indexG P t (ρ x) (ρ i) (K · H)
  | .extract x i => extractG (ρ x) i (K · H)
  | .makeFunc (.func f) first caps => K (.clo f (first.toList.map ρ) (caps.toList.map ρ)) H
  | .call c => callOpG P c ρ H K
  | .makeMap t none => makeMapG P t H K
  | .lookup t m x ok => lookupG P t (ρ m) (ρ x) ok H (K · H)
  | .mapUpdate t m x v => mapUpdateG P t (ρ m) (ρ x) (ρ v) H K
  | .mapEntry t m x => mapEntryG P t (ρ m) (ρ x) H K
  | .entryStore _ m s v => entryStoreG (ρ m) (ρ s) (ρ v) H K
  | _ => False

section
variable {P : Program} {w : World} {map : Nat → Option (Option (Nat × Nat))} {H : Heap} {X : Nat → Prop} {B : Nat}

theorem binG_guard {op : BinOp} {t : TypeId} {a b : AV} {E : Env} {x y : Value} {xo yo : Operand} {K : AV → Prop} (hx : VRel w E a x) (hy : VRel w E b y) (h : binG P op t a b K) : (eqGuard op t xo yo x y).run P w = .ok () w := by
  unfold binG at h
  split at h <;> first | exact h.elim | (cases hx; exact run_eqGuard rfl (by intro e; cases e)) | skip
  cases hx with
  | agg _ vs h1 h2 h3 =>
    cases hy with
    | agg _ vs' h1' h2' h3' =>
      unfold binA at h
      split at h
      · exact run_eqGuard_agg w op t xo yo vs vs' h.1.1
      · exact h.elim
theorem ifcG_guard {op : BinOp} {t : TypeId} {a b : AV} {E : Env} {x y : Value} {xo yo : Operand} {K : AV → Prop} (hc : isNilC yo = true) (hx : VRel w E a x) (h : ifcG P op t a b K) : (eqGuard op t xo yo x y).run P w = .ok () w := by
  unfold isNilC at hc
  split at hc
  · unfold ifcG at h
    split at h
    · rename_i z
      cases hx with
      | ifc _ _ hz =>
        cases z with
        | true =>
          have hz : x = .nilIface := hz
          subst hz
          cases op <;> cases y <;> simp [eqGuard]
        | false =>
          obtain ⟨ti, p, rfl⟩ := hz
          cases op <;> simp [eqGuard]
    · exact h.elim
  · cases hc

theorem mxF_ok {mx : Bool} {k : FloatKind} {r r' : Nat} {K : AV → Prop} {E : Env} (hl : r < 2 ^ k.format.width) (hl' : r' < 2 ^ k.format.width) (h : K (.flt k (if mx then fmax k (cn k r) (cn k r') else fmin k (cn k r) (cn k r')))) :
    PureOk P w E (if mx then Builtin.max2 (.float k r) (.float k r') else Builtin.min2 (.float k r) (.float k r')) K := by
  by_cases hn : ford k r r' = none
  · have hq : ford k (cn k r) (cn k r') = none := by rw [ford_cn]; exact hn
    have hn' : k.format.order r r' = none := hn
    cases mx
    · refine ⟨.float k (Question.cut (.nanMinMax k false r r') (w.tape w.drawn (.nanMinMax k false r r'))), 1, .flt k (qnan k), ?_, .flt _ _ _ (cn_nan ?_) ?_, ?_⟩
      · simp [Builtin.min2, hn', Question.forced, World.drewN]
      · have : Question.cut (.nanMinMax k false r r') (w.tape w.drawn (.nanMinMax k false r r')) = (w.tape w.drawn (.nanMinMax k false r r') % 2) * 2 ^ (k.format.exponentBits + k.format.fractionBits) + k.format.infRung + 1 + (w.tape w.drawn (.nanMinMax k false r r') / 2) % (2 ^ k.format.fractionBits - 1) := by cases k <;> rfl
        rw [this]; exact nan_pat k _
      · have : Question.cut (.nanMinMax k false r r') (w.tape w.drawn (.nanMinMax k false r r')) = (w.tape w.drawn (.nanMinMax k false r r') % 2) * 2 ^ (k.format.exponentBits + k.format.fractionBits) + k.format.infRung + 1 + (w.tape w.drawn (.nanMinMax k false r r') / 2) % (2 ^ k.format.fractionBits - 1) := by cases k <;> rfl
        rw [this]; exact nan_pat_lt k _
      · simpa [fmin, hq] using h
    · refine ⟨.float k (Question.cut (.nanMinMax k true r r') (w.tape w.drawn (.nanMinMax k true r r'))), 1, .flt k (qnan k), ?_, .flt _ _ _ (cn_nan ?_) ?_, ?_⟩
      · simp [Builtin.max2, hn', Question.forced, World.drewN]
      · have : Question.cut (.nanMinMax k true r r') (w.tape w.drawn (.nanMinMax k true r r')) = (w.tape w.drawn (.nanMinMax k true r r') % 2) * 2 ^ (k.format.exponentBits + k.format.fractionBits) + k.format.infRung + 1 + (w.tape w.drawn (.nanMinMax k true r r') / 2) % (2 ^ k.format.fractionBits - 1) := by cases k <;> rfl
        rw [this]; exact nan_pat k _
      · have : Question.cut (.nanMinMax k true r r') (w.tape w.drawn (.nanMinMax k true r r')) = (w.tape w.drawn (.nanMinMax k true r r') % 2) * 2 ^ (k.format.exponentBits + k.format.fractionBits) + k.format.infRung + 1 + (w.tape w.drawn (.nanMinMax k true r r') / 2) % (2 ^ k.format.fractionBits - 1) := by cases k <;> rfl
        rw [this]; exact nan_pat_lt k _
      · simpa [fmax, hq] using h
  · have n1 : nanB k r = false := by
      cases hb : nanB k r with
      | false => rfl
      | true => exact absurd (ford_nan_l hb) hn
    have n2 : nanB k r' = false := by
      cases hb : nanB k r' with
      | false => rfl
      | true => exact absurd (ford_nan_r hb) hn
    rw [cn_num n1, cn_num n2] at h
    cases ho : ford k r r' with
    | none => exact absurd ho hn
    | some ord =>
      have ho' : k.format.order r r' = some ord := ho
      cases mx
      · cases ord with
        | lt => exact .of (v := .float k r) (by simp [Builtin.min2, ho']) (.flt _ _ _ (cn_num n1) hl) (by simpa [fmin, ho] using h)
        | gt => exact .of (v := .float k r') (by simp [Builtin.min2, ho']) (.flt _ _ _ (cn_num n2) hl') (by simpa [fmin, ho] using h)
        | eq =>
          by_cases hs : (k.decode r).neg = true
          · exact .of (v := .float k r) (by simp [Builtin.min2, ho', hs]) (.flt _ _ _ (cn_num n1) hl) (by simpa [fmin, ho, hs] using h)
          · exact .of (v := .float k r') (by simp [Builtin.min2, ho', hs]) (.flt _ _ _ (cn_num n2) hl') (by simpa [fmin, ho, hs] using h)
      · cases ord with
        | lt => exact .of (v := .float k r') (by simp [Builtin.max2, ho']) (.flt _ _ _ (cn_num n2) hl') (by simpa [fmax, ho] using h)
        | gt => exact .of (v := .float k r) (by simp [Builtin.max2, ho']) (.flt _ _ _ (cn_num n1) hl) (by simpa [fmax, ho] using h)
        | eq =>
          by_cases hs : (k.decode r).neg = true
          · exact .of (v := .float k r') (by simp [Builtin.max2, ho', hs]) (.flt _ _ _ (cn_num n2) hl') (by simpa [fmax, ho, hs] using h)
          · exact .of (v := .float k r) (by simp [Builtin.max2, ho', hs]) (.flt _ _ _ (cn_num n1) hl) (by simpa [fmax, ho, hs] using h)

theorem mxG_ok {mx : Bool} {a b : AV} {x y : Value} {K : AV → Prop} {E : Env} (hx : VRel w E a x) (hy : VRel w E b y) (h : mxG mx a b K) :
    PureOk P w E (if mx then Builtin.max2 x y else Builtin.min2 x y) K := by
  unfold mxG at h
  split at h
  · cases hx; cases hy
    cases mx
    · exact .of (v := .int _ _) (by simp only [Builtin.min2]; rfl) (.int _ _) h
    · exact .of (v := .int _ _) (by simp only [Builtin.max2]; rfl) (.int _ _) h
  · obtain ⟨e, h⟩ := h
    subst e
    cases hx with
    | flt _ _ r hr hl =>
      cases hy with
      | flt _ _ r' hr' hl' =>
        subst hr; subst hr'
        exact mxF_ok hl hl' h
  · exact h.elim

theorem good_of_pure {o : Oper} {ρ : Operand → Value} {s : Sem Value} {K : AV → Heap → Prop} (hW : WRel w (env map H X B) H) (he : execOp ρ o = (do pure (.value (← s)))) (h : PureOk P w (env map H X B) s (K · H)) :
    OpRun P o ρ w (Good map H X B w K) :=
  PureOk.good hW h fun v n hr => by rw [he]; simp only [Sem.run_bind, hr, Result.andThen_ok, Sem.run_pure]

theorem opG_ok {o : Oper} {ρA : Operand → AV} {ρ : Operand → Value} {K : AV → Heap → Prop} (hfree : ∀ av H', K av H' → ∀ r, H.length ≤ r → r < H'.length → map r = none) (hX : ∀ b, X b → b < w.heap.size ∧ ¬ mutOf map H b)
    (hW : WRel w (env map H X B) H) (hB : B ≤ w.heap.size) (hρ : ∀ x, VRel w (env map H X B) (ρA x) (ρ x)) (h : opG P o.op ρA H K) : OpRun P o ρ w (Good map H X B w K) := by
  obtain ⟨dst, op, ty, pos, after, guard⟩ := o
  have parts : ∀ (ps : Array (Nat × Operand)), (partsA ρA ps).length = (ps.map fun (i, x) => (i, ρ x)).size ∧
      ∀ (i : Nat) p v, (partsA ρA ps)[i]? = some p → (ps.map fun (i, x) => (i, ρ x))[i]? = some v → p.1 = v.1 ∧ VRel w (env map H X B) p.2 v.2 := by
    intro ps
    refine ⟨by simp [partsA], fun i p v hp hv => ?_⟩
    simp only [partsA, List.getElem?_map, Array.getElem?_map, Array.getElem?_toList] at hp hv
    cases hi : ps[i]? with
    | none => simp [hi] at hp
    | some q => simp [hi] at hp hv; subst hp; subst hv; exact ⟨rfl, hρ _⟩
  have rel_args : ∀ (args : Array Operand), RelL w (env map H X B) (args.toList.map ρA) (args.map ρ) := by
    intro args
    refine ⟨by simp, fun i a v ha hv => ?_⟩
    simp only [List.getElem?_map, Array.getElem?_map, Array.getElem?_toList] at ha hv
    cases hi : args[i]? with
    | none => simp [hi] at ha
    | some x => simp [hi] at ha hv; subst ha; subst hv; exact hρ x
  have brel : ∀ (x : Option Operand), BRel w (env map H X B) (x.map ρA) (x.map ρ) := by
    intro x
    cases x with
    | none => trivial
    | some x => exact hρ x
  simp only at h
  unfold opG at h
  split at h
  · exact .value (v := ρ _) (w' := w) rfl (good_same hW (hρ _) h)
  · exact .value (v := ρ _) (w' := w) rfl (good_same hW (hρ _) h)
  · rename_i c a b
    unfold pickG at h
    split at h
    · rename_i t hc
      have hb := hρ c
      rw [hc] at hb
      cases hv : ρ c with
      | bool b' =>
        rw [hv] at hb
        cases hb
        cases t with
        | true => exact .value (v := ρ a) (w' := w) (by simp [execOp, hv, asBool]) (good_same hW (hρ a) (h.1 rfl))
        | false => exact .value (v := ρ b) (w' := w) (by simp [execOp, hv, asBool]) (good_same hW (hρ b) (h.2 rfl))
      | _ => rw [hv] at hb; cases hb
    · exact h.elim
  · exact allocG_ok hfree hW hB rfl h
  · exact boxG_ok hfree (hρ _) hW hB rfl h
  · rename_i t ps
    exact good_of_pure hW rfl (buildG_ok (parts ps).1 (parts ps).2 h)
  · rename_i t len ps
    exact buildSliceG_ok hfree hX hW hB (parts ps).1 (parts ps).2 rfl h
  · exact good_of_pure hW rfl (loadG_ok (hρ _) hW h)
  · exact storeG_ok (hρ _) (hρ _) hW rfl h
  · rename_i x
    unfold nilG at h
    split at h
    all_goals first | exact h.elim | skip
    all_goals
      rename_i hx
      have hv := hρ x
      rw [hx] at hv
      refine .value (v := ρ x) (w' := w) ?_ (good_same hW hv h)
      simp only [execOp]
      generalize ρ x = vx at hv
      cases hv <;> rfl
  · rename_i op t x y yt
    refine good_of_pure hW rfl ?_
    unfold binX at h
    split at h
    · rename_i hc
      obtain ⟨v, n, av, r1, r2, r3⟩ := ifcG_ok (hρ x) (hρ y) h
      exact ⟨v, n, av, by simp only [Sem.run_bind, ifcG_guard hc (hρ x) h, Result.andThen_ok, r1], r2, r3⟩
    · obtain ⟨v, n, av, r1, r2, r3⟩ := binG_ok (hρ x) (hρ y) h
      exact ⟨v, n, av, by simp only [Sem.run_bind, binG_guard (hρ x) (hρ y) h, Result.andThen_ok, r1], r2, r3⟩
  · exact good_of_pure hW rfl (unG_ok (hρ _) h)
  · exact good_of_pure hW rfl (cvtX_ok (hρ _) hW h)
  · exact makeSliceG_ok hfree (hρ _) (hρ _) hW hB rfl h
  · exact good_of_pure hW rfl (sliceG_ok (hρ _) (brel _) (brel _) h)
  · exact good_of_pure hW rfl (fieldAddrG_ok (hρ _) h)
  · exact good_of_pure hW rfl (fieldG_ok (hρ _) h)
  · exact good_of_pure hW rfl (indexAddrG_ok (hρ _) (hρ _) h)
  · exact good_of_pure hW rfl (indexG_ok (hρ _) (hρ _) h)
  · exact good_of_pure hW rfl (extractG_ok (hρ _) h)
  · rename_i f first caps
    refine .value (v := .func (.func f) (first.map ρ) (caps.map ρ)) (w' := w) ?_ (good_same hW (.clo _ _ _ _ _ (rel_args first).1 (rel_args caps).1 (rel_args first).2 (rel_args caps).2) h)
    simp [execOp, Instr.makeFunc]
  · rename_i c
    obtain ⟨callee, args, ats⟩ := c
    unfold callOpG at h
    cases callee with
    | invoke r m => exact h.elim
    | value fo =>
      simp only at h
      split at h
      · rename_i g first caps hf
        have hv := hρ fo
        rw [hf] at hv
        cases hfo : ρ fo with
        | func fn vf vc =>
          rw [hfo] at hv
          cases hv with
          | clo _ _ _ _ _ h1 h2 h3 h4 =>
            have hrel : RelL w (env map H X B) (first ++ args.toList.map ρA ++ caps) (vf ++ args.map ρ ++ vc) := by
              have ha := rel_args args
              refine ⟨by simp [h1, h2], fun i a v hi hv => ?_⟩
              rw [List.getElem?_append] at hi
              rw [Array.getElem?_append] at hv
              have l1 : (first ++ args.toList.map ρA).length = (vf ++ args.map ρ).size := by simp [h1]
              rw [l1] at hi
              split at hi
              · rename_i c1
                rw [if_pos c1] at hv
                rw [List.getElem?_append, h1] at hi
                rw [Array.getElem?_append] at hv
                split at hi
                · rw [if_pos ‹_›] at hv; exact h3 i a v hi hv
                · rw [if_neg ‹_›] at hv; exact ha.2 _ a v hi hv
              · rename_i c1
                rw [if_neg c1] at hv
                exact h4 _ a v hi hv
            have hd := callG_ok hfree hX hW hB hrel h
            intro a next Q hn
            have he : execOp ρ { dst, op := .call { callee := .value fo, args, argTypes := ats }, type := ty, pos, after, guard } = callFunc g (vf ++ args.map ρ ++ vc) := by
              simp [execOp, resolve, hfo, Deferred.ofValue, invoke]
            rw [he]
            exact hd { dst, op := .call { callee := .value fo, args, argTypes := ats }, type := ty, pos, after, guard } a next Q hn
        | _ => rw [hfo] at hv; cases hv
      · exact h.elim
    | builtin b =>
      simp only at h
      unfold builtinG at h
      split at h
      · split at h
        · rename_i x t hargs hts
          obtain ⟨args⟩ := args
          obtain ⟨ats⟩ := ats
          match args, hargs with
          | [xo], hargs =>
            simp at hargs hts
            subst hargs; subst hts
            exact good_of_pure hW (by simp [execOp, resolve, invoke, builtin]; rfl) (lenG_ok (hρ xo) h)
        · exact h.elim
      · split at h
        · rename_i s x t t' hargs hts
          obtain ⟨args⟩ := args
          obtain ⟨ats⟩ := ats
          obtain ⟨rfl, h⟩ := h
          match args, hargs with
          | [so, xo], hargs =>
            simp at hargs hts
            obtain ⟨rfl, rfl⟩ := hargs
            subst hts
            exact appendG_ok hfree (hρ so) (hρ xo) hW hB (by simp [execOp, resolve, invoke, builtin]; rfl) h
        · exact h.elim
      · split at h
        · rename_i a b hargs
          obtain ⟨args⟩ := args
          match args, hargs with
          | [ao, bo], hargs =>
            simp at hargs
            obtain ⟨rfl, rfl⟩ := hargs
            exact good_of_pure (s := Builtin.max2 (ρ ao) (ρ bo)) hW (by simp [execOp, resolve, invoke, builtin, Builtin.max_]) (mxG_ok (mx := true) (hρ ao) (hρ bo) h)
        · exact h.elim
      · split at h
        · rename_i a b hargs
          obtain ⟨args⟩ := args
          match args, hargs with
          | [ao, bo], hargs =>
            simp at hargs
            obtain ⟨rfl, rfl⟩ := hargs
            exact good_of_pure (s := Builtin.min2 (ρ ao) (ρ bo)) hW (by simp [execOp, resolve, invoke, builtin, Builtin.min_]) (mxG_ok (mx := false) (hρ ao) (hρ bo) h)
        · exact h.elim
      · split at h
        · rename_i x t hargs hts
          obtain ⟨args⟩ := args
          obtain ⟨ats⟩ := ats
          match args, hargs with
          | [xo], hargs =>
            simp at hargs hts
            subst hargs; subst hts
            exact clearG_ok (hρ xo) hW (by simp [execOp, resolve, invoke, builtin]; rfl) h
        · exact h.elim
      · exact h.elim
  · exact makeMapG_ok hfree hW hB rfl h
  · exact good_of_pure hW rfl (lookupG_ok hW (hρ _) (hρ _) h)
  · exact mapUpdateG_ok (hρ _) (hρ _) (hρ _) hW rfl h
  · exact mapEntryG_ok (hρ _) (hρ _) hW rfl h
  · exact entryStoreG_ok (hρ _) (hρ _) (hρ _) hW rfl h
  · exact h.elim
end
end Go.Awp
