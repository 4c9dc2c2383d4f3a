/- One operation, on abstract values: the goal that it leaves, and that the machine does it.
Conditions: none. -/
import Derived.Test.YtbjfkhjckfodbaaMap
import Derived.Orders
namespace Go.Awp
set_option linter.all false
open Go

/-- A call of a function: what the callee is asked, what the continuation gets. -/
def Does (P : Program) (f : FuncId) (vs : Array Value) (w : World) (R : Value → World → Prop) : Prop :=
  ∀ (o : Oper) (a : Act) (next : Act → World → Prop) (Q : Exit → Act → World → Prop), (∀ v w', R v w' → next (a.put o.dst v) w') → o.upon P a next Q ((callFunc f vs).run P w)

theorem Does.mono {P : Program} {f : FuncId} {vs : Array Value} {w : World} {R R' : Value → World → Prop} (h : Does P f vs w R) (hr : ∀ v w', R v w' → R' v w') : Does P f vs w R' :=
  fun o a next Q hn => h o a next Q fun v w' hv => hn v w' (hr v w' hv)

/-- Memory that the call made, or none. -/
inductive AllNew : AV → Prop
  | any : AllNew .any
  | int (k : IntKind) (n : Int) : AllNew (.int k n)
  | bool (b : Bool) : AllNew (.bool b)
  | flt (k : FloatKind) (x : Nat) : AllNew (.flt k x)
  | str (s : ByteArray) : AllNew (.str s)
  | ifc (z : Bool) : AllNew (.ifc z)
  | agg (l : List AV) (h : ∀ a ∈ l, AllNew a) : AllNew (.agg l)
  | tup (l : List AV) (h : ∀ a ∈ l, AllNew a) : AllNew (.tup l)
  | nilp : AllNew .nilp
  | ptr (r off : Nat) : AllNew (.ptr r off)
  | nils : AllNew .nils
  | slc (r off n q : Nat) : AllNew (.slc r off n q)
  | view (cells : List AV) (n : Nat) (h : ∀ a ∈ cells, AllNew a) : AllNew (.view true cells n)
  | view0 (new : Bool) (cells : List AV) : AllNew (.view new cells 0)
  | vptr (cells : List AV) (h : ∀ a ∈ cells, AllNew a) : AllNew (.vptr true cells)
  | nilf : AllNew .nilf
  | clo0 (f : FuncId) : AllNew (.clo f [] [])
  | mp (r : Nat) : AllNew (.mp r)
  | mview (e : Nat) (ks : List (List Int)) (vs : List AV) (h : ∀ a ∈ vs, AllNew a) : AllNew (.mview true e ks vs)

def AV.flat : AV → Bool
  | .int .. | .bool _ | .flt .. | .str _ | .ifc _ | .nilp | .nils | .nilf | .any => true
  | _ => false
theorem AllNew.of_flat {a : AV} (h : a.flat = true) : AllNew a := by
  cases a <;> first | (cases h; done) | constructor
theorem allNew_flat {l : List AV} (h : l.all AV.flat = true) : ∀ a ∈ l, AllNew a := fun a ha => .of_flat (List.all_eq_true.1 h a ha)
theorem pure_of_flat {a : AV} (h : a.flat = true) : a.isPure = true := by
  cases a <;> first | (cases h; done) | rfl
theorem pure_flat {l : List AV} (h : l.all AV.flat = true) : l.all AV.isPure = true := by
  rw [List.all_eq_true] at h ⊢
  exact fun a ha => pure_of_flat (h a ha)

section
variable {P : Program} {w : World}

/-- New memory lies behind all that was there. -/
theorem VRel.fresh {E E' : Env} {a : AV} {v : Value} (hn : AllNew a) (h : VRel w E a v) (hmap : E'.map = E.map) (hbase : E'.base = E.base) (hl : ∀ b, E'.live b → E.live b ∨ b < E.base) : VRel w E' a v := by
  induction h generalizing E' with
  | any v => exact .any v
  | int k n => exact .int k n
  | bool b => exact .bool b
  | flt k x r h hr => exact .flt k x r h hr
  | str s => exact .str s
  | ifc z v h => exact .ifc z v h
  | agg l vs h1 h2 h3 ih =>
    cases hn with
    | agg _ hn => exact .agg l vs h1 h2 fun i a v ha hv => ih i a v ha hv (hn a (List.mem_of_getElem? ha)) hmap hbase hl
  | tup l vs h1 h3 ih =>
    cases hn with
    | tup _ hn => exact .tup l vs h1 fun i a v ha hv => ih i a v ha hv (hn a (List.mem_of_getElem? ha)) hmap hbase hl
  | nilp => exact .nilp
  | ptr r off b N h => exact .ptr r off b N (by rw [hmap]; exact h)
  | nils => exact .nils
  | slc r off n q b N cap h hc hm hN => exact .slc r off n q b N cap (by rw [hmap]; exact h) hc hm hN
  | slcv r q h => exact .slcv r q (by rw [hmap]; exact h)
  | view0 new cells A cap hm => exact .view0 new cells A cap hm
  | view new cells n b off cap hn' hm hlt hb hmut u hc ho hr ih =>
    cases hn with
    | view0 => exact .view0 _ _ _ _ hm
    | view _ _ hn =>
      exact .view _ _ _ _ _ _ hn' hm hlt (fun e => by rw [hbase]; exact hb e) (fun e => (hl _ e).elim hmut (fun e' => absurd (hb rfl) (Nat.not_le.2 e'))) u hc ho
        fun j a ha => ih j a ha (hn a (List.mem_of_getElem? ha)) rfl hbase hl
  | vptr new cells b off hlt hb hmut u hc ho hr ih =>
    cases hn with
    | vptr _ hn =>
      exact .vptr _ _ _ _ hlt (fun e => by rw [hbase]; exact hb e) (fun e => (hl _ e).elim hmut (fun e' => absurd (hb rfl) (Nat.not_le.2 e'))) u hc ho
        fun j a ha => ih j a ha (hn a (List.mem_of_getElem? ha)) rfl hbase hl
  | clo f first caps vf vc h1 h2 h3 h4 ih3 ih4 =>
    cases hn with
    | clo0 => exact .clo f [] [] vf vc h1 h2 (fun i a v h => by simp at h) (fun i a v h => by simp at h)
  | nilf => exact .nilf
  | mp r b h => exact .mp r b (by rw [hmap]; exact h)
  | mview new e ks vs b us hlt hb hmut hh h1 h2 hk hr ih =>
    cases hn with
    | mview _ _ _ hn =>
      exact .mview _ _ _ _ _ us hlt (fun e => by rw [hbase]; exact hb e) (fun e => (hl _ e).elim hmut (fun e' => absurd (hb rfl) (Nat.not_le.2 e'))) hh h1 h2 hk
        fun j a u ha hu => ih j a u ha hu (hn a (List.mem_of_getElem? ha)) rfl hbase hl

/-- New names for roots. -/
def AV.ren (f : Nat → Nat) : AV → AV
  | .agg l => .agg (l.map (AV.ren f))
  | .tup l => .tup (l.map (AV.ren f))
  | .ptr r off => .ptr (f r) off
  | .slc r off n q => .slc (f r) off n q
  | .clo g a b => .clo g (a.map (AV.ren f)) (b.map (AV.ren f))
  | .mp r => .mp (f r)
  | a => a

theorem VRel.renamed {E E' : Env} {a : AV} {v : Value} {f : Nat → Nat} (h : VRel w E a v) (hmap : ∀ r x, E.map r = some x → E'.map (f r) = some x) (hbase : E'.base ≤ E.base) (hl : ∀ b, b < w.heap.size → E'.live b → E.live b) : VRel w E' (a.ren f) v := by
  have hp : Later E.pure w E'.pure w := ⟨fun r x h => (by cases h), hbase, hl, Nat.le_refl _, fun _ _ _ => rfl⟩
  induction h with
  | any v => simp only [AV.ren]; exact .any v
  | int k n => simp only [AV.ren]; exact .int k n
  | bool b => simp only [AV.ren]; exact .bool b
  | flt k x r h hr => simp only [AV.ren]; exact .flt k x r h hr
  | str s => simp only [AV.ren]; exact .str s
  | ifc z v h => simp only [AV.ren]; exact .ifc z v h
  | agg l vs h1 h2 h3 ih =>
    simp only [AV.ren]
    refine .agg _ vs (by simpa using h1) h2 fun i a v ha hv => ?_
    rw [List.getElem?_map] at ha
    cases hl2 : l[i]? with
    | none => simp [hl2] at ha
    | some a' => simp [hl2] at ha; subst ha; exact ih i a' v hl2 hv hmap hbase hl hp
  | tup l vs h1 h3 ih =>
    simp only [AV.ren]
    refine .tup _ vs (by simpa using h1) fun i a v ha hv => ?_
    rw [List.getElem?_map] at ha
    cases hl2 : l[i]? with
    | none => simp [hl2] at ha
    | some a' => simp [hl2] at ha; subst ha; exact ih i a' v hl2 hv hmap hbase hl hp
  | nilp => simp only [AV.ren]; exact .nilp
  | ptr r off b N h => simp only [AV.ren]; exact .ptr _ off b N (hmap r _ h)
  | nils => simp only [AV.ren]; exact .nils
  | slc r off n q b N cap h hn hm hN => simp only [AV.ren]; exact .slc _ off n q b N cap (hmap r _ h) hn hm hN
  | slcv r q h => simp only [AV.ren]; exact .slcv _ q (hmap r _ h)
  | view0 new cells A cap hm => simp only [AV.ren]; exact .view0 new cells A cap hm
  | view new cells n b off cap hn hm hlt hb hmut u hc ho hr ih =>
    simp only [AV.ren]
    exact .view new cells n b off cap hn hm hlt (fun e => Nat.le_trans hbase (hb e)) (fun e => hmut (hl b hlt e)) u hc ho fun j a ha => (hr j a ha).later hp
  | vptr new cells b off hlt hb hmut u hc ho hr ih =>
    simp only [AV.ren]
    exact .vptr new cells b off hlt (fun e => Nat.le_trans hbase (hb e)) (fun e => hmut (hl b hlt e)) u hc ho fun j a ha => (hr j a ha).later hp
  | clo g first caps vf vc h1 h2 h3 h4 ih3 ih4 =>
    simp only [AV.ren]
    refine .clo _ _ _ vf vc (by simpa using h1) (by simpa using h2) (fun i a v ha hv => ?_) (fun i a v ha hv => ?_)
    · rw [List.getElem?_map] at ha
      cases hl2 : first[i]? with
      | none => simp [hl2] at ha
      | some a' => simp [hl2] at ha; subst ha; exact ih3 i a' v hl2 hv hmap hbase hl hp
    · rw [List.getElem?_map] at ha
      cases hl2 : caps[i]? with
      | none => simp [hl2] at ha
      | some a' => simp [hl2] at ha; subst ha; exact ih4 i a' v hl2 hv hmap hbase hl hp
  | nilf => simp only [AV.ren]; exact .nilf
  | mp r b h => simp only [AV.ren]; exact .mp _ b (hmap r _ h)
  | mview new e ks vs b us hlt hb hmut hh h1 h2 hk hr ih =>
    simp only [AV.ren]
    exact .mview new e ks vs b us hlt (fun e => Nat.le_trans hbase (hb e)) (fun e => hmut (hl b hlt e)) hh h1 h2 hk fun j a u ha hu => (hr j a u ha hu).later hp
end
end Go.Awp
