/- From a contract to the given row: a law that is true whatever it is given.
Conditions: none. -/
import Derived.Test.YtbjfkhjckfodbaaEnd
import Derived.Test.YtbjfkhjckfodbaaDra3
import Derived.Handed
import Derived.ProofKit
import Derived.OpenShut
namespace Go.Awp
set_option linter.all false
open Go Go.ChangeShapes Go.WideShapes Go.RowKit

theorem trueKept {H : Type} {enc : TypeId × Value → H} {P : Program} {f : Func} {s : ChangeSpec} {apart fresh handsOn again : Bool} {W W' : World} {args : Array Value} {v : Value} {ds gs : List (DataW H)} {before pa pv : List MemPlace}
    (hW : DataW.Whole enc P f.params.toList s.vars apart W args.toList ds gs before)
    (hres : ∀ (b : Nat) (sp : Nat → Bool) (hd : Bool), DataW.TrodAll enc P W' b sp hd f.resultTypes.toList (v.resultList f.resultTypes.size) (s.fn H (ds ++ gs)).results [])
    (hargs : ∀ sp : Nat → Bool, (∀ p ∈ before, sp p.block = true) → DataW.TrodAll enc P W' 0 sp true f.params.toList args.toList (s.fn H (ds ++ gs)).args pa)
    (hvars : ∀ sp : Nat → Bool, (∀ p ∈ before, sp p.block = true) → DataW.TrodVars enc P W' sp s.vars (s.fn H (ds ++ gs)).vars pv)
    (hps : before = pa ++ pv) (hb : Below W.heap.size W W')
    (hok : ∀ (j : Nat) (t : TypeId) (r : Value), f.resultTypes[j]? = some t → (v.resultList f.resultTypes.size)[j]? = some r → Value.okWide P W' .any 0 t r) :
    s.post enc P f apart fresh handsOn again W args v W' := by
  have hlt : ∀ p ∈ before, p.block < W.heap.size := fun p hp => hW.lt p hp
  have hold : ∀ p ∈ before, (fun b => decide (b < W.heap.size)) p.block = true := fun p hp => by simpa using hlt p hp
  refine ⟨ds, gs, before, [], pa, pv, hW, hres _ _ _, hargs _ hold, hvars _ hold, World.keptBut_mono (fun p hp => ⟨hp, ?_⟩) (hb.frame (· ∈ before)), fun _ => ?_⟩
  · rw [hps, List.mem_append] at hp
    exact Or.inr hp
  · obtain ⟨_, _, _, _, _, hz, hn⟩ := hW
    refine ⟨hok, _, _, ([] ++ pa) ++ pv, ⟨[] ++ pa, pv, trodAll_append (hargs _ (fun _ _ => rfl)) (hres _ _ _), hvars _ (fun _ _ => rfl), rfl, ?_, ?_⟩, ?_⟩
    · intro b off hp
      have hin : MemPlace.cell b off ∈ before := by rw [hps]; simpa using hp
      rw [hb.frozen (hlt _ hin)]
      exact hz b off hin
    · intro ha
      have := hn ha
      rw [hps] at this
      simpa using this
    · intro p hp _
      rw [hps]
      simpa using hp

theorem trodAll_stays {H : Type} {enc : TypeId × Value → H} {P : Program} (hl : laidOutB P = true) {W W' : World} {sp : Nat → Bool} : ∀ {ts : List TypeId} {vs : List Value} {ds : List (DataW H)} {ps : List MemPlace},
    ts.all (fun t => P.readableRec t && decide (t < P.types.size)) = true → DataW.TrodAll enc P W 0 (fun _ => true) true ts vs ds ps → (∀ p ∈ ps, W.sameAt W' p) → (∀ p ∈ ps, sp p.block = true) → DataW.TrodAll enc P W' 0 sp true ts vs ds ps
  | [], [], [], _, _, h, _, _ => h
  | [], _ :: _, _, _, _, h, _, _ => h.elim
  | [], [], _ :: _, _, _, h, _, _ => h.elim
  | _ :: _, [], _, _, _, h, _, _ => h.elim
  | _ :: _, _ :: _, [], _, _, h, _, _ => h.elim
  | t :: ts, v :: vs, d :: ds, ps, hr, h, hs, hp => by
    obtain ⟨p, q, h1, h2, rfl⟩ := h
    simp only [List.all_cons, Bool.and_eq_true, decide_eq_true_eq] at hr
    exact ⟨p, q, WideElems.Trod_stays hl hr.1.1 hr.1.2 h1 (fun x hx => hs x (by simp [hx])) (fun x hx => hp x (by simp [hx])), trodAll_stays hl hr.2 h2 (fun x hx => hs x (by simp [hx])) (fun x hx => hp x (by simp [hx])), rfl⟩

theorem trodAll_len {H : Type} {enc : TypeId × Value → H} {P : Program} {W : World} {b : Nat} {sp : Nat → Bool} {hd : Bool} : ∀ {ts : List TypeId} {vs : List Value} {ds : List (DataW H)} {ps : List MemPlace}, DataW.TrodAll enc P W b sp hd ts vs ds ps → ds.length = ts.length ∧ vs.length = ts.length
  | [], [], [], _, _ => ⟨rfl, rfl⟩
  | [], _ :: _, _, _, h => h.elim
  | [], [], _ :: _, _, h => h.elim
  | _ :: _, [], _, _, h => h.elim
  | _ :: _, _ :: _, [], _, h => h.elim
  | t :: ts, v :: vs, d :: ds, ps, h => by
    obtain ⟨p, q, _, h2, rfl⟩ := h
    have := trodAll_len h2
    simp [this.1, this.2]

theorem enters {P : Program} {f : FuncId} {fn : Func} {c : Code} (hf : P.funcs[f]? = some fn) (hname : (fn.name == "runtime.NumGoroutine") = false) (hb : fn.body = some c) (args : Array Value) (w : World) :
    (callFunc f args).run P w = .ok (.enter f args) w := by
  have h1 : fn.name ≠ "runtime.NumGoroutine" := by simpa using hname
  simp [callFunc, hf, h1, hb]

/-- The world in which a law begins: nothing may be changed. -/
def env0 (W : World) : Env := env (fun _ => none) [] (fun _ => False) W.heap.size

theorem env0_live (W : World) (b : Nat) : ¬ (env0 W).live b := by
  rintro (⟨r, _, _, _, _, _, h, _⟩ | h)
  · simp at h
  · exact h

theorem FnSpec.calls {P : Program} {f : FuncId} {fn : Func} {c : Code} {avs : List AV} {R : AV → Heap → Prop} (hf : P.funcs[f]? = some fn) (hb : fn.body = some c) (hname : (fn.name == "runtime.NumGoroutine") = false) (h : FnSpec P f avs [] R) {vs : Array Value} {w : World} (hg : GlobOk w (env0 w)) (hv : RelL w (env0 w) avs vs) :
    Calls P f vs w fun e w' => ∃ v map' av H', e = .returned v ∧ R av H' ∧ VRel w' (env map' H' (fun b => False ∨ b < w.heap.size) w.heap.size) av v ∧ Below w.heap.size w w' := by
  have h1 := h (fun _ => none) w vs (fun _ => False) (fun b hb => hb.elim) (fun _ _ => rfl) ⟨fun r _ _ _ _ h => by simp at h, fun r _ _ _ _ _ _ _ _ _ _ _ _ h => by simp at h, hg⟩ hv
  have h2 := h1 { (default : Oper) with dst := some 0 } { tmps := #[undef], defers := [] }
    (fun a' w' => ∃ v map' av H', a'.tmps = #[v] ∧ R av H' ∧ VRel w' (env map' H' (fun b => False ∨ b < w.heap.size) w.heap.size) av v ∧ Below w.heap.size w w') (fun _ _ _ => False) ?_
  · rw [enters hf hname hb] at h2
    refine Calls.mono h2 fun e w' he => ?_
    cases e with
    | returned v =>
      obtain ⟨v', m, av, H', g1, g2, g3, g4⟩ := he
      simp [Act.put] at g1
      subst g1
      exact ⟨v, m, av, H', rfl, g2, g3, g4⟩
    | panicked => exact he.elim
    | outgrown => exact (by obtain ⟨_, _, h⟩ := he; exact h.elim)
  · rintro v w' ⟨m, av, H', g1, g2, g3, g4, g5, g6⟩
    refine ⟨v, m, av, H', by simp [Act.put], g1, g2, ⟨g6.os, g6.tape, g6.output, g6.size, fun k hk => g6.block k hk ?_⟩⟩
    rintro ⟨r, _, _, _, _, _, h, _⟩
    simp at h

/-- A law with a contract that says 'true' is true, whatever it is given. -/
theorem true_lifted {C : Checked} {os : Os} {H : Type} {enc : TypeId × Value → H} {f : FuncId} {fn : Func} {c : Code} {s : ChangeSpec} {bt : TypeId} {fresh handsOn again : Bool} {conds : List PathCond} (own : ownKnob C.prog.godebug = none) (hl : laidOutB C.prog = true) (started : os.Started)
    (noInit : C.prog.inits.idxOf? f = none) (hf : C.prog.funcs[f]? = some fn) (hb : fn.body = some c) (hname : (fn.name == "runtime.NumGoroutine") = false)
    (witness : ∃ (w : World) (tape : Tape) (i : Input), w.os = os ∧ (w.forCall tape i).Shaped C.prog ∧ i.vars = [] ∧ Input.okWide C.prog (w.forCall tape i) .any w.heap.size f i ∧
      s.pre6 enc C.prog fn conds false (w.forCall tape i).memory i.args ∧ ({} : Assume).holds C.prog (lone (Frame.enter C.prog f i.args .normal) [] (w.forCall tape i)))
    (hvars : s.vars = []) (hres : fn.resultTypes = #[bt]) (hbt : C.prog.underlying bt = some .bool)
    (hs : ∀ ds : List (DataW H), ds.length = fn.params.size → s.fn H ds = { results := [.lit (.bool true)], args := ds })
    (hread : fn.params.toList.all (fun t => C.prog.readableRec t && decide (t < C.prog.types.size)) = true)
    (main : ∀ (W : World) (base : Nat) (args : Array Value) (ds : List (DataW H)) (p : List MemPlace), (∀ (j : Nat) t v, fn.params[j]? = some t → args[j]? = some v → Value.okWide C.prog W .any base t v) →
      DataW.TrodAll enc C.prog W 0 (fun _ => true) true fn.params.toList args.toList ds p → ∃ avs, RelL W (env0 W) avs args ∧ FnSpec C.prog f avs [] (fun av _ => av = .bool true)) (hglob : globs = [] := by rfl) :
    ReturnsInHanded {} C os f .any (s.pre6 enc C.prog fn conds false) (s.post enc C.prog fn false fresh handsOn again) := by
  refine returnsInHanded_of_change own started noInit hf witness ?_
  intro W base args ds gs before hval hW _ _
  have hW' := hW
  obtain ⟨p, q, hA, hV, rfl, hfz, hnd⟩ := hW
  rw [hvars] at hV
  have hV2 : gs = [] ∧ q = [] := by
    cases gs with
    | nil => exact ⟨rfl, hV⟩
    | cons => exact hV.elim
  obtain ⟨rfl, rfl⟩ := hV2
  obtain ⟨avs, hrel, hspec⟩ := main W base args ds p hval hA
  refine (hspec.calls hf hb hname (fun p hp => by rw [hglob] at hp; cases hp) hrel).mono fun e W' ⟨v, m, av, H', he, hav, hr, hbel⟩ => ?_
  subst hav
  cases hr
  refine ⟨_, he, ?_⟩
  have hlen : ds.length = fn.params.size := by simpa using (trodAll_len hA).1
  have hfn : s.fn H (ds ++ []) = { results := [.lit (.bool true)], args := ds } := by rw [List.append_nil]; exact hs ds hlen
  have hlt : ∀ x ∈ p, x.block < W.heap.size := fun x hx => hW'.lt x (by simpa using hx)
  refine trueKept (pa := p) (pv := []) hW' (fun b sp hd => ?_) (fun sp hsp => ?_) (fun sp _ => ?_) rfl hbel (fun j t r hj hr => ?_)
  · rw [hfn, hres]
    exact trodAll_mk1 (shut_bool hbt _)
  · rw [hfn]
    exact trodAll_stays hl hread hA (fun x hx => hbel.same (hlt x hx)) (fun x hx => hsp x (by simpa using hx))
  · rw [hfn, hvars]
    rfl
  · rw [hres] at hj hr
    cases j with
    | zero =>
      simp [Value.resultList] at hj hr
      subst hj; subst hr
      simp [Value.okWide, hbt, Cell.okWide, Cell.ok]
    | succ j => simp at hj

theorem bytes_view {H : Type} {enc : TypeId × Value → H} {P : Program} {W : World} {k : IntKind} {t e : TypeId} {base : Nat} {v : Value} {d : DataW H} {p : List MemPlace} {spare : Nat → Bool} {held : Bool} {b : Nat} (ht : P.underlying t = some (.slice e)) (he : P.underlying e = some (.int k)) (hc : P.cellsOf e = 1)
    (hok : Value.okWide P W .any b t v) (h : DataW.Trod enc P W base spare held t v d p) :
    ∃ zs : List Int, zs.length ≤ maxLen ∧ (∀ n ∈ zs, (Lit.int k n).wf = true) ∧ VRel W (env0 W) (.view false (zs.map (AV.int k)) zs.length) v := by
  obtain ⟨a0, len0, cap0, rfl⟩ := okWide_slice ht hok
  obtain ⟨fuel, hf⟩ := h
  rcases open_ints ht he hc hf with ⟨hcs, hx⟩ | ⟨a, len, cap, zs, hcs, _, hl, hm, hz, hx, hcell, hwf⟩
  · simp [Value.cells] at hcs
    obtain ⟨rfl, rfl, rfl⟩ := hcs
    exact ⟨[], by simp, by simp, .view0 _ _ _ _ (Nat.zero_le _)⟩
  · simp [Value.cells] at hcs
    obtain ⟨rfl, rfl, rfl⟩ := hcs
    have hzl : len0 ≤ zs.length := by rw [hz]; split <;> omega
    refine ⟨zs.take len0, by simp; omega, fun n hn => hwf n (List.mem_of_mem_take hn), ?_⟩
    rw [List.length_take, Nat.min_eq_left hzl]
    by_cases h0 : len0 = 0
    · subst h0; exact .view0 _ _ _ _ hm
    · obtain ⟨b, off, rfl, hat⟩ := ints_at hcell (by omega)
      have h0' := hat 0 (by omega)
      refine .view _ _ _ b off cap0 hl hm (World.block_lt_of_cell? W _ h0') (fun e => by cases e) (env0_live W b) (fun j => .int k (zs.getD j 0)) (fun j a ha => ?_) (fun _ _ _ => rfl) (fun j a ha => ?_)
      · have hj : j < (zs.take len0).length := by simpa using (List.getElem?_eq_some_iff.1 ha).1
        exact hat j (by simp at hj; omega)
      · simp only [List.getElem?_map, List.getElem?_take] at ha
        split at ha
        · cases hz : zs[j]? with
          | none => rw [hz] at ha; cases ha
          | some z =>
            rw [hz] at ha; cases ha
            rw [List.getD_eq_getElem?_getD, hz]
            exact .int _ _
        · cases ha

theorem relL2 {w : World} {E : Env} {a b : AV} {v u : Value} (h1 : VRel w E a v) (h2 : VRel w E b u) : RelL w E [a, b] #[v, u] :=
  ⟨rfl, fun i x y hx hy => by
    match i with
    | 0 => simp at hx hy; subst hx; subst hy; exact h1
    | 1 => simp at hx hy; subst hx; subst hy; exact h2
    | i + 2 => simp at hx⟩
theorem relL1 {w : World} {E : Env} {a : AV} {v : Value} (h1 : VRel w E a v) : RelL w E [a] #[v] :=
  ⟨rfl, fun i x y hx hy => by
    match i with
    | 0 => simp at hx hy; subst hx; subst hy; exact h1
    | i + 1 => simp at hx⟩
end Go.Awp
