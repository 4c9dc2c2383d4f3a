/- From a contract to the given row, where the row lists tables: what is known of package variables.
Conditions: none. -/
import Derived.Test.YthgfopohlhejdaaDoorGlue
import Derived.Test.YthgfopohlhejdaaDoorLib
import Derived.LaidMore
import Derived.Lay
import Derived.Stop.Joined
import Derived.MakeChecks
import Derived.Shelf.Vars
namespace Go.Awp
set_option linter.all false
open Go Go.ChangeShapes Go.WideShapes Go.RowKit

theorem isTab_of {P : Program} {w : World} {name : String} {k : IntKind} {zs : List Int} {g : Nat} (hg : P.globalNamed name = some g) (h : Lib.TabIs P w name k zs) : ∃ o, w.heap[g]? = some o ∧ isTab k zs o := by
  simp only [Lib.TabIs, World.var?, hg, Option.bind_some] at h
  split at h
  · rename_i cs t fr e
    cases h
    exact ⟨_, e, _, _, rfl⟩
  · cases h
theorem isNum_of {w : World} {g : Nat} (h : ∃ m, w.cell? ⟨g, 0, none⟩ = some (.int .i64 m)) : ∃ o, w.heap[g]? = some o ∧ isNum o := by
  obtain ⟨m, h⟩ := h
  simp only [World.cell?] at h
  split at h
  · rename_i cs t fr e
    exact ⟨_, e, cs, t, fr, m, rfl, h⟩
  · cases h

/-- A law with a contract that says 'true' is true, where the row lists tables. -/
theorem true_lifted_laid {C : Checked} {os : Os} {H : Type} {enc : TypeId × Value → H} {f : FuncId} {fn : Func} {c : Code} {s : ChangeSpec} {bt : TypeId} {fresh handsOn again : Bool} {conds : List PathCond} {laid : List (String × DataW Unit)} (own : ownKnob C.prog.godebug = none) (hl : laidOutB C.prog = true) (started : os.Started)
    (noInit : C.prog.inits.idxOf? f = none) (hf : C.prog.funcs[f]? = some fn) (hb : fn.body = some c) (hname : (fn.name == "runtime.NumGoroutine") = false)
    (witness : ∃ (w : World) (tape : Tape) (i : Input), w.os = os ∧ (w.forCall tape i).Shaped C.prog ∧ i.vars = [] ∧ Input.okWide C.prog (w.forCall tape i) .any w.heap.size f i ∧
      ((s.pre enc C.prog fn conds false (w.forCall tape i).memory i.args ∧ laidMetH C.prog laid (w.forCall tape i).memory) ∧ sizedMet enc C.prog fn (OpenSpec.ofChange s) false (w.forCall tape i).memory i.args) ∧ ({} : Assume).holds C.prog (lone (Frame.enter C.prog f i.args .normal) [] (w.forCall tape i)))
    (hvars : s.vars = []) (hres : fn.resultTypes = #[bt]) (hbt : C.prog.underlying bt = some .bool)
    (hs : ∀ ds : List (DataW H), ds.length = fn.params.size → s.fn H ds = { results := [.lit (.bool true)], args := ds })
    (hread : fn.params.toList.all (fun t => C.prog.readableRec t && decide (t < C.prog.types.size)) = true)
    (main : ∀ (W : World) (base : Nat) (args : Array Value) (ds : List (DataW H)) (p : List MemPlace), (∀ (j : Nat) t v, fn.params[j]? = some t → args[j]? = some v → Value.okWide C.prog W .any base t v) →
      DataW.TrodAll enc C.prog W 0 (fun _ => true) true fn.params.toList args.toList ds p → ∃ avs, RelL W (env0 W) avs args ∧ FnSpec C.prog f avs [] (fun av _ => av = .bool true))
    (hglob : ∀ W : World, W.ShapedOpen C.prog → laidMetH C.prog laid W → GlobOk W (env0 W)) :
    ReturnsInHanded {} C os f .any (fun w args => (s.pre enc C.prog fn conds false w args ∧ laidMetH C.prog laid w) ∧ sizedMet enc C.prog fn (OpenSpec.ofChange s) false w args) (s.post enc C.prog fn false fresh handsOn again) := by
  refine returnsInHanded_of_calls own started noInit witness ?_
  intro w tape i _ hsh _ hok hpre hholds
  obtain ⟨_, _, _, fn', hfn', _, _, _, _, hval⟩ := hok
  have e : fn' = fn := Option.some.inj (hfn'.symm.trans hf)
  subst e
  obtain ⟨⟨⟨ds, gs, before, hw, hc⟩, hx⟩, hz⟩ := hpre
  have hW := DataW.Whole.of_heap (w' := w.forCall tape i) (by rfl) hw
  have hX : laidMetH C.prog laid (w.forCall tape i) := hx.of_heap (by rfl)
  have hgl := hglob _ hsh hX
  generalize w.forCall tape i = W at *
  have hW' := hW
  obtain ⟨p, q, hA, hV, rfl, hfz, hnd⟩ := hW
  rw [hvars] at hV
  have hV2 : gs = [] ∧ q = [] := by
    cases gs with
    | nil => exact ⟨rfl, hV⟩
    | cons => exact hV.elim
  obtain ⟨rfl, rfl⟩ := hV2
  obtain ⟨avs, hrel, hspec⟩ := main W w.heap.size i.args ds p hval hA
  refine (hspec.calls hf hb hname hgl hrel).mono fun e W' ⟨v, m, av, H', he, hav, hr, hbel⟩ => ?_
  subst hav
  cases hr
  subst he
  refine ChangeSpec.post_blind ?_
  have hlen : ds.length = fn'.params.size := by simpa using (trodAll_len hA).1
  have hfn : s.fn H (ds ++ []) = { results := [.lit (.bool true)], args := ds } := by rw [List.append_nil]; exact hs ds hlen
  have hlt : ∀ x ∈ p, x.block < W.heap.size := fun x hx => hW'.lt x (by simpa using hx)
  refine trueKept (pa := p) (pv := []) hW' (fun b sp hd => ?_) (fun sp hsp => ?_) (fun sp _ => ?_) rfl hbel (fun j t r hj hr => ?_)
  · rw [hfn, hres]
    exact trodAll_mk1 (shut_bool hbt _)
  · rw [hfn]
    exact trodAll_stays hl hread hA (fun x hx => hbel.same (hlt x hx)) (fun x hx => hsp x (by simpa using hx))
  · rw [hfn, hvars]
    rfl
  · rw [hres] at hj hr
    cases j with
    | zero =>
      simp [Value.resultList] at hj hr
      subst hj; subst hr
      simp [Value.okWide, hbt, Cell.okWide, Cell.ok]
    | succ j => simp at hj
end Go.Awp
