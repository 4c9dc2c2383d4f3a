/- Floats that arguments hold are canonical words.
Conditions: none. -/
import Derived.Test.YtbjfkhjckfodbaaEnt
namespace Go.Awp
set_option linter.all false
open Go

def canA : Nat → AV → Prop
  | 0, _ => True
  | _ + 1, .flt k x => CanF k x
  | d + 1, .agg l => ∀ a ∈ l, canA d a
  | d + 1, .view _ cells n => n = 0 ∨ ∀ a ∈ cells, canA d a
  | _ + 1, _ => True
theorem canA_of {w : World} : ∀ (d : Nat) {E : Env} {a : AV} {v : Value}, VRel w E a v → canA d a
  | 0, _, _, _, _ => trivial
  | d + 1, _, _, _, h => by
    cases h with
    | flt k x r h hr => exact ⟨by rw [← h, cn_cn], by rw [← h]; exact cn_lt hr⟩
    | agg l vs h1 h2 h3 =>
      intro a ha
      obtain ⟨i, hi⟩ := List.getElem?_of_mem ha
      have hlt : i < vs.size := by rw [← h1]; exact (List.getElem?_eq_some_iff.1 hi).1
      exact canA_of d (h3 i a _ hi (Array.getElem?_eq_getElem hlt))
    | view0 => exact .inl rfl
    | view new cells n b off cap hn hm hlt hb hmut u hc ho hr =>
      refine .inr fun a ha => ?_
      obtain ⟨i, hi⟩ := List.getElem?_of_mem ha
      exact canA_of d (hr i a hi)
    | _ => trivial
/-- A contract may take all floats of its arguments for canonical words. -/
theorem fn_can {P : Program} {f : FuncId} {avs : List AV} {Hin : Heap} {R : AV → Heap → Prop} (h : (∀ a ∈ avs, canA 4 a) → FnSpec P f avs Hin R) : FnSpec P f avs Hin R := by
  intro map w vs X hX hfree hW hargs
  refine h (fun a ha => ?_) map w vs X hX hfree hW hargs
  obtain ⟨i, hi⟩ := List.getElem?_of_mem ha
  have hlt : i < vs.size := by rw [← hargs.1]; exact (List.getElem?_eq_some_iff.1 hi).1
  exact canA_of 4 (hargs.2 i a _ hi (Array.getElem?_eq_getElem hlt))
/-- What a contract hands back holds canonical words. -/
def CanH (H : Heap) : Prop := ∀ (r : Nat) nw bx e cells, H[r]? = some (.blk nw bx e cells) → ∀ a ∈ cells, canA 4 a
theorem FnSpec.canR {P : Program} {f : FuncId} {avs : List AV} {Hin : Heap} {R : AV → Heap → Prop} (h : FnSpec P f avs Hin R) : FnSpec P f avs Hin fun av H => R av H ∧ canA 4 av ∧ CanH H := by
  intro map w vs X hX hfree hW hargs
  refine (h map w vs X hX hfree hW hargs).mono ?_
  rintro v w' ⟨m, av, H', g, g1, g2, g3, g4, g5⟩
  refine ⟨m, av, H', ⟨g, canA_of 4 g1, fun r nw bx e cells hr a ha => ?_⟩, g1, g2, g3, g4, g5⟩
  obtain ⟨i, hi⟩ := List.getElem?_of_mem ha
  rcases g2.root r nw bx e cells hr with ⟨_, rfl, _⟩ | ⟨b, N, arr, _, _, _, _, _, k⟩
  · simp at ha
  · obtain ⟨u, _, _, hu⟩ := k i a hi
    exact canA_of 4 hu
end Go.Awp
