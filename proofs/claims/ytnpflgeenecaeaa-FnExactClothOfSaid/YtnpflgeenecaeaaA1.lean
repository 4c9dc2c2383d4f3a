/- What the cloths are that the laws are given.
Conditions: none. -/
import Derived.Test.YtnpflgeenecaeaaL2
import Derived.Test.YtnpflgeenecaeaaEnt
namespace Go.Proofs.Ytnpflgeenecaeaa
set_option linter.all false
open Go Go.Awp
set_option maxRecDepth 100000
set_option maxHeartbeats 4000000

theorem opens_V : Opens Try.prog 47 fun l => ∃ v, CanV v ∧ l = eV v :=
  (opens_struct (Ss := [_, _, _]) Try.underlying47 (by kernel_rfl) ⟨opens_float Try.underlying44, opens_float Try.underlying44, opens_float Try.underlying44, trivial⟩).mono (by
    rintro l ⟨_, _, ⟨x, hx, rfl⟩, ⟨_, _, ⟨y, hy, rfl⟩, ⟨_, _, ⟨z, hz, rfl⟩, rfl, rfl⟩, rfl⟩, rfl⟩
    exact ⟨(x, y, z), ⟨hx, hy, hz⟩, rfl⟩)
theorem opens_T : Opens Try.prog 116 fun l => ∃ v, CanT v ∧ l = eT v :=
  (opens_struct (Ss := [_, _, _]) Try.underlying116 (by kernel_rfl) ⟨opens_int Try.underlying2, opens_int Try.underlying2, opens_float Try.underlying44, trivial⟩).mono (by
    rintro l ⟨_, _, ⟨x, hx, rfl⟩, ⟨_, _, ⟨y, hy, rfl⟩, ⟨_, _, ⟨z, hz, rfl⟩, rfl, rfl⟩, rfl⟩, rfl⟩
    exact ⟨(x, y, z), ⟨wf_i64 hx, wf_i64 hy, hz⟩, rfl⟩)
theorem opens_I : Opens Try.prog 2 fun l => ∃ n : Int, I64 n ∧ l = [.int .i64 n] := (opens_int Try.underlying2).mono (by
    rintro l ⟨x, hx, rfl⟩
    exact ⟨x, wf_i64 hx, rfl⟩)
theorem flat_ints (l : List Int) : l.flatMap (fun n => [AV.int .i64 n]) = cIs l := by
  induction l with
  | nil => rfl
  | cons a l ih => simp only [List.flatMap_cons, ih]; rfl
theorem opens_Vs : Opens Try.prog 22 fun l => ∃ vs : List V, ((∀ v ∈ vs, CanV v) ∧ vs.length ≤ maxLen) ∧ l = [.view false (cVs vs) vs.length] :=
  opens_slice Try.underlying22 (by kernel_rfl) (by decide : 0 < 3) eV_length opens_V
theorem opens_Ts : Opens Try.prog 23 fun l => ∃ vs : List Th, ((∀ v ∈ vs, CanT v) ∧ vs.length ≤ maxLen) ∧ l = [.view false (cTs vs) vs.length] :=
  opens_slice Try.underlying23 (by kernel_rfl) (by decide : 0 < 3) eT_length opens_T
theorem opens_Is : Opens Try.prog 24 fun l => ∃ vs : List Int, ((∀ v ∈ vs, I64 v) ∧ vs.length ≤ maxLen) ∧ l = [.view false (cIs vs) vs.length] :=
  (opens_slice (enc' := fun n : Int => [AV.int .i64 n]) Try.underlying24 (by kernel_rfl) (by decide : 0 < 1) (fun _ => rfl) opens_I).mono (by
    rintro l ⟨vs, h, rfl⟩
    exact ⟨vs, h, by rw [flat_ints]⟩)
structure Clo.Can (c : Clo) : Prop where
  pl : ∀ v ∈ c.pl, CanV v
  ol : ∀ v ∈ c.ol, CanV v
  th : ∀ v ∈ c.th, CanT v
  pin : ∀ v ∈ c.pin, I64 v
structure Clo.Len (c : Clo) : Prop where
  pl : c.pl.length ≤ 9223372036854775807
  ol : c.ol.length ≤ 9223372036854775807
  th : c.th.length ≤ 9223372036854775807
  pin : c.pin.length ≤ 9223372036854775807
theorem arg_C : ArgOk Try.prog 26 fun a => ∃ c : Clo, (c.Len ∧ c.Can) ∧ a = c.av := .mk fun hok h => by
  obtain ⟨a, ⟨l, hl, rfl⟩, hr⟩ := (argOk_struct Try.underlying26 (opens_struct (Ss := [_, _, _, _]) Try.underlying26 (by kernel_rfl) ⟨opens_Vs, opens_Vs, opens_Ts, opens_Is, trivial⟩)).op hok h
  obtain ⟨_, _, ⟨a, ⟨ha, hal⟩, rfl⟩, ⟨_, _, ⟨b, ⟨hb, hbl⟩, rfl⟩, ⟨_, _, ⟨c, ⟨hc, hcl⟩, rfl⟩, ⟨_, _, ⟨d, ⟨hd, hdl⟩, rfl⟩, rfl, rfl⟩, rfl⟩, rfl⟩, rfl⟩ := hl
  exact ⟨_, ⟨⟨a, b, c, d⟩, ⟨⟨hal, hbl, hcl, hdl⟩, ⟨ha, hb, hc, hd⟩⟩, rfl⟩, hr⟩
theorem arg_V : ArgOk Try.prog 47 fun a => ∃ v, CanV v ∧ a = aV v := .mk fun hok h => by
  obtain ⟨a, ⟨l, ⟨v, hv, rfl⟩, rfl⟩, hr⟩ := (argOk_struct Try.underlying47 opens_V).op hok h
  exact ⟨_, ⟨v, hv, rfl⟩, hr⟩
theorem arg_F : ArgOk Try.prog 44 fun a => ∃ x, CanF .f32 x ∧ a = .flt .f32 x :=
  argOk_one (by rw [Try.underlying44]; intro fs h; cases h) (by rw [Try.underlying44]; intro n e h; cases h) ((opens_float Try.underlying44).mono (by
    rintro l ⟨x, hx, rfl⟩
    exact ⟨_, ⟨x, hx, rfl⟩, rfl⟩))
theorem arg_I : ArgOk Try.prog 2 fun a => ∃ n : Int, I64 n ∧ a = .int .i64 n :=
  argOk_one (by rw [Try.underlying2]; intro fs h; cases h) (by rw [Try.underlying2]; intro n e h; cases h) (opens_I.mono (by
    rintro l ⟨x, hx, rfl⟩
    exact ⟨_, ⟨x, hx, rfl⟩, rfl⟩))
theorem arg_Is : ArgOk Try.prog 24 fun a => ∃ vs : List Int, ((∀ v ∈ vs, I64 v) ∧ vs.length ≤ maxLen) ∧ a = .view false (cIs vs) vs.length :=
  argOk_one (by rw [Try.underlying24]; intro fs h; cases h) (by rw [Try.underlying24]; intro n e h; cases h) (opens_Is.mono (by
    rintro l ⟨x, hx, rfl⟩
    exact ⟨_, ⟨x, hx, rfl⟩, rfl⟩))
theorem relL_of {W : World} {avs : List AV} {args : Array Value} (h1 : avs.length = args.toList.length) (h2 : ∀ (i : Nat) a v, avs[i]? = some a → args.toList[i]? = some v → VRel W (env0 W) a v) : RelL W (env0 W) avs args :=
  ⟨by simpa using h1, fun i a v ha hv => h2 i a v ha (by simpa using hv)⟩
end Go.Proofs.Ytnpflgeenecaeaa
