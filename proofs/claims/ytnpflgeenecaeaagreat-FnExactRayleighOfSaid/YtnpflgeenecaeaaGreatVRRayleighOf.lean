/- For all arguments, the program's RayleighOf returns what the reference's returns, and leaves its arguments as they are: the law FnExactRayleighOf returns true, and its arguments read behind the call as before.
Conditions: none. -/
import Derived.Test.YtnpflgeenecaeaaGreatVU1
import Derived.Test.YtnpflgeenecaeaaGreatF4
import Derived.Handed
import Derived.ProofKit
import Derived.OpenShut
namespace Go.Proofs.YtnpflgeenecaeaaGreat
set_option linter.all false
open Go Go.Awp Go.ChangeShapes Go.WideShapes Go.ChangeAt Go.RowKit
set_option maxRecDepth 100000
set_option maxHeartbeats 0

theorem make_fnExactRayleighOf : (Tryz.pinned.checked.prog.make == some Rows.fnExactRayleighOfRow.make) = true := pin_make
theorem closed_fnExactRayleighOf : joinedFacts Tryz.pinned.checked.prog 4 Tryz.f4 Rows.fnExactRayleighOfSpec Rows.fnExactRayleighOfRow = true := by
  unfold joinedFacts
  repeat' (with_reducible refine and_mk ?_ ?_)
  all_goals first
    | with_reducible exact pin_laid
    | with_reducible exact pin_rowed
    | with_reducible exact pin_heard
    | with_reducible exact pin_enter
    | with_reducible exact pin_stops
    | with_reducible exact pin_knobs
    | (rw [pin_lifted]; rfl)
    | (rw [pin_plain]; rfl)
    | with_reducible exact make_fnExactRayleighOf
    | decide +kernel
theorem lifted_fnExactRayleighOf (os : Os) (started : os.Started) (H : Type) (enc : TypeId × Value → H) :
    ReturnsInHanded {} Tryz.checked os 4 .any (Rows.fnExactRayleighOfSpec.pre6 enc Tryz.prog Tryz.f4 Rows.fnExactRayleighOfRow.domain false) (Rows.fnExactRayleighOfSpec.post enc Tryz.prog Tryz.f4 false true false false) := by
  refine true_lifted (C := Tryz.checked) fac_own fac_laid started (by kernel_rfl) Tryz.func4 rfl rfl
    (ChangeSpec.witness6 (enc := enc) (C := Tryz.checked) false ⟨#[], #[.agg #[.slice none 0 0, .slice none 0 0, .slice none 0 0, .float .f32 0, .float .f32 0, .slice none 0 0, .float .f32 0, .float .f32 0, .float .f32 0],.slice none 0 0,.slice none 0 0,.float .f32 0], []⟩ 8 (by kernel_rfl) (by kernel_rfl) (by kernel_rfl) (by kernel_rfl))
    rfl rfl Tryz.underlying4 (fun ds hd => ?_) (by kernel_rfl) fun W base args ds p hok h => ?_
  · match ds, hd with
    | [d0, d1, d2, d3], _ => rfl
  · rw [Tryz.params4] at hok h
    obtain ⟨avs, hs, hl, hr⟩ := args_open (P := Tryz.prog) (ts := [32, 53, 22, 27]) (Ss := [_, _, _, _]) ⟨arg_B, arg_Is, arg_Vs, arg_F, trivial⟩ (fun j t v ht hv => hok j t v (by simpa using ht) (by simpa using hv)) h
    obtain ⟨_, _, ⟨b0, ⟨hb0, kb0⟩, rfl⟩, ⟨_, _, ⟨x1, ⟨_, hl1⟩, rfl⟩, ⟨_, _, ⟨x2, ⟨_, hl2⟩, rfl⟩, ⟨_, _, ⟨x3, _, rfl⟩, rfl, rfl⟩, rfl⟩, rfl⟩, rfl⟩ := hs
    exact ⟨_, relL_of hl hr, law_RayleighOf b0 x1 x2 x3 hb0 hl1 hl2⟩
theorem over_fnExactRayleighOf : Rows.fnExactRayleighOfRow.holds Tryz.pinned (OpenSpec.ofChange Rows.fnExactRayleighOfSpec) :=
  OpenClaim.holds_of_wide 4 Tryz.f4 rfl rfl rfl rfl rfl rfl rfl ⟨rfl, rfl, rfl, rfl, rfl⟩ rfl rfl rfl rfl rfl (by kernel_rfl) Tryz.func4 closed_fnExactRayleighOf
    (of_decide_eq_true (by kernel_rfl)) (by unfold Func.isWrapper; first | (rw [if_pos (by decide +kernel)]; kernel_rfl) | (rw [if_neg (by decide +kernel)]; exact ⟨rfl, rfl⟩))
    (fun os started H enc _ => lifted_fnExactRayleighOf os started H enc)
theorem fnExactRayleighOf_proved : Rows.FnExactRayleighOfSaid := over_fnExactRayleighOf
#print axioms fnExactRayleighOf_proved
end Go.Proofs.YtnpflgeenecaeaaGreat
