/- For every mesh, the program's cloth of it is the reference's, in memory of its own: the law FnExactClothOf returns true, and its argument reads behind the call as before.
Conditions: none. -/
import Derived.Test.YtnpflgeenecaeaaV5
import Derived.Test.YtnpflgeenecaeaaF4
import Derived.Handed
import Derived.ProofKit
import Derived.OpenShut
namespace Go.Proofs.Ytnpflgeenecaeaa
set_option linter.all false
open Go Go.Awp Go.ChangeShapes Go.WideShapes Go.ChangeAt Go.RowKit
set_option maxRecDepth 100000
set_option maxHeartbeats 0

theorem make_fnExactClothOf : (Try.pinned.checked.prog.make == some Rows.fnExactClothOfRow.make) = true := pin_make
theorem closed_fnExactClothOf : joinedFacts Try.pinned.checked.prog 5 Try.f5 Rows.fnExactClothOfSpec Rows.fnExactClothOfRow = true := by
  unfold joinedFacts
  repeat' (with_reducible refine and_mk ?_ ?_)
  all_goals first
    | with_reducible exact pin_laid
    | with_reducible exact pin_rowed
    | with_reducible exact pin_heard
    | with_reducible exact pin_enter
    | with_reducible exact pin_stops
    | with_reducible exact pin_knobs
    | (rw [pin_lifted]; rfl)
    | (rw [pin_plain]; rfl)
    | with_reducible exact make_fnExactClothOf
    | decide +kernel
theorem lifted_fnExactClothOf (os : Os) (started : os.Started) (H : Type) (enc : TypeId × Value → H) :
    ReturnsInHanded {} Try.checked os 5 .any (Rows.fnExactClothOfSpec.pre6 enc Try.prog Try.f5 Rows.fnExactClothOfRow.domain false) (Rows.fnExactClothOfSpec.post enc Try.prog Try.f5 false true false false) := by
  refine true_lifted (C := Try.checked) fac_own fac_laid started (by kernel_rfl) Try.func5 rfl rfl
    (ChangeSpec.witness6 (enc := enc) (C := Try.checked) false ⟨#[], #[.agg #[.slice none 0 0, .slice none 0 0]], []⟩ 8 (by kernel_rfl) (by kernel_rfl) (by kernel_rfl) (by kernel_rfl))
    rfl rfl Try.underlying4 (fun ds hd => ?_) (by kernel_rfl) fun W base args ds p hok h => ?_
  · match ds, hd with
    | [d0], _ => rfl
  · rw [Try.params5] at hok h
    obtain ⟨avs, hs, hl, hr⟩ := args_open (P := Try.prog) (ts := [42]) (Ss := [_]) ⟨arg_M, trivial⟩ (fun j t v ht hv => hok j t v (by simpa using ht) (by simpa using hv)) h
    obtain ⟨_, _, ⟨d, ⟨hd, _⟩, rfl⟩, rfl, rfl⟩ := hs
    exact ⟨_, relL_of hl hr, law_ClothOf d hd⟩
theorem over_fnExactClothOf : Rows.fnExactClothOfRow.holds Try.pinned (OpenSpec.ofChange Rows.fnExactClothOfSpec) :=
  OpenClaim.holds_of_wide 5 Try.f5 rfl rfl rfl rfl rfl rfl rfl ⟨rfl, rfl, rfl, rfl, rfl⟩ rfl rfl rfl rfl rfl (by kernel_rfl) Try.func5 closed_fnExactClothOf
    (of_decide_eq_true (by kernel_rfl)) (by unfold Func.isWrapper; first | (rw [if_pos (by decide +kernel)]; kernel_rfl) | (rw [if_neg (by decide +kernel)]; exact ⟨rfl, rfl⟩))
    (fun os started H enc _ => lifted_fnExactClothOf os started H enc)
theorem fnExactClothOf_proved : Rows.FnExactClothOfSaid := over_fnExactClothOf
#print axioms fnExactClothOf_proved
end Go.Proofs.Ytnpflgeenecaeaa
