/- For all arguments, the program's PiecesOfCloth returns what the reference's returns, leaves its arguments as they are, and shares no memory: the law FnExactPiecesOfCloth returns true, and its arguments read behind the call as before.
Conditions: none. -/
import Derived.Test.YtnpflgeenecaeaaP5
import Derived.Test.YtnpflgeenecaeaaA1
import Derived.Test.YtnpflgeenecaeaaF4
import Derived.Handed
import Derived.ProofKit
import Derived.OpenShut
namespace Go.Proofs.Ytnpflgeenecaeaa
set_option linter.all false
open Go Go.Awp Go.ChangeShapes Go.WideShapes Go.ChangeAt Go.RowKit
set_option maxRecDepth 100000
set_option maxHeartbeats 0

theorem make_fnExactPiecesOfCloth : (Try.pinned.checked.prog.make == some Rows.fnExactPiecesOfClothRow.make) = true := pin_make
theorem closed_fnExactPiecesOfCloth : joinedFacts Try.pinned.checked.prog 3 Try.f3 Rows.fnExactPiecesOfClothSpec Rows.fnExactPiecesOfClothRow = true := by
  unfold joinedFacts
  repeat' (with_reducible refine and_mk ?_ ?_)
  all_goals first
    | with_reducible exact pin_laid
    | with_reducible exact pin_rowed
    | with_reducible exact pin_heard
    | with_reducible exact pin_enter
    | with_reducible exact pin_stops
    | with_reducible exact pin_knobs
    | (rw [pin_lifted]; rfl)
    | (rw [pin_plain]; rfl)
    | with_reducible exact make_fnExactPiecesOfCloth
    | decide +kernel
theorem lifted_fnExactPiecesOfCloth (os : Os) (started : os.Started) (H : Type) (enc : TypeId × Value → H) :
    ReturnsInHanded {} Try.checked os 3 .any (Rows.fnExactPiecesOfClothSpec.pre6 enc Try.prog Try.f3 Rows.fnExactPiecesOfClothRow.domain false) (Rows.fnExactPiecesOfClothSpec.post enc Try.prog Try.f3 false true false false) := by
  refine true_lifted (C := Try.checked) fac_own fac_laid started (by kernel_rfl) Try.func3 rfl rfl
    (ChangeSpec.witness6 (enc := enc) (C := Try.checked) false ⟨#[], #[.agg #[.slice none 0 0, .slice none 0 0, .slice none 0 0, .slice none 0 0]], []⟩ 8 (by kernel_rfl) (by kernel_rfl) (by kernel_rfl) (by kernel_rfl))
    rfl rfl Try.underlying4 (fun ds hd => ?_) (by kernel_rfl) fun W base args ds p hok h => ?_
  · match ds, hd with
    | [d0], _ => rfl
  · rw [Try.params3] at hok h
    obtain ⟨avs, hs, hl, hr⟩ := args_open (P := Try.prog) (ts := [26]) (Ss := [_]) ⟨arg_C, trivial⟩ (fun j t v ht hv => hok j t v (by simpa using ht) (by simpa using hv)) h
    obtain ⟨_, _, ⟨c0, ⟨hc0, kc0⟩, rfl⟩, rfl, rfl⟩ := hs
    exact ⟨_, relL_of hl hr, law_PiecesOfCloth c0  hc0⟩
theorem over_fnExactPiecesOfCloth : Rows.fnExactPiecesOfClothRow.holds Try.pinned (OpenSpec.ofChange Rows.fnExactPiecesOfClothSpec) :=
  OpenClaim.holds_of_wide 3 Try.f3 rfl rfl rfl rfl rfl rfl rfl ⟨rfl, rfl, rfl, rfl, rfl⟩ rfl rfl rfl rfl rfl (by kernel_rfl) Try.func3 closed_fnExactPiecesOfCloth
    (of_decide_eq_true (by kernel_rfl)) (by unfold Func.isWrapper; first | (rw [if_pos (by decide +kernel)]; kernel_rfl) | (rw [if_neg (by decide +kernel)]; exact ⟨rfl, rfl⟩))
    (fun os started H enc _ => lifted_fnExactPiecesOfCloth os started H enc)
theorem fnExactPiecesOfCloth_proved : Rows.FnExactPiecesOfClothSaid := over_fnExactPiecesOfCloth
#print axioms fnExactPiecesOfCloth_proved
end Go.Proofs.Ytnpflgeenecaeaa
