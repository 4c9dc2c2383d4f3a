/- For every desk, the program's word on whether it is valid is the reference's: the law FnExactValidDesk returns true, and its argument reads behind the call as before.
Conditions: none. -/
import Derived.Test.YtnpflgeenecaeaaQ5
import Derived.Test.YtnpflgeenecaeaaF4
import Derived.Handed
import Derived.ProofKit
import Derived.OpenShut
namespace Go.Proofs.Ytnpflgeenecaeaa
set_option linter.all false
open Go Go.Awp Go.ChangeShapes Go.WideShapes Go.ChangeAt Go.RowKit
set_option maxRecDepth 100000
set_option maxHeartbeats 0

theorem make_fnExactValidDesk : (Try.pinned.checked.prog.make == some Rows.fnExactValidDeskRow.make) = true := pin_make
theorem closed_fnExactValidDesk : joinedFacts Try.pinned.checked.prog 4 Try.f4 Rows.fnExactValidDeskSpec Rows.fnExactValidDeskRow = true := by
  unfold joinedFacts
  repeat' (with_reducible refine and_mk ?_ ?_)
  all_goals first
    | with_reducible exact pin_laid
    | with_reducible exact pin_rowed
    | with_reducible exact pin_heard
    | with_reducible exact pin_enter
    | with_reducible exact pin_stops
    | with_reducible exact pin_knobs
    | (rw [pin_lifted]; rfl)
    | (rw [pin_plain]; rfl)
    | with_reducible exact make_fnExactValidDesk
    | decide +kernel
theorem lifted_fnExactValidDesk (os : Os) (started : os.Started) (H : Type) (enc : TypeId × Value → H) :
    ReturnsInHanded {} Try.checked os 4 .any (Rows.fnExactValidDeskSpec.pre6 enc Try.prog Try.f4 Rows.fnExactValidDeskRow.domain false) (Rows.fnExactValidDeskSpec.post enc Try.prog Try.f4 false true false false) := by
  refine true_lifted (C := Try.checked) fac_own fac_laid started (by kernel_rfl) Try.func4 rfl rfl
    (ChangeSpec.witness6 (enc := enc) (C := Try.checked) false ⟨#[], #[.agg #[.slice none 0 0, .slice none 0 0, .slice none 0 0, .float .f32 0, .float .f32 0, .slice none 0 0, .float .f32 0, .float .f32 0, .float .f32 0, .slice none 0 0]], []⟩ 8 (by kernel_rfl) (by kernel_rfl) (by kernel_rfl) (by kernel_rfl))
    rfl rfl Try.underlying4 (fun ds hd => ?_) (by kernel_rfl) fun W base args ds p hok h => ?_
  · match ds, hd with
    | [d0], _ => rfl
  · rw [Try.params4] at hok h
    obtain ⟨avs, hs, hl, hr⟩ := args_open (P := Try.prog) (ts := [51]) (Ss := [_]) ⟨arg_D, trivial⟩ (fun j t v ht hv => hok j t v (by simpa using ht) (by simpa using hv)) h
    obtain ⟨_, _, ⟨d, ⟨hd, _⟩, rfl⟩, rfl, rfl⟩ := hs
    exact ⟨_, relL_of hl hr, law_ValidDesk d hd⟩
theorem over_fnExactValidDesk : Rows.fnExactValidDeskRow.holds Try.pinned (OpenSpec.ofChange Rows.fnExactValidDeskSpec) :=
  OpenClaim.holds_of_wide 4 Try.f4 rfl rfl rfl rfl rfl rfl rfl ⟨rfl, rfl, rfl, rfl, rfl⟩ rfl rfl rfl rfl rfl (by kernel_rfl) Try.func4 closed_fnExactValidDesk
    (of_decide_eq_true (by kernel_rfl)) (by unfold Func.isWrapper; first | (rw [if_pos (by decide +kernel)]; kernel_rfl) | (rw [if_neg (by decide +kernel)]; exact ⟨rfl, rfl⟩))
    (fun os started H enc _ => lifted_fnExactValidDesk os started H enc)
theorem fnExactValidDesk_proved : Rows.FnExactValidDeskSaid := over_fnExactValidDesk
#print axioms fnExactValidDesk_proved
end Go.Proofs.Ytnpflgeenecaeaa
