/- FnPinned: runs of cloths can be cut, pinned places stay where they are, draped places are not inside the ball, one step is a run of one: the law FnPinned returns true for all arguments.
Conditions: none. -/
import Derived.Test.YtbjfkhjckfodbaaVPN2
import Derived.Test.YtbjfkhjckfodbaaF4
import Derived.Handed
import Derived.ProofKit
import Derived.OpenShut
namespace Go.Proofs.Ytbjfkhjckfodbaa
set_option linter.all false
open Go Go.Awp Go.ChangeShapes Go.WideShapes Go.ChangeAt Go.RowKit
set_option maxRecDepth 100000
set_option maxHeartbeats 0

theorem make_fnPinned : (Try.pinned.checked.prog.make == some Rows.fnPinnedRow.make) = true := pin_make
theorem closed_fnPinned : joinedFacts Try.pinned.checked.prog 4 Try.f4 Rows.fnPinnedSpec Rows.fnPinnedRow = true := by
  unfold joinedFacts
  repeat' (with_reducible refine and_mk ?_ ?_)
  all_goals first
    | with_reducible exact pin_laid
    | with_reducible exact pin_rowed
    | with_reducible exact pin_heard
    | with_reducible exact pin_enter
    | with_reducible exact pin_stops
    | with_reducible exact pin_knobs
    | (rw [pin_lifted]; rfl)
    | (rw [pin_plain]; rfl)
    | with_reducible exact make_fnPinned
    | decide +kernel
theorem lifted_fnPinned (os : Os) (started : os.Started) (H : Type) (enc : TypeId × Value → H) :
    ReturnsInHanded {} Try.checked os 4 .any (Rows.fnPinnedSpec.pre6 enc Try.prog Try.f4 Rows.fnPinnedRow.domain false) (Rows.fnPinnedSpec.post enc Try.prog Try.f4 false true false false) := by
  refine true_lifted (C := Try.checked) fac_own fac_laid started (by kernel_rfl) Try.func4 rfl rfl
    (ChangeSpec.witness6 (enc := enc) (C := Try.checked) false ⟨#[], #[.slice none 0 0,.slice none 0 0], []⟩ 8 (by kernel_rfl) (by kernel_rfl) (by kernel_rfl) (by kernel_rfl))
    rfl rfl Try.underlying4 (fun ds hd => ?_) (by kernel_rfl) fun W base args ds p hok h => ?_
  · match ds, hd with
    | [d0, d1], _ => rfl
  · rw [Try.params4] at hok h
    obtain ⟨avs, hs, hl, hr⟩ := args_open (P := Try.prog) (ts := [22, 22]) (Ss := [_, _]) ⟨arg_Bys, arg_Bys, trivial⟩ (fun j t v ht hv => hok j t v (by simpa using ht) (by simpa using hv)) h
    obtain ⟨_, _, ⟨x0, ⟨hb0, hl0⟩, rfl⟩, ⟨_, _, ⟨x1, ⟨hb1, hl1⟩, rfl⟩, rfl, rfl⟩, rfl⟩ := hs
    exact ⟨_, relL_of hl hr, law_FnPinned x0 x1 hb0 hb1 hl0 hl1⟩
theorem over_fnPinned : Rows.fnPinnedRow.holds Try.pinned (OpenSpec.ofChange Rows.fnPinnedSpec) :=
  OpenClaim.holds_of_wide 4 Try.f4 rfl rfl rfl rfl rfl rfl rfl ⟨rfl, rfl, rfl, rfl, rfl⟩ rfl rfl rfl rfl rfl (by kernel_rfl) Try.func4 closed_fnPinned
    (of_decide_eq_true (by kernel_rfl)) (by unfold Func.isWrapper; first | (rw [if_pos (by decide +kernel)]; kernel_rfl) | (rw [if_neg (by decide +kernel)]; exact ⟨rfl, rfl⟩))
    (fun os started H enc _ => lifted_fnPinned os started H enc)
theorem fnPinned_proved : Rows.FnPinnedSaid := over_fnPinned
#print axioms fnPinned_proved
end Go.Proofs.Ytbjfkhjckfodbaa
