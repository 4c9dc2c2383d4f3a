/- FnAngles: a point in sixteenths has the angle whose sine leads back to it, the opposite one has the opposite angle, and flushed numbers are not subnormal: the law FnAngles returns true for all arguments.
Conditions: none. -/
import Derived.Test.YtfngkhkghjgmkaaVB7
import Derived.Test.YtfngkhkghjgmkaaF4
import Derived.Handed
import Derived.ProofKit
import Derived.OpenShut
namespace Go.Proofs.Ytfngkhkghjgmkaa
set_option linter.all false
open Go Go.Awp Go.ChangeShapes Go.WideShapes Go.ChangeAt Go.RowKit
set_option maxRecDepth 100000
set_option maxHeartbeats 0

theorem make_fnAngles : (Try.pinned.checked.prog.make == some Rows.fnAnglesRow.make) = true := pin_make
theorem closed_fnAngles : joinedFacts Try.pinned.checked.prog 7 Try.f7 Rows.fnAnglesSpec Rows.fnAnglesRow = true := by
  unfold joinedFacts
  repeat' (with_reducible refine and_mk ?_ ?_)
  all_goals first
    | with_reducible exact pin_laid
    | with_reducible exact pin_rowed
    | with_reducible exact pin_heard
    | with_reducible exact pin_enter
    | with_reducible exact pin_stops
    | with_reducible exact pin_knobs
    | (rw [pin_lifted]; rfl)
    | (rw [pin_plain]; rfl)
    | with_reducible exact make_fnAngles
    | decide +kernel
theorem lifted_fnAngles (os : Os) (started : os.Started) (H : Type) (enc : TypeId × Value → H) :
    ReturnsInHanded {} Try.checked os 7 .any (Rows.fnAnglesSpec.pre6 enc Try.prog Try.f7 Rows.fnAnglesRow.domain false) (Rows.fnAnglesSpec.post enc Try.prog Try.f7 false true false false) := by
  refine true_lifted (C := Try.checked) fac_own fac_laid started (by kernel_rfl) Try.func7 rfl rfl
    (ChangeSpec.witness6 (enc := enc) (C := Try.checked) false ⟨#[], #[.slice none 0 0,.slice none 0 0], []⟩ 8 (by kernel_rfl) (by kernel_rfl) (by kernel_rfl) (by kernel_rfl))
    rfl rfl Try.underlying4 (fun ds hd => ?_) (by kernel_rfl) fun W base args ds p hok h => ?_
  · match ds, hd with
    | [d0, d1], _ => rfl
  · rw [Try.params7] at hok h
    obtain ⟨avs, hs, hl, hr⟩ := args_open (P := Try.prog) (ts := [22, 22]) (Ss := [_, _]) ⟨arg_Bys, arg_Bys, trivial⟩ (fun j t v ht hv => hok j t v (by simpa using ht) (by simpa using hv)) h
    obtain ⟨_, _, ⟨x0, ⟨hb0, hl0⟩, rfl⟩, ⟨_, _, ⟨x1, ⟨hb1, hl1⟩, rfl⟩, rfl, rfl⟩, rfl⟩ := hs
    exact ⟨_, relL_of hl hr, law_FnAngles x0 x1 hb0 hb1 hl0 hl1⟩
theorem over_fnAngles : Rows.fnAnglesRow.holds Try.pinned (OpenSpec.ofChange Rows.fnAnglesSpec) :=
  OpenClaim.holds_of_wide 7 Try.f7 rfl rfl rfl rfl rfl rfl rfl ⟨rfl, rfl, rfl, rfl, rfl⟩ rfl rfl rfl rfl rfl (by kernel_rfl) Try.func7 closed_fnAngles
    (of_decide_eq_true (by kernel_rfl)) (by unfold Func.isWrapper; first | (rw [if_pos (by decide +kernel)]; kernel_rfl) | (rw [if_neg (by decide +kernel)]; exact ⟨rfl, rfl⟩))
    (fun os started H enc _ => lifted_fnAngles os started H enc)
theorem fnAngles_proved : Rows.FnAnglesSaid := over_fnAngles
#print axioms fnAngles_proved
end Go.Proofs.Ytfngkhkghjgmkaa
