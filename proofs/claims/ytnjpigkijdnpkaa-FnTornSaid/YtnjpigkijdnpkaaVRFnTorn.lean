/- FnTorn: only threads that are stretched too far are torn, and a floor holds what is not pinned: the law FnTorn returns true for all arguments.
Conditions: none. -/
import Derived.Test.YtnjpigkijdnpkaaVTP
import Derived.Test.YtnjpigkijdnpkaaF4
import Derived.Handed
import Derived.ProofKit
import Derived.OpenShut
namespace Go.Proofs.Ytnjpigkijdnpkaa
set_option linter.all false
open Go Go.Awp Go.ChangeShapes Go.WideShapes Go.ChangeAt Go.RowKit
set_option maxRecDepth 100000
set_option maxHeartbeats 0

theorem make_fnTorn : (Try.pinned.checked.prog.make == some Rows.fnTornRow.make) = true := pin_make
theorem closed_fnTorn : joinedFacts Try.pinned.checked.prog 5 Try.f5 Rows.fnTornSpec Rows.fnTornRow = true := by
  unfold joinedFacts
  repeat' (with_reducible refine and_mk ?_ ?_)
  all_goals first
    | with_reducible exact pin_laid
    | with_reducible exact pin_rowed
    | with_reducible exact pin_heard
    | with_reducible exact pin_enter
    | with_reducible exact pin_stops
    | with_reducible exact pin_knobs
    | (rw [pin_lifted]; rfl)
    | (rw [pin_plain]; rfl)
    | with_reducible exact make_fnTorn
    | decide +kernel
theorem lifted_fnTorn (os : Os) (started : os.Started) (H : Type) (enc : TypeId × Value → H) :
    ReturnsInHanded {} Try.checked os 5 .any (Rows.fnTornSpec.pre6 enc Try.prog Try.f5 Rows.fnTornRow.domain false) (Rows.fnTornSpec.post enc Try.prog Try.f5 false true false false) := by
  refine true_lifted (C := Try.checked) fac_own fac_laid started (by kernel_rfl) Try.func5 rfl rfl
    (ChangeSpec.witness6 (enc := enc) (C := Try.checked) false ⟨#[], #[.slice none 0 0,.slice none 0 0], []⟩ 8 (by kernel_rfl) (by kernel_rfl) (by kernel_rfl) (by kernel_rfl))
    rfl rfl Try.underlying4 (fun ds hd => ?_) (by kernel_rfl) fun W base args ds p hok h => ?_
  · match ds, hd with
    | [d0, d1], _ => rfl
  · rw [Try.params5] at hok h
    obtain ⟨avs, hs, hl, hr⟩ := args_open (P := Try.prog) (ts := [22, 22]) (Ss := [_, _]) ⟨arg_Bys, arg_Bys, trivial⟩ (fun j t v ht hv => hok j t v (by simpa using ht) (by simpa using hv)) h
    obtain ⟨_, _, ⟨x0, ⟨hb0, hl0⟩, rfl⟩, ⟨_, _, ⟨x1, ⟨hb1, hl1⟩, rfl⟩, rfl, rfl⟩, rfl⟩ := hs
    exact ⟨_, relL_of hl hr, law_FnTorn x0 x1 hb0 hb1 hl0 hl1⟩
theorem over_fnTorn : Rows.fnTornRow.holds Try.pinned (OpenSpec.ofChange Rows.fnTornSpec) :=
  OpenClaim.holds_of_wide 5 Try.f5 rfl rfl rfl rfl rfl rfl rfl ⟨rfl, rfl, rfl, rfl, rfl⟩ rfl rfl rfl rfl rfl (by kernel_rfl) Try.func5 closed_fnTorn
    (of_decide_eq_true (by kernel_rfl)) (by unfold Func.isWrapper; first | (rw [if_pos (by decide +kernel)]; kernel_rfl) | (rw [if_neg (by decide +kernel)]; exact ⟨rfl, rfl⟩))
    (fun os started H enc _ => lifted_fnTorn os started H enc)
theorem fnTorn_proved : Rows.FnTornSaid := over_fnTorn
#print axioms fnTorn_proved
end Go.Proofs.Ytnjpigkijdnpkaa
