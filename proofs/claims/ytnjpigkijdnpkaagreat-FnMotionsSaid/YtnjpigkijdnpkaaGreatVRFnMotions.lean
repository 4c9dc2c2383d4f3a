/- FnMotions: ticks of a motion are made one after another, held places stay and have no speed, and what stands still without forces goes nowhere: the law FnMotions returns true for all arguments.
Conditions: none. -/
import Derived.Test.YtnjpigkijdnpkaaGreatVHJ
import Derived.Test.YtnjpigkijdnpkaaGreatF4
import Derived.Test.YtnjpigkijdnpkaaGreatVLV
import Derived.Handed
import Derived.ProofKit
import Derived.OpenShut
namespace Go.Proofs.YtnjpigkijdnpkaaGreat
set_option linter.all false
open Go Go.Awp Go.ChangeShapes Go.WideShapes Go.ChangeAt Go.RowKit
set_option maxRecDepth 100000
set_option maxHeartbeats 0

theorem make_fnMotions : (Tryz.pinned.checked.prog.make == some Rows.fnMotionsRow.make) = true := pin_make
theorem closed_fnMotions : joinedFacts Tryz.pinned.checked.prog 4 Tryz.f4 Rows.fnMotionsSpec Rows.fnMotionsRow = true := by
  unfold joinedFacts
  repeat' (with_reducible refine and_mk ?_ ?_)
  all_goals first
    | with_reducible exact pin_laid
    | with_reducible exact pin_rowed
    | with_reducible exact pin_heard
    | with_reducible exact pin_enter
    | with_reducible exact pin_stops
    | with_reducible exact pin_knobs
    | (rw [pin_lifted]; rfl)
    | (rw [pin_plain]; rfl)
    | with_reducible exact make_fnMotions
    | decide +kernel
theorem lifted_fnMotions (os : Os) (started : os.Started) (H : Type) (enc : TypeId × Value → H) :
    ReturnsInHanded {} Tryz.checked os 4 .any (Rows.fnMotionsSpec.pre6 enc Tryz.prog Tryz.f4 Rows.fnMotionsRow.domain false) (Rows.fnMotionsSpec.post enc Tryz.prog Tryz.f4 false true false false) := by
  refine true_lifted (C := Tryz.checked) fac_own fac_laid started (by kernel_rfl) Tryz.func4 rfl rfl
    (ChangeSpec.witness6 (enc := enc) (C := Tryz.checked) false ⟨#[], #[.slice none 0 0,.slice none 0 0], []⟩ 8 (by kernel_rfl) (by kernel_rfl) (by kernel_rfl) (by kernel_rfl))
    rfl rfl Tryz.underlying4 (fun ds hd => ?_) (by kernel_rfl) fun W base args ds p hok h => ?_
  · match ds, hd with
    | [d0, d1], _ => rfl
  · rw [Tryz.params4] at hok h
    obtain ⟨avs, hs, hl, hr⟩ := args_open (P := Tryz.prog) (ts := [22, 22]) (Ss := [_, _]) ⟨arg_Bys, arg_Bys, trivial⟩ (fun j t v ht hv => hok j t v (by simpa using ht) (by simpa using hv)) h
    obtain ⟨_, _, ⟨x0, ⟨hb0, hl0⟩, rfl⟩, ⟨_, _, ⟨x1, ⟨hb1, hl1⟩, rfl⟩, rfl, rfl⟩, rfl⟩ := hs
    exact ⟨_, relL_of hl hr, law_FnMotions x0 x1 hb0 hb1 hl0 hl1⟩
theorem over_fnMotions : Rows.fnMotionsRow.holds Tryz.pinned (OpenSpec.ofChange Rows.fnMotionsSpec) :=
  OpenClaim.holds_of_wide_leaving 4 Tryz.f4 rfl rfl rfl rfl rfl rfl rfl ⟨rfl, rfl, rfl, rfl, rfl⟩ rfl rfl rfl rfl rfl (by kernel_rfl) Tryz.func4 closed_fnMotions
    (of_decide_eq_true (by kernel_rfl)) (by unfold Func.isWrapper; first | (rw [if_pos (by decide +kernel)]; kernel_rfl) | (rw [if_neg (by decide +kernel)]; exact ⟨rfl, rfl⟩))
    (fun os started H enc _ => leaving_of_handed (lifted_fnMotions os started H enc))
theorem fnMotions_proved : Rows.FnMotionsSaid := over_fnMotions
#print axioms fnMotions_proved
end Go.Proofs.YtnjpigkijdnpkaaGreat
