/- FnFalling: energies fall in steps, and held places stay: the law FnFalling returns true for all arguments.
Conditions: none. -/
import Derived.Test.YtnjpigkijdnpkaaGreatVHF
import Derived.Test.YtnjpigkijdnpkaaGreatF4
import Derived.Test.YtnjpigkijdnpkaaGreatVLV
import Derived.Handed
import Derived.ProofKit
import Derived.OpenShut
namespace Go.Proofs.YtnjpigkijdnpkaaGreat
set_option linter.all false
open Go Go.Awp Go.ChangeShapes Go.WideShapes Go.ChangeAt Go.RowKit
set_option maxRecDepth 100000
set_option maxHeartbeats 0

theorem make_fnFalling : (Tryz.pinned.checked.prog.make == some Rows.fnFallingRow.make) = true := pin_make
theorem closed_fnFalling : joinedFacts Tryz.pinned.checked.prog 3 Tryz.f3 Rows.fnFallingSpec Rows.fnFallingRow = true := by
  unfold joinedFacts
  repeat' (with_reducible refine and_mk ?_ ?_)
  all_goals first
    | with_reducible exact pin_laid
    | with_reducible exact pin_rowed
    | with_reducible exact pin_heard
    | with_reducible exact pin_enter
    | with_reducible exact pin_stops
    | with_reducible exact pin_knobs
    | (rw [pin_lifted]; rfl)
    | (rw [pin_plain]; rfl)
    | with_reducible exact make_fnFalling
    | decide +kernel
theorem lifted_fnFalling (os : Os) (started : os.Started) (H : Type) (enc : TypeId × Value → H) :
    ReturnsInHanded {} Tryz.checked os 3 .any (Rows.fnFallingSpec.pre6 enc Tryz.prog Tryz.f3 Rows.fnFallingRow.domain false) (Rows.fnFallingSpec.post enc Tryz.prog Tryz.f3 false true false false) := by
  refine true_lifted (C := Tryz.checked) fac_own fac_laid started (by kernel_rfl) Tryz.func3 rfl rfl
    (ChangeSpec.witness6 (enc := enc) (C := Tryz.checked) false ⟨#[], #[.slice none 0 0,.slice none 0 0], []⟩ 8 (by kernel_rfl) (by kernel_rfl) (by kernel_rfl) (by kernel_rfl))
    rfl rfl Tryz.underlying4 (fun ds hd => ?_) (by kernel_rfl) fun W base args ds p hok h => ?_
  · match ds, hd with
    | [d0, d1], _ => rfl
  · rw [Tryz.params3] at hok h
    obtain ⟨avs, hs, hl, hr⟩ := args_open (P := Tryz.prog) (ts := [22, 22]) (Ss := [_, _]) ⟨arg_Bys, arg_Bys, trivial⟩ (fun j t v ht hv => hok j t v (by simpa using ht) (by simpa using hv)) h
    obtain ⟨_, _, ⟨x0, ⟨hb0, hl0⟩, rfl⟩, ⟨_, _, ⟨x1, ⟨hb1, hl1⟩, rfl⟩, rfl, rfl⟩, rfl⟩ := hs
    exact ⟨_, relL_of hl hr, law_FnFalling x0 x1 hb0 hb1 hl0 hl1⟩
theorem over_fnFalling : Rows.fnFallingRow.holds Tryz.pinned (OpenSpec.ofChange Rows.fnFallingSpec) :=
  OpenClaim.holds_of_wide_leaving 3 Tryz.f3 rfl rfl rfl rfl rfl rfl rfl ⟨rfl, rfl, rfl, rfl, rfl⟩ rfl rfl rfl rfl rfl (by kernel_rfl) Tryz.func3 closed_fnFalling
    (of_decide_eq_true (by kernel_rfl)) (by unfold Func.isWrapper; first | (rw [if_pos (by decide +kernel)]; kernel_rfl) | (rw [if_neg (by decide +kernel)]; exact ⟨rfl, rfl⟩))
    (fun os started H enc _ => leaving_of_handed (lifted_fnFalling os started H enc))
theorem fnFalling_proved : Rows.FnFallingSaid := over_fnFalling
#print axioms fnFalling_proved
end Go.Proofs.YtnjpigkijdnpkaaGreat
