/- For all arguments, the program's StretchOf returns what the reference's returns, leaves its arguments as they are, and shares no memory: the law FnExactStretchOf returns true, and its arguments read behind the call as before.
Conditions: none. -/
import Derived.Test.YtafbecgidhoekaaNA
import Derived.Test.YtafbecgidhoekaaA1
import Derived.Test.YtafbecgidhoekaaF4
import Derived.Handed
import Derived.ProofKit
import Derived.OpenShut
namespace Go.Proofs.Ytafbecgidhoekaa
set_option linter.all false
open Go Go.Awp Go.ChangeShapes Go.WideShapes Go.ChangeAt Go.RowKit
set_option maxRecDepth 100000
set_option maxHeartbeats 0

theorem make_fnExactStretchOf : (Try.pinned.checked.prog.make == some Rows.fnExactStretchOfRow.make) = true := pin_make
theorem closed_fnExactStretchOf : joinedFacts Try.pinned.checked.prog 6 Try.f6 Rows.fnExactStretchOfSpec Rows.fnExactStretchOfRow = true := by
  unfold joinedFacts
  repeat' (with_reducible refine and_mk ?_ ?_)
  all_goals first
    | with_reducible exact pin_laid
    | with_reducible exact pin_rowed
    | with_reducible exact pin_heard
    | with_reducible exact pin_enter
    | with_reducible exact pin_stops
    | with_reducible exact pin_knobs
    | (rw [pin_lifted]; rfl)
    | (rw [pin_plain]; rfl)
    | with_reducible exact make_fnExactStretchOf
    | decide +kernel
theorem lifted_fnExactStretchOf (os : Os) (started : os.Started) (H : Type) (enc : TypeId × Value → H) :
    ReturnsInHanded {} Try.checked os 6 .any (Rows.fnExactStretchOfSpec.pre6 enc Try.prog Try.f6 Rows.fnExactStretchOfRow.domain false) (Rows.fnExactStretchOfSpec.post enc Try.prog Try.f6 false true false false) := by
  refine true_lifted (C := Try.checked) fac_own fac_laid started (by kernel_rfl) Try.func6 rfl rfl
    (ChangeSpec.witness6 (enc := enc) (C := Try.checked) false ⟨#[], #[.agg #[.slice none 0 0, .slice none 0 0, .slice none 0 0, .slice none 0 0]], []⟩ 8 (by kernel_rfl) (by kernel_rfl) (by kernel_rfl) (by kernel_rfl))
    rfl rfl Try.underlying4 (fun ds hd => ?_) (by kernel_rfl) fun W base args ds p hok h => ?_
  · match ds, hd with
    | [d0], _ => rfl
  · rw [Try.params6] at hok h
    obtain ⟨avs, hs, hl, hr⟩ := args_open (P := Try.prog) (ts := [26]) (Ss := [_]) ⟨arg_C, trivial⟩ (fun j t v ht hv => hok j t v (by simpa using ht) (by simpa using hv)) h
    obtain ⟨_, _, ⟨c0, ⟨hc0, kc0⟩, rfl⟩, rfl, rfl⟩ := hs
    exact ⟨_, relL_of hl hr, law_StretchOf c0  hc0⟩
theorem over_fnExactStretchOf : Rows.fnExactStretchOfRow.holds Try.pinned (OpenSpec.ofChange Rows.fnExactStretchOfSpec) :=
  OpenClaim.holds_of_wide 6 Try.f6 rfl rfl rfl rfl rfl rfl rfl ⟨rfl, rfl, rfl, rfl, rfl⟩ rfl rfl rfl rfl rfl (by kernel_rfl) Try.func6 closed_fnExactStretchOf
    (of_decide_eq_true (by kernel_rfl)) (by unfold Func.isWrapper; first | (rw [if_pos (by decide +kernel)]; kernel_rfl) | (rw [if_neg (by decide +kernel)]; exact ⟨rfl, rfl⟩))
    (fun os started H enc _ => lifted_fnExactStretchOf os started H enc)
theorem fnExactStretchOf_proved : Rows.FnExactStretchOfSaid := over_fnExactStretchOf
#print axioms fnExactStretchOf_proved
end Go.Proofs.Ytafbecgidhoekaa
