/- For all arguments, the program's TearCloth returns what the reference's returns, leaves its arguments as they are, and shares no memory: the law FnExactTearCloth returns true, and its arguments read behind the call as before.
Conditions: none. -/
import Derived.Test.YtafbecgidhoekaaNC
import Derived.Test.YtafbecgidhoekaaA1
import Derived.Test.YtafbecgidhoekaaF4
import Derived.Handed
import Derived.ProofKit
import Derived.OpenShut
namespace Go.Proofs.Ytafbecgidhoekaa
set_option linter.all false
open Go Go.Awp Go.ChangeShapes Go.WideShapes Go.ChangeAt Go.RowKit
set_option maxRecDepth 100000
set_option maxHeartbeats 0

theorem make_fnExactTearCloth : (Try.pinned.checked.prog.make == some Rows.fnExactTearClothRow.make) = true := pin_make
theorem closed_fnExactTearCloth : joinedFacts Try.pinned.checked.prog 13 Try.f13 Rows.fnExactTearClothSpec Rows.fnExactTearClothRow = true := by
  unfold joinedFacts
  repeat' (with_reducible refine and_mk ?_ ?_)
  all_goals first
    | with_reducible exact pin_laid
    | with_reducible exact pin_rowed
    | with_reducible exact pin_heard
    | with_reducible exact pin_enter
    | with_reducible exact pin_stops
    | with_reducible exact pin_knobs
    | (rw [pin_lifted]; rfl)
    | (rw [pin_plain]; rfl)
    | with_reducible exact make_fnExactTearCloth
    | decide +kernel
theorem lifted_fnExactTearCloth (os : Os) (started : os.Started) (H : Type) (enc : TypeId × Value → H) :
    ReturnsInHanded {} Try.checked os 13 .any (Rows.fnExactTearClothSpec.pre6 enc Try.prog Try.f13 Rows.fnExactTearClothRow.domain false) (Rows.fnExactTearClothSpec.post enc Try.prog Try.f13 false true false false) := by
  refine true_lifted (C := Try.checked) fac_own fac_laid started (by kernel_rfl) Try.func13 rfl rfl
    (ChangeSpec.witness6 (enc := enc) (C := Try.checked) false ⟨#[], #[.agg #[.slice none 0 0, .slice none 0 0, .slice none 0 0, .slice none 0 0],.float .f32 0], []⟩ 8 (by kernel_rfl) (by kernel_rfl) (by kernel_rfl) (by kernel_rfl))
    rfl rfl Try.underlying4 (fun ds hd => ?_) (by kernel_rfl) fun W base args ds p hok h => ?_
  · match ds, hd with
    | [d0, d1], _ => rfl
  · rw [Try.params13] at hok h
    obtain ⟨avs, hs, hl, hr⟩ := args_open (P := Try.prog) (ts := [26, 42]) (Ss := [_, _]) ⟨arg_C, arg_F, trivial⟩ (fun j t v ht hv => hok j t v (by simpa using ht) (by simpa using hv)) h
    obtain ⟨_, _, ⟨c0, ⟨hc0, kc0⟩, rfl⟩, ⟨_, _, ⟨x1, _, rfl⟩, rfl, rfl⟩, rfl⟩ := hs
    exact ⟨_, relL_of hl hr, law_TearCloth c0 x1 hc0⟩
theorem over_fnExactTearCloth : Rows.fnExactTearClothRow.holds Try.pinned (OpenSpec.ofChange Rows.fnExactTearClothSpec) :=
  OpenClaim.holds_of_wide 13 Try.f13 rfl rfl rfl rfl rfl rfl rfl ⟨rfl, rfl, rfl, rfl, rfl⟩ rfl rfl rfl rfl rfl (by kernel_rfl) Try.func13 closed_fnExactTearCloth
    (of_decide_eq_true (by kernel_rfl)) (by unfold Func.isWrapper; first | (rw [if_pos (by decide +kernel)]; kernel_rfl) | (rw [if_neg (by decide +kernel)]; exact ⟨rfl, rfl⟩))
    (fun os started H enc _ => lifted_fnExactTearCloth os started H enc)
theorem fnExactTearCloth_proved : Rows.FnExactTearClothSaid := over_fnExactTearCloth
#print axioms fnExactTearCloth_proved
end Go.Proofs.Ytafbecgidhoekaa
