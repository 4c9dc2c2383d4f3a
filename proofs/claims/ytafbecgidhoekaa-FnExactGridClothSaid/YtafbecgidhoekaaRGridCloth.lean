/- For all arguments, the program's GridCloth returns what the reference's returns, leaves its arguments as they are, and shares no memory: the law FnExactGridCloth returns true, and its arguments read behind the call as before.
Conditions: none. -/
import Derived.Test.YtafbecgidhoekaaNF
import Derived.Test.YtafbecgidhoekaaA1
import Derived.Test.YtafbecgidhoekaaF4
import Derived.Handed
import Derived.ProofKit
import Derived.OpenShut
namespace Go.Proofs.Ytafbecgidhoekaa
set_option linter.all false
open Go Go.Awp Go.ChangeShapes Go.WideShapes Go.ChangeAt Go.RowKit
set_option maxRecDepth 100000
set_option maxHeartbeats 0

theorem make_fnExactGridCloth : (Try.pinned.checked.prog.make == some Rows.fnExactGridClothRow.make) = true := pin_make
theorem closed_fnExactGridCloth : joinedFacts Try.pinned.checked.prog 7 Try.f7 Rows.fnExactGridClothSpec Rows.fnExactGridClothRow = true := by
  unfold joinedFacts
  repeat' (with_reducible refine and_mk ?_ ?_)
  all_goals first
    | with_reducible exact pin_laid
    | with_reducible exact pin_rowed
    | with_reducible exact pin_heard
    | with_reducible exact pin_enter
    | with_reducible exact pin_stops
    | with_reducible exact pin_knobs
    | (rw [pin_lifted]; rfl)
    | (rw [pin_plain]; rfl)
    | with_reducible exact make_fnExactGridCloth
    | decide +kernel
theorem lifted_fnExactGridCloth (os : Os) (started : os.Started) (H : Type) (enc : TypeId × Value → H) :
    ReturnsInHanded {} Try.checked os 7 .any (Rows.fnExactGridClothSpec.pre6 enc Try.prog Try.f7 Rows.fnExactGridClothRow.domain false) (Rows.fnExactGridClothSpec.post enc Try.prog Try.f7 false true false false) := by
  refine true_lifted (C := Try.checked) fac_own fac_laid started (by kernel_rfl) Try.func7 rfl rfl
    (ChangeSpec.witness6 (enc := enc) (C := Try.checked) false ⟨#[], #[.int .i64 0,.int .i64 0,.float .f32 0], []⟩ 8 (by kernel_rfl) (by kernel_rfl) (by kernel_rfl) (by kernel_rfl))
    rfl rfl Try.underlying4 (fun ds hd => ?_) (by kernel_rfl) fun W base args ds p hok h => ?_
  · match ds, hd with
    | [d0, d1, d2], _ => rfl
  · rw [Try.params7] at hok h
    obtain ⟨avs, hs, hl, hr⟩ := args_open (P := Try.prog) (ts := [2, 2, 42]) (Ss := [_, _, _]) ⟨arg_I, arg_I, arg_F, trivial⟩ (fun j t v ht hv => hok j t v (by simpa using ht) (by simpa using hv)) h
    obtain ⟨_, _, ⟨x0, _, rfl⟩, ⟨_, _, ⟨x1, _, rfl⟩, ⟨_, _, ⟨x2, _, rfl⟩, rfl, rfl⟩, rfl⟩, rfl⟩ := hs
    exact ⟨_, relL_of hl hr, law_GridCloth x0 x1 x2⟩
theorem over_fnExactGridCloth : Rows.fnExactGridClothRow.holds Try.pinned (OpenSpec.ofChange Rows.fnExactGridClothSpec) :=
  OpenClaim.holds_of_wide 7 Try.f7 rfl rfl rfl rfl rfl rfl rfl ⟨rfl, rfl, rfl, rfl, rfl⟩ rfl rfl rfl rfl rfl (by kernel_rfl) Try.func7 closed_fnExactGridCloth
    (of_decide_eq_true (by kernel_rfl)) (by unfold Func.isWrapper; first | (rw [if_pos (by decide +kernel)]; kernel_rfl) | (rw [if_neg (by decide +kernel)]; exact ⟨rfl, rfl⟩))
    (fun os started H enc _ => lifted_fnExactGridCloth os started H enc)
theorem fnExactGridCloth_proved : Rows.FnExactGridClothSaid := over_fnExactGridCloth
#print axioms fnExactGridCloth_proved
end Go.Proofs.Ytafbecgidhoekaa
