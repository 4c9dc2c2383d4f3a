/- For all arguments, the program's SoftMode returns what the reference's returns, leaves its arguments as they are, and shares no memory: the law FnExactSoftMode returns true, and its arguments read behind the call as before.
Conditions: none. -/
import Derived.Test.YtnpflgeenecaeaaGreatVU5
import Derived.Test.YtnpflgeenecaeaaGreatF4
import Derived.Handed
import Derived.ProofKit
import Derived.OpenShut
namespace Go.Proofs.YtnpflgeenecaeaaGreat
set_option linter.all false
open Go Go.Awp Go.ChangeShapes Go.WideShapes Go.ChangeAt Go.RowKit
set_option maxRecDepth 100000
set_option maxHeartbeats 0

theorem make_fnExactSoftMode : (Tryz.pinned.checked.prog.make == some Rows.fnExactSoftModeRow.make) = true := pin_make
theorem closed_fnExactSoftMode : joinedFacts Tryz.pinned.checked.prog 9 Tryz.f9 Rows.fnExactSoftModeSpec Rows.fnExactSoftModeRow = true := by
  unfold joinedFacts
  repeat' (with_reducible refine and_mk ?_ ?_)
  all_goals first
    | with_reducible exact pin_laid
    | with_reducible exact pin_rowed
    | with_reducible exact pin_heard
    | with_reducible exact pin_enter
    | with_reducible exact pin_stops
    | with_reducible exact pin_knobs
    | (rw [pin_lifted]; rfl)
    | (rw [pin_plain]; rfl)
    | with_reducible exact make_fnExactSoftMode
    | decide +kernel
theorem lifted_fnExactSoftMode (os : Os) (started : os.Started) (H : Type) (enc : TypeId × Value → H) :
    ReturnsInHanded {} Tryz.checked os 9 .any (Rows.fnExactSoftModeSpec.pre6 enc Tryz.prog Tryz.f9 Rows.fnExactSoftModeRow.domain false) (Rows.fnExactSoftModeSpec.post enc Tryz.prog Tryz.f9 false true false false) := by
  refine true_lifted (C := Tryz.checked) fac_own fac_laid started (by kernel_rfl) Tryz.func9 rfl rfl
    (ChangeSpec.witness6 (enc := enc) (C := Tryz.checked) false ⟨#[], #[.agg #[.slice none 0 0, .slice none 0 0, .slice none 0 0, .float .f32 0, .float .f32 0, .slice none 0 0, .float .f32 0, .float .f32 0, .float .f32 0],.slice none 0 0,.slice none 0 0,.float .f32 0,.float .f32 0,.int .i64 0], []⟩ 8 (by kernel_rfl) (by kernel_rfl) (by kernel_rfl) (by kernel_rfl))
    rfl rfl Tryz.underlying4 (fun ds hd => ?_) (by kernel_rfl) fun W base args ds p hok h => ?_
  · match ds, hd with
    | [d0, d1, d2, d3, d4, d5], _ => rfl
  · rw [Tryz.params9] at hok h
    obtain ⟨avs, hs, hl, hr⟩ := args_open (P := Tryz.prog) (ts := [32, 53, 22, 27, 27, 2]) (Ss := [_, _, _, _, _, _]) ⟨arg_B, arg_Is, arg_Vs, arg_F, arg_F, arg_I, trivial⟩ (fun j t v ht hv => hok j t v (by simpa using ht) (by simpa using hv)) h
    obtain ⟨_, _, ⟨b0, ⟨hb0, kb0⟩, rfl⟩, ⟨_, _, ⟨x1, ⟨_, hl1⟩, rfl⟩, ⟨_, _, ⟨x2, ⟨_, hl2⟩, rfl⟩, ⟨_, _, ⟨x3, _, rfl⟩, ⟨_, _, ⟨x4, _, rfl⟩, ⟨_, _, ⟨x5, _, rfl⟩, rfl, rfl⟩, rfl⟩, rfl⟩, rfl⟩, rfl⟩, rfl⟩ := hs
    exact ⟨_, relL_of hl hr, law_SoftMode b0 x1 x2 x3 x4 x5 hb0 hl1 hl2⟩
theorem over_fnExactSoftMode : Rows.fnExactSoftModeRow.holds Tryz.pinned (OpenSpec.ofChange Rows.fnExactSoftModeSpec) :=
  OpenClaim.holds_of_wide 9 Tryz.f9 rfl rfl rfl rfl rfl rfl rfl ⟨rfl, rfl, rfl, rfl, rfl⟩ rfl rfl rfl rfl rfl (by kernel_rfl) Tryz.func9 closed_fnExactSoftMode
    (of_decide_eq_true (by kernel_rfl)) (by unfold Func.isWrapper; first | (rw [if_pos (by decide +kernel)]; kernel_rfl) | (rw [if_neg (by decide +kernel)]; exact ⟨rfl, rfl⟩))
    (fun os started H enc _ => lifted_fnExactSoftMode os started H enc)
theorem fnExactSoftMode_proved : Rows.FnExactSoftModeSaid := over_fnExactSoftMode
#print axioms fnExactSoftMode_proved
end Go.Proofs.YtnpflgeenecaeaaGreat
