/- For all arguments, the program's CanBuckle returns what the reference's returns, leaves its arguments as they are, and shares no memory: the law FnExactCanBuckle returns true, and its arguments read behind the call as before.
Conditions: none. -/
import Derived.Test.YtnpflgeenecaeaaGreatVU6
import Derived.Test.YtnpflgeenecaeaaGreatF4
import Derived.Handed
import Derived.ProofKit
import Derived.OpenShut
namespace Go.Proofs.YtnpflgeenecaeaaGreat
set_option linter.all false
open Go Go.Awp Go.ChangeShapes Go.WideShapes Go.ChangeAt Go.RowKit
set_option maxRecDepth 100000
set_option maxHeartbeats 0

theorem make_fnExactCanBuckle : (Tryz.pinned.checked.prog.make == some Rows.fnExactCanBuckleRow.make) = true := pin_make
theorem closed_fnExactCanBuckle : joinedFacts Tryz.pinned.checked.prog 7 Tryz.f7 Rows.fnExactCanBuckleSpec Rows.fnExactCanBuckleRow = true := by
  unfold joinedFacts
  repeat' (with_reducible refine and_mk ?_ ?_)
  all_goals first
    | with_reducible exact pin_laid
    | with_reducible exact pin_rowed
    | with_reducible exact pin_heard
    | with_reducible exact pin_enter
    | with_reducible exact pin_stops
    | with_reducible exact pin_knobs
    | (rw [pin_lifted]; rfl)
    | (rw [pin_plain]; rfl)
    | with_reducible exact make_fnExactCanBuckle
    | decide +kernel
theorem lifted_fnExactCanBuckle (os : Os) (started : os.Started) (H : Type) (enc : TypeId × Value → H) :
    ReturnsInHanded {} Tryz.checked os 7 .any (Rows.fnExactCanBuckleSpec.pre6 enc Tryz.prog Tryz.f7 Rows.fnExactCanBuckleRow.domain false) (Rows.fnExactCanBuckleSpec.post enc Tryz.prog Tryz.f7 false true false false) := by
  refine true_lifted (C := Tryz.checked) fac_own fac_laid started (by kernel_rfl) Tryz.func7 rfl rfl
    (ChangeSpec.witness6 (enc := enc) (C := Tryz.checked) false ⟨#[], #[.agg #[.slice none 0 0, .slice none 0 0, .slice none 0 0, .float .f32 0, .float .f32 0, .slice none 0 0, .float .f32 0, .float .f32 0, .float .f32 0],.slice none 0 0,.slice none 0 0,.float .f32 0,.float .f32 0,.int .i64 0], []⟩ 8 (by kernel_rfl) (by kernel_rfl) (by kernel_rfl) (by kernel_rfl))
    rfl rfl Tryz.underlying4 (fun ds hd => ?_) (by kernel_rfl) fun W base args ds p hok h => ?_
  · match ds, hd with
    | [d0, d1, d2, d3, d4, d5], _ => rfl
  · rw [Tryz.params7] at hok h
    obtain ⟨avs, hs, hl, hr⟩ := args_open (P := Tryz.prog) (ts := [32, 53, 22, 27, 27, 2]) (Ss := [_, _, _, _, _, _]) ⟨arg_B, arg_Is, arg_Vs, arg_F, arg_F, arg_I, trivial⟩ (fun j t v ht hv => hok j t v (by simpa using ht) (by simpa using hv)) h
    obtain ⟨_, _, ⟨b0, ⟨hb0, kb0⟩, rfl⟩, ⟨_, _, ⟨x1, ⟨_, hl1⟩, rfl⟩, ⟨_, _, ⟨x2, ⟨_, hl2⟩, rfl⟩, ⟨_, _, ⟨x3, _, rfl⟩, ⟨_, _, ⟨x4, _, rfl⟩, ⟨_, _, ⟨x5, _, rfl⟩, rfl, rfl⟩, rfl⟩, rfl⟩, rfl⟩, rfl⟩, rfl⟩ := hs
    exact ⟨_, relL_of hl hr, law_CanBuckle b0 x1 x2 x3 x4 x5 hb0 hl1 hl2⟩
theorem over_fnExactCanBuckle : Rows.fnExactCanBuckleRow.holds Tryz.pinned (OpenSpec.ofChange Rows.fnExactCanBuckleSpec) :=
  OpenClaim.holds_of_wide 7 Tryz.f7 rfl rfl rfl rfl rfl rfl rfl ⟨rfl, rfl, rfl, rfl, rfl⟩ rfl rfl rfl rfl rfl (by kernel_rfl) Tryz.func7 closed_fnExactCanBuckle
    (of_decide_eq_true (by kernel_rfl)) (by unfold Func.isWrapper; first | (rw [if_pos (by decide +kernel)]; kernel_rfl) | (rw [if_neg (by decide +kernel)]; exact ⟨rfl, rfl⟩))
    (fun os started H enc _ => lifted_fnExactCanBuckle os started H enc)
theorem fnExactCanBuckle_proved : Rows.FnExactCanBuckleSaid := over_fnExactCanBuckle
#print axioms fnExactCanBuckle_proved
end Go.Proofs.YtnpflgeenecaeaaGreat
