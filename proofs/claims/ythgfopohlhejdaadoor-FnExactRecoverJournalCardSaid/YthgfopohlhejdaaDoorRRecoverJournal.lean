/- FnExactRecoverJournal: the program's RecoverJournal returns what the reference's returns: the law FnExactRecoverJournal returns true for all arguments, the library's tables tied to the program's text.
Conditions: none. -/
import Derived.Test.YthgfopohlhejdaaDoorX4
import Derived.Test.YthgfopohlhejdaaDoorX5
import Derived.Test.YthgfopohlhejdaaDoorF4
import Derived.Test.YthgfopohlhejdaaDoorTie
import Derived.Handed
import Derived.ProofKit
import Derived.OpenShut
import Derived.SevenTiedAt
import Derived.Stop.Joined
namespace Go.Proofs.YthgfopohlhejdaaDoor
set_option linter.all false
open Go Go.Awp Go.ChangeShapes Go.WideShapes Go.ChangeAt Go.RowKit
set_option maxRecDepth 100000
set_option maxHeartbeats 0

theorem make_fnExactRecoverJournal : (Tryd.pinned.checked.prog.make == some Rows.fnExactRecoverJournalRow.make) = true := pin_make
theorem closed_fnExactRecoverJournal : joinedFacts Tryd.pinned.checked.prog 4 Tryd.f4 Rows.fnExactRecoverJournalSpec Rows.fnExactRecoverJournalRow = true := by
  unfold joinedFacts
  repeat' (with_reducible refine and_mk ?_ ?_)
  all_goals first
    | with_reducible exact pin_laid
    | with_reducible exact pin_rowed
    | with_reducible exact pin_heard
    | with_reducible exact pin_enter
    | with_reducible exact pin_stops
    | with_reducible exact pin_knobs
    | (rw [pin_lifted]; rfl)
    | (rw [pin_plain]; rfl)
    | with_reducible exact make_fnExactRecoverJournal
    | decide +kernel
theorem lifted_fnExactRecoverJournal (os : Os) (started : os.Started) (H : Type) (enc : TypeId × Value → H) :
    ReturnsInHanded {} Tryd.checked os 4 .any (fun w args => (Rows.fnExactRecoverJournalSpec.pre enc Tryd.prog Tryd.f4 Rows.fnExactRecoverJournalRow.domain false w args ∧ laidMetH Tryd.prog Rows.fnExactRecoverJournalRow.laid w) ∧ sizedMet enc Tryd.prog Tryd.f4 (OpenSpec.ofChange Rows.fnExactRecoverJournalSpec) false w args) (Rows.fnExactRecoverJournalSpec.post enc Tryd.prog Tryd.f4 false true false false) := by
  refine true_lifted_laid (C := Tryd.checked) fac_own fac_laid started (by kernel_rfl) Tryd.func4 rfl rfl
    (ChangeSpec.witness_shaped (enc := enc) (C := Tryd.checked) (os := os) (X := fun w _ => laidMetH Tryd.prog Rows.fnExactRecoverJournalRow.laid w) false (World.laidAll Tryd.prog os Rows.fnExactRecoverJournalRow.laid) #[.string ⟨#[]⟩] 8 (World.laidAll_os _ _ _)
      (World.shaped_of_ZipB (by kernel_rfl) (by kernel_rfl)) (by kernel_rfl) (by kernel_rfl) (by kernel_rfl)
      (by rw [MakeChecks.laidMetH_plain _ _ _ (by kernel_rfl)]; exact laidMet_laidAll _ (by kernel_rfl) (by kernel_rfl)))
    rfl rfl Tryd.underlying4 (fun ds hd => ?_) (by kernel_rfl) (fun W base args ds p hok h => ?_) fun W h1 h2 => glob_ok h1 h2
  · match ds, hd with
    | [d0], _ => rfl
  · rw [Tryd.params4] at hok h
    obtain ⟨avs, hs, hl, hr⟩ := args_open (P := Tryd.prog) (ts := [9]) (Ss := [_]) ⟨arg_Str, trivial⟩ (fun j t v ht hv => hok j t v (by simpa using ht) (by simpa using hv)) h
    obtain ⟨_, _, ⟨x0, hb0, rfl⟩, rfl, rfl⟩ := hs
    exact ⟨_, relL_of hl hr, law_FnExactRecoverJournal x0⟩
theorem over_fnExactRecoverJournal : Rows.fnExactRecoverJournalRow.holds Tryd.pinned (OpenSpec.ofChange Rows.fnExactRecoverJournalSpec) :=
  OpenClaim.holds_of_wide 4 Tryd.f4 rfl rfl rfl rfl rfl rfl rfl ⟨rfl, rfl, rfl, rfl, rfl⟩ rfl rfl rfl rfl rfl (by kernel_rfl) Tryd.func4 closed_fnExactRecoverJournal
    (of_decide_eq_true (by kernel_rfl)) (by unfold Func.isWrapper; first | (rw [if_pos (by decide +kernel)]; kernel_rfl) | (rw [if_neg (by decide +kernel)]; exact ⟨rfl, rfl⟩))
    (fun os started H enc _ => lifted_fnExactRecoverJournal os started H enc)
theorem fnExactRecoverJournal_proved : Rows.FnExactRecoverJournalCardSaid :=
  Claim7.holds_tied_plain_at .later [] [.data, .data, .data] true (true, "02f9b67c4bbc3705ccc49466d8a5e532d1df33f501638114e76c331abbbd111a") true
    over_fnExactRecoverJournal (fun _ h => by cases h) (by kernel_rfl) (fun _ h => by cases h) fnExactRecoverJournal_row_tie rfl ⟨rfl, rfl⟩ (by kernel_rfl) rfl
    (fun f fn hf hfn => by
      obtain rfl : f = 4 := Option.some.inj ((show Tryd.prog.funcNamed "loop.example/g01222/laws.FnExactRecoverJournal" = some 4 by kernel_rfl).symm.trans hf) |>.symm
      obtain rfl : fn = Tryd.f4 := (Option.some.inj (Tryd.func4.symm.trans hfn)).symm
      exact ⟨by kernel_rfl, fun j t ht => by
        rw [Tryd.params4] at ht
        have hm : t ∈ [9] := by simpa using Array.mem_of_getElem? ht
        have hall : ([9].all fun u => !Tryd.prog.wantsStandIn u) = true := by kernel_rfl
        exact (show Tryd.prog.wantsStandIn t = false by simpa using List.all_eq_true.1 hall t hm)⟩)
    (by kernel_rfl)
#print axioms fnExactRecoverJournal_proved
end Go.Proofs.YthgfopohlhejdaaDoor
