/-
  No cell of these rows narrows 'for every input' (looked for: loops, veiled, ifaces, maps, wideKeys, modest, calm, conditions, laid).
  DERIVED. THE GIVEN ROWS OF THIS SEAT. 5 by the template 'for every input the law returns true; each argument reads behind the call as it read before'; 0 by the template 'total and deterministic' (their statements: YtbjfkhjckfodbaaTotals.lean).
  GIVEN WITH THE SEED: the statements are not yours to turn. If you find one false, say at which input.
  Laid BY PROGRAM, IN A SANDBOX (cutbox-rows.mjs): the forced cells as the released guide's own fill.sh prints them over the translation 3bc63004ded261e9… (all of the seat's roots in one cut). By AI agents, Wed Nov 11 2026. No macro, syntax, notation, axiom, sorry.
-/
import Derived.Test.YtbjfkhjckfodbaaChecked
import GoSem.Claim
import GoSem.ClaimJoined
import GoSem.ClaimMapViews
import Derived.JoinedTies
import Derived.KernelRfl
namespace Go.Proofs.Ytbjfkhjckfodbaa
/- THE CELL 'sum', in the pinned program and in every row, IS THE sha256 OF THE DUMP (.gsa) THAT YtbjfkhjckfodbaaProg.lean LOADS. Nothing in Lean hashes anything: it is a label: what it is worth is what the hold of that sum in a sandbox is worth. -/
noncomputable def Try.pinned : Pinned := { name := "ytbjfkhjckfodbaa", sum := "3bc63004ded261e9a1d851e10cf15248d66963451caf301f074762e9b0240cca", checked := Try.checked }
namespace Rows
def none {H : Type} : Left H := { results := [], args := [] }

/-- 'laws.FnPulls': WHATEVER THE INPUT: true; the input reads as it did. -/
def fnPullsSpec : ChangeSpec := { name := "fnPulls", fn := fun _ => fun
  | [d1, d2] => { results := [.lit (.bool true)], args := [d1, d2] }
  | _ => none }
def fnPullsRow : OpenClaim := { program := "ytbjfkhjckfodbaa", sum := "3bc63004ded261e9a1d851e10cf15248d66963451caf301f074762e9b0240cca", func := "loop.example/g01222/laws.FnPulls", spec := "fnPulls", inPlace := ["math.sqrt", "math.Float64bits"], unfollowed := true, recurses := true, plainKeys := false, apart := false }
def FnPullsSaid : Prop := fnPullsRow.holds Try.pinned (OpenSpec.ofChange fnPullsSpec)

/-- ITS FALSE NEIGHBOUR: 'it returns false'. Refute it at one input. -/
def fnPullsWrong : ChangeSpec := { name := "fnPulls", fn := fun _ => fun
  | [d1, d2] => { results := [.lit (.bool false)], args := [d1, d2] }
  | _ => none }
def FnPullsWrongFalsely : Prop := fnPullsRow.holds Try.pinned (OpenSpec.ofChange fnPullsWrong)

/-- 'laws.FnPinned': WHATEVER THE INPUT: true; the input reads as it did. -/
def fnPinnedSpec : ChangeSpec := { name := "fnPinned", fn := fun _ => fun
  | [d1, d2] => { results := [.lit (.bool true)], args := [d1, d2] }
  | _ => none }
def fnPinnedRow : OpenClaim := { program := "ytbjfkhjckfodbaa", sum := "3bc63004ded261e9a1d851e10cf15248d66963451caf301f074762e9b0240cca", func := "loop.example/g01222/laws.FnPinned", spec := "fnPinned", inPlace := ["math.sqrt", "math.Float64bits"], unfollowed := true, recurses := true, plainKeys := false, apart := false }
def FnPinnedSaid : Prop := fnPinnedRow.holds Try.pinned (OpenSpec.ofChange fnPinnedSpec)

/-- ITS FALSE NEIGHBOUR: 'it returns false'. Refute it at one input. -/
def fnPinnedWrong : ChangeSpec := { name := "fnPinned", fn := fun _ => fun
  | [d1, d2] => { results := [.lit (.bool false)], args := [d1, d2] }
  | _ => none }
def FnPinnedWrongFalsely : Prop := fnPinnedRow.holds Try.pinned (OpenSpec.ofChange fnPinnedWrong)

/-- 'laws.FnLeft': WHATEVER THE INPUT: true; the input reads as it did. -/
def fnLeftSpec : ChangeSpec := { name := "fnLeft", fn := fun _ => fun
  | [d1, d2] => { results := [.lit (.bool true)], args := [d1, d2] }
  | _ => none }
def fnLeftRow : OpenClaim := { program := "ytbjfkhjckfodbaa", sum := "3bc63004ded261e9a1d851e10cf15248d66963451caf301f074762e9b0240cca", func := "loop.example/g01222/laws.FnLeft", spec := "fnLeft", inPlace := ["math.sqrt", "math.Float64frombits", "math.Float64bits"], plainKeys := false, apart := false }
def FnLeftSaid : Prop := fnLeftRow.holds Try.pinned (OpenSpec.ofChange fnLeftSpec)

/-- ITS FALSE NEIGHBOUR: 'it returns false'. Refute it at one input. -/
def fnLeftWrong : ChangeSpec := { name := "fnLeft", fn := fun _ => fun
  | [d1, d2] => { results := [.lit (.bool false)], args := [d1, d2] }
  | _ => none }
def FnLeftWrongFalsely : Prop := fnLeftRow.holds Try.pinned (OpenSpec.ofChange fnLeftWrong)

/-- 'laws.FnHeld': WHATEVER THE INPUT: true; the input reads as it did. -/
def fnHeldSpec : ChangeSpec := { name := "fnHeld", fn := fun _ => fun
  | [d1, d2] => { results := [.lit (.bool true)], args := [d1, d2] }
  | _ => none }
def fnHeldRow : OpenClaim := { program := "ytbjfkhjckfodbaa", sum := "3bc63004ded261e9a1d851e10cf15248d66963451caf301f074762e9b0240cca", func := "loop.example/g01222/laws.FnHeld", spec := "fnHeld", inPlace := ["math.Float64frombits", "math.sqrt", "math.Float64bits"], unfollowed := true, recurses := true, plainKeys := false, apart := false }
def FnHeldSaid : Prop := fnHeldRow.holds Try.pinned (OpenSpec.ofChange fnHeldSpec)

/-- ITS FALSE NEIGHBOUR: 'it returns false'. Refute it at one input. -/
def fnHeldWrong : ChangeSpec := { name := "fnHeld", fn := fun _ => fun
  | [d1, d2] => { results := [.lit (.bool false)], args := [d1, d2] }
  | _ => none }
def FnHeldWrongFalsely : Prop := fnHeldRow.holds Try.pinned (OpenSpec.ofChange fnHeldWrong)

/-- 'laws.FnCloths': WHATEVER THE INPUT: true; the input reads as it did. -/
def fnClothsSpec : ChangeSpec := { name := "fnCloths", fn := fun _ => fun
  | [d1, d2] => { results := [.lit (.bool true)], args := [d1, d2] }
  | _ => none }
def fnClothsRow : OpenClaim := { program := "ytbjfkhjckfodbaa", sum := "3bc63004ded261e9a1d851e10cf15248d66963451caf301f074762e9b0240cca", func := "loop.example/g01222/laws.FnCloths", spec := "fnCloths", inPlace := ["math.Float64frombits", "math.sqrt"], unfollowed := true, recurses := true, plainKeys := false, apart := false }
def FnClothsSaid : Prop := fnClothsRow.holds Try.pinned (OpenSpec.ofChange fnClothsSpec)

/-- ITS FALSE NEIGHBOUR: 'it returns false'. Refute it at one input. -/
def fnClothsWrong : ChangeSpec := { name := "fnCloths", fn := fun _ => fun
  | [d1, d2] => { results := [.lit (.bool false)], args := [d1, d2] }
  | _ => none }
def FnClothsWrongFalsely : Prop := fnClothsRow.holds Try.pinned (OpenSpec.ofChange fnClothsWrong)

/- THE SECOND FORM. 'bulk': how many values and letters a reading holds, each counted each time it is reached (what is shared counts as often as it is met; a slice's spare places count too). A statement '..UptoSaid' is the law's where the arguments, and the package variables that the reading takes, are together of bulk at most 1048576: NARROWER than '..Said'. Prove '..Said' where nothing that the law and all that it calls make is longer than what came in: it says more and counts as full. Else prove '..UptoSaid'. A law counts once. -/
mutual
def uptoBulk {H : Type} : DataW H → Nat
  | .lit (.string bytes) => bytes.length + 1
  | .lit _ => 1
  | .nil => 1
  | .ptr d => uptoBulk d + 1
  | .slice elems spare => uptoBulkAll elems + uptoBulkAll spare + 1
  | .agg parts => uptoBulkAll parts + 1
  | .iface _ d => uptoBulk d + 1
  | .map entries => uptoBulkEntries entries + 1
  | .held _ => 1
def uptoBulkAll {H : Type} : List (DataW H) → Nat
  | [] => 0
  | d :: r => uptoBulk d + uptoBulkAll r
def uptoBulkEntries {H : Type} : List (Lit × DataW H) → Nat
  | [] => 0
  | x :: r => uptoBulkEntry x + uptoBulkEntries r
def uptoBulkEntry {H : Type} : Lit × DataW H → Nat
  | (.string bytes, d) => bytes.length + uptoBulk d + 1
  | (_, d) => uptoBulk d + 1
 end
def uptoSmall : (H : Type) → List (DataW H) → Bool := fun _ ds => decide (uptoBulkAll ds ≤ 1048576)
def OpenSpec.upto (s : _root_.Go.ChangeSpec) : _root_.Go.OpenSpec := { _root_.Go.OpenSpec.ofChange s with cond := some uptoSmall }

/-- 'laws.FnPulls', WHERE WHAT IT READS IS OF BULK AT MOST 1048576: true; the input reads as it did. -/
def fnPullsUptoRow : OpenClaim := { program := "ytbjfkhjckfodbaa", sum := "3bc63004ded261e9a1d851e10cf15248d66963451caf301f074762e9b0240cca", func := "loop.example/g01222/laws.FnPulls", spec := "fnPulls", inPlace := ["math.sqrt", "math.Float64bits"], unfollowed := true, recurses := true, plainKeys := false, apart := false, narrowed := true }
def FnPullsUptoSaid : Prop := fnPullsUptoRow.holds Try.pinned (OpenSpec.upto fnPullsSpec)

/-- 'laws.FnPinned', WHERE WHAT IT READS IS OF BULK AT MOST 1048576: true; the input reads as it did. -/
def fnPinnedUptoRow : OpenClaim := { program := "ytbjfkhjckfodbaa", sum := "3bc63004ded261e9a1d851e10cf15248d66963451caf301f074762e9b0240cca", func := "loop.example/g01222/laws.FnPinned", spec := "fnPinned", inPlace := ["math.sqrt", "math.Float64bits"], unfollowed := true, recurses := true, plainKeys := false, apart := false, narrowed := true }
def FnPinnedUptoSaid : Prop := fnPinnedUptoRow.holds Try.pinned (OpenSpec.upto fnPinnedSpec)

/-- 'laws.FnLeft', WHERE WHAT IT READS IS OF BULK AT MOST 1048576: true; the input reads as it did. -/
def fnLeftUptoRow : OpenClaim := { program := "ytbjfkhjckfodbaa", sum := "3bc63004ded261e9a1d851e10cf15248d66963451caf301f074762e9b0240cca", func := "loop.example/g01222/laws.FnLeft", spec := "fnLeft", inPlace := ["math.sqrt", "math.Float64frombits", "math.Float64bits"], plainKeys := false, apart := false, narrowed := true }
def FnLeftUptoSaid : Prop := fnLeftUptoRow.holds Try.pinned (OpenSpec.upto fnLeftSpec)

/-- 'laws.FnHeld', WHERE WHAT IT READS IS OF BULK AT MOST 1048576: true; the input reads as it did. -/
def fnHeldUptoRow : OpenClaim := { program := "ytbjfkhjckfodbaa", sum := "3bc63004ded261e9a1d851e10cf15248d66963451caf301f074762e9b0240cca", func := "loop.example/g01222/laws.FnHeld", spec := "fnHeld", inPlace := ["math.Float64frombits", "math.sqrt", "math.Float64bits"], unfollowed := true, recurses := true, plainKeys := false, apart := false, narrowed := true }
def FnHeldUptoSaid : Prop := fnHeldUptoRow.holds Try.pinned (OpenSpec.upto fnHeldSpec)

/-- 'laws.FnCloths', WHERE WHAT IT READS IS OF BULK AT MOST 1048576: true; the input reads as it did. -/
def fnClothsUptoRow : OpenClaim := { program := "ytbjfkhjckfodbaa", sum := "3bc63004ded261e9a1d851e10cf15248d66963451caf301f074762e9b0240cca", func := "loop.example/g01222/laws.FnCloths", spec := "fnCloths", inPlace := ["math.Float64frombits", "math.sqrt"], unfollowed := true, recurses := true, plainKeys := false, apart := false, narrowed := true }
def FnClothsUptoSaid : Prop := fnClothsUptoRow.holds Try.pinned (OpenSpec.upto fnClothsSpec)

end Rows
end Go.Proofs.Ytbjfkhjckfodbaa
