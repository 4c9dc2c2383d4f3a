/-
  No cell of these rows narrows 'for every input' (looked for: loops, veiled, ifaces, maps, wideKeys, modest, calm, conditions, laid).
  DERIVED. THE GIVEN ROWS OF THIS SEAT. 6 by the template 'for every input the law returns true; each argument reads behind the call as it read before'; 0 by the template 'total and deterministic' (their statements: YtfngkhkghjgmkaaTotals.lean).
  GIVEN WITH THE SEED: the statements are not yours to turn. If you find one false, say at which input.
  Laid BY PROGRAM, IN A SANDBOX (cutbox-rows.mjs): the forced cells as the released guide's own fill.sh prints them over the translation daa1af29c659d2e6… (all of the seat's roots in one cut). By AI agents, Wed Nov 11 2026. No macro, syntax, notation, axiom, sorry.
-/
import Derived.Test.YtfngkhkghjgmkaaChecked
import GoSem.Claim
import GoSem.ClaimJoined
import GoSem.ClaimMapViews
import Derived.JoinedTies
import Derived.KernelRfl
namespace Go.Proofs.Ytfngkhkghjgmkaa
/- THE CELL 'sum', in the pinned program and in every row, IS THE sha256 OF THE DUMP (.gsa) THAT YtfngkhkghjgmkaaProg.lean LOADS. Nothing in Lean hashes anything: it is a label: what it is worth is what the hold of that sum in a sandbox is worth. -/
noncomputable def Try.pinned : Pinned := { name := "ytfngkhkghjgmkaa", sum := "daa1af29c659d2e6e8be6d4c0b370f63f486a4773c7f9e88b45ea5f51484f050", checked := Try.checked }
namespace Rows
def none {H : Type} : Left H := { results := [], args := [] }

/-- 'laws.FnNarrowed': WHATEVER THE INPUT: true; the input reads as it did. -/
def fnNarrowedSpec : ChangeSpec := { name := "fnNarrowed", fn := fun _ => fun
  | [d1, d2] => { results := [.lit (.bool true)], args := [d1, d2] }
  | _ => none }
def fnNarrowedRow : OpenClaim := { program := "ytfngkhkghjgmkaa", sum := "daa1af29c659d2e6e8be6d4c0b370f63f486a4773c7f9e88b45ea5f51484f050", func := "loop.example/g01222/laws.FnNarrowed", spec := "fnNarrowed", inPlace := ["math.Float32frombits", "math.Float32bits"], apart := false }
def FnNarrowedSaid : Prop := fnNarrowedRow.holds Try.pinned (OpenSpec.ofChange fnNarrowedSpec)

/-- ITS FALSE NEIGHBOUR: 'it returns false'. Refute it at one input. -/
def fnNarrowedWrong : ChangeSpec := { name := "fnNarrowed", fn := fun _ => fun
  | [d1, d2] => { results := [.lit (.bool false)], args := [d1, d2] }
  | _ => none }
def FnNarrowedWrongFalsely : Prop := fnNarrowedRow.holds Try.pinned (OpenSpec.ofChange fnNarrowedWrong)

/-- 'laws.FnBits': WHATEVER THE INPUT: true; the input reads as it did. -/
def fnBitsSpec : ChangeSpec := { name := "fnBits", fn := fun _ => fun
  | [d1, d2] => { results := [.lit (.bool true)], args := [d1, d2] }
  | _ => none }
def fnBitsRow : OpenClaim := { program := "ytfngkhkghjgmkaa", sum := "daa1af29c659d2e6e8be6d4c0b370f63f486a4773c7f9e88b45ea5f51484f050", func := "loop.example/g01222/laws.FnBits", spec := "fnBits", inPlace := ["math.Float32frombits", "math.Float32bits", "math.Float64bits"], apart := false }
def FnBitsSaid : Prop := fnBitsRow.holds Try.pinned (OpenSpec.ofChange fnBitsSpec)

/-- ITS FALSE NEIGHBOUR: 'it returns false'. Refute it at one input. -/
def fnBitsWrong : ChangeSpec := { name := "fnBits", fn := fun _ => fun
  | [d1, d2] => { results := [.lit (.bool false)], args := [d1, d2] }
  | _ => none }
def FnBitsWrongFalsely : Prop := fnBitsRow.holds Try.pinned (OpenSpec.ofChange fnBitsWrong)

/-- 'laws.FnSums': WHATEVER THE INPUT: true; the input reads as it did. -/
def fnSumsSpec : ChangeSpec := { name := "fnSums", fn := fun _ => fun
  | [d1, d2] => { results := [.lit (.bool true)], args := [d1, d2] }
  | _ => none }
def fnSumsRow : OpenClaim := { program := "ytfngkhkghjgmkaa", sum := "daa1af29c659d2e6e8be6d4c0b370f63f486a4773c7f9e88b45ea5f51484f050", func := "loop.example/g01222/laws.FnSums", spec := "fnSums", inPlace := ["math.Float32frombits", "math.Float32bits"], recurses := true, apart := false }
def FnSumsSaid : Prop := fnSumsRow.holds Try.pinned (OpenSpec.ofChange fnSumsSpec)

/-- ITS FALSE NEIGHBOUR: 'it returns false'. Refute it at one input. -/
def fnSumsWrong : ChangeSpec := { name := "fnSums", fn := fun _ => fun
  | [d1, d2] => { results := [.lit (.bool false)], args := [d1, d2] }
  | _ => none }
def FnSumsWrongFalsely : Prop := fnSumsRow.holds Try.pinned (OpenSpec.ofChange fnSumsWrong)

/-- 'laws.FnExactValidCloth': WHATEVER THE INPUT: true; the input reads as it did. -/
def fnExactValidClothSpec : ChangeSpec := { name := "fnExactValidCloth", fn := fun _ => fun
  | [d] => { results := [.lit (.bool true)], args := [d] }
  | _ => none }
def fnExactValidClothRow : OpenClaim := { program := "ytfngkhkghjgmkaa", sum := "daa1af29c659d2e6e8be6d4c0b370f63f486a4773c7f9e88b45ea5f51484f050", func := "loop.example/g01222/laws.FnExactValidCloth", spec := "fnExactValidCloth", apart := false }
def FnExactValidClothSaid : Prop := fnExactValidClothRow.holds Try.pinned (OpenSpec.ofChange fnExactValidClothSpec)

/-- ITS FALSE NEIGHBOUR: 'it returns false'. Refute it at one input. -/
def fnExactValidClothWrong : ChangeSpec := { name := "fnExactValidCloth", fn := fun _ => fun
  | [d] => { results := [.lit (.bool false)], args := [d] }
  | _ => none }
def FnExactValidClothWrongFalsely : Prop := fnExactValidClothRow.holds Try.pinned (OpenSpec.ofChange fnExactValidClothWrong)

/-- 'laws.FnAngles': WHATEVER THE INPUT: true; the input reads as it did. -/
def fnAnglesSpec : ChangeSpec := { name := "fnAngles", fn := fun _ => fun
  | [d1, d2] => { results := [.lit (.bool true)], args := [d1, d2] }
  | _ => none }
def fnAnglesRow : OpenClaim := { program := "ytfngkhkghjgmkaa", sum := "daa1af29c659d2e6e8be6d4c0b370f63f486a4773c7f9e88b45ea5f51484f050", func := "loop.example/g01222/laws.FnAngles", spec := "fnAngles", inPlace := ["math.Float64frombits", "math.Float64bits", "math.sqrt", "math.Float32frombits", "math.Float32bits"], apart := false }
def FnAnglesSaid : Prop := fnAnglesRow.holds Try.pinned (OpenSpec.ofChange fnAnglesSpec)

/-- ITS FALSE NEIGHBOUR: 'it returns false'. Refute it at one input. -/
def fnAnglesWrong : ChangeSpec := { name := "fnAngles", fn := fun _ => fun
  | [d1, d2] => { results := [.lit (.bool false)], args := [d1, d2] }
  | _ => none }
def FnAnglesWrongFalsely : Prop := fnAnglesRow.holds Try.pinned (OpenSpec.ofChange fnAnglesWrong)

/-- 'laws.FnExactSameCloth': WHATEVER THE INPUT: true; the input reads as it did. -/
def fnExactSameClothSpec : ChangeSpec := { name := "fnExactSameCloth", fn := fun _ => fun
  | [d1, d2] => { results := [.lit (.bool true)], args := [d1, d2] }
  | _ => none }
def fnExactSameClothRow : OpenClaim := { program := "ytfngkhkghjgmkaa", sum := "daa1af29c659d2e6e8be6d4c0b370f63f486a4773c7f9e88b45ea5f51484f050", func := "loop.example/g01222/laws.FnExactSameCloth", spec := "fnExactSameCloth", inPlace := ["math.Float32bits", "math.Float64bits"], unfollowed := true, recurses := true, apart := false }
def FnExactSameClothSaid : Prop := fnExactSameClothRow.holds Try.pinned (OpenSpec.ofChange fnExactSameClothSpec)

/-- ITS FALSE NEIGHBOUR: 'it returns false'. Refute it at one input. -/
def fnExactSameClothWrong : ChangeSpec := { name := "fnExactSameCloth", fn := fun _ => fun
  | [d1, d2] => { results := [.lit (.bool false)], args := [d1, d2] }
  | _ => none }
def FnExactSameClothWrongFalsely : Prop := fnExactSameClothRow.holds Try.pinned (OpenSpec.ofChange fnExactSameClothWrong)

/- THE SECOND FORM. 'bulk': how many values and letters a reading holds, each counted each time it is reached (what is shared counts as often as it is met; a slice's spare places count too). A statement '..UptoSaid' is the law's where the arguments, and the package variables that the reading takes, are together of bulk at most 1048576: NARROWER than '..Said'. Prove '..Said' where nothing that the law and all that it calls make is longer than what came in: it says more and counts as full. Else prove '..UptoSaid'. A law counts once. -/
mutual
def uptoBulk {H : Type} : DataW H → Nat
  | .lit (.string bytes) => bytes.length + 1
  | .lit _ => 1
  | .nil => 1
  | .ptr d => uptoBulk d + 1
  | .slice elems spare => uptoBulkAll elems + uptoBulkAll spare + 1
  | .agg parts => uptoBulkAll parts + 1
  | .iface _ d => uptoBulk d + 1
  | .map entries => uptoBulkEntries entries + 1
  | .held _ => 1
def uptoBulkAll {H : Type} : List (DataW H) → Nat
  | [] => 0
  | d :: r => uptoBulk d + uptoBulkAll r
def uptoBulkEntries {H : Type} : List (Lit × DataW H) → Nat
  | [] => 0
  | x :: r => uptoBulkEntry x + uptoBulkEntries r
def uptoBulkEntry {H : Type} : Lit × DataW H → Nat
  | (.string bytes, d) => bytes.length + uptoBulk d + 1
  | (_, d) => uptoBulk d + 1
 end
def uptoSmall : (H : Type) → List (DataW H) → Bool := fun _ ds => decide (uptoBulkAll ds ≤ 1048576)
def OpenSpec.upto (s : _root_.Go.ChangeSpec) : _root_.Go.OpenSpec := { _root_.Go.OpenSpec.ofChange s with cond := some uptoSmall }

/-- 'laws.FnNarrowed', WHERE WHAT IT READS IS OF BULK AT MOST 1048576: true; the input reads as it did. -/
def fnNarrowedUptoRow : OpenClaim := { program := "ytfngkhkghjgmkaa", sum := "daa1af29c659d2e6e8be6d4c0b370f63f486a4773c7f9e88b45ea5f51484f050", func := "loop.example/g01222/laws.FnNarrowed", spec := "fnNarrowed", inPlace := ["math.Float32frombits", "math.Float32bits"], apart := false, narrowed := true }
def FnNarrowedUptoSaid : Prop := fnNarrowedUptoRow.holds Try.pinned (OpenSpec.upto fnNarrowedSpec)

/-- 'laws.FnBits', WHERE WHAT IT READS IS OF BULK AT MOST 1048576: true; the input reads as it did. -/
def fnBitsUptoRow : OpenClaim := { program := "ytfngkhkghjgmkaa", sum := "daa1af29c659d2e6e8be6d4c0b370f63f486a4773c7f9e88b45ea5f51484f050", func := "loop.example/g01222/laws.FnBits", spec := "fnBits", inPlace := ["math.Float32frombits", "math.Float32bits", "math.Float64bits"], apart := false, narrowed := true }
def FnBitsUptoSaid : Prop := fnBitsUptoRow.holds Try.pinned (OpenSpec.upto fnBitsSpec)

/-- 'laws.FnSums', WHERE WHAT IT READS IS OF BULK AT MOST 1048576: true; the input reads as it did. -/
def fnSumsUptoRow : OpenClaim := { program := "ytfngkhkghjgmkaa", sum := "daa1af29c659d2e6e8be6d4c0b370f63f486a4773c7f9e88b45ea5f51484f050", func := "loop.example/g01222/laws.FnSums", spec := "fnSums", inPlace := ["math.Float32frombits", "math.Float32bits"], recurses := true, apart := false, narrowed := true }
def FnSumsUptoSaid : Prop := fnSumsUptoRow.holds Try.pinned (OpenSpec.upto fnSumsSpec)

/-- 'laws.FnExactValidCloth', WHERE WHAT IT READS IS OF BULK AT MOST 1048576: true; the input reads as it did. -/
def fnExactValidClothUptoRow : OpenClaim := { program := "ytfngkhkghjgmkaa", sum := "daa1af29c659d2e6e8be6d4c0b370f63f486a4773c7f9e88b45ea5f51484f050", func := "loop.example/g01222/laws.FnExactValidCloth", spec := "fnExactValidCloth", apart := false, narrowed := true }
def FnExactValidClothUptoSaid : Prop := fnExactValidClothUptoRow.holds Try.pinned (OpenSpec.upto fnExactValidClothSpec)

/-- 'laws.FnAngles', WHERE WHAT IT READS IS OF BULK AT MOST 1048576: true; the input reads as it did. -/
def fnAnglesUptoRow : OpenClaim := { program := "ytfngkhkghjgmkaa", sum := "daa1af29c659d2e6e8be6d4c0b370f63f486a4773c7f9e88b45ea5f51484f050", func := "loop.example/g01222/laws.FnAngles", spec := "fnAngles", inPlace := ["math.Float64frombits", "math.Float64bits", "math.sqrt", "math.Float32frombits", "math.Float32bits"], apart := false, narrowed := true }
def FnAnglesUptoSaid : Prop := fnAnglesUptoRow.holds Try.pinned (OpenSpec.upto fnAnglesSpec)

/-- 'laws.FnExactSameCloth', WHERE WHAT IT READS IS OF BULK AT MOST 1048576: true; the input reads as it did. -/
def fnExactSameClothUptoRow : OpenClaim := { program := "ytfngkhkghjgmkaa", sum := "daa1af29c659d2e6e8be6d4c0b370f63f486a4773c7f9e88b45ea5f51484f050", func := "loop.example/g01222/laws.FnExactSameCloth", spec := "fnExactSameCloth", inPlace := ["math.Float32bits", "math.Float64bits"], unfollowed := true, recurses := true, apart := false, narrowed := true }
def FnExactSameClothUptoSaid : Prop := fnExactSameClothUptoRow.holds Try.pinned (OpenSpec.upto fnExactSameClothSpec)

end Rows
end Go.Proofs.Ytfngkhkghjgmkaa
