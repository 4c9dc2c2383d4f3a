/-
  No cell of these rows narrows 'for every input' (looked for: loops, veiled, ifaces, maps, wideKeys, modest, calm, conditions, laid).
  DERIVED. THE GIVEN ROWS OF THIS SEAT. 16 by the template 'for every input the law returns true; each argument reads behind the call as it read before'; 0 by the template 'total and deterministic' (their statements: YtafbecgidhoekaaTotals.lean).
  GIVEN WITH THE SEED: the statements are not yours to turn. If you find one false, say at which input.
  Laid BY PROGRAM, IN A SANDBOX (cutbox-rows.mjs): the forced cells as the released guide's own fill.sh prints them over the translation 58e0d3de81ada49e… (all of the seat's roots in one cut). By AI agents, Wed Nov 11 2026. No macro, syntax, notation, axiom, sorry.
-/
import Derived.Test.YtafbecgidhoekaaChecked
import GoSem.Claim
import GoSem.ClaimJoined
import GoSem.ClaimMapViews
import Derived.JoinedTies
import Derived.KernelRfl
namespace Go.Proofs.Ytafbecgidhoekaa
/- THE CELL 'sum', in the pinned program and in every row, IS THE sha256 OF THE DUMP (.gsa) THAT YtafbecgidhoekaaProg.lean LOADS. Nothing in Lean hashes anything: it is a label: what it is worth is what the hold of that sum in a sandbox is worth. -/
noncomputable def Try.pinned : Pinned := { name := "ytafbecgidhoekaa", sum := "58e0d3de81ada49e0c1a75147966e88754ab97b93a574d7e2284b14fd0f37817", checked := Try.checked }
namespace Rows
def none {H : Type} : Left H := { results := [], args := [] }

/-- 'laws.FnExactValidCloth': WHATEVER THE INPUT: true; the input reads as it did. -/
def fnExactValidClothSpec : ChangeSpec := { name := "fnExactValidCloth", fn := fun _ => fun
  | [d] => { results := [.lit (.bool true)], args := [d] }
  | _ => none }
def fnExactValidClothRow : OpenClaim := { program := "ytafbecgidhoekaa", sum := "58e0d3de81ada49e0c1a75147966e88754ab97b93a574d7e2284b14fd0f37817", func := "loop.example/g01222/laws.FnExactValidCloth", spec := "fnExactValidCloth", apart := false }
def FnExactValidClothSaid : Prop := fnExactValidClothRow.holds Try.pinned (OpenSpec.ofChange fnExactValidClothSpec)

/-- ITS FALSE NEIGHBOUR: 'it returns false'. Refute it at one input. -/
def fnExactValidClothWrong : ChangeSpec := { name := "fnExactValidCloth", fn := fun _ => fun
  | [d] => { results := [.lit (.bool false)], args := [d] }
  | _ => none }
def FnExactValidClothWrongFalsely : Prop := fnExactValidClothRow.holds Try.pinned (OpenSpec.ofChange fnExactValidClothWrong)

/-- 'laws.FnExactSameCloth': WHATEVER THE INPUT: true; the input reads as it did. -/
def fnExactSameClothSpec : ChangeSpec := { name := "fnExactSameCloth", fn := fun _ => fun
  | [d1, d2] => { results := [.lit (.bool true)], args := [d1, d2] }
  | _ => none }
def fnExactSameClothRow : OpenClaim := { program := "ytafbecgidhoekaa", sum := "58e0d3de81ada49e0c1a75147966e88754ab97b93a574d7e2284b14fd0f37817", func := "loop.example/g01222/laws.FnExactSameCloth", spec := "fnExactSameCloth", inPlace := ["math.Float32bits", "math.Float64bits"], unfollowed := true, recurses := true, apart := false }
def FnExactSameClothSaid : Prop := fnExactSameClothRow.holds Try.pinned (OpenSpec.ofChange fnExactSameClothSpec)

/-- ITS FALSE NEIGHBOUR: 'it returns false'. Refute it at one input. -/
def fnExactSameClothWrong : ChangeSpec := { name := "fnExactSameCloth", fn := fun _ => fun
  | [d1, d2] => { results := [.lit (.bool false)], args := [d1, d2] }
  | _ => none }
def FnExactSameClothWrongFalsely : Prop := fnExactSameClothRow.holds Try.pinned (OpenSpec.ofChange fnExactSameClothWrong)

/-- 'laws.FnExactPiecesOfCloth': WHATEVER THE INPUT: true; the input reads as it did. -/
def fnExactPiecesOfClothSpec : ChangeSpec := { name := "fnExactPiecesOfCloth", fn := fun _ => fun
  | [d] => { results := [.lit (.bool true)], args := [d] }
  | _ => none }
def fnExactPiecesOfClothRow : OpenClaim := { program := "ytafbecgidhoekaa", sum := "58e0d3de81ada49e0c1a75147966e88754ab97b93a574d7e2284b14fd0f37817", func := "loop.example/g01222/laws.FnExactPiecesOfCloth", spec := "fnExactPiecesOfCloth", apart := false }
def FnExactPiecesOfClothSaid : Prop := fnExactPiecesOfClothRow.holds Try.pinned (OpenSpec.ofChange fnExactPiecesOfClothSpec)

/-- ITS FALSE NEIGHBOUR: 'it returns false'. Refute it at one input. -/
def fnExactPiecesOfClothWrong : ChangeSpec := { name := "fnExactPiecesOfCloth", fn := fun _ => fun
  | [d] => { results := [.lit (.bool false)], args := [d] }
  | _ => none }
def FnExactPiecesOfClothWrongFalsely : Prop := fnExactPiecesOfClothRow.holds Try.pinned (OpenSpec.ofChange fnExactPiecesOfClothWrong)

/-- 'laws.FnExactStretchOf': WHATEVER THE INPUT: true; the input reads as it did. -/
def fnExactStretchOfSpec : ChangeSpec := { name := "fnExactStretchOf", fn := fun _ => fun
  | [d] => { results := [.lit (.bool true)], args := [d] }
  | _ => none }
def fnExactStretchOfRow : OpenClaim := { program := "ytafbecgidhoekaa", sum := "58e0d3de81ada49e0c1a75147966e88754ab97b93a574d7e2284b14fd0f37817", func := "loop.example/g01222/laws.FnExactStretchOf", spec := "fnExactStretchOf", inPlace := ["math.sqrt"], apart := false }
def FnExactStretchOfSaid : Prop := fnExactStretchOfRow.holds Try.pinned (OpenSpec.ofChange fnExactStretchOfSpec)

/-- ITS FALSE NEIGHBOUR: 'it returns false'. Refute it at one input. -/
def fnExactStretchOfWrong : ChangeSpec := { name := "fnExactStretchOf", fn := fun _ => fun
  | [d] => { results := [.lit (.bool false)], args := [d] }
  | _ => none }
def FnExactStretchOfWrongFalsely : Prop := fnExactStretchOfRow.holds Try.pinned (OpenSpec.ofChange fnExactStretchOfWrong)

/-- 'laws.FnExactGridCloth': WHATEVER THE INPUT: true; the input reads as it did. -/
def fnExactGridClothSpec : ChangeSpec := { name := "fnExactGridCloth", fn := fun _ => fun
  | [d1, d2, d3] => { results := [.lit (.bool true)], args := [d1, d2, d3] }
  | _ => none }
def fnExactGridClothRow : OpenClaim := { program := "ytafbecgidhoekaa", sum := "58e0d3de81ada49e0c1a75147966e88754ab97b93a574d7e2284b14fd0f37817", func := "loop.example/g01222/laws.FnExactGridCloth", spec := "fnExactGridCloth", apart := false }
def FnExactGridClothSaid : Prop := fnExactGridClothRow.holds Try.pinned (OpenSpec.ofChange fnExactGridClothSpec)

/-- ITS FALSE NEIGHBOUR: 'it returns false'. Refute it at one input. -/
def fnExactGridClothWrong : ChangeSpec := { name := "fnExactGridCloth", fn := fun _ => fun
  | [d1, d2, d3] => { results := [.lit (.bool false)], args := [d1, d2, d3] }
  | _ => none }
def FnExactGridClothWrongFalsely : Prop := fnExactGridClothRow.holds Try.pinned (OpenSpec.ofChange fnExactGridClothWrong)

/-- 'laws.FnExactPinCloth': WHATEVER THE INPUT: true; the input reads as it did. -/
def fnExactPinClothSpec : ChangeSpec := { name := "fnExactPinCloth", fn := fun _ => fun
  | [d1, d2] => { results := [.lit (.bool true)], args := [d1, d2] }
  | _ => none }
def fnExactPinClothRow : OpenClaim := { program := "ytafbecgidhoekaa", sum := "58e0d3de81ada49e0c1a75147966e88754ab97b93a574d7e2284b14fd0f37817", func := "loop.example/g01222/laws.FnExactPinCloth", spec := "fnExactPinCloth", apart := false }
def FnExactPinClothSaid : Prop := fnExactPinClothRow.holds Try.pinned (OpenSpec.ofChange fnExactPinClothSpec)

/-- ITS FALSE NEIGHBOUR: 'it returns false'. Refute it at one input. -/
def fnExactPinClothWrong : ChangeSpec := { name := "fnExactPinCloth", fn := fun _ => fun
  | [d1, d2] => { results := [.lit (.bool false)], args := [d1, d2] }
  | _ => none }
def FnExactPinClothWrongFalsely : Prop := fnExactPinClothRow.holds Try.pinned (OpenSpec.ofChange fnExactPinClothWrong)

/-- 'laws.FnExactMoveCloth': WHATEVER THE INPUT: true; the input reads as it did. -/
def fnExactMoveClothSpec : ChangeSpec := { name := "fnExactMoveCloth", fn := fun _ => fun
  | [d1, d2] => { results := [.lit (.bool true)], args := [d1, d2] }
  | _ => none }
def fnExactMoveClothRow : OpenClaim := { program := "ytafbecgidhoekaa", sum := "58e0d3de81ada49e0c1a75147966e88754ab97b93a574d7e2284b14fd0f37817", func := "loop.example/g01222/laws.FnExactMoveCloth", spec := "fnExactMoveCloth", apart := false }
def FnExactMoveClothSaid : Prop := fnExactMoveClothRow.holds Try.pinned (OpenSpec.ofChange fnExactMoveClothSpec)

/-- ITS FALSE NEIGHBOUR: 'it returns false'. Refute it at one input. -/
def fnExactMoveClothWrong : ChangeSpec := { name := "fnExactMoveCloth", fn := fun _ => fun
  | [d1, d2] => { results := [.lit (.bool false)], args := [d1, d2] }
  | _ => none }
def FnExactMoveClothWrongFalsely : Prop := fnExactMoveClothRow.holds Try.pinned (OpenSpec.ofChange fnExactMoveClothWrong)

/-- 'laws.FnExactFloorCloth': WHATEVER THE INPUT: true; the input reads as it did. -/
def fnExactFloorClothSpec : ChangeSpec := { name := "fnExactFloorCloth", fn := fun _ => fun
  | [d1, d2] => { results := [.lit (.bool true)], args := [d1, d2] }
  | _ => none }
def fnExactFloorClothRow : OpenClaim := { program := "ytafbecgidhoekaa", sum := "58e0d3de81ada49e0c1a75147966e88754ab97b93a574d7e2284b14fd0f37817", func := "loop.example/g01222/laws.FnExactFloorCloth", spec := "fnExactFloorCloth", apart := false }
def FnExactFloorClothSaid : Prop := fnExactFloorClothRow.holds Try.pinned (OpenSpec.ofChange fnExactFloorClothSpec)

/-- ITS FALSE NEIGHBOUR: 'it returns false'. Refute it at one input. -/
def fnExactFloorClothWrong : ChangeSpec := { name := "fnExactFloorCloth", fn := fun _ => fun
  | [d1, d2] => { results := [.lit (.bool false)], args := [d1, d2] }
  | _ => none }
def FnExactFloorClothWrongFalsely : Prop := fnExactFloorClothRow.holds Try.pinned (OpenSpec.ofChange fnExactFloorClothWrong)

/-- 'laws.FnExactInsideBall': WHATEVER THE INPUT: true; the input reads as it did. -/
def fnExactInsideBallSpec : ChangeSpec := { name := "fnExactInsideBall", fn := fun _ => fun
  | [d1, d2, d3] => { results := [.lit (.bool true)], args := [d1, d2, d3] }
  | _ => none }
def fnExactInsideBallRow : OpenClaim := { program := "ytafbecgidhoekaa", sum := "58e0d3de81ada49e0c1a75147966e88754ab97b93a574d7e2284b14fd0f37817", func := "loop.example/g01222/laws.FnExactInsideBall", spec := "fnExactInsideBall", inPlace := ["math.sqrt"], apart := false }
def FnExactInsideBallSaid : Prop := fnExactInsideBallRow.holds Try.pinned (OpenSpec.ofChange fnExactInsideBallSpec)

/-- ITS FALSE NEIGHBOUR: 'it returns false'. Refute it at one input. -/
def fnExactInsideBallWrong : ChangeSpec := { name := "fnExactInsideBall", fn := fun _ => fun
  | [d1, d2, d3] => { results := [.lit (.bool false)], args := [d1, d2, d3] }
  | _ => none }
def FnExactInsideBallWrongFalsely : Prop := fnExactInsideBallRow.holds Try.pinned (OpenSpec.ofChange fnExactInsideBallWrong)

/-- 'laws.FnExactFallCloth': WHATEVER THE INPUT: true; the input reads as it did. -/
def fnExactFallClothSpec : ChangeSpec := { name := "fnExactFallCloth", fn := fun _ => fun
  | [d1, d2, d3] => { results := [.lit (.bool true)], args := [d1, d2, d3] }
  | _ => none }
def fnExactFallClothRow : OpenClaim := { program := "ytafbecgidhoekaa", sum := "58e0d3de81ada49e0c1a75147966e88754ab97b93a574d7e2284b14fd0f37817", func := "loop.example/g01222/laws.FnExactFallCloth", spec := "fnExactFallCloth", apart := false }
def FnExactFallClothSaid : Prop := fnExactFallClothRow.holds Try.pinned (OpenSpec.ofChange fnExactFallClothSpec)

/-- ITS FALSE NEIGHBOUR: 'it returns false'. Refute it at one input. -/
def fnExactFallClothWrong : ChangeSpec := { name := "fnExactFallCloth", fn := fun _ => fun
  | [d1, d2, d3] => { results := [.lit (.bool false)], args := [d1, d2, d3] }
  | _ => none }
def FnExactFallClothWrongFalsely : Prop := fnExactFallClothRow.holds Try.pinned (OpenSpec.ofChange fnExactFallClothWrong)

/-- 'laws.FnExactTearCloth': WHATEVER THE INPUT: true; the input reads as it did. -/
def fnExactTearClothSpec : ChangeSpec := { name := "fnExactTearCloth", fn := fun _ => fun
  | [d1, d2] => { results := [.lit (.bool true)], args := [d1, d2] }
  | _ => none }
def fnExactTearClothRow : OpenClaim := { program := "ytafbecgidhoekaa", sum := "58e0d3de81ada49e0c1a75147966e88754ab97b93a574d7e2284b14fd0f37817", func := "loop.example/g01222/laws.FnExactTearCloth", spec := "fnExactTearCloth", inPlace := ["math.sqrt"], unfollowed := true, recurses := true, apart := false }
def FnExactTearClothSaid : Prop := fnExactTearClothRow.holds Try.pinned (OpenSpec.ofChange fnExactTearClothSpec)

/-- ITS FALSE NEIGHBOUR: 'it returns false'. Refute it at one input. -/
def fnExactTearClothWrong : ChangeSpec := { name := "fnExactTearCloth", fn := fun _ => fun
  | [d1, d2] => { results := [.lit (.bool false)], args := [d1, d2] }
  | _ => none }
def FnExactTearClothWrongFalsely : Prop := fnExactTearClothRow.holds Try.pinned (OpenSpec.ofChange fnExactTearClothWrong)

/-- 'laws.FnExactDrapeCloth': WHATEVER THE INPUT: true; the input reads as it did. -/
def fnExactDrapeClothSpec : ChangeSpec := { name := "fnExactDrapeCloth", fn := fun _ => fun
  | [d1, d2, d3] => { results := [.lit (.bool true)], args := [d1, d2, d3] }
  | _ => none }
def fnExactDrapeClothRow : OpenClaim := { program := "ytafbecgidhoekaa", sum := "58e0d3de81ada49e0c1a75147966e88754ab97b93a574d7e2284b14fd0f37817", func := "loop.example/g01222/laws.FnExactDrapeCloth", spec := "fnExactDrapeCloth", inPlace := ["math.sqrt"], apart := false }
def FnExactDrapeClothSaid : Prop := fnExactDrapeClothRow.holds Try.pinned (OpenSpec.ofChange fnExactDrapeClothSpec)

/-- ITS FALSE NEIGHBOUR: 'it returns false'. Refute it at one input. -/
def fnExactDrapeClothWrong : ChangeSpec := { name := "fnExactDrapeCloth", fn := fun _ => fun
  | [d1, d2, d3] => { results := [.lit (.bool false)], args := [d1, d2, d3] }
  | _ => none }
def FnExactDrapeClothWrongFalsely : Prop := fnExactDrapeClothRow.holds Try.pinned (OpenSpec.ofChange fnExactDrapeClothWrong)

/-- 'laws.FnExactPullThread': WHATEVER THE INPUT: true; the input reads as it did. -/
def fnExactPullThreadSpec : ChangeSpec := { name := "fnExactPullThread", fn := fun _ => fun
  | [d1, d2] => { results := [.lit (.bool true)], args := [d1, d2] }
  | _ => none }
def fnExactPullThreadRow : OpenClaim := { program := "ytafbecgidhoekaa", sum := "58e0d3de81ada49e0c1a75147966e88754ab97b93a574d7e2284b14fd0f37817", func := "loop.example/g01222/laws.FnExactPullThread", spec := "fnExactPullThread", inPlace := ["math.sqrt"], apart := false }
def FnExactPullThreadSaid : Prop := fnExactPullThreadRow.holds Try.pinned (OpenSpec.ofChange fnExactPullThreadSpec)

/-- ITS FALSE NEIGHBOUR: 'it returns false'. Refute it at one input. -/
def fnExactPullThreadWrong : ChangeSpec := { name := "fnExactPullThread", fn := fun _ => fun
  | [d1, d2] => { results := [.lit (.bool false)], args := [d1, d2] }
  | _ => none }
def FnExactPullThreadWrongFalsely : Prop := fnExactPullThreadRow.holds Try.pinned (OpenSpec.ofChange fnExactPullThreadWrong)

/-- 'laws.FnExactRelaxCloth': WHATEVER THE INPUT: true; the input reads as it did. -/
def fnExactRelaxClothSpec : ChangeSpec := { name := "fnExactRelaxCloth", fn := fun _ => fun
  | [d1, d2] => { results := [.lit (.bool true)], args := [d1, d2] }
  | _ => none }
def fnExactRelaxClothRow : OpenClaim := { program := "ytafbecgidhoekaa", sum := "58e0d3de81ada49e0c1a75147966e88754ab97b93a574d7e2284b14fd0f37817", func := "loop.example/g01222/laws.FnExactRelaxCloth", spec := "fnExactRelaxCloth", inPlace := ["math.sqrt"], apart := false }
def FnExactRelaxClothSaid : Prop := fnExactRelaxClothRow.holds Try.pinned (OpenSpec.ofChange fnExactRelaxClothSpec)

/-- ITS FALSE NEIGHBOUR: 'it returns false'. Refute it at one input. -/
def fnExactRelaxClothWrong : ChangeSpec := { name := "fnExactRelaxCloth", fn := fun _ => fun
  | [d1, d2] => { results := [.lit (.bool false)], args := [d1, d2] }
  | _ => none }
def FnExactRelaxClothWrongFalsely : Prop := fnExactRelaxClothRow.holds Try.pinned (OpenSpec.ofChange fnExactRelaxClothWrong)

/-- 'laws.FnExactRunCloth': WHATEVER THE INPUT: true; the input reads as it did. -/
def fnExactRunClothSpec : ChangeSpec := { name := "fnExactRunCloth", fn := fun _ => fun
  | [d1, d2, d3, d4, d5, d6, d7] => { results := [.lit (.bool true)], args := [d1, d2, d3, d4, d5, d6, d7] }
  | _ => none }
def fnExactRunClothRow : OpenClaim := { program := "ytafbecgidhoekaa", sum := "58e0d3de81ada49e0c1a75147966e88754ab97b93a574d7e2284b14fd0f37817", func := "loop.example/g01222/laws.FnExactRunCloth", spec := "fnExactRunCloth", inPlace := ["math.sqrt"], apart := false }
def FnExactRunClothSaid : Prop := fnExactRunClothRow.holds Try.pinned (OpenSpec.ofChange fnExactRunClothSpec)

/-- ITS FALSE NEIGHBOUR: 'it returns false'. Refute it at one input. -/
def fnExactRunClothWrong : ChangeSpec := { name := "fnExactRunCloth", fn := fun _ => fun
  | [d1, d2, d3, d4, d5, d6, d7] => { results := [.lit (.bool false)], args := [d1, d2, d3, d4, d5, d6, d7] }
  | _ => none }
def FnExactRunClothWrongFalsely : Prop := fnExactRunClothRow.holds Try.pinned (OpenSpec.ofChange fnExactRunClothWrong)

/-- 'laws.FnExactStepCloth': WHATEVER THE INPUT: true; the input reads as it did. -/
def fnExactStepClothSpec : ChangeSpec := { name := "fnExactStepCloth", fn := fun _ => fun
  | [d1, d2, d3, d4, d5, d6] => { results := [.lit (.bool true)], args := [d1, d2, d3, d4, d5, d6] }
  | _ => none }
def fnExactStepClothRow : OpenClaim := { program := "ytafbecgidhoekaa", sum := "58e0d3de81ada49e0c1a75147966e88754ab97b93a574d7e2284b14fd0f37817", func := "loop.example/g01222/laws.FnExactStepCloth", spec := "fnExactStepCloth", inPlace := ["math.sqrt"], apart := false }
def FnExactStepClothSaid : Prop := fnExactStepClothRow.holds Try.pinned (OpenSpec.ofChange fnExactStepClothSpec)

/-- ITS FALSE NEIGHBOUR: 'it returns false'. Refute it at one input. -/
def fnExactStepClothWrong : ChangeSpec := { name := "fnExactStepCloth", fn := fun _ => fun
  | [d1, d2, d3, d4, d5, d6] => { results := [.lit (.bool false)], args := [d1, d2, d3, d4, d5, d6] }
  | _ => none }
def FnExactStepClothWrongFalsely : Prop := fnExactStepClothRow.holds Try.pinned (OpenSpec.ofChange fnExactStepClothWrong)

/- THE SECOND FORM. 'bulk': how many values and letters a reading holds, each counted each time it is reached (what is shared counts as often as it is met; a slice's spare places count too). A statement '..UptoSaid' is the law's where the arguments, and the package variables that the reading takes, are together of bulk at most 1048576: NARROWER than '..Said'. Prove '..Said' where nothing that the law and all that it calls make is longer than what came in: it says more and counts as full. Else prove '..UptoSaid'. A law counts once. -/
mutual
def uptoBulk {H : Type} : DataW H → Nat
  | .lit (.string bytes) => bytes.length + 1
  | .lit _ => 1
  | .nil => 1
  | .ptr d => uptoBulk d + 1
  | .slice elems spare => uptoBulkAll elems + uptoBulkAll spare + 1
  | .agg parts => uptoBulkAll parts + 1
  | .iface _ d => uptoBulk d + 1
  | .map entries => uptoBulkEntries entries + 1
  | .held _ => 1
def uptoBulkAll {H : Type} : List (DataW H) → Nat
  | [] => 0
  | d :: r => uptoBulk d + uptoBulkAll r
def uptoBulkEntries {H : Type} : List (Lit × DataW H) → Nat
  | [] => 0
  | x :: r => uptoBulkEntry x + uptoBulkEntries r
def uptoBulkEntry {H : Type} : Lit × DataW H → Nat
  | (.string bytes, d) => bytes.length + uptoBulk d + 1
  | (_, d) => uptoBulk d + 1
 end
def uptoSmall : (H : Type) → List (DataW H) → Bool := fun _ ds => decide (uptoBulkAll ds ≤ 1048576)
def OpenSpec.upto (s : _root_.Go.ChangeSpec) : _root_.Go.OpenSpec := { _root_.Go.OpenSpec.ofChange s with cond := some uptoSmall }

/-- 'laws.FnExactValidCloth', WHERE WHAT IT READS IS OF BULK AT MOST 1048576: true; the input reads as it did. -/
def fnExactValidClothUptoRow : OpenClaim := { program := "ytafbecgidhoekaa", sum := "58e0d3de81ada49e0c1a75147966e88754ab97b93a574d7e2284b14fd0f37817", func := "loop.example/g01222/laws.FnExactValidCloth", spec := "fnExactValidCloth", apart := false, narrowed := true }
def FnExactValidClothUptoSaid : Prop := fnExactValidClothUptoRow.holds Try.pinned (OpenSpec.upto fnExactValidClothSpec)

/-- 'laws.FnExactSameCloth', WHERE WHAT IT READS IS OF BULK AT MOST 1048576: true; the input reads as it did. -/
def fnExactSameClothUptoRow : OpenClaim := { program := "ytafbecgidhoekaa", sum := "58e0d3de81ada49e0c1a75147966e88754ab97b93a574d7e2284b14fd0f37817", func := "loop.example/g01222/laws.FnExactSameCloth", spec := "fnExactSameCloth", inPlace := ["math.Float32bits", "math.Float64bits"], unfollowed := true, recurses := true, apart := false, narrowed := true }
def FnExactSameClothUptoSaid : Prop := fnExactSameClothUptoRow.holds Try.pinned (OpenSpec.upto fnExactSameClothSpec)

/-- 'laws.FnExactPiecesOfCloth', WHERE WHAT IT READS IS OF BULK AT MOST 1048576: true; the input reads as it did. -/
def fnExactPiecesOfClothUptoRow : OpenClaim := { program := "ytafbecgidhoekaa", sum := "58e0d3de81ada49e0c1a75147966e88754ab97b93a574d7e2284b14fd0f37817", func := "loop.example/g01222/laws.FnExactPiecesOfCloth", spec := "fnExactPiecesOfCloth", apart := false, narrowed := true }
def FnExactPiecesOfClothUptoSaid : Prop := fnExactPiecesOfClothUptoRow.holds Try.pinned (OpenSpec.upto fnExactPiecesOfClothSpec)

/-- 'laws.FnExactStretchOf', WHERE WHAT IT READS IS OF BULK AT MOST 1048576: true; the input reads as it did. -/
def fnExactStretchOfUptoRow : OpenClaim := { program := "ytafbecgidhoekaa", sum := "58e0d3de81ada49e0c1a75147966e88754ab97b93a574d7e2284b14fd0f37817", func := "loop.example/g01222/laws.FnExactStretchOf", spec := "fnExactStretchOf", inPlace := ["math.sqrt"], apart := false, narrowed := true }
def FnExactStretchOfUptoSaid : Prop := fnExactStretchOfUptoRow.holds Try.pinned (OpenSpec.upto fnExactStretchOfSpec)

/-- 'laws.FnExactGridCloth', WHERE WHAT IT READS IS OF BULK AT MOST 1048576: true; the input reads as it did. -/
def fnExactGridClothUptoRow : OpenClaim := { program := "ytafbecgidhoekaa", sum := "58e0d3de81ada49e0c1a75147966e88754ab97b93a574d7e2284b14fd0f37817", func := "loop.example/g01222/laws.FnExactGridCloth", spec := "fnExactGridCloth", apart := false, narrowed := true }
def FnExactGridClothUptoSaid : Prop := fnExactGridClothUptoRow.holds Try.pinned (OpenSpec.upto fnExactGridClothSpec)

/-- 'laws.FnExactPinCloth', WHERE WHAT IT READS IS OF BULK AT MOST 1048576: true; the input reads as it did. -/
def fnExactPinClothUptoRow : OpenClaim := { program := "ytafbecgidhoekaa", sum := "58e0d3de81ada49e0c1a75147966e88754ab97b93a574d7e2284b14fd0f37817", func := "loop.example/g01222/laws.FnExactPinCloth", spec := "fnExactPinCloth", apart := false, narrowed := true }
def FnExactPinClothUptoSaid : Prop := fnExactPinClothUptoRow.holds Try.pinned (OpenSpec.upto fnExactPinClothSpec)

/-- 'laws.FnExactMoveCloth', WHERE WHAT IT READS IS OF BULK AT MOST 1048576: true; the input reads as it did. -/
def fnExactMoveClothUptoRow : OpenClaim := { program := "ytafbecgidhoekaa", sum := "58e0d3de81ada49e0c1a75147966e88754ab97b93a574d7e2284b14fd0f37817", func := "loop.example/g01222/laws.FnExactMoveCloth", spec := "fnExactMoveCloth", apart := false, narrowed := true }
def FnExactMoveClothUptoSaid : Prop := fnExactMoveClothUptoRow.holds Try.pinned (OpenSpec.upto fnExactMoveClothSpec)

/-- 'laws.FnExactFloorCloth', WHERE WHAT IT READS IS OF BULK AT MOST 1048576: true; the input reads as it did. -/
def fnExactFloorClothUptoRow : OpenClaim := { program := "ytafbecgidhoekaa", sum := "58e0d3de81ada49e0c1a75147966e88754ab97b93a574d7e2284b14fd0f37817", func := "loop.example/g01222/laws.FnExactFloorCloth", spec := "fnExactFloorCloth", apart := false, narrowed := true }
def FnExactFloorClothUptoSaid : Prop := fnExactFloorClothUptoRow.holds Try.pinned (OpenSpec.upto fnExactFloorClothSpec)

/-- 'laws.FnExactInsideBall', WHERE WHAT IT READS IS OF BULK AT MOST 1048576: true; the input reads as it did. -/
def fnExactInsideBallUptoRow : OpenClaim := { program := "ytafbecgidhoekaa", sum := "58e0d3de81ada49e0c1a75147966e88754ab97b93a574d7e2284b14fd0f37817", func := "loop.example/g01222/laws.FnExactInsideBall", spec := "fnExactInsideBall", inPlace := ["math.sqrt"], apart := false, narrowed := true }
def FnExactInsideBallUptoSaid : Prop := fnExactInsideBallUptoRow.holds Try.pinned (OpenSpec.upto fnExactInsideBallSpec)

/-- 'laws.FnExactFallCloth', WHERE WHAT IT READS IS OF BULK AT MOST 1048576: true; the input reads as it did. -/
def fnExactFallClothUptoRow : OpenClaim := { program := "ytafbecgidhoekaa", sum := "58e0d3de81ada49e0c1a75147966e88754ab97b93a574d7e2284b14fd0f37817", func := "loop.example/g01222/laws.FnExactFallCloth", spec := "fnExactFallCloth", apart := false, narrowed := true }
def FnExactFallClothUptoSaid : Prop := fnExactFallClothUptoRow.holds Try.pinned (OpenSpec.upto fnExactFallClothSpec)

/-- 'laws.FnExactTearCloth', WHERE WHAT IT READS IS OF BULK AT MOST 1048576: true; the input reads as it did. -/
def fnExactTearClothUptoRow : OpenClaim := { program := "ytafbecgidhoekaa", sum := "58e0d3de81ada49e0c1a75147966e88754ab97b93a574d7e2284b14fd0f37817", func := "loop.example/g01222/laws.FnExactTearCloth", spec := "fnExactTearCloth", inPlace := ["math.sqrt"], unfollowed := true, recurses := true, apart := false, narrowed := true }
def FnExactTearClothUptoSaid : Prop := fnExactTearClothUptoRow.holds Try.pinned (OpenSpec.upto fnExactTearClothSpec)

/-- 'laws.FnExactDrapeCloth', WHERE WHAT IT READS IS OF BULK AT MOST 1048576: true; the input reads as it did. -/
def fnExactDrapeClothUptoRow : OpenClaim := { program := "ytafbecgidhoekaa", sum := "58e0d3de81ada49e0c1a75147966e88754ab97b93a574d7e2284b14fd0f37817", func := "loop.example/g01222/laws.FnExactDrapeCloth", spec := "fnExactDrapeCloth", inPlace := ["math.sqrt"], apart := false, narrowed := true }
def FnExactDrapeClothUptoSaid : Prop := fnExactDrapeClothUptoRow.holds Try.pinned (OpenSpec.upto fnExactDrapeClothSpec)

/-- 'laws.FnExactPullThread', WHERE WHAT IT READS IS OF BULK AT MOST 1048576: true; the input reads as it did. -/
def fnExactPullThreadUptoRow : OpenClaim := { program := "ytafbecgidhoekaa", sum := "58e0d3de81ada49e0c1a75147966e88754ab97b93a574d7e2284b14fd0f37817", func := "loop.example/g01222/laws.FnExactPullThread", spec := "fnExactPullThread", inPlace := ["math.sqrt"], apart := false, narrowed := true }
def FnExactPullThreadUptoSaid : Prop := fnExactPullThreadUptoRow.holds Try.pinned (OpenSpec.upto fnExactPullThreadSpec)

/-- 'laws.FnExactRelaxCloth', WHERE WHAT IT READS IS OF BULK AT MOST 1048576: true; the input reads as it did. -/
def fnExactRelaxClothUptoRow : OpenClaim := { program := "ytafbecgidhoekaa", sum := "58e0d3de81ada49e0c1a75147966e88754ab97b93a574d7e2284b14fd0f37817", func := "loop.example/g01222/laws.FnExactRelaxCloth", spec := "fnExactRelaxCloth", inPlace := ["math.sqrt"], apart := false, narrowed := true }
def FnExactRelaxClothUptoSaid : Prop := fnExactRelaxClothUptoRow.holds Try.pinned (OpenSpec.upto fnExactRelaxClothSpec)

/-- 'laws.FnExactRunCloth', WHERE WHAT IT READS IS OF BULK AT MOST 1048576: true; the input reads as it did. -/
def fnExactRunClothUptoRow : OpenClaim := { program := "ytafbecgidhoekaa", sum := "58e0d3de81ada49e0c1a75147966e88754ab97b93a574d7e2284b14fd0f37817", func := "loop.example/g01222/laws.FnExactRunCloth", spec := "fnExactRunCloth", inPlace := ["math.sqrt"], apart := false, narrowed := true }
def FnExactRunClothUptoSaid : Prop := fnExactRunClothUptoRow.holds Try.pinned (OpenSpec.upto fnExactRunClothSpec)

/-- 'laws.FnExactStepCloth', WHERE WHAT IT READS IS OF BULK AT MOST 1048576: true; the input reads as it did. -/
def fnExactStepClothUptoRow : OpenClaim := { program := "ytafbecgidhoekaa", sum := "58e0d3de81ada49e0c1a75147966e88754ab97b93a574d7e2284b14fd0f37817", func := "loop.example/g01222/laws.FnExactStepCloth", spec := "fnExactStepCloth", inPlace := ["math.sqrt"], apart := false, narrowed := true }
def FnExactStepClothUptoSaid : Prop := fnExactStepClothUptoRow.holds Try.pinned (OpenSpec.upto fnExactStepClothSpec)

end Rows
end Go.Proofs.Ytafbecgidhoekaa
