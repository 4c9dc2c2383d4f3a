/-
  No cell of these rows narrows 'for every input' (looked for: loops, veiled, ifaces, maps, wideKeys, modest, calm, conditions, laid).
  DERIVED. THE GIVEN ROWS OF THIS SEAT. 3 by the template 'for every input the law returns true; each argument reads behind the call as it read before'; 0 by the template 'total and deterministic' (their statements: YtnjpigkijdnpkaaGreatTotals.lean).
  GIVEN WITH THE SEED: the statements are not yours to turn. If you find one false, say at which input.
  Laid BY PROGRAM, IN A SANDBOX (cutbox-rows.mjs): the forced cells as the released guide's own fill.sh prints them over the translation cf54425d08b70ebe… (all of the seat's roots in one cut). By AI agents, Wed Nov 11 2026. No macro, syntax, notation, axiom, sorry.
-/
import Derived.Test.YtnjpigkijdnpkaaGreatChecked
import GoSem.Claim
import GoSem.ClaimJoined
import GoSem.ClaimMapViews
import Derived.JoinedTies
import Derived.KernelRfl
namespace Go.Proofs.YtnjpigkijdnpkaaGreat
/- THE CELL 'sum', in the pinned program and in every row, IS THE sha256 OF THE DUMP (.gsa) THAT YtnjpigkijdnpkaaGreatProg.lean LOADS. Nothing in Lean hashes anything: it is a label: what it is worth is what the hold of that sum in a sandbox is worth. -/
noncomputable def Tryz.pinned : Pinned := { name := "ytnjpigkijdnpkaagreat", sum := "cf54425d08b70ebe622c0692ef79a414ed6c98be9a715508e8adbf8c06dc330f", checked := Tryz.checked }
namespace Rows
def none {H : Type} : Left H := { results := [], args := [] }

/-- 'laws.FnFalling': WHATEVER THE INPUT: true; the input reads as it did. -/
def fnFallingSpec : ChangeSpec := { name := "fnFalling", fn := fun _ => fun
  | [d1, d2] => { results := [.lit (.bool true)], args := [d1, d2] }
  | _ => none }
def fnFallingRow : OpenClaim := { program := "ytnjpigkijdnpkaagreat", sum := "cf54425d08b70ebe622c0692ef79a414ed6c98be9a715508e8adbf8c06dc330f", func := "loop.example/g01222/laws.FnFalling", spec := "fnFalling", inPlace := ["math.Float64frombits", "math.sqrt", "math.Float32frombits", "math.Float32bits", "math.Float64bits"], unfollowed := true, recurses := true, plainKeys := false, leaving := true, apart := false }
def FnFallingSaid : Prop := fnFallingRow.holds Tryz.pinned (OpenSpec.ofChange fnFallingSpec)

/-- ITS FALSE NEIGHBOUR: 'it returns false'. Refute it at one input. -/
def fnFallingWrong : ChangeSpec := { name := "fnFalling", fn := fun _ => fun
  | [d1, d2] => { results := [.lit (.bool false)], args := [d1, d2] }
  | _ => none }
def FnFallingWrongFalsely : Prop := fnFallingRow.holds Tryz.pinned (OpenSpec.ofChange fnFallingWrong)

/-- 'laws.FnMotions': WHATEVER THE INPUT: true; the input reads as it did. -/
def fnMotionsSpec : ChangeSpec := { name := "fnMotions", fn := fun _ => fun
  | [d1, d2] => { results := [.lit (.bool true)], args := [d1, d2] }
  | _ => none }
def fnMotionsRow : OpenClaim := { program := "ytnjpigkijdnpkaagreat", sum := "cf54425d08b70ebe622c0692ef79a414ed6c98be9a715508e8adbf8c06dc330f", func := "loop.example/g01222/laws.FnMotions", spec := "fnMotions", inPlace := ["math.Float64frombits", "math.sqrt", "math.Float32frombits", "math.Float32bits", "math.Float64bits"], unfollowed := true, recurses := true, plainKeys := false, leaving := true, apart := false }
def FnMotionsSaid : Prop := fnMotionsRow.holds Tryz.pinned (OpenSpec.ofChange fnMotionsSpec)

/-- ITS FALSE NEIGHBOUR: 'it returns false'. Refute it at one input. -/
def fnMotionsWrong : ChangeSpec := { name := "fnMotions", fn := fun _ => fun
  | [d1, d2] => { results := [.lit (.bool false)], args := [d1, d2] }
  | _ => none }
def FnMotionsWrongFalsely : Prop := fnMotionsRow.holds Tryz.pinned (OpenSpec.ofChange fnMotionsWrong)

/-- 'laws.FnColours': WHATEVER THE INPUT: true; the input reads as it did. -/
def fnColoursSpec : ChangeSpec := { name := "fnColours", fn := fun _ => fun
  | [d1, d2] => { results := [.lit (.bool true)], args := [d1, d2] }
  | _ => none }
def fnColoursRow : OpenClaim := { program := "ytnjpigkijdnpkaagreat", sum := "cf54425d08b70ebe622c0692ef79a414ed6c98be9a715508e8adbf8c06dc330f", func := "loop.example/g01222/laws.FnColours", spec := "fnColours", inPlace := ["math.Float64frombits", "math.sqrt", "math.Float32frombits", "(*sync.WaitGroup).Go", "(*sync.WaitGroup).Add", "internal/race.ReleaseMerge", "internal/race.Disable", "internal/race.Enable", "internal/synctest.IsInBubble", "internal/synctest.Associate[sync.WaitGroup]", "sync.fatal", "sync/atomic.OrUint64", "sync/atomic.AddUint64", "internal/race.Read", "sync/atomic.LoadUint64", "sync/atomic.StoreUint64", "internal/synctest.Disassociate[sync.WaitGroup]", "sync.runtime_Semrelease", "(*sync.WaitGroup).Go$1", "(*sync.WaitGroup).Go$1$1", "(*sync.WaitGroup).Done", "(*sync.WaitGroup).Wait", "internal/race.Acquire", "internal/synctest.IsAssociated[sync.WaitGroup]", "sync/atomic.CompareAndSwapUint64", "internal/race.Write", "sync.runtime_SemacquireWaitGroup", "math.Float64bits", "math.Float32bits"], unfollowed := true, recurses := true, plainKeys := false, leaving := true, apart := false }
def FnColoursSaid : Prop := fnColoursRow.holds Tryz.pinned (OpenSpec.ofChange fnColoursSpec)

/-- ITS FALSE NEIGHBOUR: 'it returns false'. Refute it at one input. -/
def fnColoursWrong : ChangeSpec := { name := "fnColours", fn := fun _ => fun
  | [d1, d2] => { results := [.lit (.bool false)], args := [d1, d2] }
  | _ => none }
def FnColoursWrongFalsely : Prop := fnColoursRow.holds Tryz.pinned (OpenSpec.ofChange fnColoursWrong)

/- THE SECOND FORM. 'bulk': how many values and letters a reading holds, each counted each time it is reached (what is shared counts as often as it is met; a slice's spare places count too). A statement '..UptoSaid' is the law's where the arguments, and the package variables that the reading takes, are together of bulk at most 1048576: NARROWER than '..Said'. Prove '..Said' where nothing that the law and all that it calls make is longer than what came in: it says more and counts as full. Else prove '..UptoSaid'. A law counts once. -/
mutual
def uptoBulk {H : Type} : DataW H → Nat
  | .lit (.string bytes) => bytes.length + 1
  | .lit _ => 1
  | .nil => 1
  | .ptr d => uptoBulk d + 1
  | .slice elems spare => uptoBulkAll elems + uptoBulkAll spare + 1
  | .agg parts => uptoBulkAll parts + 1
  | .iface _ d => uptoBulk d + 1
  | .map entries => uptoBulkEntries entries + 1
  | .held _ => 1
def uptoBulkAll {H : Type} : List (DataW H) → Nat
  | [] => 0
  | d :: r => uptoBulk d + uptoBulkAll r
def uptoBulkEntries {H : Type} : List (Lit × DataW H) → Nat
  | [] => 0
  | x :: r => uptoBulkEntry x + uptoBulkEntries r
def uptoBulkEntry {H : Type} : Lit × DataW H → Nat
  | (.string bytes, d) => bytes.length + uptoBulk d + 1
  | (_, d) => uptoBulk d + 1
 end
def uptoSmall : (H : Type) → List (DataW H) → Bool := fun _ ds => decide (uptoBulkAll ds ≤ 1048576)
def OpenSpec.upto (s : _root_.Go.ChangeSpec) : _root_.Go.OpenSpec := { _root_.Go.OpenSpec.ofChange s with cond := some uptoSmall }

/-- 'laws.FnFalling', WHERE WHAT IT READS IS OF BULK AT MOST 1048576: true; the input reads as it did. -/
def fnFallingUptoRow : OpenClaim := { program := "ytnjpigkijdnpkaagreat", sum := "cf54425d08b70ebe622c0692ef79a414ed6c98be9a715508e8adbf8c06dc330f", func := "loop.example/g01222/laws.FnFalling", spec := "fnFalling", inPlace := ["math.Float64frombits", "math.sqrt", "math.Float32frombits", "math.Float32bits", "math.Float64bits"], unfollowed := true, recurses := true, plainKeys := false, leaving := true, apart := false, narrowed := true }
def FnFallingUptoSaid : Prop := fnFallingUptoRow.holds Tryz.pinned (OpenSpec.upto fnFallingSpec)

/-- 'laws.FnMotions', WHERE WHAT IT READS IS OF BULK AT MOST 1048576: true; the input reads as it did. -/
def fnMotionsUptoRow : OpenClaim := { program := "ytnjpigkijdnpkaagreat", sum := "cf54425d08b70ebe622c0692ef79a414ed6c98be9a715508e8adbf8c06dc330f", func := "loop.example/g01222/laws.FnMotions", spec := "fnMotions", inPlace := ["math.Float64frombits", "math.sqrt", "math.Float32frombits", "math.Float32bits", "math.Float64bits"], unfollowed := true, recurses := true, plainKeys := false, leaving := true, apart := false, narrowed := true }
def FnMotionsUptoSaid : Prop := fnMotionsUptoRow.holds Tryz.pinned (OpenSpec.upto fnMotionsSpec)

/-- 'laws.FnColours', WHERE WHAT IT READS IS OF BULK AT MOST 1048576: true; the input reads as it did. -/
def fnColoursUptoRow : OpenClaim := { program := "ytnjpigkijdnpkaagreat", sum := "cf54425d08b70ebe622c0692ef79a414ed6c98be9a715508e8adbf8c06dc330f", func := "loop.example/g01222/laws.FnColours", spec := "fnColours", inPlace := ["math.Float64frombits", "math.sqrt", "math.Float32frombits", "(*sync.WaitGroup).Go", "(*sync.WaitGroup).Add", "internal/race.ReleaseMerge", "internal/race.Disable", "internal/race.Enable", "internal/synctest.IsInBubble", "internal/synctest.Associate[sync.WaitGroup]", "sync.fatal", "sync/atomic.OrUint64", "sync/atomic.AddUint64", "internal/race.Read", "sync/atomic.LoadUint64", "sync/atomic.StoreUint64", "internal/synctest.Disassociate[sync.WaitGroup]", "sync.runtime_Semrelease", "(*sync.WaitGroup).Go$1", "(*sync.WaitGroup).Go$1$1", "(*sync.WaitGroup).Done", "(*sync.WaitGroup).Wait", "internal/race.Acquire", "internal/synctest.IsAssociated[sync.WaitGroup]", "sync/atomic.CompareAndSwapUint64", "internal/race.Write", "sync.runtime_SemacquireWaitGroup", "math.Float64bits", "math.Float32bits"], unfollowed := true, recurses := true, plainKeys := false, leaving := true, apart := false, narrowed := true }
def FnColoursUptoSaid : Prop := fnColoursUptoRow.holds Tryz.pinned (OpenSpec.upto fnColoursSpec)

end Rows
end Go.Proofs.YtnjpigkijdnpkaaGreat
