/- The package variables of which something is known.
Conditions: none. -/
import Derived.Test.YtbjfkhjckfodbaaFlo
namespace Go.Awp
set_option linter.all false
open Go

/-- A variable that holds these integers; an integer; an interface value. -/
def isTab (k : IntKind) (zs : List Int) (o : Obj) : Prop := ∃ t fr, o = .cells (zs.map fun z => Value.int k z).toArray t fr
def isNum (o : Obj) : Prop := ∃ cs t fr m, o = .cells cs t fr ∧ cs[0]? = some (.int .i64 m)
def isFace (o : Obj) : Prop := ∃ v t fr, o = .cells #[v] t fr ∧ (v = .nilIface ∨ ∃ te pe, v = .iface te pe)
def globs : List (Nat × (Obj → Prop)) := []
end Go.Awp
