/- A fact of the program as it is loaded: how it is made.
Conditions: none. -/
import Derived.Test.YtbjfkhjckfodbaaRows
import Derived.JoinedOf
import Derived.KernelRfl
namespace Go.Proofs.Ytbjfkhjckfodbaa
set_option linter.all false
open Go
set_option maxRecDepth 100000
theorem fac_make : (Try.prog.make == some .cut) = true := by kernel_rfl
end Go.Proofs.Ytbjfkhjckfodbaa
