/- A fact of the program as it is loaded: it may be entered.
Conditions: none. -/
import Derived.Test.YtbjfkhjckfodbaaRows
import Derived.JoinedOf
import Derived.KernelRfl
namespace Go.Proofs.Ytbjfkhjckfodbaa
set_option linter.all false
open Go
set_option maxRecDepth 100000
theorem fac_enter : Try.prog.mayEnter = true := by kernel_rfl
end Go.Proofs.Ytbjfkhjckfodbaa
