/- Facts of the program as it is loaded.
Conditions: none. -/
import Derived.Test.YtbjfkhjckfodbaaF1
import Derived.Test.YtbjfkhjckfodbaaF2
import Derived.Test.YtbjfkhjckfodbaaF3
namespace Go.Proofs.Ytbjfkhjckfodbaa
set_option linter.all false
open Go
set_option maxRecDepth 100000
theorem and_mk {a b : Bool} (h1 : a = true) (h2 : b = true) : (a && b) = true := by rw [h1, h2]; rfl
theorem fac_laid : laidOutB Try.prog = true := by kernel_rfl
theorem fac_rowed : mapsRowed Try.prog = true := by kernel_rfl
theorem fac_plain : Try.prog.plainKeys = false := by kernel_rfl
theorem fac_heard : Try.prog.stopsHeard = true := by kernel_rfl
theorem fac_stops : (Try.prog.stops == []) = true := by kernel_rfl
theorem fac_knobs : (Try.prog.stopKnobs == []) = true := by kernel_rfl
theorem pin_laid : laidOutB Try.pinned.checked.prog = true := fac_laid
theorem pin_rowed : mapsRowed Try.pinned.checked.prog = true := fac_rowed
theorem pin_plain : Try.pinned.checked.prog.plainKeys = false := fac_plain
theorem pin_heard : Try.pinned.checked.prog.stopsHeard = true := fac_heard
theorem pin_stops : (Try.pinned.checked.prog.stops == []) = true := fac_stops
theorem pin_knobs : (Try.pinned.checked.prog.stopKnobs == []) = true := fac_knobs
theorem pin_enter : Try.pinned.checked.prog.mayEnter = true := fac_enter
theorem pin_lifted : Try.pinned.checked.prog.liftsFinal = false := fac_lifted
theorem pin_make : (Try.pinned.checked.prog.make == some .cut) = true := fac_make
theorem fac_own : ownKnob Try.prog.godebug = none := by kernel_rfl
end Go.Proofs.Ytbjfkhjckfodbaa
