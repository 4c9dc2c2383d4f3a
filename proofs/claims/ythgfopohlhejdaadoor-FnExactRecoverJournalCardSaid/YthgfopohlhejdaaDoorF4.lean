/- Facts of the program as it is loaded.
Conditions: none. -/
import Derived.Test.YthgfopohlhejdaaDoorF1
import Derived.Test.YthgfopohlhejdaaDoorF2
import Derived.Test.YthgfopohlhejdaaDoorF3
namespace Go.Proofs.YthgfopohlhejdaaDoor
set_option linter.all false
open Go
set_option maxRecDepth 100000
theorem and_mk {a b : Bool} (h1 : a = true) (h2 : b = true) : (a && b) = true := by rw [h1, h2]; rfl
theorem fac_laid : laidOutB Tryd.prog = true := by kernel_rfl
theorem fac_rowed : mapsRowed Tryd.prog = true := by kernel_rfl
theorem fac_plain : Tryd.prog.plainKeys = true := by kernel_rfl
theorem fac_heard : Tryd.prog.stopsHeard = true := by kernel_rfl
theorem fac_stops : (Tryd.prog.stops == []) = true := by kernel_rfl
theorem fac_knobs : (Tryd.prog.stopKnobs == []) = true := by kernel_rfl
theorem pin_laid : laidOutB Tryd.pinned.checked.prog = true := fac_laid
theorem pin_rowed : mapsRowed Tryd.pinned.checked.prog = true := fac_rowed
theorem pin_plain : Tryd.pinned.checked.prog.plainKeys = true := fac_plain
theorem pin_heard : Tryd.pinned.checked.prog.stopsHeard = true := fac_heard
theorem pin_stops : (Tryd.pinned.checked.prog.stops == []) = true := fac_stops
theorem pin_knobs : (Tryd.pinned.checked.prog.stopKnobs == []) = true := fac_knobs
theorem pin_enter : Tryd.pinned.checked.prog.mayEnter = true := fac_enter
theorem pin_lifted : Tryd.pinned.checked.prog.liftsFinal = false := fac_lifted
theorem pin_make : (Tryd.pinned.checked.prog.make == some .cut) = true := fac_make
theorem fac_own : ownKnob Tryd.prog.godebug = none := by kernel_rfl
end Go.Proofs.YthgfopohlhejdaaDoor
