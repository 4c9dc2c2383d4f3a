/- Facts of the program as it is loaded.
Conditions: none. -/
import Derived.Test.YtnjpigkijdnpkaaGreatF1
import Derived.Test.YtnjpigkijdnpkaaGreatF2
import Derived.Test.YtnjpigkijdnpkaaGreatF3
namespace Go.Proofs.YtnjpigkijdnpkaaGreat
set_option linter.all false
open Go
set_option maxRecDepth 100000
theorem and_mk {a b : Bool} (h1 : a = true) (h2 : b = true) : (a && b) = true := by rw [h1, h2]; rfl
theorem fac_laid : laidOutB Tryz.prog = true := by kernel_rfl
theorem fac_rowed : mapsRowed Tryz.prog = true := by kernel_rfl
theorem fac_plain : Tryz.prog.plainKeys = false := by kernel_rfl
theorem fac_heard : Tryz.prog.stopsHeard = true := by kernel_rfl
theorem fac_stops : (Tryz.prog.stops == []) = true := by kernel_rfl
theorem fac_knobs : (Tryz.prog.stopKnobs == []) = true := by kernel_rfl
theorem pin_laid : laidOutB Tryz.pinned.checked.prog = true := fac_laid
theorem pin_rowed : mapsRowed Tryz.pinned.checked.prog = true := fac_rowed
theorem pin_plain : Tryz.pinned.checked.prog.plainKeys = false := fac_plain
theorem pin_heard : Tryz.pinned.checked.prog.stopsHeard = true := fac_heard
theorem pin_stops : (Tryz.pinned.checked.prog.stops == []) = true := fac_stops
theorem pin_knobs : (Tryz.pinned.checked.prog.stopKnobs == []) = true := fac_knobs
theorem pin_enter : Tryz.pinned.checked.prog.mayEnter = true := fac_enter
theorem pin_lifted : Tryz.pinned.checked.prog.liftsFinal = false := fac_lifted
theorem pin_make : (Tryz.pinned.checked.prog.make == some .cut) = true := fac_make
theorem fac_own : ownKnob Tryz.prog.godebug = none := by kernel_rfl
end Go.Proofs.YtnjpigkijdnpkaaGreat
