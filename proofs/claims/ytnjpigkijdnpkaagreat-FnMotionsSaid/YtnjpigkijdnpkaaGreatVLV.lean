/- A call that returns alone returns with all others leaving at most.
Conditions: none. -/
import Derived.Conc.Holds
import Derived.Handed
namespace Go.Awp
set_option linter.all false
open Go

theorem leaving_of_alone {P : Program} {last : Machine} {w : World} {t : Trace} (h : aloneAtReturn P last w t) : leavingAtReturn P last w t := by
  obtain ⟨⟨h1, h2⟩, h3, h4⟩ := h
  refine ⟨h3, ⟨fun g hg => ⟨0, ?_⟩, h2⟩, h4⟩
  unfold Machine.othersDone at h1
  have h5 := List.all_eq_true.1 h1 g hg
  exact beq_iff_eq.1 h5
theorem leaving_of_handed {a : Assume} {C : Checked} {os : Os} {f : FuncId} {r : Reach} {Pre : World → Array Value → Prop} {Post : World → Array Value → Value → World → Prop} (h : ReturnsInHanded a C os f r Pre Post) : ReturnsInLeavingWide a C os f r Pre Post := by
  intro enter
  obtain ⟨h1, h2, h3, h4, h5⟩ := h enter
  refine ⟨h1, h2, h3, h4, fun w tape i hf => ?_⟩
  obtain ⟨n, v, w', g1, g2, g3, g4, ⟨j, last, k1, k2, k3⟩, g6⟩ := h5 w tape i hf
  exact ⟨n, v, w', g1, g2, g3, g4, ⟨j, last, k1, k2, leaving_of_alone k3⟩, g6⟩
end Go.Awp
