/- The two tables lie in two blocks. -/
import Derived.Test.YtiajmngjhbckjaaDoorOpen
import Derived.Test.YtiajmngjhbckjaaDoorPlain
namespace Go.Proofs.YtiajmngjhbckjaaDoor
theorem tabs_two' {W : World} (h : Lib.Utf8Tabs 0 1 W) : 2 ≤ W.heap.size := by
  have := lt_of_cell (h.2 0 (by omega)).1
  exact this
end Go.Proofs.YtiajmngjhbckjaaDoor
