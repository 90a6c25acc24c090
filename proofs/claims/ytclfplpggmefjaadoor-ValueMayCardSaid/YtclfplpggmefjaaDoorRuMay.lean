/- The walks of which rune may be: utf8.ValidRune, runes.May, rubricref01.May. -/
import Derived.Test.YtclfplpggmefjaaDoorBase
import Derived.Test.YtclfplpggmefjaaDoorProg
namespace Go.Proofs.YtclfplpggmefjaaDoor
open Go.RowKit
set_option linter.unusedVariables false
set_option linter.unusedSimpArgs false

/-- may a rune be? -/
def mayR (r : Int) : Bool := decide (0 ≤ r ∧ r < 55296 ∨ 57344 ≤ r ∧ r ≤ 1114111)

end Go.Proofs.YtclfplpggmefjaaDoor
