/- Merged texts. -/
import Derived.Test.YtnmedachaeanbaaGreatDoorA32
namespace Go.Sy.Run
open Go.Sy
theorem Y7m : forget [0, 7, 8, 6] [0, 2, 3, 4, 8, 9, 10, 11, 12, 13, 24, 25, 27, 28, 36, 75, 101, 102, 119, 163, 164] (runA Q 8791 (some st0)) = some st1 := by kernel_rfl
end Go.Sy.Run
