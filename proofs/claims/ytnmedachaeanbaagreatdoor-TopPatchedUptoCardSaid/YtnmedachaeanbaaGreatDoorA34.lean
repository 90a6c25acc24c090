/- Merged texts. -/
import Derived.Test.YtnmedachaeanbaaGreatDoorA32
namespace Go.Sy.Run
open Go.Sy
theorem Y7n : forget [0, 1, 3, 7, 15, 11, 19, 5, 9, 17, 13, 2, 8, 16, 12, 20, 6, 10, 18, 14] [0, 2, 3, 4, 8, 9, 10, 11, 12, 13, 24, 25, 27, 28, 75, 101, 102, 119, 163, 164, 165, 166, 588, 590, 592, 596, 680, 696, 795, 916] (runA Q 42574 (some st1)) = some st2 := by kernel_rfl
end Go.Sy.Run
