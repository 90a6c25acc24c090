/- Merged texts. -/
import Derived.Test.YtnmedachaeanbaaGreatDoorA32
namespace Go.Sy.Run
open Go.Sy
theorem Y6E : forget [0, 1, 3, 2, 4] [2, 3, 4, 8, 9, 10, 11, 12, 13, 24, 25, 27, 28, 101, 102, 163, 164, 165, 588, 590, 592, 696, 1400, 1402, 1404, 1406, 1568, 2050, 2061, 2422, 2424, 2426, 2428, 2430, 2670, 2876, 3424, 3426, 3428, 3430, 3432, 4832, 4846, 7083, 7095, 7097, 7216, 7316, 7437] (runA Q 849 (some st10)) = some st11 := by kernel_rfl
end Go.Sy.Run
