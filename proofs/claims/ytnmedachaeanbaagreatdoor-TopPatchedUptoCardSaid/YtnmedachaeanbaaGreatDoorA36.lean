/- Merged texts. -/
import Derived.Test.YtnmedachaeanbaaGreatDoorA32
namespace Go.Sy.Run
open Go.Sy
theorem Y7p : forget [0, 1, 3, 7, 15, 31, 23, 11, 19, 27, 5, 9, 17, 25, 13, 21, 29, 2, 8, 16, 24, 12, 20, 28, 6, 10, 18, 26, 14, 22, 30] [0, 2, 3, 4, 8, 9, 10, 11, 12, 13, 24, 25, 27, 28, 101, 102, 163, 164, 165, 166, 588, 590, 592, 696, 1400, 1402, 1404, 1406, 1568, 2050, 2061, 2422, 2424, 2426, 2428, 2430, 2434, 2571, 2670, 2710, 2876, 2934, 3019] (runA Q 53416 (some st3)) = some st4 := by kernel_rfl
end Go.Sy.Run
