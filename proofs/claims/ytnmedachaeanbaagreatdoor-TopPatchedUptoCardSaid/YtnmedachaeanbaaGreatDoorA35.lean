/- Merged texts. -/
import Derived.Test.YtnmedachaeanbaaGreatDoorA32
namespace Go.Sy.Run
open Go.Sy
theorem Y7o : forget [0, 1, 3, 7, 15, 23, 11, 19, 5, 9, 17, 25, 13, 21, 2, 8, 16, 24, 12, 20, 6, 10, 18, 26, 14, 22] [0, 2, 3, 4, 8, 9, 10, 11, 12, 13, 24, 25, 27, 28, 75, 101, 102, 163, 164, 165, 166, 588, 590, 592, 680, 696, 795, 1400, 1402, 1404, 1406, 1410, 1568, 1570, 1655, 1693] (runA Q 40847 (some st2)) = some st3 := by kernel_rfl
end Go.Sy.Run
