/- Merged texts. -/
import Derived.Test.YtnmedachaeanbaaGreatDoorB40
namespace Go.Sy.Run
open Go.Sy
theorem Y8Q:forget [0,7,8,6] [0,2,3,4,8,9,10,11,12,13,24,25,27,28,36,75,101,102,119,163,164] (runA Q 8791 (some st0))=some st1:=by kernel_rfl
theorem Y8R:forget [0,1,3,7,15,11,19,5,9,17,13,2,8,16,12,20,6,10,18,14] [0,2,3,4,8,9,10,11,12,13,24,25,27,28,75,101,102,119,163,164,165,166,588,590,592,596,680,696,795,916] (runA Q 42574 (some st1))=some st2:=by kernel_rfl
theorem Y8S:forget [0,1,3,7,15,23,11,19,5,9,17,25,13,21,2,8,16,24,12,20,6,10,18,26,14,22] [0,2,3,4,8,9,10,11,12,13,24,25,27,28,75,101,102,163,164,165,166,588,590,592,680,696,795,1400,1402,1404,1406,1410,1568,1570,1655,1693] (runA Q 40847 (some st2))=some st3:=by kernel_rfl
end Go.Sy.Run
