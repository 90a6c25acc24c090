/- Merged texts. -/
import Derived.Test.YtnmedachaeanbaaGreatDoorA33
import Derived.Test.YtnmedachaeanbaaGreatDoorA34
import Derived.Test.YtnmedachaeanbaaGreatDoorA35
import Derived.Test.YtnmedachaeanbaaGreatDoorA36
import Derived.Test.YtnmedachaeanbaaGreatDoorA37
import Derived.Test.YtnmedachaeanbaaGreatDoorA38
import Derived.Test.YtnmedachaeanbaaGreatDoorA39
import Derived.Test.YtnmedachaeanbaaGreatDoorA40
import Derived.Test.YtnmedachaeanbaaGreatDoorA41
import Derived.Test.YtnmedachaeanbaaGreatDoorA42
import Derived.Test.YtnmedachaeanbaaGreatDoorA43
namespace Go.Sy.Run
open Go.Sy
theorem Y3J : Leads Q st0 st11 :=
 ((((((((((Leads.stretch Y7m).trans (.stretch Y7n)).trans (.stretch Y7o)).trans (.stretch Y7p)).trans (.stretch Y7q)).trans (.stretch Y7r)).trans (.stretch Y7s)).trans (.stretch Y7t)).trans (.stretch Y7u)).trans (.stretch Y6D)).trans (.stretch Y6E)
theorem lives_any (w : World) : Calls Q 8 #[] w (fun e w' => e = .returned (.bool true) ∧ w.Extends w') :=
 Leads.calls Y7l Y3J rfl rfl rfl rfl (by kernel_rfl) w
end Go.Sy.Run
