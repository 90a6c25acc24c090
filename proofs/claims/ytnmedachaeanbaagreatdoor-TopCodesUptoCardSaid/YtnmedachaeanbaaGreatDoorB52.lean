/- Merged texts. -/
import Derived.Test.YtnmedachaeanbaaGreatDoorB41
import Derived.Test.YtnmedachaeanbaaGreatDoorB42
import Derived.Test.YtnmedachaeanbaaGreatDoorB43
import Derived.Test.YtnmedachaeanbaaGreatDoorB44
namespace Go.Sy.Run
open Go.Sy
theorem Y4I:Leads Q st0 st11:=
 ((((((((((Leads.stretch Y8Q).trans (.stretch Y8R)).trans (.stretch Y8S)).trans (.stretch Y8T)).trans (.stretch Y8U)).trans (.stretch Y8V)).trans (.stretch Y8W)).trans (.stretch Y8X)).trans (.stretch Y8Y)).trans (.stretch Y7U)).trans (.stretch Y7V)
theorem lives_any (w:World):Calls Q 8 #[] w (fun e w'=>e=.returned (.bool true)∧w.Extends w'):=
 Leads.calls Y8P Y4I rfl rfl rfl rfl (by kernel_rfl) w
end Go.Sy.Run
