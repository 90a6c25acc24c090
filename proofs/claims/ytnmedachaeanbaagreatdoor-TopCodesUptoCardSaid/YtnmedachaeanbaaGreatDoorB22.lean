/- Merged texts. -/
import Derived.Test.YtnmedachaeanbaaGreatDoorB14
namespace Go.Proofs.YtnmedachaeanbaaGreatDoor
open Go.RowKit
set_option linter.unusedVariables false
theorem Z2Q {w:World} {base n c:Nat} {A:Option Addr} {I:List OpS} {o:Opd} (h:OwOs w base (.slice A n c) I) (hn:I.length=n) (ho:(osOf I).getLast? = some o) :
 ∃ (g:Nat) (x:OpS),0<n∧A=some ⟨g,0,none⟩∧I.getLast? = some x∧x.o=o∧I=I.dropLast++[x] ∧
   (∃ cur,w.heap[g]? = some (.cells cur 36 (0,0)))∧CellsAt w ⟨g,(n-1)*5,none⟩ x.enc:=by
 subst hn
 exact Z7M h ho
end Go.Proofs.YtnmedachaeanbaaGreatDoor
