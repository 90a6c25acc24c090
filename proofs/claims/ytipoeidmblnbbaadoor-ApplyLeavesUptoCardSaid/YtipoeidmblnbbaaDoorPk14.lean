/- The last op of an own row of ops, by a length under a name. -/
import Derived.Test.YtipoeidmblnbbaaDoorMkRetPd
namespace Go.Proofs.YtipoeidmblnbbaaDoor
open Go.RowKit
set_option linter.unusedVariables false
theorem own_lastN {w : World} {base n c : Nat} {A : Option Addr} {I : List OpS} {o : Opd} (h : OwOs w base (.slice A n c) I) (hn : I.length = n) (ho : (osOf I).getLast? = some o) :
    ∃ (g : Nat) (x : OpS), 0 < n ∧ A = some ⟨g, 0, none⟩ ∧ I.getLast? = some x ∧ x.o = o ∧ I = I.dropLast ++ [x] ∧
      (∃ cur, w.heap[g]? = some (.cells cur 45 (0, 0))) ∧ CellsAt w ⟨g, (n - 1) * 5, none⟩ x.enc := by
  subst hn
  exact own_last h ho
end Go.Proofs.YtipoeidmblnbbaaDoor
