/- What an index of a first hit says. -/
import Derived.Test.YtclfplpggmefjaaTypes
namespace Go.Proofs.Ytclfplpggmefjaa
def IdxOut {α : Type} (pr : α → Bool) (l : List α) (i : Int) : Prop :=
  (i = -1 ∧ ∀ x ∈ l, pr x = false) ∨ ∃ j : Nat, i = j ∧ j < l.length ∧ (∀ x ∈ l.take j, pr x = false) ∧ ∃ x, l[j]? = some x ∧ pr x = true
end Go.Proofs.Ytclfplpggmefjaa
