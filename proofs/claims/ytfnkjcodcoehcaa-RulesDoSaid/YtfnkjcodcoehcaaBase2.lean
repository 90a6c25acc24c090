/- More small laws on lists in memory. -/
import Derived.Test.YtfnkjcodcoehcaaBase
namespace Go.Proofs.Ytfnkjcodcoehcaa
open Go.RowKit

section
variable {α : Type} {enc : α → List Value} {size : Nat} {e : TypeId} {w : World} {base n c : Nat} {A : Option Addr} {l : List α}
theorem Ow.cap (h : Ow enc size e w base (.slice A n c) l) : l.length ≤ c ∧ c ≤ maxLen := by
  obtain ⟨_, _, ev, hle, hcm⟩ := h.form
  injection ev with _ _ ev
  exact ⟨by omega, by omega⟩
end
end Go.Proofs.Ytfnkjcodcoehcaa
