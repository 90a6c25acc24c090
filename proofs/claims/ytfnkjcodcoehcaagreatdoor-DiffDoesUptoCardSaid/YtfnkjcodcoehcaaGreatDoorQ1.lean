/- Merged texts: LeadW. -/
import Derived.Test.YtfnkjcodcoehcaaGreatDoorP33
import Derived.Test.YtfnkjcodcoehcaaGreatDoorP34
import Derived.Test.YtfnkjcodcoehcaaGreatDoorP23
import Derived.Test.YtfnkjcodcoehcaaGreatDoorP14
namespace Go.Proofs.YtfnkjcodcoehcaaGreatDoor
open Go.RowKit
set_option linter.unusedVariables false
set_option linter.unusedSimpArgs false

theorem diffU_len {d e : List Cl} (hd : d ≠ []) (he : e ≠ []) : (diffU d e).length ≤ 2 * d.length + e.length := by
  obtain ⟨b1, b2⟩ := begD_le hd he
  unfold diffU diffU1
  simp only [List.length_append, List.length_replicate, List.length_map, List.length_zip, List.length_take, List.length_drop]
  omega
end Go.Proofs.YtfnkjcodcoehcaaGreatDoor
