/-
  DERIVED. GIVEN WITH THE SEED: THE CARDS: each row of YtnmedachaeanbaaGreatDoorRows.lean that lists a variable, with what it lists TIED to the program's text (the seventh form; the later family's looks); each row that meets fmt, with fmt's text TOLD by the authors' own Lean function (tested against real Go, not proved from fmt's source: count such statements apart). THE CARD IS WHAT COUNTS. Prove the row's statement (the work); the ties are given (YtnmedachaeanbaaGreatDoorTie.lean); close each card by the builder's one call (the guide's Derived/Test/ToyasCard.lean, 'card_holds'). Laid BY PROGRAM, IN A SANDBOX (cutbox-door.mjs). By AI agents, Wed Nov 11 2026. No macro, syntax, notation, axiom, sorry.
-/
import Derived.Test.YtnmedachaeanbaaGreatDoorRows
import GoSem.ClaimSeven
namespace Go.Proofs.YtnmedachaeanbaaGreatDoor
namespace Rows

/-- THE TIED CARD OF 'rubrictop.TopPatched'. -/
def topPatchedCard : Claim7 := { stood := { row := topPatchedRow, standIns := [], harness := (true, "a11a24886c8a435bfc3dca70fd21b617fc5a9715173580472a2ad113c70c42bc"), looks := false }, kinds := [], alts := [], laidByText := true, laidKinds := [.data, .pinned], laidTests := true, laidLooks := .later }
def TopPatchedCardSaid : Prop := Claim7.holds Tryz.pinned (.plain (OpenSpec.ofChange topPatchedSpec)) topPatchedCard

/-- THE TIED CARD OF 'rubrictop.TopInverts'. -/
def topInvertsCard : Claim7 := { stood := { row := topInvertsRow, standIns := [], harness := (true, "a11a24886c8a435bfc3dca70fd21b617fc5a9715173580472a2ad113c70c42bc"), looks := false }, kinds := [], alts := [], laidByText := true, laidKinds := [.data, .pinned], laidTests := true, laidLooks := .later }
def TopInvertsCardSaid : Prop := Claim7.holds Tryz.pinned (.plain (OpenSpec.ofChange topInvertsSpec)) topInvertsCard

/-- THE TIED CARD OF 'rubrictop.TopCodes'. -/
def topCodesCard : Claim7 := { stood := { row := topCodesRow, standIns := [], harness := (true, "a11a24886c8a435bfc3dca70fd21b617fc5a9715173580472a2ad113c70c42bc"), looks := false }, kinds := [], alts := [], laidByText := true, laidKinds := [.data, .pinned], laidTests := true, laidLooks := .later }
def TopCodesCardSaid : Prop := Claim7.holds Tryz.pinned (.plain (OpenSpec.ofChange topCodesSpec)) topCodesCard

/-- THE SECOND FORM's CARD OF 'rubrictop.TopPatched'. -/
def topPatchedUptoCard : Claim7 := { stood := { row := topPatchedUptoRow, standIns := [], harness := (true, "a11a24886c8a435bfc3dca70fd21b617fc5a9715173580472a2ad113c70c42bc"), looks := false }, kinds := [], alts := [], laidByText := true, laidKinds := [.data, .pinned], laidTests := true, laidLooks := .later }
def TopPatchedUptoCardSaid : Prop := Claim7.holds Tryz.pinned (.plain (OpenSpec.upto topPatchedSpec)) topPatchedUptoCard

/-- THE SECOND FORM's CARD OF 'rubrictop.TopInverts'. -/
def topInvertsUptoCard : Claim7 := { stood := { row := topInvertsUptoRow, standIns := [], harness := (true, "a11a24886c8a435bfc3dca70fd21b617fc5a9715173580472a2ad113c70c42bc"), looks := false }, kinds := [], alts := [], laidByText := true, laidKinds := [.data, .pinned], laidTests := true, laidLooks := .later }
def TopInvertsUptoCardSaid : Prop := Claim7.holds Tryz.pinned (.plain (OpenSpec.upto topInvertsSpec)) topInvertsUptoCard

/-- THE SECOND FORM's CARD OF 'rubrictop.TopCodes'. -/
def topCodesUptoCard : Claim7 := { stood := { row := topCodesUptoRow, standIns := [], harness := (true, "a11a24886c8a435bfc3dca70fd21b617fc5a9715173580472a2ad113c70c42bc"), looks := false }, kinds := [], alts := [], laidByText := true, laidKinds := [.data, .pinned], laidTests := true, laidLooks := .later }
def TopCodesUptoCardSaid : Prop := Claim7.holds Tryz.pinned (.plain (OpenSpec.upto topCodesSpec)) topCodesUptoCard
end Rows
end Go.Proofs.YtnmedachaeanbaaGreatDoor
