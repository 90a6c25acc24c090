/-
  DERIVED. GIVEN WITH THE SEED: THE CARDS: each row of YtipoeidmblnbbaaDoorRows.lean that lists a variable, with what it lists TIED to the program's text (the seventh form; the later family's looks); each row that meets fmt, with fmt's text TOLD by the authors' own Lean function (tested against real Go, not proved from fmt's source: count such statements apart). THE CARD IS WHAT COUNTS. Prove the row's statement (the work); the ties are given (YtipoeidmblnbbaaDoorTie.lean); close each card by the builder's one call (the guide's Derived/Test/ToyasCard.lean, 'card_holds'). Laid BY PROGRAM, IN A SANDBOX (cutbox-door.mjs). By AI agents, Wed Nov 11 2026. No macro, syntax, notation, axiom, sorry.
-/
import Derived.Test.YtipoeidmblnbbaaDoorRows
import GoSem.ClaimSeven
namespace Go.Proofs.YtipoeidmblnbbaaDoor
namespace Rows

/-- THE TIED CARD OF 'rubriclaw18.CellsApart'. -/
def cellsApartCard : Claim7 := { stood := { row := cellsApartRow, standIns := [], harness := (true, "423cb7571a526ec555d37a300d141688fc4c461f6df89b4562f1359339f9d068"), looks := false }, kinds := [], alts := [], laidByText := true, laidKinds := [.data, .pinned], laidTests := true, laidLooks := .later }
def CellsApartCardSaid : Prop := Claim7.holds Tryd.pinned (.plain (OpenSpec.ofChange cellsApartSpec)) cellsApartCard

/-- THE TIED CARD OF 'rubriclaw23.DiffTouches'. -/
def diffTouchesCard : Claim7 := { stood := { row := diffTouchesRow, standIns := [], harness := (true, "423cb7571a526ec555d37a300d141688fc4c461f6df89b4562f1359339f9d068"), looks := false }, kinds := [], alts := [], laidByText := true, laidKinds := [.data, .pinned], laidTests := true, laidLooks := .later }
def DiffTouchesCardSaid : Prop := Claim7.holds Tryd.pinned (.plain (OpenSpec.ofChange diffTouchesSpec)) diffTouchesCard

/-- THE TIED CARD OF 'rubriclaw19.ApplyLeaves'. -/
def applyLeavesCard : Claim7 := { stood := { row := applyLeavesRow, standIns := [], harness := (true, "423cb7571a526ec555d37a300d141688fc4c461f6df89b4562f1359339f9d068"), looks := false }, kinds := [], alts := [], laidByText := true, laidKinds := [.data, .pinned], laidTests := true, laidLooks := .later }
def ApplyLeavesCardSaid : Prop := Claim7.holds Tryd.pinned (.plain (OpenSpec.ofChange applyLeavesSpec)) applyLeavesCard

/-- THE TIED CARD OF 'rubriclaw19.ApplySteps'. -/
def applyStepsCard : Claim7 := { stood := { row := applyStepsRow, standIns := [], harness := (true, "423cb7571a526ec555d37a300d141688fc4c461f6df89b4562f1359339f9d068"), looks := false }, kinds := [], alts := [], laidByText := true, laidKinds := [.data, .pinned], laidTests := true, laidLooks := .later }
def ApplyStepsCardSaid : Prop := Claim7.holds Tryd.pinned (.plain (OpenSpec.ofChange applyStepsSpec)) applyStepsCard

/-- THE SECOND FORM's CARD OF 'rubriclaw18.CellsApart'. -/
def cellsApartUptoCard : Claim7 := { stood := { row := cellsApartUptoRow, standIns := [], harness := (true, "423cb7571a526ec555d37a300d141688fc4c461f6df89b4562f1359339f9d068"), looks := false }, kinds := [], alts := [], laidByText := true, laidKinds := [.data, .pinned], laidTests := true, laidLooks := .later }
def CellsApartUptoCardSaid : Prop := Claim7.holds Tryd.pinned (.plain (OpenSpec.upto cellsApartSpec)) cellsApartUptoCard

/-- THE SECOND FORM's CARD OF 'rubriclaw23.DiffTouches'. -/
def diffTouchesUptoCard : Claim7 := { stood := { row := diffTouchesUptoRow, standIns := [], harness := (true, "423cb7571a526ec555d37a300d141688fc4c461f6df89b4562f1359339f9d068"), looks := false }, kinds := [], alts := [], laidByText := true, laidKinds := [.data, .pinned], laidTests := true, laidLooks := .later }
def DiffTouchesUptoCardSaid : Prop := Claim7.holds Tryd.pinned (.plain (OpenSpec.upto diffTouchesSpec)) diffTouchesUptoCard

/-- THE SECOND FORM's CARD OF 'rubriclaw19.ApplyLeaves'. -/
def applyLeavesUptoCard : Claim7 := { stood := { row := applyLeavesUptoRow, standIns := [], harness := (true, "423cb7571a526ec555d37a300d141688fc4c461f6df89b4562f1359339f9d068"), looks := false }, kinds := [], alts := [], laidByText := true, laidKinds := [.data, .pinned], laidTests := true, laidLooks := .later }
def ApplyLeavesUptoCardSaid : Prop := Claim7.holds Tryd.pinned (.plain (OpenSpec.upto applyLeavesSpec)) applyLeavesUptoCard

/-- THE SECOND FORM's CARD OF 'rubriclaw19.ApplySteps'. -/
def applyStepsUptoCard : Claim7 := { stood := { row := applyStepsUptoRow, standIns := [], harness := (true, "423cb7571a526ec555d37a300d141688fc4c461f6df89b4562f1359339f9d068"), looks := false }, kinds := [], alts := [], laidByText := true, laidKinds := [.data, .pinned], laidTests := true, laidLooks := .later }
def ApplyStepsUptoCardSaid : Prop := Claim7.holds Tryd.pinned (.plain (OpenSpec.upto applyStepsSpec)) applyStepsUptoCard
end Rows
end Go.Proofs.YtipoeidmblnbbaaDoor
