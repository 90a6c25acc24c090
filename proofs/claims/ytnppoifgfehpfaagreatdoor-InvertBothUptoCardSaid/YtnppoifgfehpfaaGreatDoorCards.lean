/-
  DERIVED. GIVEN WITH THE SEED: THE CARDS: each row of YtnppoifgfehpfaaGreatDoorRows.lean that lists a variable, with what it lists TIED to the program's text (the seventh form; the later family's looks); each row that meets fmt, with fmt's text TOLD by the authors' own Lean function (tested against real Go, not proved from fmt's source: count such statements apart). THE CARD IS WHAT COUNTS. Prove the row's statement (the work); the ties are given (YtnppoifgfehpfaaGreatDoorTie.lean); close each card by the builder's one call (the guide's Derived/Test/ToyasCard.lean, 'card_holds'). Laid BY PROGRAM, IN A SANDBOX (cutbox-door.mjs). By AI agents, Wed Nov 11 2026. No macro, syntax, notation, axiom, sorry.
-/
import Derived.Test.YtnppoifgfehpfaaGreatDoorRows
import GoSem.ClaimSeven
namespace Go.Proofs.YtnppoifgfehpfaaGreatDoor
namespace Rows

/-- THE TIED CARD OF 'rubriclaw21.InvertForms'. -/
def invertFormsCard : Claim7 := { stood := { row := invertFormsRow, standIns := [], harness := (true, "8446c061c28619f272f98342dda4f72efaca0d8c8c563652993080330f11c789"), looks := false }, kinds := [], alts := [], laidByText := true, laidKinds := [.data, .pinned], laidTests := true, laidLooks := .later }
def InvertFormsCardSaid : Prop := Claim7.holds Tryz.pinned (.plain (OpenSpec.ofChange invertFormsSpec)) invertFormsCard

/-- THE TIED CARD OF 'rubriclaw21.InvertBack'. -/
def invertBackCard : Claim7 := { stood := { row := invertBackRow, standIns := [], harness := (true, "8446c061c28619f272f98342dda4f72efaca0d8c8c563652993080330f11c789"), looks := false }, kinds := [], alts := [], laidByText := true, laidKinds := [.data, .pinned], laidTests := true, laidLooks := .later }
def InvertBackCardSaid : Prop := Claim7.holds Tryz.pinned (.plain (OpenSpec.ofChange invertBackSpec)) invertBackCard

/-- THE TIED CARD OF 'rubriclaw21.InvertBoth'. -/
def invertBothCard : Claim7 := { stood := { row := invertBothRow, standIns := [], harness := (true, "8446c061c28619f272f98342dda4f72efaca0d8c8c563652993080330f11c789"), looks := false }, kinds := [], alts := [], laidByText := true, laidKinds := [.data, .pinned], laidTests := true, laidLooks := .later }
def InvertBothCardSaid : Prop := Claim7.holds Tryz.pinned (.plain (OpenSpec.ofChange invertBothSpec)) invertBothCard

/-- THE TIED CARD OF 'rubriclaw20.ComposeLong'. -/
def composeLongCard : Claim7 := { stood := { row := composeLongRow, standIns := [], harness := (true, "8446c061c28619f272f98342dda4f72efaca0d8c8c563652993080330f11c789"), looks := false }, kinds := [], alts := [], laidByText := true, laidKinds := [.data, .pinned], laidTests := true, laidLooks := .later }
def ComposeLongCardSaid : Prop := Claim7.holds Tryz.pinned (.plain (OpenSpec.ofChange composeLongSpec)) composeLongCard

/-- THE TIED CARD OF 'rubriclaw20.ComposeBrackets'. -/
def composeBracketsCard : Claim7 := { stood := { row := composeBracketsRow, standIns := [], harness := (true, "8446c061c28619f272f98342dda4f72efaca0d8c8c563652993080330f11c789"), looks := false }, kinds := [], alts := [], laidByText := true, laidKinds := [.data, .pinned], laidTests := true, laidLooks := .later }
def ComposeBracketsCardSaid : Prop := Claim7.holds Tryz.pinned (.plain (OpenSpec.ofChange composeBracketsSpec)) composeBracketsCard

/-- THE TIED CARD OF 'rubriclaw20.ComposeIs'. -/
def composeIsCard : Claim7 := { stood := { row := composeIsRow, standIns := [], harness := (true, "8446c061c28619f272f98342dda4f72efaca0d8c8c563652993080330f11c789"), looks := false }, kinds := [], alts := [], laidByText := true, laidKinds := [.data, .pinned], laidTests := true, laidLooks := .later }
def ComposeIsCardSaid : Prop := Claim7.holds Tryz.pinned (.plain (OpenSpec.ofChange composeIsSpec)) composeIsCard

/-- THE TIED CARD OF 'rubriclaw20.ComposeEmpty'. -/
def composeEmptyCard : Claim7 := { stood := { row := composeEmptyRow, standIns := [], harness := (true, "8446c061c28619f272f98342dda4f72efaca0d8c8c563652993080330f11c789"), looks := false }, kinds := [], alts := [], laidByText := true, laidKinds := [.data, .pinned], laidTests := true, laidLooks := .later }
def ComposeEmptyCardSaid : Prop := Claim7.holds Tryz.pinned (.plain (OpenSpec.ofChange composeEmptySpec)) composeEmptyCard

/-- THE TIED CARD OF 'rubriclaw20.ComposeNothing'. -/
def composeNothingCard : Claim7 := { stood := { row := composeNothingRow, standIns := [], harness := (true, "8446c061c28619f272f98342dda4f72efaca0d8c8c563652993080330f11c789"), looks := false }, kinds := [], alts := [], laidByText := true, laidKinds := [.data, .pinned], laidTests := true, laidLooks := .later }
def ComposeNothingCardSaid : Prop := Claim7.holds Tryz.pinned (.plain (OpenSpec.ofChange composeNothingSpec)) composeNothingCard

/-- THE TIED CARD OF 'rubriclaw20.ComposeFirst'. -/
def composeFirstCard : Claim7 := { stood := { row := composeFirstRow, standIns := [], harness := (true, "8446c061c28619f272f98342dda4f72efaca0d8c8c563652993080330f11c789"), looks := false }, kinds := [], alts := [], laidByText := true, laidKinds := [.data, .pinned], laidTests := true, laidLooks := .later }
def ComposeFirstCardSaid : Prop := Claim7.holds Tryz.pinned (.plain (OpenSpec.ofChange composeFirstSpec)) composeFirstCard

/-- THE TIED CARD OF 'rubriclaw20.ComposeDoes'. -/
def composeDoesCard : Claim7 := { stood := { row := composeDoesRow, standIns := [], harness := (true, "8446c061c28619f272f98342dda4f72efaca0d8c8c563652993080330f11c789"), looks := false }, kinds := [], alts := [], laidByText := true, laidKinds := [.data, .pinned], laidTests := true, laidLooks := .later }
def ComposeDoesCardSaid : Prop := Claim7.holds Tryz.pinned (.plain (OpenSpec.ofChange composeDoesSpec)) composeDoesCard

/-- THE TIED CARD OF 'rubriclaw19.ApplyDoes'. -/
def applyDoesCard : Claim7 := { stood := { row := applyDoesRow, standIns := [], harness := (true, "8446c061c28619f272f98342dda4f72efaca0d8c8c563652993080330f11c789"), looks := false }, kinds := [], alts := [], laidByText := true, laidKinds := [.data, .pinned], laidTests := true, laidLooks := .later }
def ApplyDoesCardSaid : Prop := Claim7.holds Tryz.pinned (.plain (OpenSpec.ofChange applyDoesSpec)) applyDoesCard

/-- THE TIED CARD OF 'rubriclaw23.DiffDoes'. -/
def diffDoesCard : Claim7 := { stood := { row := diffDoesRow, standIns := [], harness := (true, "8446c061c28619f272f98342dda4f72efaca0d8c8c563652993080330f11c789"), looks := false }, kinds := [], alts := [], laidByText := true, laidKinds := [.data, .pinned], laidTests := true, laidLooks := .later }
def DiffDoesCardSaid : Prop := Claim7.holds Tryz.pinned (.plain (OpenSpec.ofChange diffDoesSpec)) diffDoesCard

/-- THE SECOND FORM's CARD OF 'rubriclaw21.InvertForms'. -/
def invertFormsUptoCard : Claim7 := { stood := { row := invertFormsUptoRow, standIns := [], harness := (true, "8446c061c28619f272f98342dda4f72efaca0d8c8c563652993080330f11c789"), looks := false }, kinds := [], alts := [], laidByText := true, laidKinds := [.data, .pinned], laidTests := true, laidLooks := .later }
def InvertFormsUptoCardSaid : Prop := Claim7.holds Tryz.pinned (.plain (OpenSpec.upto invertFormsSpec)) invertFormsUptoCard

/-- THE SECOND FORM's CARD OF 'rubriclaw21.InvertBack'. -/
def invertBackUptoCard : Claim7 := { stood := { row := invertBackUptoRow, standIns := [], harness := (true, "8446c061c28619f272f98342dda4f72efaca0d8c8c563652993080330f11c789"), looks := false }, kinds := [], alts := [], laidByText := true, laidKinds := [.data, .pinned], laidTests := true, laidLooks := .later }
def InvertBackUptoCardSaid : Prop := Claim7.holds Tryz.pinned (.plain (OpenSpec.upto invertBackSpec)) invertBackUptoCard

/-- THE SECOND FORM's CARD OF 'rubriclaw21.InvertBoth'. -/
def invertBothUptoCard : Claim7 := { stood := { row := invertBothUptoRow, standIns := [], harness := (true, "8446c061c28619f272f98342dda4f72efaca0d8c8c563652993080330f11c789"), looks := false }, kinds := [], alts := [], laidByText := true, laidKinds := [.data, .pinned], laidTests := true, laidLooks := .later }
def InvertBothUptoCardSaid : Prop := Claim7.holds Tryz.pinned (.plain (OpenSpec.upto invertBothSpec)) invertBothUptoCard

/-- THE SECOND FORM's CARD OF 'rubriclaw20.ComposeLong'. -/
def composeLongUptoCard : Claim7 := { stood := { row := composeLongUptoRow, standIns := [], harness := (true, "8446c061c28619f272f98342dda4f72efaca0d8c8c563652993080330f11c789"), looks := false }, kinds := [], alts := [], laidByText := true, laidKinds := [.data, .pinned], laidTests := true, laidLooks := .later }
def ComposeLongUptoCardSaid : Prop := Claim7.holds Tryz.pinned (.plain (OpenSpec.upto composeLongSpec)) composeLongUptoCard

/-- THE SECOND FORM's CARD OF 'rubriclaw20.ComposeBrackets'. -/
def composeBracketsUptoCard : Claim7 := { stood := { row := composeBracketsUptoRow, standIns := [], harness := (true, "8446c061c28619f272f98342dda4f72efaca0d8c8c563652993080330f11c789"), looks := false }, kinds := [], alts := [], laidByText := true, laidKinds := [.data, .pinned], laidTests := true, laidLooks := .later }
def ComposeBracketsUptoCardSaid : Prop := Claim7.holds Tryz.pinned (.plain (OpenSpec.upto composeBracketsSpec)) composeBracketsUptoCard

/-- THE SECOND FORM's CARD OF 'rubriclaw20.ComposeIs'. -/
def composeIsUptoCard : Claim7 := { stood := { row := composeIsUptoRow, standIns := [], harness := (true, "8446c061c28619f272f98342dda4f72efaca0d8c8c563652993080330f11c789"), looks := false }, kinds := [], alts := [], laidByText := true, laidKinds := [.data, .pinned], laidTests := true, laidLooks := .later }
def ComposeIsUptoCardSaid : Prop := Claim7.holds Tryz.pinned (.plain (OpenSpec.upto composeIsSpec)) composeIsUptoCard

/-- THE SECOND FORM's CARD OF 'rubriclaw20.ComposeEmpty'. -/
def composeEmptyUptoCard : Claim7 := { stood := { row := composeEmptyUptoRow, standIns := [], harness := (true, "8446c061c28619f272f98342dda4f72efaca0d8c8c563652993080330f11c789"), looks := false }, kinds := [], alts := [], laidByText := true, laidKinds := [.data, .pinned], laidTests := true, laidLooks := .later }
def ComposeEmptyUptoCardSaid : Prop := Claim7.holds Tryz.pinned (.plain (OpenSpec.upto composeEmptySpec)) composeEmptyUptoCard

/-- THE SECOND FORM's CARD OF 'rubriclaw20.ComposeNothing'. -/
def composeNothingUptoCard : Claim7 := { stood := { row := composeNothingUptoRow, standIns := [], harness := (true, "8446c061c28619f272f98342dda4f72efaca0d8c8c563652993080330f11c789"), looks := false }, kinds := [], alts := [], laidByText := true, laidKinds := [.data, .pinned], laidTests := true, laidLooks := .later }
def ComposeNothingUptoCardSaid : Prop := Claim7.holds Tryz.pinned (.plain (OpenSpec.upto composeNothingSpec)) composeNothingUptoCard

/-- THE SECOND FORM's CARD OF 'rubriclaw20.ComposeFirst'. -/
def composeFirstUptoCard : Claim7 := { stood := { row := composeFirstUptoRow, standIns := [], harness := (true, "8446c061c28619f272f98342dda4f72efaca0d8c8c563652993080330f11c789"), looks := false }, kinds := [], alts := [], laidByText := true, laidKinds := [.data, .pinned], laidTests := true, laidLooks := .later }
def ComposeFirstUptoCardSaid : Prop := Claim7.holds Tryz.pinned (.plain (OpenSpec.upto composeFirstSpec)) composeFirstUptoCard

/-- THE SECOND FORM's CARD OF 'rubriclaw20.ComposeDoes'. -/
def composeDoesUptoCard : Claim7 := { stood := { row := composeDoesUptoRow, standIns := [], harness := (true, "8446c061c28619f272f98342dda4f72efaca0d8c8c563652993080330f11c789"), looks := false }, kinds := [], alts := [], laidByText := true, laidKinds := [.data, .pinned], laidTests := true, laidLooks := .later }
def ComposeDoesUptoCardSaid : Prop := Claim7.holds Tryz.pinned (.plain (OpenSpec.upto composeDoesSpec)) composeDoesUptoCard

/-- THE SECOND FORM's CARD OF 'rubriclaw19.ApplyDoes'. -/
def applyDoesUptoCard : Claim7 := { stood := { row := applyDoesUptoRow, standIns := [], harness := (true, "8446c061c28619f272f98342dda4f72efaca0d8c8c563652993080330f11c789"), looks := false }, kinds := [], alts := [], laidByText := true, laidKinds := [.data, .pinned], laidTests := true, laidLooks := .later }
def ApplyDoesUptoCardSaid : Prop := Claim7.holds Tryz.pinned (.plain (OpenSpec.upto applyDoesSpec)) applyDoesUptoCard

/-- THE SECOND FORM's CARD OF 'rubriclaw23.DiffDoes'. -/
def diffDoesUptoCard : Claim7 := { stood := { row := diffDoesUptoRow, standIns := [], harness := (true, "8446c061c28619f272f98342dda4f72efaca0d8c8c563652993080330f11c789"), looks := false }, kinds := [], alts := [], laidByText := true, laidKinds := [.data, .pinned], laidTests := true, laidLooks := .later }
def DiffDoesUptoCardSaid : Prop := Claim7.holds Tryz.pinned (.plain (OpenSpec.upto diffDoesSpec)) diffDoesUptoCard
end Rows
end Go.Proofs.YtnppoifgfehpfaaGreatDoor
