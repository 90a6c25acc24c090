/-
  DERIVED. GIVEN WITH THE SEED: THE CARDS: each row of YtbdkbfoplpociaaGreatDoorRows.lean that lists a variable, with what it lists TIED to the program's text (the seventh form; the later family's looks); each row that meets fmt, with fmt's text TOLD by the authors' own Lean function (tested against real Go, not proved from fmt's source: count such statements apart). THE CARD IS WHAT COUNTS. Prove the row's statement (the work); the ties are given (YtbdkbfoplpociaaGreatDoorTie.lean); close each card by the builder's one call (the guide's Derived/Test/ToyasCard.lean, 'card_holds'). Laid BY PROGRAM, IN A SANDBOX (cutbox-door.mjs). By AI agents, Wed Nov 11 2026. No macro, syntax, notation, axiom, sorry.
-/
import Derived.Test.YtbdkbfoplpociaaGreatDoorRows
import GoSem.ClaimSeven
namespace Go.Proofs.YtbdkbfoplpociaaGreatDoor
namespace Rows

/-- THE TIED CARD OF 'rubriclaw20.ComposeEmpty'. -/
def composeEmptyCard : Claim7 := { stood := { row := composeEmptyRow, standIns := [], harness := (true, "95d10c327bacec539cbfbcbb92b2b84a5fbe3ad84e65bd184dc9f09d8aa4eaa7"), looks := false }, kinds := [], alts := [], laidByText := true, laidKinds := [.data, .pinned], laidTests := true, laidLooks := .later }
def ComposeEmptyCardSaid : Prop := Claim7.holds Tryz.pinned (.plain (OpenSpec.ofChange composeEmptySpec)) composeEmptyCard

/-- THE TIED CARD OF 'rubriclaw20.ComposeNothing'. -/
def composeNothingCard : Claim7 := { stood := { row := composeNothingRow, standIns := [], harness := (true, "95d10c327bacec539cbfbcbb92b2b84a5fbe3ad84e65bd184dc9f09d8aa4eaa7"), looks := false }, kinds := [], alts := [], laidByText := true, laidKinds := [.data, .pinned], laidTests := true, laidLooks := .later }
def ComposeNothingCardSaid : Prop := Claim7.holds Tryz.pinned (.plain (OpenSpec.ofChange composeNothingSpec)) composeNothingCard

/-- THE TIED CARD OF 'rubriclaw20.ComposeFirst'. -/
def composeFirstCard : Claim7 := { stood := { row := composeFirstRow, standIns := [], harness := (true, "95d10c327bacec539cbfbcbb92b2b84a5fbe3ad84e65bd184dc9f09d8aa4eaa7"), looks := false }, kinds := [], alts := [], laidByText := true, laidKinds := [.data, .pinned], laidTests := true, laidLooks := .later }
def ComposeFirstCardSaid : Prop := Claim7.holds Tryz.pinned (.plain (OpenSpec.ofChange composeFirstSpec)) composeFirstCard

/-- THE TIED CARD OF 'rubriclaw20.ComposeDoes'. -/
def composeDoesCard : Claim7 := { stood := { row := composeDoesRow, standIns := [], harness := (true, "95d10c327bacec539cbfbcbb92b2b84a5fbe3ad84e65bd184dc9f09d8aa4eaa7"), looks := false }, kinds := [], alts := [], laidByText := true, laidKinds := [.data, .pinned], laidTests := true, laidLooks := .later }
def ComposeDoesCardSaid : Prop := Claim7.holds Tryz.pinned (.plain (OpenSpec.ofChange composeDoesSpec)) composeDoesCard

/-- THE TIED CARD OF 'rubriclaw19.ApplyDoes'. -/
def applyDoesCard : Claim7 := { stood := { row := applyDoesRow, standIns := [], harness := (true, "95d10c327bacec539cbfbcbb92b2b84a5fbe3ad84e65bd184dc9f09d8aa4eaa7"), looks := false }, kinds := [], alts := [], laidByText := true, laidKinds := [.data, .pinned], laidTests := true, laidLooks := .later }
def ApplyDoesCardSaid : Prop := Claim7.holds Tryz.pinned (.plain (OpenSpec.ofChange applyDoesSpec)) applyDoesCard

/-- THE TIED CARD OF 'rubriclaw23.DiffDoes'. -/
def diffDoesCard : Claim7 := { stood := { row := diffDoesRow, standIns := [], harness := (true, "95d10c327bacec539cbfbcbb92b2b84a5fbe3ad84e65bd184dc9f09d8aa4eaa7"), looks := false }, kinds := [], alts := [], laidByText := true, laidKinds := [.data, .pinned], laidTests := true, laidLooks := .later }
def DiffDoesCardSaid : Prop := Claim7.holds Tryz.pinned (.plain (OpenSpec.ofChange diffDoesSpec)) diffDoesCard

/-- THE TIED CARD OF 'rubriclaw26.FragmentDoes'. -/
def fragmentDoesCard : Claim7 := { stood := { row := fragmentDoesRow, standIns := [], harness := (true, "95d10c327bacec539cbfbcbb92b2b84a5fbe3ad84e65bd184dc9f09d8aa4eaa7"), looks := false }, kinds := [], alts := [], laidByText := true, laidKinds := [.data, .pinned], laidTests := true, laidLooks := .later }
def FragmentDoesCardSaid : Prop := Claim7.holds Tryz.pinned (.plain (OpenSpec.ofChange fragmentDoesSpec)) fragmentDoesCard

/-- THE TIED CARD OF 'rubriclaw22.TransformDoes'. -/
def transformDoesCard : Claim7 := { stood := { row := transformDoesRow, standIns := [], harness := (true, "95d10c327bacec539cbfbcbb92b2b84a5fbe3ad84e65bd184dc9f09d8aa4eaa7"), looks := false }, kinds := [], alts := [], laidByText := true, laidKinds := [.data, .pinned], laidTests := true, laidLooks := .later }
def TransformDoesCardSaid : Prop := Claim7.holds Tryz.pinned (.plain (OpenSpec.ofChange transformDoesSpec)) transformDoesCard

/-- THE TIED CARD OF 'rubriclaw22.TransformNothing'. -/
def transformNothingCard : Claim7 := { stood := { row := transformNothingRow, standIns := [], harness := (true, "95d10c327bacec539cbfbcbb92b2b84a5fbe3ad84e65bd184dc9f09d8aa4eaa7"), looks := false }, kinds := [], alts := [], laidByText := true, laidKinds := [.data, .pinned], laidTests := true, laidLooks := .later }
def TransformNothingCardSaid : Prop := Claim7.holds Tryz.pinned (.plain (OpenSpec.ofChange transformNothingSpec)) transformNothingCard

/-- THE TIED CARD OF 'rubriclaw22.TransformPlaces'. -/
def transformPlacesCard : Claim7 := { stood := { row := transformPlacesRow, standIns := [], harness := (true, "95d10c327bacec539cbfbcbb92b2b84a5fbe3ad84e65bd184dc9f09d8aa4eaa7"), looks := false }, kinds := [], alts := [], laidByText := true, laidKinds := [.data, .pinned], laidTests := true, laidLooks := .later }
def TransformPlacesCardSaid : Prop := Claim7.holds Tryz.pinned (.plain (OpenSpec.ofChange transformPlacesSpec)) transformPlacesCard

/-- THE TIED CARD OF 'rubriclaw22.TransformForms'. -/
def transformFormsCard : Claim7 := { stood := { row := transformFormsRow, standIns := [], harness := (true, "95d10c327bacec539cbfbcbb92b2b84a5fbe3ad84e65bd184dc9f09d8aa4eaa7"), looks := false }, kinds := [], alts := [], laidByText := true, laidKinds := [.data, .pinned], laidTests := true, laidLooks := .later }
def TransformFormsCardSaid : Prop := Claim7.holds Tryz.pinned (.plain (OpenSpec.ofChange transformFormsSpec)) transformFormsCard

/-- THE TIED CARD OF 'rubriclaw22.TransformApart'. -/
def transformApartCard : Claim7 := { stood := { row := transformApartRow, standIns := [], harness := (true, "95d10c327bacec539cbfbcbb92b2b84a5fbe3ad84e65bd184dc9f09d8aa4eaa7"), looks := false }, kinds := [], alts := [], laidByText := true, laidKinds := [.data, .pinned], laidTests := true, laidLooks := .later }
def TransformApartCardSaid : Prop := Claim7.holds Tryz.pinned (.plain (OpenSpec.ofChange transformApartSpec)) transformApartCard

/-- THE TIED CARD OF 'rubriclaw22.TransformMerges'. -/
def transformMergesCard : Claim7 := { stood := { row := transformMergesRow, standIns := [], harness := (true, "95d10c327bacec539cbfbcbb92b2b84a5fbe3ad84e65bd184dc9f09d8aa4eaa7"), looks := false }, kinds := [], alts := [], laidByText := true, laidKinds := [.data, .pinned], laidTests := true, laidLooks := .later }
def TransformMergesCardSaid : Prop := Claim7.holds Tryz.pinned (.plain (OpenSpec.ofChange transformMergesSpec)) transformMergesCard

/-- THE TIED CARD OF 'rubriclaw22.TransformMeets'. -/
def transformMeetsCard : Claim7 := { stood := { row := transformMeetsRow, standIns := [], harness := (true, "95d10c327bacec539cbfbcbb92b2b84a5fbe3ad84e65bd184dc9f09d8aa4eaa7"), looks := false }, kinds := [], alts := [], laidByText := true, laidKinds := [.data, .pinned], laidTests := true, laidLooks := .later }
def TransformMeetsCardSaid : Prop := Claim7.holds Tryz.pinned (.plain (OpenSpec.ofChange transformMeetsSpec)) transformMeetsCard

/-- THE TIED CARD OF 'rubriclaw24.BuilderRemoves'. -/
def builderRemovesCard : Claim7 := { stood := { row := builderRemovesRow, standIns := [], harness := (true, "95d10c327bacec539cbfbcbb92b2b84a5fbe3ad84e65bd184dc9f09d8aa4eaa7"), looks := false }, kinds := [], alts := [], laidByText := true, laidKinds := [.data, .pinned], laidTests := true, laidLooks := .later }
def BuilderRemovesCardSaid : Prop := Claim7.holds Tryz.pinned (.plain (OpenSpec.ofChange builderRemovesSpec)) builderRemovesCard

/-- THE TIED CARD OF 'rubriclaw24.BuilderTypes'. -/
def builderTypesCard : Claim7 := { stood := { row := builderTypesRow, standIns := [], harness := (true, "95d10c327bacec539cbfbcbb92b2b84a5fbe3ad84e65bd184dc9f09d8aa4eaa7"), looks := false }, kinds := [], alts := [], laidByText := true, laidKinds := [.data, .pinned], laidTests := true, laidLooks := .later }
def BuilderTypesCardSaid : Prop := Claim7.holds Tryz.pinned (.plain (OpenSpec.ofChange builderTypesSpec)) builderTypesCard

/-- THE TIED CARD OF 'rubriclaw24.BuilderFormats'. -/
def builderFormatsCard : Claim7 := { stood := { row := builderFormatsRow, standIns := [], harness := (true, "95d10c327bacec539cbfbcbb92b2b84a5fbe3ad84e65bd184dc9f09d8aa4eaa7"), looks := false }, kinds := [], alts := [], laidByText := true, laidKinds := [.data, .pinned], laidTests := true, laidLooks := .later }
def BuilderFormatsCardSaid : Prop := Claim7.holds Tryz.pinned (.plain (OpenSpec.ofChange builderFormatsSpec)) builderFormatsCard

/-- THE TIED CARD OF 'rubriclaw24.BuilderSteps'. -/
def builderStepsCard : Claim7 := { stood := { row := builderStepsRow, standIns := [], harness := (true, "95d10c327bacec539cbfbcbb92b2b84a5fbe3ad84e65bd184dc9f09d8aa4eaa7"), looks := false }, kinds := [], alts := [], laidByText := true, laidKinds := [.data, .pinned], laidTests := true, laidLooks := .later }
def BuilderStepsCardSaid : Prop := Claim7.holds Tryz.pinned (.plain (OpenSpec.ofChange builderStepsSpec)) builderStepsCard

/-- THE SECOND FORM's CARD OF 'rubriclaw20.ComposeEmpty'. -/
def composeEmptyUptoCard : Claim7 := { stood := { row := composeEmptyUptoRow, standIns := [], harness := (true, "95d10c327bacec539cbfbcbb92b2b84a5fbe3ad84e65bd184dc9f09d8aa4eaa7"), looks := false }, kinds := [], alts := [], laidByText := true, laidKinds := [.data, .pinned], laidTests := true, laidLooks := .later }
def ComposeEmptyUptoCardSaid : Prop := Claim7.holds Tryz.pinned (.plain (OpenSpec.upto composeEmptySpec)) composeEmptyUptoCard

/-- THE SECOND FORM's CARD OF 'rubriclaw20.ComposeNothing'. -/
def composeNothingUptoCard : Claim7 := { stood := { row := composeNothingUptoRow, standIns := [], harness := (true, "95d10c327bacec539cbfbcbb92b2b84a5fbe3ad84e65bd184dc9f09d8aa4eaa7"), looks := false }, kinds := [], alts := [], laidByText := true, laidKinds := [.data, .pinned], laidTests := true, laidLooks := .later }
def ComposeNothingUptoCardSaid : Prop := Claim7.holds Tryz.pinned (.plain (OpenSpec.upto composeNothingSpec)) composeNothingUptoCard

/-- THE SECOND FORM's CARD OF 'rubriclaw20.ComposeFirst'. -/
def composeFirstUptoCard : Claim7 := { stood := { row := composeFirstUptoRow, standIns := [], harness := (true, "95d10c327bacec539cbfbcbb92b2b84a5fbe3ad84e65bd184dc9f09d8aa4eaa7"), looks := false }, kinds := [], alts := [], laidByText := true, laidKinds := [.data, .pinned], laidTests := true, laidLooks := .later }
def ComposeFirstUptoCardSaid : Prop := Claim7.holds Tryz.pinned (.plain (OpenSpec.upto composeFirstSpec)) composeFirstUptoCard

/-- THE SECOND FORM's CARD OF 'rubriclaw20.ComposeDoes'. -/
def composeDoesUptoCard : Claim7 := { stood := { row := composeDoesUptoRow, standIns := [], harness := (true, "95d10c327bacec539cbfbcbb92b2b84a5fbe3ad84e65bd184dc9f09d8aa4eaa7"), looks := false }, kinds := [], alts := [], laidByText := true, laidKinds := [.data, .pinned], laidTests := true, laidLooks := .later }
def ComposeDoesUptoCardSaid : Prop := Claim7.holds Tryz.pinned (.plain (OpenSpec.upto composeDoesSpec)) composeDoesUptoCard

/-- THE SECOND FORM's CARD OF 'rubriclaw19.ApplyDoes'. -/
def applyDoesUptoCard : Claim7 := { stood := { row := applyDoesUptoRow, standIns := [], harness := (true, "95d10c327bacec539cbfbcbb92b2b84a5fbe3ad84e65bd184dc9f09d8aa4eaa7"), looks := false }, kinds := [], alts := [], laidByText := true, laidKinds := [.data, .pinned], laidTests := true, laidLooks := .later }
def ApplyDoesUptoCardSaid : Prop := Claim7.holds Tryz.pinned (.plain (OpenSpec.upto applyDoesSpec)) applyDoesUptoCard

/-- THE SECOND FORM's CARD OF 'rubriclaw23.DiffDoes'. -/
def diffDoesUptoCard : Claim7 := { stood := { row := diffDoesUptoRow, standIns := [], harness := (true, "95d10c327bacec539cbfbcbb92b2b84a5fbe3ad84e65bd184dc9f09d8aa4eaa7"), looks := false }, kinds := [], alts := [], laidByText := true, laidKinds := [.data, .pinned], laidTests := true, laidLooks := .later }
def DiffDoesUptoCardSaid : Prop := Claim7.holds Tryz.pinned (.plain (OpenSpec.upto diffDoesSpec)) diffDoesUptoCard

/-- THE SECOND FORM's CARD OF 'rubriclaw26.FragmentDoes'. -/
def fragmentDoesUptoCard : Claim7 := { stood := { row := fragmentDoesUptoRow, standIns := [], harness := (true, "95d10c327bacec539cbfbcbb92b2b84a5fbe3ad84e65bd184dc9f09d8aa4eaa7"), looks := false }, kinds := [], alts := [], laidByText := true, laidKinds := [.data, .pinned], laidTests := true, laidLooks := .later }
def FragmentDoesUptoCardSaid : Prop := Claim7.holds Tryz.pinned (.plain (OpenSpec.upto fragmentDoesSpec)) fragmentDoesUptoCard

/-- THE SECOND FORM's CARD OF 'rubriclaw22.TransformDoes'. -/
def transformDoesUptoCard : Claim7 := { stood := { row := transformDoesUptoRow, standIns := [], harness := (true, "95d10c327bacec539cbfbcbb92b2b84a5fbe3ad84e65bd184dc9f09d8aa4eaa7"), looks := false }, kinds := [], alts := [], laidByText := true, laidKinds := [.data, .pinned], laidTests := true, laidLooks := .later }
def TransformDoesUptoCardSaid : Prop := Claim7.holds Tryz.pinned (.plain (OpenSpec.upto transformDoesSpec)) transformDoesUptoCard

/-- THE SECOND FORM's CARD OF 'rubriclaw22.TransformNothing'. -/
def transformNothingUptoCard : Claim7 := { stood := { row := transformNothingUptoRow, standIns := [], harness := (true, "95d10c327bacec539cbfbcbb92b2b84a5fbe3ad84e65bd184dc9f09d8aa4eaa7"), looks := false }, kinds := [], alts := [], laidByText := true, laidKinds := [.data, .pinned], laidTests := true, laidLooks := .later }
def TransformNothingUptoCardSaid : Prop := Claim7.holds Tryz.pinned (.plain (OpenSpec.upto transformNothingSpec)) transformNothingUptoCard

/-- THE SECOND FORM's CARD OF 'rubriclaw22.TransformPlaces'. -/
def transformPlacesUptoCard : Claim7 := { stood := { row := transformPlacesUptoRow, standIns := [], harness := (true, "95d10c327bacec539cbfbcbb92b2b84a5fbe3ad84e65bd184dc9f09d8aa4eaa7"), looks := false }, kinds := [], alts := [], laidByText := true, laidKinds := [.data, .pinned], laidTests := true, laidLooks := .later }
def TransformPlacesUptoCardSaid : Prop := Claim7.holds Tryz.pinned (.plain (OpenSpec.upto transformPlacesSpec)) transformPlacesUptoCard

/-- THE SECOND FORM's CARD OF 'rubriclaw22.TransformForms'. -/
def transformFormsUptoCard : Claim7 := { stood := { row := transformFormsUptoRow, standIns := [], harness := (true, "95d10c327bacec539cbfbcbb92b2b84a5fbe3ad84e65bd184dc9f09d8aa4eaa7"), looks := false }, kinds := [], alts := [], laidByText := true, laidKinds := [.data, .pinned], laidTests := true, laidLooks := .later }
def TransformFormsUptoCardSaid : Prop := Claim7.holds Tryz.pinned (.plain (OpenSpec.upto transformFormsSpec)) transformFormsUptoCard

/-- THE SECOND FORM's CARD OF 'rubriclaw22.TransformApart'. -/
def transformApartUptoCard : Claim7 := { stood := { row := transformApartUptoRow, standIns := [], harness := (true, "95d10c327bacec539cbfbcbb92b2b84a5fbe3ad84e65bd184dc9f09d8aa4eaa7"), looks := false }, kinds := [], alts := [], laidByText := true, laidKinds := [.data, .pinned], laidTests := true, laidLooks := .later }
def TransformApartUptoCardSaid : Prop := Claim7.holds Tryz.pinned (.plain (OpenSpec.upto transformApartSpec)) transformApartUptoCard

/-- THE SECOND FORM's CARD OF 'rubriclaw22.TransformMerges'. -/
def transformMergesUptoCard : Claim7 := { stood := { row := transformMergesUptoRow, standIns := [], harness := (true, "95d10c327bacec539cbfbcbb92b2b84a5fbe3ad84e65bd184dc9f09d8aa4eaa7"), looks := false }, kinds := [], alts := [], laidByText := true, laidKinds := [.data, .pinned], laidTests := true, laidLooks := .later }
def TransformMergesUptoCardSaid : Prop := Claim7.holds Tryz.pinned (.plain (OpenSpec.upto transformMergesSpec)) transformMergesUptoCard

/-- THE SECOND FORM's CARD OF 'rubriclaw22.TransformMeets'. -/
def transformMeetsUptoCard : Claim7 := { stood := { row := transformMeetsUptoRow, standIns := [], harness := (true, "95d10c327bacec539cbfbcbb92b2b84a5fbe3ad84e65bd184dc9f09d8aa4eaa7"), looks := false }, kinds := [], alts := [], laidByText := true, laidKinds := [.data, .pinned], laidTests := true, laidLooks := .later }
def TransformMeetsUptoCardSaid : Prop := Claim7.holds Tryz.pinned (.plain (OpenSpec.upto transformMeetsSpec)) transformMeetsUptoCard

/-- THE SECOND FORM's CARD OF 'rubriclaw24.BuilderRemoves'. -/
def builderRemovesUptoCard : Claim7 := { stood := { row := builderRemovesUptoRow, standIns := [], harness := (true, "95d10c327bacec539cbfbcbb92b2b84a5fbe3ad84e65bd184dc9f09d8aa4eaa7"), looks := false }, kinds := [], alts := [], laidByText := true, laidKinds := [.data, .pinned], laidTests := true, laidLooks := .later }
def BuilderRemovesUptoCardSaid : Prop := Claim7.holds Tryz.pinned (.plain (OpenSpec.upto builderRemovesSpec)) builderRemovesUptoCard

/-- THE SECOND FORM's CARD OF 'rubriclaw24.BuilderTypes'. -/
def builderTypesUptoCard : Claim7 := { stood := { row := builderTypesUptoRow, standIns := [], harness := (true, "95d10c327bacec539cbfbcbb92b2b84a5fbe3ad84e65bd184dc9f09d8aa4eaa7"), looks := false }, kinds := [], alts := [], laidByText := true, laidKinds := [.data, .pinned], laidTests := true, laidLooks := .later }
def BuilderTypesUptoCardSaid : Prop := Claim7.holds Tryz.pinned (.plain (OpenSpec.upto builderTypesSpec)) builderTypesUptoCard

/-- THE SECOND FORM's CARD OF 'rubriclaw24.BuilderFormats'. -/
def builderFormatsUptoCard : Claim7 := { stood := { row := builderFormatsUptoRow, standIns := [], harness := (true, "95d10c327bacec539cbfbcbb92b2b84a5fbe3ad84e65bd184dc9f09d8aa4eaa7"), looks := false }, kinds := [], alts := [], laidByText := true, laidKinds := [.data, .pinned], laidTests := true, laidLooks := .later }
def BuilderFormatsUptoCardSaid : Prop := Claim7.holds Tryz.pinned (.plain (OpenSpec.upto builderFormatsSpec)) builderFormatsUptoCard

/-- THE SECOND FORM's CARD OF 'rubriclaw24.BuilderSteps'. -/
def builderStepsUptoCard : Claim7 := { stood := { row := builderStepsUptoRow, standIns := [], harness := (true, "95d10c327bacec539cbfbcbb92b2b84a5fbe3ad84e65bd184dc9f09d8aa4eaa7"), looks := false }, kinds := [], alts := [], laidByText := true, laidKinds := [.data, .pinned], laidTests := true, laidLooks := .later }
def BuilderStepsUptoCardSaid : Prop := Claim7.holds Tryz.pinned (.plain (OpenSpec.upto builderStepsSpec)) builderStepsUptoCard
end Rows
end Go.Proofs.YtbdkbfoplpociaaGreatDoor
