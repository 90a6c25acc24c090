/-
  DERIVED. GIVEN WITH THE SEED: THE CARDS: each row of YtfnkjcodcoehcaaGreatDoorRows.lean that lists a variable, with what it lists TIED to the program's text (the seventh form; the later family's looks); each row that meets fmt, with fmt's text TOLD by the authors' own Lean function (tested against real Go, not proved from fmt's source: count such statements apart). THE CARD IS WHAT COUNTS. Prove the row's statement (the work); the ties are given (YtfnkjcodcoehcaaGreatDoorTie.lean); close each card by the builder's one call (the guide's Derived/Test/ToyasCard.lean, 'card_holds'). Laid BY PROGRAM, IN A SANDBOX (cutbox-door.mjs). By AI agents, Wed Nov 11 2026. No macro, syntax, notation, axiom, sorry.
-/
import Derived.Test.YtfnkjcodcoehcaaGreatDoorRows
import GoSem.ClaimSeven
namespace Go.Proofs.YtfnkjcodcoehcaaGreatDoor
namespace Rows

/-- THE TIED CARD OF 'rubriclaw26.FragmentDoes'. -/
def fragmentDoesCard : Claim7 := { stood := { row := fragmentDoesRow, standIns := [], harness := (true, "a782163bdd252062e9f0c76996ae283d982c69cae2e141c4c19a0e990c591ee2"), looks := false }, kinds := [], alts := [], laidByText := true, laidKinds := [.data, .pinned], laidTests := true, laidLooks := .later }
def FragmentDoesCardSaid : Prop := Claim7.holds Tryz.pinned (.plain (OpenSpec.ofChange fragmentDoesSpec)) fragmentDoesCard

/-- THE TIED CARD OF 'rubriclaw23.DiffDoes'. -/
def diffDoesCard : Claim7 := { stood := { row := diffDoesRow, standIns := [], harness := (true, "a782163bdd252062e9f0c76996ae283d982c69cae2e141c4c19a0e990c591ee2"), looks := false }, kinds := [], alts := [], laidByText := true, laidKinds := [.data, .pinned], laidTests := true, laidLooks := .later }
def DiffDoesCardSaid : Prop := Claim7.holds Tryz.pinned (.plain (OpenSpec.ofChange diffDoesSpec)) diffDoesCard

/-- THE TIED CARD OF 'rubriclaw19.ApplyDoes'. -/
def applyDoesCard : Claim7 := { stood := { row := applyDoesRow, standIns := [], harness := (true, "a782163bdd252062e9f0c76996ae283d982c69cae2e141c4c19a0e990c591ee2"), looks := false }, kinds := [], alts := [], laidByText := true, laidKinds := [.data, .pinned], laidTests := true, laidLooks := .later }
def ApplyDoesCardSaid : Prop := Claim7.holds Tryz.pinned (.plain (OpenSpec.ofChange applyDoesSpec)) applyDoesCard

/-- THE TIED CARD OF 'rubriclaw20.ComposeDoes'. -/
def composeDoesCard : Claim7 := { stood := { row := composeDoesRow, standIns := [], harness := (true, "a782163bdd252062e9f0c76996ae283d982c69cae2e141c4c19a0e990c591ee2"), looks := false }, kinds := [], alts := [], laidByText := true, laidKinds := [.data, .pinned], laidTests := true, laidLooks := .later }
def ComposeDoesCardSaid : Prop := Claim7.holds Tryz.pinned (.plain (OpenSpec.ofChange composeDoesSpec)) composeDoesCard

/-- THE TIED CARD OF 'rubriclaw22.TransformDoes'. -/
def transformDoesCard : Claim7 := { stood := { row := transformDoesRow, standIns := [], harness := (true, "a782163bdd252062e9f0c76996ae283d982c69cae2e141c4c19a0e990c591ee2"), looks := false }, kinds := [], alts := [], laidByText := true, laidKinds := [.data, .pinned], laidTests := true, laidLooks := .later }
def TransformDoesCardSaid : Prop := Claim7.holds Tryz.pinned (.plain (OpenSpec.ofChange transformDoesSpec)) transformDoesCard

/-- THE TIED CARD OF 'rubriclaw22.TransformMerges'. -/
def transformMergesCard : Claim7 := { stood := { row := transformMergesRow, standIns := [], harness := (true, "a782163bdd252062e9f0c76996ae283d982c69cae2e141c4c19a0e990c591ee2"), looks := false }, kinds := [], alts := [], laidByText := true, laidKinds := [.data, .pinned], laidTests := true, laidLooks := .later }
def TransformMergesCardSaid : Prop := Claim7.holds Tryz.pinned (.plain (OpenSpec.ofChange transformMergesSpec)) transformMergesCard

/-- THE TIED CARD OF 'rubriclaw24.BuilderFormats'. -/
def builderFormatsCard : Claim7 := { stood := { row := builderFormatsRow, standIns := [], harness := (true, "a782163bdd252062e9f0c76996ae283d982c69cae2e141c4c19a0e990c591ee2"), looks := false }, kinds := [], alts := [], laidByText := true, laidKinds := [.data, .pinned], laidTests := true, laidLooks := .later }
def BuilderFormatsCardSaid : Prop := Claim7.holds Tryz.pinned (.plain (OpenSpec.ofChange builderFormatsSpec)) builderFormatsCard

/-- THE TIED CARD OF 'rubriclaw24.BuilderSteps'. -/
def builderStepsCard : Claim7 := { stood := { row := builderStepsRow, standIns := [], harness := (true, "a782163bdd252062e9f0c76996ae283d982c69cae2e141c4c19a0e990c591ee2"), looks := false }, kinds := [], alts := [], laidByText := true, laidKinds := [.data, .pinned], laidTests := true, laidLooks := .later }
def BuilderStepsCardSaid : Prop := Claim7.holds Tryz.pinned (.plain (OpenSpec.ofChange builderStepsSpec)) builderStepsCard

/-- THE SECOND FORM's CARD OF 'rubriclaw26.FragmentDoes'. -/
def fragmentDoesUptoCard : Claim7 := { stood := { row := fragmentDoesUptoRow, standIns := [], harness := (true, "a782163bdd252062e9f0c76996ae283d982c69cae2e141c4c19a0e990c591ee2"), looks := false }, kinds := [], alts := [], laidByText := true, laidKinds := [.data, .pinned], laidTests := true, laidLooks := .later }
def FragmentDoesUptoCardSaid : Prop := Claim7.holds Tryz.pinned (.plain (OpenSpec.upto fragmentDoesSpec)) fragmentDoesUptoCard

/-- THE SECOND FORM's CARD OF 'rubriclaw23.DiffDoes'. -/
def diffDoesUptoCard : Claim7 := { stood := { row := diffDoesUptoRow, standIns := [], harness := (true, "a782163bdd252062e9f0c76996ae283d982c69cae2e141c4c19a0e990c591ee2"), looks := false }, kinds := [], alts := [], laidByText := true, laidKinds := [.data, .pinned], laidTests := true, laidLooks := .later }
def DiffDoesUptoCardSaid : Prop := Claim7.holds Tryz.pinned (.plain (OpenSpec.upto diffDoesSpec)) diffDoesUptoCard

/-- THE SECOND FORM's CARD OF 'rubriclaw19.ApplyDoes'. -/
def applyDoesUptoCard : Claim7 := { stood := { row := applyDoesUptoRow, standIns := [], harness := (true, "a782163bdd252062e9f0c76996ae283d982c69cae2e141c4c19a0e990c591ee2"), looks := false }, kinds := [], alts := [], laidByText := true, laidKinds := [.data, .pinned], laidTests := true, laidLooks := .later }
def ApplyDoesUptoCardSaid : Prop := Claim7.holds Tryz.pinned (.plain (OpenSpec.upto applyDoesSpec)) applyDoesUptoCard

/-- THE SECOND FORM's CARD OF 'rubriclaw20.ComposeDoes'. -/
def composeDoesUptoCard : Claim7 := { stood := { row := composeDoesUptoRow, standIns := [], harness := (true, "a782163bdd252062e9f0c76996ae283d982c69cae2e141c4c19a0e990c591ee2"), looks := false }, kinds := [], alts := [], laidByText := true, laidKinds := [.data, .pinned], laidTests := true, laidLooks := .later }
def ComposeDoesUptoCardSaid : Prop := Claim7.holds Tryz.pinned (.plain (OpenSpec.upto composeDoesSpec)) composeDoesUptoCard

/-- THE SECOND FORM's CARD OF 'rubriclaw22.TransformDoes'. -/
def transformDoesUptoCard : Claim7 := { stood := { row := transformDoesUptoRow, standIns := [], harness := (true, "a782163bdd252062e9f0c76996ae283d982c69cae2e141c4c19a0e990c591ee2"), looks := false }, kinds := [], alts := [], laidByText := true, laidKinds := [.data, .pinned], laidTests := true, laidLooks := .later }
def TransformDoesUptoCardSaid : Prop := Claim7.holds Tryz.pinned (.plain (OpenSpec.upto transformDoesSpec)) transformDoesUptoCard

/-- THE SECOND FORM's CARD OF 'rubriclaw22.TransformMerges'. -/
def transformMergesUptoCard : Claim7 := { stood := { row := transformMergesUptoRow, standIns := [], harness := (true, "a782163bdd252062e9f0c76996ae283d982c69cae2e141c4c19a0e990c591ee2"), looks := false }, kinds := [], alts := [], laidByText := true, laidKinds := [.data, .pinned], laidTests := true, laidLooks := .later }
def TransformMergesUptoCardSaid : Prop := Claim7.holds Tryz.pinned (.plain (OpenSpec.upto transformMergesSpec)) transformMergesUptoCard

/-- THE SECOND FORM's CARD OF 'rubriclaw24.BuilderFormats'. -/
def builderFormatsUptoCard : Claim7 := { stood := { row := builderFormatsUptoRow, standIns := [], harness := (true, "a782163bdd252062e9f0c76996ae283d982c69cae2e141c4c19a0e990c591ee2"), looks := false }, kinds := [], alts := [], laidByText := true, laidKinds := [.data, .pinned], laidTests := true, laidLooks := .later }
def BuilderFormatsUptoCardSaid : Prop := Claim7.holds Tryz.pinned (.plain (OpenSpec.upto builderFormatsSpec)) builderFormatsUptoCard

/-- THE SECOND FORM's CARD OF 'rubriclaw24.BuilderSteps'. -/
def builderStepsUptoCard : Claim7 := { stood := { row := builderStepsUptoRow, standIns := [], harness := (true, "a782163bdd252062e9f0c76996ae283d982c69cae2e141c4c19a0e990c591ee2"), looks := false }, kinds := [], alts := [], laidByText := true, laidKinds := [.data, .pinned], laidTests := true, laidLooks := .later }
def BuilderStepsUptoCardSaid : Prop := Claim7.holds Tryz.pinned (.plain (OpenSpec.upto builderStepsSpec)) builderStepsUptoCard
end Rows
end Go.Proofs.YtfnkjcodcoehcaaGreatDoor
