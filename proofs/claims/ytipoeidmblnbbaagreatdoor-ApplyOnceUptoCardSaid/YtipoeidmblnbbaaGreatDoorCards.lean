/-
  DERIVED. GIVEN WITH THE SEED: THE CARDS: each row of YtipoeidmblnbbaaGreatDoorRows.lean that lists a variable, with what it lists TIED to the program's text (the seventh form; the later family's looks); each row that meets fmt, with fmt's text TOLD by the authors' own Lean function (tested against real Go, not proved from fmt's source: count such statements apart). THE CARD IS WHAT COUNTS. Prove the row's statement (the work); the ties are given (YtipoeidmblnbbaaGreatDoorTie.lean); close each card by the builder's one call (the guide's Derived/Test/ToyasCard.lean, 'card_holds'). Laid BY PROGRAM, IN A SANDBOX (cutbox-door.mjs). By AI agents, Wed Nov 11 2026. No macro, syntax, notation, axiom, sorry.
-/
import Derived.Test.YtipoeidmblnbbaaGreatDoorRows
import GoSem.ClaimSeven
namespace Go.Proofs.YtipoeidmblnbbaaGreatDoor
namespace Rows

/-- THE TIED CARD OF 'rubriclaw26.FragmentStays'. -/
def fragmentStaysCard : Claim7 := { stood := { row := fragmentStaysRow, standIns := [], harness := (true, "239a50cf9364885296fbacdca049c7eba069f054eee1a4d856552251d07ac033"), looks := false }, kinds := [], alts := [], laidByText := true, laidKinds := [.data, .pinned], laidTests := true, laidLooks := .later }
def FragmentStaysCardSaid : Prop := Claim7.holds Tryz.pinned (.plain (OpenSpec.ofChange fragmentStaysSpec)) fragmentStaysCard

/-- THE TIED CARD OF 'rubriclaw26.FragmentJoin'. -/
def fragmentJoinCard : Claim7 := { stood := { row := fragmentJoinRow, standIns := [], harness := (true, "239a50cf9364885296fbacdca049c7eba069f054eee1a4d856552251d07ac033"), looks := false }, kinds := [], alts := [], laidByText := true, laidKinds := [.data, .pinned], laidTests := true, laidLooks := .later }
def FragmentJoinCardSaid : Prop := Claim7.holds Tryz.pinned (.plain (OpenSpec.ofChange fragmentJoinSpec)) fragmentJoinCard

/-- THE TIED CARD OF 'rubriclaw26.FragmentMoves'. -/
def fragmentMovesCard : Claim7 := { stood := { row := fragmentMovesRow, standIns := [], harness := (true, "239a50cf9364885296fbacdca049c7eba069f054eee1a4d856552251d07ac033"), looks := false }, kinds := [], alts := [], laidByText := true, laidKinds := [.data, .pinned], laidTests := true, laidLooks := .later }
def FragmentMovesCardSaid : Prop := Claim7.holds Tryz.pinned (.plain (OpenSpec.ofChange fragmentMovesSpec)) fragmentMovesCard

/-- THE TIED CARD OF 'rubriclaw23.DiffBoth'. -/
def diffBothCard : Claim7 := { stood := { row := diffBothRow, standIns := [], harness := (true, "239a50cf9364885296fbacdca049c7eba069f054eee1a4d856552251d07ac033"), looks := false }, kinds := [], alts := [], laidByText := true, laidKinds := [.data, .pinned], laidTests := true, laidLooks := .later }
def DiffBothCardSaid : Prop := Claim7.holds Tryz.pinned (.plain (OpenSpec.ofChange diffBothSpec)) diffBothCard

/-- THE TIED CARD OF 'rubriclaw23.DiffLeads'. -/
def diffLeadsCard : Claim7 := { stood := { row := diffLeadsRow, standIns := [], harness := (true, "239a50cf9364885296fbacdca049c7eba069f054eee1a4d856552251d07ac033"), looks := false }, kinds := [], alts := [], laidByText := true, laidKinds := [.data, .pinned], laidTests := true, laidLooks := .later }
def DiffLeadsCardSaid : Prop := Claim7.holds Tryz.pinned (.plain (OpenSpec.ofChange diffLeadsSpec)) diffLeadsCard

/-- THE TIED CARD OF 'rubriclaw19.ApplyOnce'. -/
def applyOnceCard : Claim7 := { stood := { row := applyOnceRow, standIns := [], harness := (true, "239a50cf9364885296fbacdca049c7eba069f054eee1a4d856552251d07ac033"), looks := false }, kinds := [], alts := [], laidByText := true, laidKinds := [.data, .pinned], laidTests := true, laidLooks := .later }
def ApplyOnceCardSaid : Prop := Claim7.holds Tryz.pinned (.plain (OpenSpec.ofChange applyOnceSpec)) applyOnceCard

/-- THE TIED CARD OF 'rubriclaw19.ApplyWhole'. -/
def applyWholeCard : Claim7 := { stood := { row := applyWholeRow, standIns := [], harness := (true, "239a50cf9364885296fbacdca049c7eba069f054eee1a4d856552251d07ac033"), looks := false }, kinds := [], alts := [], laidByText := true, laidKinds := [.data, .pinned], laidTests := true, laidLooks := .later }
def ApplyWholeCardSaid : Prop := Claim7.holds Tryz.pinned (.plain (OpenSpec.ofChange applyWholeSpec)) applyWholeCard

/-- THE TIED CARD OF 'rubriclaw19.ApplyLoads'. -/
def applyLoadsCard : Claim7 := { stood := { row := applyLoadsRow, standIns := [], harness := (true, "239a50cf9364885296fbacdca049c7eba069f054eee1a4d856552251d07ac033"), looks := false }, kinds := [], alts := [], laidByText := true, laidKinds := [.data, .pinned], laidTests := true, laidLooks := .later }
def ApplyLoadsCardSaid : Prop := Claim7.holds Tryz.pinned (.plain (OpenSpec.ofChange applyLoadsSpec)) applyLoadsCard

/-- THE SECOND FORM's CARD OF 'rubriclaw26.FragmentStays'. -/
def fragmentStaysUptoCard : Claim7 := { stood := { row := fragmentStaysUptoRow, standIns := [], harness := (true, "239a50cf9364885296fbacdca049c7eba069f054eee1a4d856552251d07ac033"), looks := false }, kinds := [], alts := [], laidByText := true, laidKinds := [.data, .pinned], laidTests := true, laidLooks := .later }
def FragmentStaysUptoCardSaid : Prop := Claim7.holds Tryz.pinned (.plain (OpenSpec.upto fragmentStaysSpec)) fragmentStaysUptoCard

/-- THE SECOND FORM's CARD OF 'rubriclaw26.FragmentJoin'. -/
def fragmentJoinUptoCard : Claim7 := { stood := { row := fragmentJoinUptoRow, standIns := [], harness := (true, "239a50cf9364885296fbacdca049c7eba069f054eee1a4d856552251d07ac033"), looks := false }, kinds := [], alts := [], laidByText := true, laidKinds := [.data, .pinned], laidTests := true, laidLooks := .later }
def FragmentJoinUptoCardSaid : Prop := Claim7.holds Tryz.pinned (.plain (OpenSpec.upto fragmentJoinSpec)) fragmentJoinUptoCard

/-- THE SECOND FORM's CARD OF 'rubriclaw26.FragmentMoves'. -/
def fragmentMovesUptoCard : Claim7 := { stood := { row := fragmentMovesUptoRow, standIns := [], harness := (true, "239a50cf9364885296fbacdca049c7eba069f054eee1a4d856552251d07ac033"), looks := false }, kinds := [], alts := [], laidByText := true, laidKinds := [.data, .pinned], laidTests := true, laidLooks := .later }
def FragmentMovesUptoCardSaid : Prop := Claim7.holds Tryz.pinned (.plain (OpenSpec.upto fragmentMovesSpec)) fragmentMovesUptoCard

/-- THE SECOND FORM's CARD OF 'rubriclaw23.DiffBoth'. -/
def diffBothUptoCard : Claim7 := { stood := { row := diffBothUptoRow, standIns := [], harness := (true, "239a50cf9364885296fbacdca049c7eba069f054eee1a4d856552251d07ac033"), looks := false }, kinds := [], alts := [], laidByText := true, laidKinds := [.data, .pinned], laidTests := true, laidLooks := .later }
def DiffBothUptoCardSaid : Prop := Claim7.holds Tryz.pinned (.plain (OpenSpec.upto diffBothSpec)) diffBothUptoCard

/-- THE SECOND FORM's CARD OF 'rubriclaw23.DiffLeads'. -/
def diffLeadsUptoCard : Claim7 := { stood := { row := diffLeadsUptoRow, standIns := [], harness := (true, "239a50cf9364885296fbacdca049c7eba069f054eee1a4d856552251d07ac033"), looks := false }, kinds := [], alts := [], laidByText := true, laidKinds := [.data, .pinned], laidTests := true, laidLooks := .later }
def DiffLeadsUptoCardSaid : Prop := Claim7.holds Tryz.pinned (.plain (OpenSpec.upto diffLeadsSpec)) diffLeadsUptoCard

/-- THE SECOND FORM's CARD OF 'rubriclaw19.ApplyOnce'. -/
def applyOnceUptoCard : Claim7 := { stood := { row := applyOnceUptoRow, standIns := [], harness := (true, "239a50cf9364885296fbacdca049c7eba069f054eee1a4d856552251d07ac033"), looks := false }, kinds := [], alts := [], laidByText := true, laidKinds := [.data, .pinned], laidTests := true, laidLooks := .later }
def ApplyOnceUptoCardSaid : Prop := Claim7.holds Tryz.pinned (.plain (OpenSpec.upto applyOnceSpec)) applyOnceUptoCard

/-- THE SECOND FORM's CARD OF 'rubriclaw19.ApplyWhole'. -/
def applyWholeUptoCard : Claim7 := { stood := { row := applyWholeUptoRow, standIns := [], harness := (true, "239a50cf9364885296fbacdca049c7eba069f054eee1a4d856552251d07ac033"), looks := false }, kinds := [], alts := [], laidByText := true, laidKinds := [.data, .pinned], laidTests := true, laidLooks := .later }
def ApplyWholeUptoCardSaid : Prop := Claim7.holds Tryz.pinned (.plain (OpenSpec.upto applyWholeSpec)) applyWholeUptoCard

/-- THE SECOND FORM's CARD OF 'rubriclaw19.ApplyLoads'. -/
def applyLoadsUptoCard : Claim7 := { stood := { row := applyLoadsUptoRow, standIns := [], harness := (true, "239a50cf9364885296fbacdca049c7eba069f054eee1a4d856552251d07ac033"), looks := false }, kinds := [], alts := [], laidByText := true, laidKinds := [.data, .pinned], laidTests := true, laidLooks := .later }
def ApplyLoadsUptoCardSaid : Prop := Claim7.holds Tryz.pinned (.plain (OpenSpec.upto applyLoadsSpec)) applyLoadsUptoCard
end Rows
end Go.Proofs.YtipoeidmblnbbaaGreatDoor
