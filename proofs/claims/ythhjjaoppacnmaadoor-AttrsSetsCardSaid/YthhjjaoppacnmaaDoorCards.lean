/-
  DERIVED. GIVEN WITH THE SEED: THE CARDS: each row of YthhjjaoppacnmaaDoorRows.lean that lists a variable, with what it lists TIED to the program's text (the seventh form; the later family's looks); each row that meets fmt, with fmt's text TOLD by the authors' own Lean function (tested against real Go, not proved from fmt's source: count such statements apart). THE CARD IS WHAT COUNTS. Prove the row's statement (the work); the ties are given (YthhjjaoppacnmaaDoorTie.lean); close each card by the builder's one call (the guide's Derived/Test/ToyasCard.lean, 'card_holds'). Laid BY PROGRAM, IN A SANDBOX (cutbox-door.mjs). By AI agents, Wed Nov 11 2026. No macro, syntax, notation, axiom, sorry.
-/
import Derived.Test.YthhjjaoppacnmaaDoorRows
import GoSem.ClaimSeven
namespace Go.Proofs.YthhjjaoppacnmaaDoor
namespace Rows

/-- THE TIED CARD OF 'rubriclaw05.AttrsSets'. -/
def attrsSetsCard : Claim7 := { stood := { row := attrsSetsRow, standIns := [], harness := (true, "4c1cf07422031b3c8a523eeef9c9d80956140a258a55215a71c26886c528aeba"), looks := false }, kinds := [], alts := [], laidByText := true, laidKinds := [.data, .pinned], laidTests := true, laidLooks := .later }
def AttrsSetsCardSaid : Prop := Claim7.holds Tryd.pinned (.plain (OpenSpec.ofChange attrsSetsSpec)) attrsSetsCard

/-- THE TIED CARD OF 'rubriclaw14.RulesOne'. -/
def rulesOneCard : Claim7 := { stood := { row := rulesOneRow, standIns := [], harness := (true, "4c1cf07422031b3c8a523eeef9c9d80956140a258a55215a71c26886c528aeba"), looks := false }, kinds := [], alts := [], laidByText := true, laidKinds := [.data, .pinned], laidTests := true, laidLooks := .later }
def RulesOneCardSaid : Prop := Claim7.holds Tryd.pinned (.plain (OpenSpec.ofChange rulesOneSpec)) rulesOneCard

/-- THE SECOND FORM's CARD OF 'rubriclaw05.AttrsSets'. -/
def attrsSetsUptoCard : Claim7 := { stood := { row := attrsSetsUptoRow, standIns := [], harness := (true, "4c1cf07422031b3c8a523eeef9c9d80956140a258a55215a71c26886c528aeba"), looks := false }, kinds := [], alts := [], laidByText := true, laidKinds := [.data, .pinned], laidTests := true, laidLooks := .later }
def AttrsSetsUptoCardSaid : Prop := Claim7.holds Tryd.pinned (.plain (OpenSpec.upto attrsSetsSpec)) attrsSetsUptoCard

/-- THE SECOND FORM's CARD OF 'rubriclaw14.RulesOne'. -/
def rulesOneUptoCard : Claim7 := { stood := { row := rulesOneUptoRow, standIns := [], harness := (true, "4c1cf07422031b3c8a523eeef9c9d80956140a258a55215a71c26886c528aeba"), looks := false }, kinds := [], alts := [], laidByText := true, laidKinds := [.data, .pinned], laidTests := true, laidLooks := .later }
def RulesOneUptoCardSaid : Prop := Claim7.holds Tryd.pinned (.plain (OpenSpec.upto rulesOneSpec)) rulesOneUptoCard
end Rows
end Go.Proofs.YthhjjaoppacnmaaDoor
