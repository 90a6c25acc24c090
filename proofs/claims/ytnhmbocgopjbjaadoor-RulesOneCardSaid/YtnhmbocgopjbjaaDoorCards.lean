/-
  DERIVED. GIVEN WITH THE SEED: THE CARDS: each row of YtnhmbocgopjbjaaDoorRows.lean that lists a variable, with what it lists TIED to the program's text (the seventh form; the later family's looks); each row that meets fmt, with fmt's text TOLD by the authors' own Lean function (tested against real Go, not proved from fmt's source: count such statements apart). THE CARD IS WHAT COUNTS. Prove the row's statement (the work); the ties are given (YtnhmbocgopjbjaaDoorTie.lean); close each card by the builder's one call (the guide's Derived/Test/ToyasCard.lean, 'card_holds'). Laid BY PROGRAM, IN A SANDBOX (cutbox-door.mjs). By AI agents, Wed Nov 11 2026. No macro, syntax, notation, axiom, sorry.
-/
import Derived.Test.YtnhmbocgopjbjaaDoorRows
import GoSem.ClaimSeven
namespace Go.Proofs.YtnhmbocgopjbjaaDoor
namespace Rows

/-- THE TIED CARD OF 'rubriclaw15.OpsFits'. -/
def opsFitsCard : Claim7 := { stood := { row := opsFitsRow, standIns := [], harness := (true, "d97d5082af89d84e7156edd002e49b07183ebccda667a5cb139c28f25e022bab"), looks := false }, kinds := [], alts := [], laidByText := true, laidKinds := [.data, .pinned], laidTests := true, laidLooks := .later }
def OpsFitsCardSaid : Prop := Claim7.holds Tryd.pinned (.plain (OpenSpec.ofChange opsFitsSpec)) opsFitsCard

/-- THE TIED CARD OF 'rubriclaw15.OpsCut'. -/
def opsCutCard : Claim7 := { stood := { row := opsCutRow, standIns := [], harness := (true, "d97d5082af89d84e7156edd002e49b07183ebccda667a5cb139c28f25e022bab"), looks := false }, kinds := [], alts := [], laidByText := true, laidKinds := [.data, .pinned], laidTests := true, laidLooks := .later }
def OpsCutCardSaid : Prop := Claim7.holds Tryd.pinned (.plain (OpenSpec.ofChange opsCutSpec)) opsCutCard

/-- THE TIED CARD OF 'rubriclaw15.OpsShorter'. -/
def opsShorterCard : Claim7 := { stood := { row := opsShorterRow, standIns := [], harness := (true, "d97d5082af89d84e7156edd002e49b07183ebccda667a5cb139c28f25e022bab"), looks := false }, kinds := [], alts := [], laidByText := true, laidKinds := [.data, .pinned], laidTests := true, laidLooks := .later }
def OpsShorterCardSaid : Prop := Claim7.holds Tryd.pinned (.plain (OpenSpec.ofChange opsShorterSpec)) opsShorterCard

/-- THE TIED CARD OF 'rubriclaw05.AttrsStay'. -/
def attrsStayCard : Claim7 := { stood := { row := attrsStayRow, standIns := [], harness := (true, "d97d5082af89d84e7156edd002e49b07183ebccda667a5cb139c28f25e022bab"), looks := false }, kinds := [], alts := [], laidByText := true, laidKinds := [.data, .pinned], laidTests := true, laidLooks := .later }
def AttrsStayCardSaid : Prop := Claim7.holds Tryd.pinned (.plain (OpenSpec.ofChange attrsStaySpec)) attrsStayCard

/-- THE TIED CARD OF 'rubriclaw05.AttrsSets'. -/
def attrsSetsCard : Claim7 := { stood := { row := attrsSetsRow, standIns := [], harness := (true, "d97d5082af89d84e7156edd002e49b07183ebccda667a5cb139c28f25e022bab"), looks := false }, kinds := [], alts := [], laidByText := true, laidKinds := [.data, .pinned], laidTests := true, laidLooks := .later }
def AttrsSetsCardSaid : Prop := Claim7.holds Tryd.pinned (.plain (OpenSpec.ofChange attrsSetsSpec)) attrsSetsCard

/-- THE TIED CARD OF 'rubriclaw05.AttrsParts'. -/
def attrsPartsCard : Claim7 := { stood := { row := attrsPartsRow, standIns := [], harness := (true, "d97d5082af89d84e7156edd002e49b07183ebccda667a5cb139c28f25e022bab"), looks := false }, kinds := [], alts := [], laidByText := true, laidKinds := [.data, .pinned], laidTests := true, laidLooks := .later }
def AttrsPartsCardSaid : Prop := Claim7.holds Tryd.pinned (.plain (OpenSpec.ofChange attrsPartsSpec)) attrsPartsCard

/-- THE TIED CARD OF 'rubriclaw14.RulesOne'. -/
def rulesOneCard : Claim7 := { stood := { row := rulesOneRow, standIns := [], harness := (true, "d97d5082af89d84e7156edd002e49b07183ebccda667a5cb139c28f25e022bab"), looks := false }, kinds := [], alts := [], laidByText := true, laidKinds := [.data, .pinned], laidTests := true, laidLooks := .later }
def RulesOneCardSaid : Prop := Claim7.holds Tryd.pinned (.plain (OpenSpec.ofChange rulesOneSpec)) rulesOneCard

/-- THE SECOND FORM's CARD OF 'rubriclaw15.OpsFits'. -/
def opsFitsUptoCard : Claim7 := { stood := { row := opsFitsUptoRow, standIns := [], harness := (true, "d97d5082af89d84e7156edd002e49b07183ebccda667a5cb139c28f25e022bab"), looks := false }, kinds := [], alts := [], laidByText := true, laidKinds := [.data, .pinned], laidTests := true, laidLooks := .later }
def OpsFitsUptoCardSaid : Prop := Claim7.holds Tryd.pinned (.plain (OpenSpec.upto opsFitsSpec)) opsFitsUptoCard

/-- THE SECOND FORM's CARD OF 'rubriclaw15.OpsCut'. -/
def opsCutUptoCard : Claim7 := { stood := { row := opsCutUptoRow, standIns := [], harness := (true, "d97d5082af89d84e7156edd002e49b07183ebccda667a5cb139c28f25e022bab"), looks := false }, kinds := [], alts := [], laidByText := true, laidKinds := [.data, .pinned], laidTests := true, laidLooks := .later }
def OpsCutUptoCardSaid : Prop := Claim7.holds Tryd.pinned (.plain (OpenSpec.upto opsCutSpec)) opsCutUptoCard

/-- THE SECOND FORM's CARD OF 'rubriclaw15.OpsShorter'. -/
def opsShorterUptoCard : Claim7 := { stood := { row := opsShorterUptoRow, standIns := [], harness := (true, "d97d5082af89d84e7156edd002e49b07183ebccda667a5cb139c28f25e022bab"), looks := false }, kinds := [], alts := [], laidByText := true, laidKinds := [.data, .pinned], laidTests := true, laidLooks := .later }
def OpsShorterUptoCardSaid : Prop := Claim7.holds Tryd.pinned (.plain (OpenSpec.upto opsShorterSpec)) opsShorterUptoCard

/-- THE SECOND FORM's CARD OF 'rubriclaw05.AttrsStay'. -/
def attrsStayUptoCard : Claim7 := { stood := { row := attrsStayUptoRow, standIns := [], harness := (true, "d97d5082af89d84e7156edd002e49b07183ebccda667a5cb139c28f25e022bab"), looks := false }, kinds := [], alts := [], laidByText := true, laidKinds := [.data, .pinned], laidTests := true, laidLooks := .later }
def AttrsStayUptoCardSaid : Prop := Claim7.holds Tryd.pinned (.plain (OpenSpec.upto attrsStaySpec)) attrsStayUptoCard

/-- THE SECOND FORM's CARD OF 'rubriclaw05.AttrsSets'. -/
def attrsSetsUptoCard : Claim7 := { stood := { row := attrsSetsUptoRow, standIns := [], harness := (true, "d97d5082af89d84e7156edd002e49b07183ebccda667a5cb139c28f25e022bab"), looks := false }, kinds := [], alts := [], laidByText := true, laidKinds := [.data, .pinned], laidTests := true, laidLooks := .later }
def AttrsSetsUptoCardSaid : Prop := Claim7.holds Tryd.pinned (.plain (OpenSpec.upto attrsSetsSpec)) attrsSetsUptoCard

/-- THE SECOND FORM's CARD OF 'rubriclaw05.AttrsParts'. -/
def attrsPartsUptoCard : Claim7 := { stood := { row := attrsPartsUptoRow, standIns := [], harness := (true, "d97d5082af89d84e7156edd002e49b07183ebccda667a5cb139c28f25e022bab"), looks := false }, kinds := [], alts := [], laidByText := true, laidKinds := [.data, .pinned], laidTests := true, laidLooks := .later }
def AttrsPartsUptoCardSaid : Prop := Claim7.holds Tryd.pinned (.plain (OpenSpec.upto attrsPartsSpec)) attrsPartsUptoCard

/-- THE SECOND FORM's CARD OF 'rubriclaw14.RulesOne'. -/
def rulesOneUptoCard : Claim7 := { stood := { row := rulesOneUptoRow, standIns := [], harness := (true, "d97d5082af89d84e7156edd002e49b07183ebccda667a5cb139c28f25e022bab"), looks := false }, kinds := [], alts := [], laidByText := true, laidKinds := [.data, .pinned], laidTests := true, laidLooks := .later }
def RulesOneUptoCardSaid : Prop := Claim7.holds Tryd.pinned (.plain (OpenSpec.upto rulesOneSpec)) rulesOneUptoCard
end Rows
end Go.Proofs.YtnhmbocgopjbjaaDoor
