/-
  DERIVED. GIVEN WITH THE SEED: THE CARDS: each row of YtclfplpggmefjaaDoorRows.lean that lists a variable, with what it lists TIED to the program's text (the seventh form; the later family's looks); each row that meets fmt, with fmt's text TOLD by the authors' own Lean function (tested against real Go, not proved from fmt's source: count such statements apart). THE CARD IS WHAT COUNTS. Prove the row's statement (the work); the ties are given (YtclfplpggmefjaaDoorTie.lean); close each card by the builder's one call (the guide's Derived/Test/ToyasCard.lean, 'card_holds'). Laid BY PROGRAM, IN A SANDBOX (cutbox-door.mjs). By AI agents, Wed Nov 11 2026. No macro, syntax, notation, axiom, sorry.
-/
import Derived.Test.YtclfplpggmefjaaDoorRows
import GoSem.ClaimSeven
namespace Go.Proofs.YtclfplpggmefjaaDoor
namespace Rows

/-- THE TIED CARD OF 'rubriclaw03.ValueMay'. -/
def valueMayCard : Claim7 := { stood := { row := valueMayRow, standIns := [], harness := (true, "bec709562764a91f77f82b9cf74194c98bf7e06fb296a296bfb1ac9f1fcfe6ee"), looks := false }, kinds := [], alts := [], laidByText := true, laidKinds := [.data, .pinned], laidTests := true, laidLooks := .later }
def ValueMayCardSaid : Prop := Claim7.holds Tryd.pinned (.plain (OpenSpec.ofChange valueMaySpec)) valueMayCard

/-- THE TIED CARD OF 'rubriclaw03.ValueOrders'. -/
def valueOrdersCard : Claim7 := { stood := { row := valueOrdersRow, standIns := [], harness := (true, "bec709562764a91f77f82b9cf74194c98bf7e06fb296a296bfb1ac9f1fcfe6ee"), looks := false }, kinds := [], alts := [], laidByText := true, laidKinds := [.data, .pinned], laidTests := true, laidLooks := .later }
def ValueOrdersCardSaid : Prop := Claim7.holds Tryd.pinned (.plain (OpenSpec.ofChange valueOrdersSpec)) valueOrdersCard

/-- THE TIED CARD OF 'rubriclaw03.ValueOrder'. -/
def valueOrderCard : Claim7 := { stood := { row := valueOrderRow, standIns := [], harness := (true, "bec709562764a91f77f82b9cf74194c98bf7e06fb296a296bfb1ac9f1fcfe6ee"), looks := false }, kinds := [], alts := [], laidByText := true, laidKinds := [.data, .pinned], laidTests := true, laidLooks := .later }
def ValueOrderCardSaid : Prop := Claim7.holds Tryd.pinned (.plain (OpenSpec.ofChange valueOrderSpec)) valueOrderCard

/-- THE TIED CARD OF 'rubriclaw03.ValueMade'. -/
def valueMadeCard : Claim7 := { stood := { row := valueMadeRow, standIns := [], harness := (true, "bec709562764a91f77f82b9cf74194c98bf7e06fb296a296bfb1ac9f1fcfe6ee"), looks := false }, kinds := [], alts := [], laidByText := true, laidKinds := [.data, .pinned], laidTests := true, laidLooks := .later }
def ValueMadeCardSaid : Prop := Claim7.holds Tryd.pinned (.plain (OpenSpec.ofChange valueMadeSpec)) valueMadeCard

/-- THE TIED CARD OF 'rubriclaw06.PatchParts'. -/
def patchPartsCard : Claim7 := { stood := { row := patchPartsRow, standIns := [], harness := (true, "bec709562764a91f77f82b9cf74194c98bf7e06fb296a296bfb1ac9f1fcfe6ee"), looks := false }, kinds := [], alts := [], laidByText := true, laidKinds := [.data, .pinned], laidTests := true, laidLooks := .later }
def PatchPartsCardSaid : Prop := Claim7.holds Tryd.pinned (.plain (OpenSpec.ofChange patchPartsSpec)) patchPartsCard

/-- THE TIED CARD OF 'rubriclaw06.PatchMay'. -/
def patchMayCard : Claim7 := { stood := { row := patchMayRow, standIns := [], harness := (true, "bec709562764a91f77f82b9cf74194c98bf7e06fb296a296bfb1ac9f1fcfe6ee"), looks := false }, kinds := [], alts := [], laidByText := true, laidKinds := [.data, .pinned], laidTests := true, laidLooks := .later }
def PatchMayCardSaid : Prop := Claim7.holds Tryd.pinned (.plain (OpenSpec.ofChange patchMaySpec)) patchMayCard

/-- THE TIED CARD OF 'rubriclaw06.PatchStay'. -/
def patchStayCard : Claim7 := { stood := { row := patchStayRow, standIns := [], harness := (true, "bec709562764a91f77f82b9cf74194c98bf7e06fb296a296bfb1ac9f1fcfe6ee"), looks := false }, kinds := [], alts := [], laidByText := true, laidKinds := [.data, .pinned], laidTests := true, laidLooks := .later }
def PatchStayCardSaid : Prop := Claim7.holds Tryd.pinned (.plain (OpenSpec.ofChange patchStaySpec)) patchStayCard

/-- THE SECOND FORM's CARD OF 'rubriclaw03.ValueMay'. -/
def valueMayUptoCard : Claim7 := { stood := { row := valueMayUptoRow, standIns := [], harness := (true, "bec709562764a91f77f82b9cf74194c98bf7e06fb296a296bfb1ac9f1fcfe6ee"), looks := false }, kinds := [], alts := [], laidByText := true, laidKinds := [.data, .pinned], laidTests := true, laidLooks := .later }
def ValueMayUptoCardSaid : Prop := Claim7.holds Tryd.pinned (.plain (OpenSpec.upto valueMaySpec)) valueMayUptoCard

/-- THE SECOND FORM's CARD OF 'rubriclaw03.ValueOrders'. -/
def valueOrdersUptoCard : Claim7 := { stood := { row := valueOrdersUptoRow, standIns := [], harness := (true, "bec709562764a91f77f82b9cf74194c98bf7e06fb296a296bfb1ac9f1fcfe6ee"), looks := false }, kinds := [], alts := [], laidByText := true, laidKinds := [.data, .pinned], laidTests := true, laidLooks := .later }
def ValueOrdersUptoCardSaid : Prop := Claim7.holds Tryd.pinned (.plain (OpenSpec.upto valueOrdersSpec)) valueOrdersUptoCard

/-- THE SECOND FORM's CARD OF 'rubriclaw03.ValueOrder'. -/
def valueOrderUptoCard : Claim7 := { stood := { row := valueOrderUptoRow, standIns := [], harness := (true, "bec709562764a91f77f82b9cf74194c98bf7e06fb296a296bfb1ac9f1fcfe6ee"), looks := false }, kinds := [], alts := [], laidByText := true, laidKinds := [.data, .pinned], laidTests := true, laidLooks := .later }
def ValueOrderUptoCardSaid : Prop := Claim7.holds Tryd.pinned (.plain (OpenSpec.upto valueOrderSpec)) valueOrderUptoCard

/-- THE SECOND FORM's CARD OF 'rubriclaw03.ValueMade'. -/
def valueMadeUptoCard : Claim7 := { stood := { row := valueMadeUptoRow, standIns := [], harness := (true, "bec709562764a91f77f82b9cf74194c98bf7e06fb296a296bfb1ac9f1fcfe6ee"), looks := false }, kinds := [], alts := [], laidByText := true, laidKinds := [.data, .pinned], laidTests := true, laidLooks := .later }
def ValueMadeUptoCardSaid : Prop := Claim7.holds Tryd.pinned (.plain (OpenSpec.upto valueMadeSpec)) valueMadeUptoCard

/-- THE SECOND FORM's CARD OF 'rubriclaw06.PatchParts'. -/
def patchPartsUptoCard : Claim7 := { stood := { row := patchPartsUptoRow, standIns := [], harness := (true, "bec709562764a91f77f82b9cf74194c98bf7e06fb296a296bfb1ac9f1fcfe6ee"), looks := false }, kinds := [], alts := [], laidByText := true, laidKinds := [.data, .pinned], laidTests := true, laidLooks := .later }
def PatchPartsUptoCardSaid : Prop := Claim7.holds Tryd.pinned (.plain (OpenSpec.upto patchPartsSpec)) patchPartsUptoCard

/-- THE SECOND FORM's CARD OF 'rubriclaw06.PatchMay'. -/
def patchMayUptoCard : Claim7 := { stood := { row := patchMayUptoRow, standIns := [], harness := (true, "bec709562764a91f77f82b9cf74194c98bf7e06fb296a296bfb1ac9f1fcfe6ee"), looks := false }, kinds := [], alts := [], laidByText := true, laidKinds := [.data, .pinned], laidTests := true, laidLooks := .later }
def PatchMayUptoCardSaid : Prop := Claim7.holds Tryd.pinned (.plain (OpenSpec.upto patchMaySpec)) patchMayUptoCard

/-- THE SECOND FORM's CARD OF 'rubriclaw06.PatchStay'. -/
def patchStayUptoCard : Claim7 := { stood := { row := patchStayUptoRow, standIns := [], harness := (true, "bec709562764a91f77f82b9cf74194c98bf7e06fb296a296bfb1ac9f1fcfe6ee"), looks := false }, kinds := [], alts := [], laidByText := true, laidKinds := [.data, .pinned], laidTests := true, laidLooks := .later }
def PatchStayUptoCardSaid : Prop := Claim7.holds Tryd.pinned (.plain (OpenSpec.upto patchStaySpec)) patchStayUptoCard
end Rows
end Go.Proofs.YtclfplpggmefjaaDoor
