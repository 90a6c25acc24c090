/-
  NARROWER THAN 'FOR EVERY INPUT', by the rows' own cells (each row's printed sentence says how): ComposeEmpty: laid · ComposeNothing: laid · ComposeFirst: laid · ComposeDoes: laid · ApplyDoes: laid · DiffDoes: laid · FragmentDoes: laid · TransformDoes: laid · TransformNothing: laid · TransformPlaces: laid · TransformForms: laid · TransformApart: laid · TransformMerges: laid · TransformMeets: laid · BuilderRemoves: laid · BuilderTypes: laid · BuilderFormats: laid · BuilderSteps: laid.
  DERIVED. THE GIVEN ROWS OF THIS SEAT. 18 by the template 'for every input the law returns true; each argument reads behind the call as it read before'; 0 by the template 'total and deterministic' (their statements: YtbdkbfoplpociaaGreatDoorTotals.lean).
  GIVEN WITH THE SEED: the statements are not yours to turn. If you find one false, say at which input.
  Laid BY PROGRAM, IN A SANDBOX (cutbox-rows.mjs): the forced cells as the released guide's own fill.sh prints them over the translation c4b341cabace53d5… (all of the seat's roots in one cut). By AI agents, Wed Nov 11 2026. No macro, syntax, notation, axiom, sorry.
-/
import Derived.Test.YtbdkbfoplpociaaGreatDoorChecked
import GoSem.PinnedTables
import GoSem.Claim
import GoSem.ClaimJoined
import GoSem.ClaimMapViews
import Derived.JoinedTies
import Derived.KernelRfl
namespace Go.Proofs.YtbdkbfoplpociaaGreatDoor
/- THE CELL 'sum', in the pinned program and in every row, IS THE sha256 OF THE DUMP (.gsa) THAT YtbdkbfoplpociaaGreatDoorProg.lean LOADS. Nothing in Lean hashes anything: it is a label: what it is worth is what the hold of that sum in a sandbox is worth. -/
noncomputable def Tryz.pinned : Pinned := { name := "ytbdkbfoplpociaagreatdoor", sum := "c4b341cabace53d584f4f09aec5e226b6e958d79fbcd93a90610263ceddba219", checked := Tryz.checked }
namespace Rows
def none {H : Type} : Left H := { results := [], args := [] }

/- WHAT THE LISTED PACKAGE-LEVEL VARIABLES READ AS WHEN THE CALL BEGINS. Each datum BY PROGRAM (the guide's laid-datum.mjs) off the statement by which the dump's own 'gosem.cut.vars' lays the variable. In a bare row this is a premise. The card (YtbdkbfoplpociaaGreatDoorCards.lean) ties it to the program's text. -/
def laid_unicode_utf8_acceptRanges {H : Type} : DataW H := .agg [.agg [.lit (.int .u8 128), .lit (.int .u8 191)], .agg [.lit (.int .u8 160), .lit (.int .u8 191)], .agg [.lit (.int .u8 128), .lit (.int .u8 159)], .agg [.lit (.int .u8 144), .lit (.int .u8 191)], .agg [.lit (.int .u8 128), .lit (.int .u8 143)], .agg [.lit (.int .u8 0), .lit (.int .u8 0)], .agg [.lit (.int .u8 0), .lit (.int .u8 0)], .agg [.lit (.int .u8 0), .lit (.int .u8 0)], .agg [.lit (.int .u8 0), .lit (.int .u8 0)], .agg [.lit (.int .u8 0), .lit (.int .u8 0)], .agg [.lit (.int .u8 0), .lit (.int .u8 0)], .agg [.lit (.int .u8 0), .lit (.int .u8 0)], .agg [.lit (.int .u8 0), .lit (.int .u8 0)], .agg [.lit (.int .u8 0), .lit (.int .u8 0)], .agg [.lit (.int .u8 0), .lit (.int .u8 0)], .agg [.lit (.int .u8 0), .lit (.int .u8 0)]]
/-- One of Go's own tables, pinned by name: the form's constant. -/
def laid_unicode_utf8_first : DataW Unit := Go.Pinned.utf8First

/-- 'rubriclaw20.ComposeEmpty': WHATEVER THE INPUT: true; the input reads as it did. -/
def composeEmptySpec : ChangeSpec := { name := "composeEmpty", fn := fun _ => fun
  | [d1, d2] => { results := [.lit (.bool true)], args := [d1, d2] }
  | _ => none }
def composeEmptyRow : OpenClaim := { program := "ytbdkbfoplpociaagreatdoor", sum := "c4b341cabace53d584f4f09aec5e226b6e958d79fbcd93a90610263ceddba219", func := "rubric/rubriclaw20.ComposeEmpty", spec := "composeEmpty", inPlace := ["math.Float64frombits", "math.Float64bits"], unfollowed := true, recurses := true, named := ["unicode/utf8.first", "unicode/utf8.acceptRanges"], apart := false, laid := [("unicode/utf8.acceptRanges", laid_unicode_utf8_acceptRanges), ("unicode/utf8.first", laid_unicode_utf8_first)] }
def ComposeEmptySaid : Prop := composeEmptyRow.holds Tryz.pinned (OpenSpec.ofChange composeEmptySpec)

/-- ITS FALSE NEIGHBOUR: 'it returns false'. Refute it at one input. -/
def composeEmptyWrong : ChangeSpec := { name := "composeEmpty", fn := fun _ => fun
  | [d1, d2] => { results := [.lit (.bool false)], args := [d1, d2] }
  | _ => none }
def ComposeEmptyWrongFalsely : Prop := composeEmptyRow.holds Tryz.pinned (OpenSpec.ofChange composeEmptyWrong)

/-- 'rubriclaw20.ComposeNothing': WHATEVER THE INPUT: true; the input reads as it did. -/
def composeNothingSpec : ChangeSpec := { name := "composeNothing", fn := fun _ => fun
  | [d1, d2, d3, d4, d5] => { results := [.lit (.bool true)], args := [d1, d2, d3, d4, d5] }
  | _ => none }
def composeNothingRow : OpenClaim := { program := "ytbdkbfoplpociaagreatdoor", sum := "c4b341cabace53d584f4f09aec5e226b6e958d79fbcd93a90610263ceddba219", func := "rubric/rubriclaw20.ComposeNothing", spec := "composeNothing", inPlace := ["math.Float64frombits", "math.Float64bits"], unfollowed := true, recurses := true, named := ["unicode/utf8.first", "unicode/utf8.acceptRanges"], apart := false, laid := [("unicode/utf8.acceptRanges", laid_unicode_utf8_acceptRanges), ("unicode/utf8.first", laid_unicode_utf8_first)] }
def ComposeNothingSaid : Prop := composeNothingRow.holds Tryz.pinned (OpenSpec.ofChange composeNothingSpec)

/-- ITS FALSE NEIGHBOUR: 'it returns false'. Refute it at one input. -/
def composeNothingWrong : ChangeSpec := { name := "composeNothing", fn := fun _ => fun
  | [d1, d2, d3, d4, d5] => { results := [.lit (.bool false)], args := [d1, d2, d3, d4, d5] }
  | _ => none }
def ComposeNothingWrongFalsely : Prop := composeNothingRow.holds Tryz.pinned (OpenSpec.ofChange composeNothingWrong)

/-- 'rubriclaw20.ComposeFirst': WHATEVER THE INPUT: true; the input reads as it did. -/
def composeFirstSpec : ChangeSpec := { name := "composeFirst", fn := fun _ => fun
  | [d1, d2] => { results := [.lit (.bool true)], args := [d1, d2] }
  | _ => none }
def composeFirstRow : OpenClaim := { program := "ytbdkbfoplpociaagreatdoor", sum := "c4b341cabace53d584f4f09aec5e226b6e958d79fbcd93a90610263ceddba219", func := "rubric/rubriclaw20.ComposeFirst", spec := "composeFirst", inPlace := ["math.Float64frombits", "math.Float64bits"], unfollowed := true, recurses := true, named := ["unicode/utf8.first", "unicode/utf8.acceptRanges"], apart := false, laid := [("unicode/utf8.acceptRanges", laid_unicode_utf8_acceptRanges), ("unicode/utf8.first", laid_unicode_utf8_first)] }
def ComposeFirstSaid : Prop := composeFirstRow.holds Tryz.pinned (OpenSpec.ofChange composeFirstSpec)

/-- ITS FALSE NEIGHBOUR: 'it returns false'. Refute it at one input. -/
def composeFirstWrong : ChangeSpec := { name := "composeFirst", fn := fun _ => fun
  | [d1, d2] => { results := [.lit (.bool false)], args := [d1, d2] }
  | _ => none }
def ComposeFirstWrongFalsely : Prop := composeFirstRow.holds Tryz.pinned (OpenSpec.ofChange composeFirstWrong)

/-- 'rubriclaw20.ComposeDoes': WHATEVER THE INPUT: true; the input reads as it did. -/
def composeDoesSpec : ChangeSpec := { name := "composeDoes", fn := fun _ => fun
  | [d1, d2, d3] => { results := [.lit (.bool true)], args := [d1, d2, d3] }
  | _ => none }
def composeDoesRow : OpenClaim := { program := "ytbdkbfoplpociaagreatdoor", sum := "c4b341cabace53d584f4f09aec5e226b6e958d79fbcd93a90610263ceddba219", func := "rubric/rubriclaw20.ComposeDoes", spec := "composeDoes", inPlace := ["math.Float64frombits", "math.Float64bits"], unfollowed := true, recurses := true, named := ["unicode/utf8.first", "unicode/utf8.acceptRanges"], apart := false, laid := [("unicode/utf8.acceptRanges", laid_unicode_utf8_acceptRanges), ("unicode/utf8.first", laid_unicode_utf8_first)] }
def ComposeDoesSaid : Prop := composeDoesRow.holds Tryz.pinned (OpenSpec.ofChange composeDoesSpec)

/-- ITS FALSE NEIGHBOUR: 'it returns false'. Refute it at one input. -/
def composeDoesWrong : ChangeSpec := { name := "composeDoes", fn := fun _ => fun
  | [d1, d2, d3] => { results := [.lit (.bool false)], args := [d1, d2, d3] }
  | _ => none }
def ComposeDoesWrongFalsely : Prop := composeDoesRow.holds Tryz.pinned (OpenSpec.ofChange composeDoesWrong)

/-- 'rubriclaw19.ApplyDoes': WHATEVER THE INPUT: true; the input reads as it did. -/
def applyDoesSpec : ChangeSpec := { name := "applyDoes", fn := fun _ => fun
  | [d1, d2, d3, d4, d5] => { results := [.lit (.bool true)], args := [d1, d2, d3, d4, d5] }
  | _ => none }
def applyDoesRow : OpenClaim := { program := "ytbdkbfoplpociaagreatdoor", sum := "c4b341cabace53d584f4f09aec5e226b6e958d79fbcd93a90610263ceddba219", func := "rubric/rubriclaw19.ApplyDoes", spec := "applyDoes", inPlace := ["math.Float64frombits", "math.Float64bits"], unfollowed := true, recurses := true, named := ["unicode/utf8.first", "unicode/utf8.acceptRanges"], apart := false, laid := [("unicode/utf8.acceptRanges", laid_unicode_utf8_acceptRanges), ("unicode/utf8.first", laid_unicode_utf8_first)] }
def ApplyDoesSaid : Prop := applyDoesRow.holds Tryz.pinned (OpenSpec.ofChange applyDoesSpec)

/-- ITS FALSE NEIGHBOUR: 'it returns false'. Refute it at one input. -/
def applyDoesWrong : ChangeSpec := { name := "applyDoes", fn := fun _ => fun
  | [d1, d2, d3, d4, d5] => { results := [.lit (.bool false)], args := [d1, d2, d3, d4, d5] }
  | _ => none }
def ApplyDoesWrongFalsely : Prop := applyDoesRow.holds Tryz.pinned (OpenSpec.ofChange applyDoesWrong)

/-- 'rubriclaw23.DiffDoes': WHATEVER THE INPUT: true; the input reads as it did. -/
def diffDoesSpec : ChangeSpec := { name := "diffDoes", fn := fun _ => fun
  | [d1, d2, d3] => { results := [.lit (.bool true)], args := [d1, d2, d3] }
  | _ => none }
def diffDoesRow : OpenClaim := { program := "ytbdkbfoplpociaagreatdoor", sum := "c4b341cabace53d584f4f09aec5e226b6e958d79fbcd93a90610263ceddba219", func := "rubric/rubriclaw23.DiffDoes", spec := "diffDoes", inPlace := ["math.Float64frombits", "math.Float64bits"], unfollowed := true, recurses := true, named := ["unicode/utf8.first", "unicode/utf8.acceptRanges"], apart := false, laid := [("unicode/utf8.acceptRanges", laid_unicode_utf8_acceptRanges), ("unicode/utf8.first", laid_unicode_utf8_first)] }
def DiffDoesSaid : Prop := diffDoesRow.holds Tryz.pinned (OpenSpec.ofChange diffDoesSpec)

/-- ITS FALSE NEIGHBOUR: 'it returns false'. Refute it at one input. -/
def diffDoesWrong : ChangeSpec := { name := "diffDoes", fn := fun _ => fun
  | [d1, d2, d3] => { results := [.lit (.bool false)], args := [d1, d2, d3] }
  | _ => none }
def DiffDoesWrongFalsely : Prop := diffDoesRow.holds Tryz.pinned (OpenSpec.ofChange diffDoesWrong)

/-- 'rubriclaw26.FragmentDoes': WHATEVER THE INPUT: true; the input reads as it did. -/
def fragmentDoesSpec : ChangeSpec := { name := "fragmentDoes", fn := fun _ => fun
  | [d1, d2, d3, d4, d5] => { results := [.lit (.bool true)], args := [d1, d2, d3, d4, d5] }
  | _ => none }
def fragmentDoesRow : OpenClaim := { program := "ytbdkbfoplpociaagreatdoor", sum := "c4b341cabace53d584f4f09aec5e226b6e958d79fbcd93a90610263ceddba219", func := "rubric/rubriclaw26.FragmentDoes", spec := "fragmentDoes", inPlace := ["math.Float64frombits", "math.Float64bits"], unfollowed := true, recurses := true, named := ["unicode/utf8.first", "unicode/utf8.acceptRanges"], apart := false, laid := [("unicode/utf8.acceptRanges", laid_unicode_utf8_acceptRanges), ("unicode/utf8.first", laid_unicode_utf8_first)] }
def FragmentDoesSaid : Prop := fragmentDoesRow.holds Tryz.pinned (OpenSpec.ofChange fragmentDoesSpec)

/-- ITS FALSE NEIGHBOUR: 'it returns false'. Refute it at one input. -/
def fragmentDoesWrong : ChangeSpec := { name := "fragmentDoes", fn := fun _ => fun
  | [d1, d2, d3, d4, d5] => { results := [.lit (.bool false)], args := [d1, d2, d3, d4, d5] }
  | _ => none }
def FragmentDoesWrongFalsely : Prop := fragmentDoesRow.holds Tryz.pinned (OpenSpec.ofChange fragmentDoesWrong)

/-- 'rubriclaw22.TransformDoes': WHATEVER THE INPUT: true; the input reads as it did. -/
def transformDoesSpec : ChangeSpec := { name := "transformDoes", fn := fun _ => fun
  | [d1, d2, d3, d4, d5] => { results := [.lit (.bool true)], args := [d1, d2, d3, d4, d5] }
  | _ => none }
def transformDoesRow : OpenClaim := { program := "ytbdkbfoplpociaagreatdoor", sum := "c4b341cabace53d584f4f09aec5e226b6e958d79fbcd93a90610263ceddba219", func := "rubric/rubriclaw22.TransformDoes", spec := "transformDoes", inPlace := ["math.Float64frombits", "math.Float64bits"], unfollowed := true, recurses := true, named := ["unicode/utf8.first", "unicode/utf8.acceptRanges"], apart := false, laid := [("unicode/utf8.acceptRanges", laid_unicode_utf8_acceptRanges), ("unicode/utf8.first", laid_unicode_utf8_first)] }
def TransformDoesSaid : Prop := transformDoesRow.holds Tryz.pinned (OpenSpec.ofChange transformDoesSpec)

/-- ITS FALSE NEIGHBOUR: 'it returns false'. Refute it at one input. -/
def transformDoesWrong : ChangeSpec := { name := "transformDoes", fn := fun _ => fun
  | [d1, d2, d3, d4, d5] => { results := [.lit (.bool false)], args := [d1, d2, d3, d4, d5] }
  | _ => none }
def TransformDoesWrongFalsely : Prop := transformDoesRow.holds Tryz.pinned (OpenSpec.ofChange transformDoesWrong)

/-- 'rubriclaw22.TransformNothing': WHATEVER THE INPUT: true; the input reads as it did. -/
def transformNothingSpec : ChangeSpec := { name := "transformNothing", fn := fun _ => fun
  | [d1, d2, d3] => { results := [.lit (.bool true)], args := [d1, d2, d3] }
  | _ => none }
def transformNothingRow : OpenClaim := { program := "ytbdkbfoplpociaagreatdoor", sum := "c4b341cabace53d584f4f09aec5e226b6e958d79fbcd93a90610263ceddba219", func := "rubric/rubriclaw22.TransformNothing", spec := "transformNothing", inPlace := ["math.Float64frombits", "math.Float64bits"], unfollowed := true, recurses := true, named := ["unicode/utf8.first", "unicode/utf8.acceptRanges"], apart := false, laid := [("unicode/utf8.acceptRanges", laid_unicode_utf8_acceptRanges), ("unicode/utf8.first", laid_unicode_utf8_first)] }
def TransformNothingSaid : Prop := transformNothingRow.holds Tryz.pinned (OpenSpec.ofChange transformNothingSpec)

/-- ITS FALSE NEIGHBOUR: 'it returns false'. Refute it at one input. -/
def transformNothingWrong : ChangeSpec := { name := "transformNothing", fn := fun _ => fun
  | [d1, d2, d3] => { results := [.lit (.bool false)], args := [d1, d2, d3] }
  | _ => none }
def TransformNothingWrongFalsely : Prop := transformNothingRow.holds Tryz.pinned (OpenSpec.ofChange transformNothingWrong)

/-- 'rubriclaw22.TransformPlaces': WHATEVER THE INPUT: true; the input reads as it did. -/
def transformPlacesSpec : ChangeSpec := { name := "transformPlaces", fn := fun _ => fun
  | [d1, d2, d3, d4, d5] => { results := [.lit (.bool true)], args := [d1, d2, d3, d4, d5] }
  | _ => none }
def transformPlacesRow : OpenClaim := { program := "ytbdkbfoplpociaagreatdoor", sum := "c4b341cabace53d584f4f09aec5e226b6e958d79fbcd93a90610263ceddba219", func := "rubric/rubriclaw22.TransformPlaces", spec := "transformPlaces", inPlace := ["math.Float64frombits", "math.Float64bits"], unfollowed := true, recurses := true, named := ["unicode/utf8.first", "unicode/utf8.acceptRanges"], apart := false, laid := [("unicode/utf8.acceptRanges", laid_unicode_utf8_acceptRanges), ("unicode/utf8.first", laid_unicode_utf8_first)] }
def TransformPlacesSaid : Prop := transformPlacesRow.holds Tryz.pinned (OpenSpec.ofChange transformPlacesSpec)

/-- ITS FALSE NEIGHBOUR: 'it returns false'. Refute it at one input. -/
def transformPlacesWrong : ChangeSpec := { name := "transformPlaces", fn := fun _ => fun
  | [d1, d2, d3, d4, d5] => { results := [.lit (.bool false)], args := [d1, d2, d3, d4, d5] }
  | _ => none }
def TransformPlacesWrongFalsely : Prop := transformPlacesRow.holds Tryz.pinned (OpenSpec.ofChange transformPlacesWrong)

/-- 'rubriclaw22.TransformForms': WHATEVER THE INPUT: true; the input reads as it did. -/
def transformFormsSpec : ChangeSpec := { name := "transformForms", fn := fun _ => fun
  | [d1, d2, d3, d4] => { results := [.lit (.bool true)], args := [d1, d2, d3, d4] }
  | _ => none }
def transformFormsRow : OpenClaim := { program := "ytbdkbfoplpociaagreatdoor", sum := "c4b341cabace53d584f4f09aec5e226b6e958d79fbcd93a90610263ceddba219", func := "rubric/rubriclaw22.TransformForms", spec := "transformForms", inPlace := ["math.Float64frombits", "math.Float64bits"], unfollowed := true, recurses := true, named := ["unicode/utf8.first", "unicode/utf8.acceptRanges"], apart := false, laid := [("unicode/utf8.acceptRanges", laid_unicode_utf8_acceptRanges), ("unicode/utf8.first", laid_unicode_utf8_first)] }
def TransformFormsSaid : Prop := transformFormsRow.holds Tryz.pinned (OpenSpec.ofChange transformFormsSpec)

/-- ITS FALSE NEIGHBOUR: 'it returns false'. Refute it at one input. -/
def transformFormsWrong : ChangeSpec := { name := "transformForms", fn := fun _ => fun
  | [d1, d2, d3, d4] => { results := [.lit (.bool false)], args := [d1, d2, d3, d4] }
  | _ => none }
def TransformFormsWrongFalsely : Prop := transformFormsRow.holds Tryz.pinned (OpenSpec.ofChange transformFormsWrong)

/-- 'rubriclaw22.TransformApart': WHATEVER THE INPUT: true; the input reads as it did. -/
def transformApartSpec : ChangeSpec := { name := "transformApart", fn := fun _ => fun
  | [d1, d2, d3, d4, d5] => { results := [.lit (.bool true)], args := [d1, d2, d3, d4, d5] }
  | _ => none }
def transformApartRow : OpenClaim := { program := "ytbdkbfoplpociaagreatdoor", sum := "c4b341cabace53d584f4f09aec5e226b6e958d79fbcd93a90610263ceddba219", func := "rubric/rubriclaw22.TransformApart", spec := "transformApart", inPlace := ["math.Float64frombits", "math.Float64bits"], unfollowed := true, recurses := true, named := ["unicode/utf8.first", "unicode/utf8.acceptRanges"], apart := false, laid := [("unicode/utf8.acceptRanges", laid_unicode_utf8_acceptRanges), ("unicode/utf8.first", laid_unicode_utf8_first)] }
def TransformApartSaid : Prop := transformApartRow.holds Tryz.pinned (OpenSpec.ofChange transformApartSpec)

/-- ITS FALSE NEIGHBOUR: 'it returns false'. Refute it at one input. -/
def transformApartWrong : ChangeSpec := { name := "transformApart", fn := fun _ => fun
  | [d1, d2, d3, d4, d5] => { results := [.lit (.bool false)], args := [d1, d2, d3, d4, d5] }
  | _ => none }
def TransformApartWrongFalsely : Prop := transformApartRow.holds Tryz.pinned (OpenSpec.ofChange transformApartWrong)

/-- 'rubriclaw22.TransformMerges': WHATEVER THE INPUT: true; the input reads as it did. -/
def transformMergesSpec : ChangeSpec := { name := "transformMerges", fn := fun _ => fun
  | [d1, d2, d3, d4, d5] => { results := [.lit (.bool true)], args := [d1, d2, d3, d4, d5] }
  | _ => none }
def transformMergesRow : OpenClaim := { program := "ytbdkbfoplpociaagreatdoor", sum := "c4b341cabace53d584f4f09aec5e226b6e958d79fbcd93a90610263ceddba219", func := "rubric/rubriclaw22.TransformMerges", spec := "transformMerges", inPlace := ["math.Float64frombits", "math.Float64bits"], unfollowed := true, recurses := true, named := ["unicode/utf8.first", "unicode/utf8.acceptRanges"], apart := false, laid := [("unicode/utf8.acceptRanges", laid_unicode_utf8_acceptRanges), ("unicode/utf8.first", laid_unicode_utf8_first)] }
def TransformMergesSaid : Prop := transformMergesRow.holds Tryz.pinned (OpenSpec.ofChange transformMergesSpec)

/-- ITS FALSE NEIGHBOUR: 'it returns false'. Refute it at one input. -/
def transformMergesWrong : ChangeSpec := { name := "transformMerges", fn := fun _ => fun
  | [d1, d2, d3, d4, d5] => { results := [.lit (.bool false)], args := [d1, d2, d3, d4, d5] }
  | _ => none }
def TransformMergesWrongFalsely : Prop := transformMergesRow.holds Tryz.pinned (OpenSpec.ofChange transformMergesWrong)

/-- 'rubriclaw22.TransformMeets': WHATEVER THE INPUT: true; the input reads as it did. -/
def transformMeetsSpec : ChangeSpec := { name := "transformMeets", fn := fun _ => fun
  | [d1, d2, d3, d4, d5] => { results := [.lit (.bool true)], args := [d1, d2, d3, d4, d5] }
  | _ => none }
def transformMeetsRow : OpenClaim := { program := "ytbdkbfoplpociaagreatdoor", sum := "c4b341cabace53d584f4f09aec5e226b6e958d79fbcd93a90610263ceddba219", func := "rubric/rubriclaw22.TransformMeets", spec := "transformMeets", inPlace := ["math.Float64frombits", "math.Float64bits"], unfollowed := true, recurses := true, named := ["unicode/utf8.first", "unicode/utf8.acceptRanges"], apart := false, laid := [("unicode/utf8.acceptRanges", laid_unicode_utf8_acceptRanges), ("unicode/utf8.first", laid_unicode_utf8_first)] }
def TransformMeetsSaid : Prop := transformMeetsRow.holds Tryz.pinned (OpenSpec.ofChange transformMeetsSpec)

/-- ITS FALSE NEIGHBOUR: 'it returns false'. Refute it at one input. -/
def transformMeetsWrong : ChangeSpec := { name := "transformMeets", fn := fun _ => fun
  | [d1, d2, d3, d4, d5] => { results := [.lit (.bool false)], args := [d1, d2, d3, d4, d5] }
  | _ => none }
def TransformMeetsWrongFalsely : Prop := transformMeetsRow.holds Tryz.pinned (OpenSpec.ofChange transformMeetsWrong)

/-- 'rubriclaw24.BuilderRemoves': WHATEVER THE INPUT: true; the input reads as it did. -/
def builderRemovesSpec : ChangeSpec := { name := "builderRemoves", fn := fun _ => fun
  | [d1, d2, d3, d4, d5] => { results := [.lit (.bool true)], args := [d1, d2, d3, d4, d5] }
  | _ => none }
def builderRemovesRow : OpenClaim := { program := "ytbdkbfoplpociaagreatdoor", sum := "c4b341cabace53d584f4f09aec5e226b6e958d79fbcd93a90610263ceddba219", func := "rubric/rubriclaw24.BuilderRemoves", spec := "builderRemoves", inPlace := ["math.Float64frombits", "math.Float64bits"], unfollowed := true, recurses := true, named := ["unicode/utf8.first", "unicode/utf8.acceptRanges"], apart := false, laid := [("unicode/utf8.acceptRanges", laid_unicode_utf8_acceptRanges), ("unicode/utf8.first", laid_unicode_utf8_first)] }
def BuilderRemovesSaid : Prop := builderRemovesRow.holds Tryz.pinned (OpenSpec.ofChange builderRemovesSpec)

/-- ITS FALSE NEIGHBOUR: 'it returns false'. Refute it at one input. -/
def builderRemovesWrong : ChangeSpec := { name := "builderRemoves", fn := fun _ => fun
  | [d1, d2, d3, d4, d5] => { results := [.lit (.bool false)], args := [d1, d2, d3, d4, d5] }
  | _ => none }
def BuilderRemovesWrongFalsely : Prop := builderRemovesRow.holds Tryz.pinned (OpenSpec.ofChange builderRemovesWrong)

/-- 'rubriclaw24.BuilderTypes': WHATEVER THE INPUT: true; the input reads as it did. -/
def builderTypesSpec : ChangeSpec := { name := "builderTypes", fn := fun _ => fun
  | [d1, d2, d3, d4] => { results := [.lit (.bool true)], args := [d1, d2, d3, d4] }
  | _ => none }
def builderTypesRow : OpenClaim := { program := "ytbdkbfoplpociaagreatdoor", sum := "c4b341cabace53d584f4f09aec5e226b6e958d79fbcd93a90610263ceddba219", func := "rubric/rubriclaw24.BuilderTypes", spec := "builderTypes", inPlace := ["math.Float64frombits", "math.Float64bits", "slices.overlaps[rubric/api.Attr]"], unfollowed := true, recurses := true, named := ["unicode/utf8.first", "unicode/utf8.acceptRanges"], apart := false, laid := [("unicode/utf8.acceptRanges", laid_unicode_utf8_acceptRanges), ("unicode/utf8.first", laid_unicode_utf8_first)] }
def BuilderTypesSaid : Prop := builderTypesRow.holds Tryz.pinned (OpenSpec.ofChange builderTypesSpec)

/-- ITS FALSE NEIGHBOUR: 'it returns false'. Refute it at one input. -/
def builderTypesWrong : ChangeSpec := { name := "builderTypes", fn := fun _ => fun
  | [d1, d2, d3, d4] => { results := [.lit (.bool false)], args := [d1, d2, d3, d4] }
  | _ => none }
def BuilderTypesWrongFalsely : Prop := builderTypesRow.holds Tryz.pinned (OpenSpec.ofChange builderTypesWrong)

/-- 'rubriclaw24.BuilderFormats': WHATEVER THE INPUT: true; the input reads as it did. -/
def builderFormatsSpec : ChangeSpec := { name := "builderFormats", fn := fun _ => fun
  | [d1, d2, d3, d4, d5] => { results := [.lit (.bool true)], args := [d1, d2, d3, d4, d5] }
  | _ => none }
def builderFormatsRow : OpenClaim := { program := "ytbdkbfoplpociaagreatdoor", sum := "c4b341cabace53d584f4f09aec5e226b6e958d79fbcd93a90610263ceddba219", func := "rubric/rubriclaw24.BuilderFormats", spec := "builderFormats", inPlace := ["math.Float64frombits", "math.Float64bits", "slices.overlaps[rubric/api.Change]"], unfollowed := true, recurses := true, named := ["unicode/utf8.first", "unicode/utf8.acceptRanges"], apart := false, laid := [("unicode/utf8.acceptRanges", laid_unicode_utf8_acceptRanges), ("unicode/utf8.first", laid_unicode_utf8_first)] }
def BuilderFormatsSaid : Prop := builderFormatsRow.holds Tryz.pinned (OpenSpec.ofChange builderFormatsSpec)

/-- ITS FALSE NEIGHBOUR: 'it returns false'. Refute it at one input. -/
def builderFormatsWrong : ChangeSpec := { name := "builderFormats", fn := fun _ => fun
  | [d1, d2, d3, d4, d5] => { results := [.lit (.bool false)], args := [d1, d2, d3, d4, d5] }
  | _ => none }
def BuilderFormatsWrongFalsely : Prop := builderFormatsRow.holds Tryz.pinned (OpenSpec.ofChange builderFormatsWrong)

/-- 'rubriclaw24.BuilderSteps': WHATEVER THE INPUT: true; the input reads as it did. -/
def builderStepsSpec : ChangeSpec := { name := "builderSteps", fn := fun _ => fun
  | [d1, d2, d3, d4] => { results := [.lit (.bool true)], args := [d1, d2, d3, d4] }
  | _ => none }
def builderStepsRow : OpenClaim := { program := "ytbdkbfoplpociaagreatdoor", sum := "c4b341cabace53d584f4f09aec5e226b6e958d79fbcd93a90610263ceddba219", func := "rubric/rubriclaw24.BuilderSteps", spec := "builderSteps", inPlace := ["math.Float64frombits", "math.Float64bits", "slices.overlaps[rubric/api.Change]"], unfollowed := true, recurses := true, named := ["unicode/utf8.first", "unicode/utf8.acceptRanges"], apart := false, laid := [("unicode/utf8.acceptRanges", laid_unicode_utf8_acceptRanges), ("unicode/utf8.first", laid_unicode_utf8_first)] }
def BuilderStepsSaid : Prop := builderStepsRow.holds Tryz.pinned (OpenSpec.ofChange builderStepsSpec)

/-- ITS FALSE NEIGHBOUR: 'it returns false'. Refute it at one input. -/
def builderStepsWrong : ChangeSpec := { name := "builderSteps", fn := fun _ => fun
  | [d1, d2, d3, d4] => { results := [.lit (.bool false)], args := [d1, d2, d3, d4] }
  | _ => none }
def BuilderStepsWrongFalsely : Prop := builderStepsRow.holds Tryz.pinned (OpenSpec.ofChange builderStepsWrong)

/- THE SECOND FORM. 'bulk': how many values and letters a reading holds, each counted each time it is reached (what is shared counts as often as it is met; a slice's spare places count too). A statement '..UptoSaid' is the law's where the arguments, and the package variables that the reading takes, are together of bulk at most 1048576: NARROWER than '..Said'. Prove '..Said' where nothing that the law and all that it calls make is longer than what came in: it says more and counts as full. Else prove '..UptoSaid'. A law counts once. -/
mutual
def uptoBulk {H : Type} : DataW H → Nat
  | .lit (.string bytes) => bytes.length + 1
  | .lit _ => 1
  | .nil => 1
  | .ptr d => uptoBulk d + 1
  | .slice elems spare => uptoBulkAll elems + uptoBulkAll spare + 1
  | .agg parts => uptoBulkAll parts + 1
  | .iface _ d => uptoBulk d + 1
  | .map entries => uptoBulkEntries entries + 1
  | .held _ => 1
def uptoBulkAll {H : Type} : List (DataW H) → Nat
  | [] => 0
  | d :: r => uptoBulk d + uptoBulkAll r
def uptoBulkEntries {H : Type} : List (Lit × DataW H) → Nat
  | [] => 0
  | x :: r => uptoBulkEntry x + uptoBulkEntries r
def uptoBulkEntry {H : Type} : Lit × DataW H → Nat
  | (.string bytes, d) => bytes.length + uptoBulk d + 1
  | (_, d) => uptoBulk d + 1
 end
def uptoSmall : (H : Type) → List (DataW H) → Bool := fun _ ds => decide (uptoBulkAll ds ≤ 1048576)
def OpenSpec.upto (s : _root_.Go.ChangeSpec) : _root_.Go.OpenSpec := { _root_.Go.OpenSpec.ofChange s with cond := some uptoSmall }

/-- 'rubriclaw20.ComposeEmpty', WHERE WHAT IT READS IS OF BULK AT MOST 1048576: true; the input reads as it did. -/
def composeEmptyUptoRow : OpenClaim := { program := "ytbdkbfoplpociaagreatdoor", sum := "c4b341cabace53d584f4f09aec5e226b6e958d79fbcd93a90610263ceddba219", func := "rubric/rubriclaw20.ComposeEmpty", spec := "composeEmpty", inPlace := ["math.Float64frombits", "math.Float64bits"], unfollowed := true, recurses := true, named := ["unicode/utf8.first", "unicode/utf8.acceptRanges"], apart := false, laid := [("unicode/utf8.acceptRanges", laid_unicode_utf8_acceptRanges), ("unicode/utf8.first", laid_unicode_utf8_first)], narrowed := true }
def ComposeEmptyUptoSaid : Prop := composeEmptyUptoRow.holds Tryz.pinned (OpenSpec.upto composeEmptySpec)

/-- 'rubriclaw20.ComposeNothing', WHERE WHAT IT READS IS OF BULK AT MOST 1048576: true; the input reads as it did. -/
def composeNothingUptoRow : OpenClaim := { program := "ytbdkbfoplpociaagreatdoor", sum := "c4b341cabace53d584f4f09aec5e226b6e958d79fbcd93a90610263ceddba219", func := "rubric/rubriclaw20.ComposeNothing", spec := "composeNothing", inPlace := ["math.Float64frombits", "math.Float64bits"], unfollowed := true, recurses := true, named := ["unicode/utf8.first", "unicode/utf8.acceptRanges"], apart := false, laid := [("unicode/utf8.acceptRanges", laid_unicode_utf8_acceptRanges), ("unicode/utf8.first", laid_unicode_utf8_first)], narrowed := true }
def ComposeNothingUptoSaid : Prop := composeNothingUptoRow.holds Tryz.pinned (OpenSpec.upto composeNothingSpec)

/-- 'rubriclaw20.ComposeFirst', WHERE WHAT IT READS IS OF BULK AT MOST 1048576: true; the input reads as it did. -/
def composeFirstUptoRow : OpenClaim := { program := "ytbdkbfoplpociaagreatdoor", sum := "c4b341cabace53d584f4f09aec5e226b6e958d79fbcd93a90610263ceddba219", func := "rubric/rubriclaw20.ComposeFirst", spec := "composeFirst", inPlace := ["math.Float64frombits", "math.Float64bits"], unfollowed := true, recurses := true, named := ["unicode/utf8.first", "unicode/utf8.acceptRanges"], apart := false, laid := [("unicode/utf8.acceptRanges", laid_unicode_utf8_acceptRanges), ("unicode/utf8.first", laid_unicode_utf8_first)], narrowed := true }
def ComposeFirstUptoSaid : Prop := composeFirstUptoRow.holds Tryz.pinned (OpenSpec.upto composeFirstSpec)

/-- 'rubriclaw20.ComposeDoes', WHERE WHAT IT READS IS OF BULK AT MOST 1048576: true; the input reads as it did. -/
def composeDoesUptoRow : OpenClaim := { program := "ytbdkbfoplpociaagreatdoor", sum := "c4b341cabace53d584f4f09aec5e226b6e958d79fbcd93a90610263ceddba219", func := "rubric/rubriclaw20.ComposeDoes", spec := "composeDoes", inPlace := ["math.Float64frombits", "math.Float64bits"], unfollowed := true, recurses := true, named := ["unicode/utf8.first", "unicode/utf8.acceptRanges"], apart := false, laid := [("unicode/utf8.acceptRanges", laid_unicode_utf8_acceptRanges), ("unicode/utf8.first", laid_unicode_utf8_first)], narrowed := true }
def ComposeDoesUptoSaid : Prop := composeDoesUptoRow.holds Tryz.pinned (OpenSpec.upto composeDoesSpec)

/-- 'rubriclaw19.ApplyDoes', WHERE WHAT IT READS IS OF BULK AT MOST 1048576: true; the input reads as it did. -/
def applyDoesUptoRow : OpenClaim := { program := "ytbdkbfoplpociaagreatdoor", sum := "c4b341cabace53d584f4f09aec5e226b6e958d79fbcd93a90610263ceddba219", func := "rubric/rubriclaw19.ApplyDoes", spec := "applyDoes", inPlace := ["math.Float64frombits", "math.Float64bits"], unfollowed := true, recurses := true, named := ["unicode/utf8.first", "unicode/utf8.acceptRanges"], apart := false, laid := [("unicode/utf8.acceptRanges", laid_unicode_utf8_acceptRanges), ("unicode/utf8.first", laid_unicode_utf8_first)], narrowed := true }
def ApplyDoesUptoSaid : Prop := applyDoesUptoRow.holds Tryz.pinned (OpenSpec.upto applyDoesSpec)

/-- 'rubriclaw23.DiffDoes', WHERE WHAT IT READS IS OF BULK AT MOST 1048576: true; the input reads as it did. -/
def diffDoesUptoRow : OpenClaim := { program := "ytbdkbfoplpociaagreatdoor", sum := "c4b341cabace53d584f4f09aec5e226b6e958d79fbcd93a90610263ceddba219", func := "rubric/rubriclaw23.DiffDoes", spec := "diffDoes", inPlace := ["math.Float64frombits", "math.Float64bits"], unfollowed := true, recurses := true, named := ["unicode/utf8.first", "unicode/utf8.acceptRanges"], apart := false, laid := [("unicode/utf8.acceptRanges", laid_unicode_utf8_acceptRanges), ("unicode/utf8.first", laid_unicode_utf8_first)], narrowed := true }
def DiffDoesUptoSaid : Prop := diffDoesUptoRow.holds Tryz.pinned (OpenSpec.upto diffDoesSpec)

/-- 'rubriclaw26.FragmentDoes', WHERE WHAT IT READS IS OF BULK AT MOST 1048576: true; the input reads as it did. -/
def fragmentDoesUptoRow : OpenClaim := { program := "ytbdkbfoplpociaagreatdoor", sum := "c4b341cabace53d584f4f09aec5e226b6e958d79fbcd93a90610263ceddba219", func := "rubric/rubriclaw26.FragmentDoes", spec := "fragmentDoes", inPlace := ["math.Float64frombits", "math.Float64bits"], unfollowed := true, recurses := true, named := ["unicode/utf8.first", "unicode/utf8.acceptRanges"], apart := false, laid := [("unicode/utf8.acceptRanges", laid_unicode_utf8_acceptRanges), ("unicode/utf8.first", laid_unicode_utf8_first)], narrowed := true }
def FragmentDoesUptoSaid : Prop := fragmentDoesUptoRow.holds Tryz.pinned (OpenSpec.upto fragmentDoesSpec)

/-- 'rubriclaw22.TransformDoes', WHERE WHAT IT READS IS OF BULK AT MOST 1048576: true; the input reads as it did. -/
def transformDoesUptoRow : OpenClaim := { program := "ytbdkbfoplpociaagreatdoor", sum := "c4b341cabace53d584f4f09aec5e226b6e958d79fbcd93a90610263ceddba219", func := "rubric/rubriclaw22.TransformDoes", spec := "transformDoes", inPlace := ["math.Float64frombits", "math.Float64bits"], unfollowed := true, recurses := true, named := ["unicode/utf8.first", "unicode/utf8.acceptRanges"], apart := false, laid := [("unicode/utf8.acceptRanges", laid_unicode_utf8_acceptRanges), ("unicode/utf8.first", laid_unicode_utf8_first)], narrowed := true }
def TransformDoesUptoSaid : Prop := transformDoesUptoRow.holds Tryz.pinned (OpenSpec.upto transformDoesSpec)

/-- 'rubriclaw22.TransformNothing', WHERE WHAT IT READS IS OF BULK AT MOST 1048576: true; the input reads as it did. -/
def transformNothingUptoRow : OpenClaim := { program := "ytbdkbfoplpociaagreatdoor", sum := "c4b341cabace53d584f4f09aec5e226b6e958d79fbcd93a90610263ceddba219", func := "rubric/rubriclaw22.TransformNothing", spec := "transformNothing", inPlace := ["math.Float64frombits", "math.Float64bits"], unfollowed := true, recurses := true, named := ["unicode/utf8.first", "unicode/utf8.acceptRanges"], apart := false, laid := [("unicode/utf8.acceptRanges", laid_unicode_utf8_acceptRanges), ("unicode/utf8.first", laid_unicode_utf8_first)], narrowed := true }
def TransformNothingUptoSaid : Prop := transformNothingUptoRow.holds Tryz.pinned (OpenSpec.upto transformNothingSpec)

/-- 'rubriclaw22.TransformPlaces', WHERE WHAT IT READS IS OF BULK AT MOST 1048576: true; the input reads as it did. -/
def transformPlacesUptoRow : OpenClaim := { program := "ytbdkbfoplpociaagreatdoor", sum := "c4b341cabace53d584f4f09aec5e226b6e958d79fbcd93a90610263ceddba219", func := "rubric/rubriclaw22.TransformPlaces", spec := "transformPlaces", inPlace := ["math.Float64frombits", "math.Float64bits"], unfollowed := true, recurses := true, named := ["unicode/utf8.first", "unicode/utf8.acceptRanges"], apart := false, laid := [("unicode/utf8.acceptRanges", laid_unicode_utf8_acceptRanges), ("unicode/utf8.first", laid_unicode_utf8_first)], narrowed := true }
def TransformPlacesUptoSaid : Prop := transformPlacesUptoRow.holds Tryz.pinned (OpenSpec.upto transformPlacesSpec)

/-- 'rubriclaw22.TransformForms', WHERE WHAT IT READS IS OF BULK AT MOST 1048576: true; the input reads as it did. -/
def transformFormsUptoRow : OpenClaim := { program := "ytbdkbfoplpociaagreatdoor", sum := "c4b341cabace53d584f4f09aec5e226b6e958d79fbcd93a90610263ceddba219", func := "rubric/rubriclaw22.TransformForms", spec := "transformForms", inPlace := ["math.Float64frombits", "math.Float64bits"], unfollowed := true, recurses := true, named := ["unicode/utf8.first", "unicode/utf8.acceptRanges"], apart := false, laid := [("unicode/utf8.acceptRanges", laid_unicode_utf8_acceptRanges), ("unicode/utf8.first", laid_unicode_utf8_first)], narrowed := true }
def TransformFormsUptoSaid : Prop := transformFormsUptoRow.holds Tryz.pinned (OpenSpec.upto transformFormsSpec)

/-- 'rubriclaw22.TransformApart', WHERE WHAT IT READS IS OF BULK AT MOST 1048576: true; the input reads as it did. -/
def transformApartUptoRow : OpenClaim := { program := "ytbdkbfoplpociaagreatdoor", sum := "c4b341cabace53d584f4f09aec5e226b6e958d79fbcd93a90610263ceddba219", func := "rubric/rubriclaw22.TransformApart", spec := "transformApart", inPlace := ["math.Float64frombits", "math.Float64bits"], unfollowed := true, recurses := true, named := ["unicode/utf8.first", "unicode/utf8.acceptRanges"], apart := false, laid := [("unicode/utf8.acceptRanges", laid_unicode_utf8_acceptRanges), ("unicode/utf8.first", laid_unicode_utf8_first)], narrowed := true }
def TransformApartUptoSaid : Prop := transformApartUptoRow.holds Tryz.pinned (OpenSpec.upto transformApartSpec)

/-- 'rubriclaw22.TransformMerges', WHERE WHAT IT READS IS OF BULK AT MOST 1048576: true; the input reads as it did. -/
def transformMergesUptoRow : OpenClaim := { program := "ytbdkbfoplpociaagreatdoor", sum := "c4b341cabace53d584f4f09aec5e226b6e958d79fbcd93a90610263ceddba219", func := "rubric/rubriclaw22.TransformMerges", spec := "transformMerges", inPlace := ["math.Float64frombits", "math.Float64bits"], unfollowed := true, recurses := true, named := ["unicode/utf8.first", "unicode/utf8.acceptRanges"], apart := false, laid := [("unicode/utf8.acceptRanges", laid_unicode_utf8_acceptRanges), ("unicode/utf8.first", laid_unicode_utf8_first)], narrowed := true }
def TransformMergesUptoSaid : Prop := transformMergesUptoRow.holds Tryz.pinned (OpenSpec.upto transformMergesSpec)

/-- 'rubriclaw22.TransformMeets', WHERE WHAT IT READS IS OF BULK AT MOST 1048576: true; the input reads as it did. -/
def transformMeetsUptoRow : OpenClaim := { program := "ytbdkbfoplpociaagreatdoor", sum := "c4b341cabace53d584f4f09aec5e226b6e958d79fbcd93a90610263ceddba219", func := "rubric/rubriclaw22.TransformMeets", spec := "transformMeets", inPlace := ["math.Float64frombits", "math.Float64bits"], unfollowed := true, recurses := true, named := ["unicode/utf8.first", "unicode/utf8.acceptRanges"], apart := false, laid := [("unicode/utf8.acceptRanges", laid_unicode_utf8_acceptRanges), ("unicode/utf8.first", laid_unicode_utf8_first)], narrowed := true }
def TransformMeetsUptoSaid : Prop := transformMeetsUptoRow.holds Tryz.pinned (OpenSpec.upto transformMeetsSpec)

/-- 'rubriclaw24.BuilderRemoves', WHERE WHAT IT READS IS OF BULK AT MOST 1048576: true; the input reads as it did. -/
def builderRemovesUptoRow : OpenClaim := { program := "ytbdkbfoplpociaagreatdoor", sum := "c4b341cabace53d584f4f09aec5e226b6e958d79fbcd93a90610263ceddba219", func := "rubric/rubriclaw24.BuilderRemoves", spec := "builderRemoves", inPlace := ["math.Float64frombits", "math.Float64bits"], unfollowed := true, recurses := true, named := ["unicode/utf8.first", "unicode/utf8.acceptRanges"], apart := false, laid := [("unicode/utf8.acceptRanges", laid_unicode_utf8_acceptRanges), ("unicode/utf8.first", laid_unicode_utf8_first)], narrowed := true }
def BuilderRemovesUptoSaid : Prop := builderRemovesUptoRow.holds Tryz.pinned (OpenSpec.upto builderRemovesSpec)

/-- 'rubriclaw24.BuilderTypes', WHERE WHAT IT READS IS OF BULK AT MOST 1048576: true; the input reads as it did. -/
def builderTypesUptoRow : OpenClaim := { program := "ytbdkbfoplpociaagreatdoor", sum := "c4b341cabace53d584f4f09aec5e226b6e958d79fbcd93a90610263ceddba219", func := "rubric/rubriclaw24.BuilderTypes", spec := "builderTypes", inPlace := ["math.Float64frombits", "math.Float64bits", "slices.overlaps[rubric/api.Attr]"], unfollowed := true, recurses := true, named := ["unicode/utf8.first", "unicode/utf8.acceptRanges"], apart := false, laid := [("unicode/utf8.acceptRanges", laid_unicode_utf8_acceptRanges), ("unicode/utf8.first", laid_unicode_utf8_first)], narrowed := true }
def BuilderTypesUptoSaid : Prop := builderTypesUptoRow.holds Tryz.pinned (OpenSpec.upto builderTypesSpec)

/-- 'rubriclaw24.BuilderFormats', WHERE WHAT IT READS IS OF BULK AT MOST 1048576: true; the input reads as it did. -/
def builderFormatsUptoRow : OpenClaim := { program := "ytbdkbfoplpociaagreatdoor", sum := "c4b341cabace53d584f4f09aec5e226b6e958d79fbcd93a90610263ceddba219", func := "rubric/rubriclaw24.BuilderFormats", spec := "builderFormats", inPlace := ["math.Float64frombits", "math.Float64bits", "slices.overlaps[rubric/api.Change]"], unfollowed := true, recurses := true, named := ["unicode/utf8.first", "unicode/utf8.acceptRanges"], apart := false, laid := [("unicode/utf8.acceptRanges", laid_unicode_utf8_acceptRanges), ("unicode/utf8.first", laid_unicode_utf8_first)], narrowed := true }
def BuilderFormatsUptoSaid : Prop := builderFormatsUptoRow.holds Tryz.pinned (OpenSpec.upto builderFormatsSpec)

/-- 'rubriclaw24.BuilderSteps', WHERE WHAT IT READS IS OF BULK AT MOST 1048576: true; the input reads as it did. -/
def builderStepsUptoRow : OpenClaim := { program := "ytbdkbfoplpociaagreatdoor", sum := "c4b341cabace53d584f4f09aec5e226b6e958d79fbcd93a90610263ceddba219", func := "rubric/rubriclaw24.BuilderSteps", spec := "builderSteps", inPlace := ["math.Float64frombits", "math.Float64bits", "slices.overlaps[rubric/api.Change]"], unfollowed := true, recurses := true, named := ["unicode/utf8.first", "unicode/utf8.acceptRanges"], apart := false, laid := [("unicode/utf8.acceptRanges", laid_unicode_utf8_acceptRanges), ("unicode/utf8.first", laid_unicode_utf8_first)], narrowed := true }
def BuilderStepsUptoSaid : Prop := builderStepsUptoRow.holds Tryz.pinned (OpenSpec.upto builderStepsSpec)

end Rows
end Go.Proofs.YtbdkbfoplpociaaGreatDoor
