/-
  NARROWER THAN 'FOR EVERY INPUT', by the rows' own cells (each row's printed sentence says how): FragmentDoes: laid · DiffDoes: laid · ApplyDoes: laid · ComposeDoes: laid · TransformDoes: laid · TransformMerges: laid · BuilderFormats: laid · BuilderSteps: laid.
  DERIVED. THE GIVEN ROWS OF THIS SEAT. 8 by the template 'for every input the law returns true; each argument reads behind the call as it read before'; 0 by the template 'total and deterministic' (their statements: YtfnkjcodcoehcaaGreatDoorTotals.lean).
  GIVEN WITH THE SEED: the statements are not yours to turn. If you find one false, say at which input.
  Laid BY PROGRAM, IN A SANDBOX (cutbox-rows.mjs): the forced cells as the released guide's own fill.sh prints them over the translation 414f37d9053cca99… (all of the seat's roots in one cut). By AI agents, Wed Nov 11 2026. No macro, syntax, notation, axiom, sorry.
-/
import Derived.Test.YtfnkjcodcoehcaaGreatDoorChecked
import GoSem.PinnedTables
import GoSem.Claim
import GoSem.ClaimJoined
import GoSem.ClaimMapViews
import Derived.JoinedTies
import Derived.KernelRfl
namespace Go.Proofs.YtfnkjcodcoehcaaGreatDoor
/- THE CELL 'sum', in the pinned program and in every row, IS THE sha256 OF THE DUMP (.gsa) THAT YtfnkjcodcoehcaaGreatDoorProg.lean LOADS. Nothing in Lean hashes anything: it is a label: what it is worth is what the hold of that sum in a sandbox is worth. -/
noncomputable def Tryz.pinned : Pinned := { name := "ytfnkjcodcoehcaagreatdoor", sum := "414f37d9053cca999deeaefdf1d8bc693a88e3f393112afd5f4d7c03cdd47ff9", checked := Tryz.checked }
namespace Rows
def none {H : Type} : Left H := { results := [], args := [] }

/- WHAT THE LISTED PACKAGE-LEVEL VARIABLES READ AS WHEN THE CALL BEGINS. Each datum BY PROGRAM (the guide's laid-datum.mjs) off the statement by which the dump's own 'gosem.cut.vars' lays the variable. In a bare row this is a premise. The card (YtfnkjcodcoehcaaGreatDoorCards.lean) ties it to the program's text. -/
def laid_unicode_utf8_acceptRanges {H : Type} : DataW H := .agg [.agg [.lit (.int .u8 128), .lit (.int .u8 191)], .agg [.lit (.int .u8 160), .lit (.int .u8 191)], .agg [.lit (.int .u8 128), .lit (.int .u8 159)], .agg [.lit (.int .u8 144), .lit (.int .u8 191)], .agg [.lit (.int .u8 128), .lit (.int .u8 143)], .agg [.lit (.int .u8 0), .lit (.int .u8 0)], .agg [.lit (.int .u8 0), .lit (.int .u8 0)], .agg [.lit (.int .u8 0), .lit (.int .u8 0)], .agg [.lit (.int .u8 0), .lit (.int .u8 0)], .agg [.lit (.int .u8 0), .lit (.int .u8 0)], .agg [.lit (.int .u8 0), .lit (.int .u8 0)], .agg [.lit (.int .u8 0), .lit (.int .u8 0)], .agg [.lit (.int .u8 0), .lit (.int .u8 0)], .agg [.lit (.int .u8 0), .lit (.int .u8 0)], .agg [.lit (.int .u8 0), .lit (.int .u8 0)], .agg [.lit (.int .u8 0), .lit (.int .u8 0)]]
/-- One of Go's own tables, pinned by name: the form's constant. -/
def laid_unicode_utf8_first : DataW Unit := Go.Pinned.utf8First

/-- 'rubriclaw26.FragmentDoes': WHATEVER THE INPUT: true; the input reads as it did. -/
def fragmentDoesSpec : ChangeSpec := { name := "fragmentDoes", fn := fun _ => fun
  | [d1, d2, d3, d4, d5] => { results := [.lit (.bool true)], args := [d1, d2, d3, d4, d5] }
  | _ => none }
def fragmentDoesRow : OpenClaim := { program := "ytfnkjcodcoehcaagreatdoor", sum := "414f37d9053cca999deeaefdf1d8bc693a88e3f393112afd5f4d7c03cdd47ff9", func := "rubric/rubriclaw26.FragmentDoes", spec := "fragmentDoes", inPlace := ["math.Float64frombits", "math.Float64bits"], unfollowed := true, recurses := true, named := ["unicode/utf8.first", "unicode/utf8.acceptRanges"], apart := false, laid := [("unicode/utf8.acceptRanges", laid_unicode_utf8_acceptRanges), ("unicode/utf8.first", laid_unicode_utf8_first)] }
def FragmentDoesSaid : Prop := fragmentDoesRow.holds Tryz.pinned (OpenSpec.ofChange fragmentDoesSpec)

/-- ITS FALSE NEIGHBOUR: 'it returns false'. Refute it at one input. -/
def fragmentDoesWrong : ChangeSpec := { name := "fragmentDoes", fn := fun _ => fun
  | [d1, d2, d3, d4, d5] => { results := [.lit (.bool false)], args := [d1, d2, d3, d4, d5] }
  | _ => none }
def FragmentDoesWrongFalsely : Prop := fragmentDoesRow.holds Tryz.pinned (OpenSpec.ofChange fragmentDoesWrong)

/-- 'rubriclaw23.DiffDoes': WHATEVER THE INPUT: true; the input reads as it did. -/
def diffDoesSpec : ChangeSpec := { name := "diffDoes", fn := fun _ => fun
  | [d1, d2, d3] => { results := [.lit (.bool true)], args := [d1, d2, d3] }
  | _ => none }
def diffDoesRow : OpenClaim := { program := "ytfnkjcodcoehcaagreatdoor", sum := "414f37d9053cca999deeaefdf1d8bc693a88e3f393112afd5f4d7c03cdd47ff9", func := "rubric/rubriclaw23.DiffDoes", spec := "diffDoes", inPlace := ["math.Float64frombits", "math.Float64bits"], unfollowed := true, recurses := true, named := ["unicode/utf8.first", "unicode/utf8.acceptRanges"], apart := false, laid := [("unicode/utf8.acceptRanges", laid_unicode_utf8_acceptRanges), ("unicode/utf8.first", laid_unicode_utf8_first)] }
def DiffDoesSaid : Prop := diffDoesRow.holds Tryz.pinned (OpenSpec.ofChange diffDoesSpec)

/-- ITS FALSE NEIGHBOUR: 'it returns false'. Refute it at one input. -/
def diffDoesWrong : ChangeSpec := { name := "diffDoes", fn := fun _ => fun
  | [d1, d2, d3] => { results := [.lit (.bool false)], args := [d1, d2, d3] }
  | _ => none }
def DiffDoesWrongFalsely : Prop := diffDoesRow.holds Tryz.pinned (OpenSpec.ofChange diffDoesWrong)

/-- 'rubriclaw19.ApplyDoes': WHATEVER THE INPUT: true; the input reads as it did. -/
def applyDoesSpec : ChangeSpec := { name := "applyDoes", fn := fun _ => fun
  | [d1, d2, d3, d4, d5] => { results := [.lit (.bool true)], args := [d1, d2, d3, d4, d5] }
  | _ => none }
def applyDoesRow : OpenClaim := { program := "ytfnkjcodcoehcaagreatdoor", sum := "414f37d9053cca999deeaefdf1d8bc693a88e3f393112afd5f4d7c03cdd47ff9", func := "rubric/rubriclaw19.ApplyDoes", spec := "applyDoes", inPlace := ["math.Float64frombits", "math.Float64bits"], unfollowed := true, recurses := true, named := ["unicode/utf8.first", "unicode/utf8.acceptRanges"], apart := false, laid := [("unicode/utf8.acceptRanges", laid_unicode_utf8_acceptRanges), ("unicode/utf8.first", laid_unicode_utf8_first)] }
def ApplyDoesSaid : Prop := applyDoesRow.holds Tryz.pinned (OpenSpec.ofChange applyDoesSpec)

/-- ITS FALSE NEIGHBOUR: 'it returns false'. Refute it at one input. -/
def applyDoesWrong : ChangeSpec := { name := "applyDoes", fn := fun _ => fun
  | [d1, d2, d3, d4, d5] => { results := [.lit (.bool false)], args := [d1, d2, d3, d4, d5] }
  | _ => none }
def ApplyDoesWrongFalsely : Prop := applyDoesRow.holds Tryz.pinned (OpenSpec.ofChange applyDoesWrong)

/-- 'rubriclaw20.ComposeDoes': WHATEVER THE INPUT: true; the input reads as it did. -/
def composeDoesSpec : ChangeSpec := { name := "composeDoes", fn := fun _ => fun
  | [d1, d2, d3] => { results := [.lit (.bool true)], args := [d1, d2, d3] }
  | _ => none }
def composeDoesRow : OpenClaim := { program := "ytfnkjcodcoehcaagreatdoor", sum := "414f37d9053cca999deeaefdf1d8bc693a88e3f393112afd5f4d7c03cdd47ff9", func := "rubric/rubriclaw20.ComposeDoes", spec := "composeDoes", inPlace := ["math.Float64frombits", "math.Float64bits"], unfollowed := true, recurses := true, named := ["unicode/utf8.first", "unicode/utf8.acceptRanges"], apart := false, laid := [("unicode/utf8.acceptRanges", laid_unicode_utf8_acceptRanges), ("unicode/utf8.first", laid_unicode_utf8_first)] }
def ComposeDoesSaid : Prop := composeDoesRow.holds Tryz.pinned (OpenSpec.ofChange composeDoesSpec)

/-- ITS FALSE NEIGHBOUR: 'it returns false'. Refute it at one input. -/
def composeDoesWrong : ChangeSpec := { name := "composeDoes", fn := fun _ => fun
  | [d1, d2, d3] => { results := [.lit (.bool false)], args := [d1, d2, d3] }
  | _ => none }
def ComposeDoesWrongFalsely : Prop := composeDoesRow.holds Tryz.pinned (OpenSpec.ofChange composeDoesWrong)

/-- 'rubriclaw22.TransformDoes': WHATEVER THE INPUT: true; the input reads as it did. -/
def transformDoesSpec : ChangeSpec := { name := "transformDoes", fn := fun _ => fun
  | [d1, d2, d3, d4, d5] => { results := [.lit (.bool true)], args := [d1, d2, d3, d4, d5] }
  | _ => none }
def transformDoesRow : OpenClaim := { program := "ytfnkjcodcoehcaagreatdoor", sum := "414f37d9053cca999deeaefdf1d8bc693a88e3f393112afd5f4d7c03cdd47ff9", func := "rubric/rubriclaw22.TransformDoes", spec := "transformDoes", inPlace := ["math.Float64frombits", "math.Float64bits"], unfollowed := true, recurses := true, named := ["unicode/utf8.first", "unicode/utf8.acceptRanges"], apart := false, laid := [("unicode/utf8.acceptRanges", laid_unicode_utf8_acceptRanges), ("unicode/utf8.first", laid_unicode_utf8_first)] }
def TransformDoesSaid : Prop := transformDoesRow.holds Tryz.pinned (OpenSpec.ofChange transformDoesSpec)

/-- ITS FALSE NEIGHBOUR: 'it returns false'. Refute it at one input. -/
def transformDoesWrong : ChangeSpec := { name := "transformDoes", fn := fun _ => fun
  | [d1, d2, d3, d4, d5] => { results := [.lit (.bool false)], args := [d1, d2, d3, d4, d5] }
  | _ => none }
def TransformDoesWrongFalsely : Prop := transformDoesRow.holds Tryz.pinned (OpenSpec.ofChange transformDoesWrong)

/-- 'rubriclaw22.TransformMerges': WHATEVER THE INPUT: true; the input reads as it did. -/
def transformMergesSpec : ChangeSpec := { name := "transformMerges", fn := fun _ => fun
  | [d1, d2, d3, d4, d5] => { results := [.lit (.bool true)], args := [d1, d2, d3, d4, d5] }
  | _ => none }
def transformMergesRow : OpenClaim := { program := "ytfnkjcodcoehcaagreatdoor", sum := "414f37d9053cca999deeaefdf1d8bc693a88e3f393112afd5f4d7c03cdd47ff9", func := "rubric/rubriclaw22.TransformMerges", spec := "transformMerges", inPlace := ["math.Float64frombits", "math.Float64bits"], unfollowed := true, recurses := true, named := ["unicode/utf8.first", "unicode/utf8.acceptRanges"], apart := false, laid := [("unicode/utf8.acceptRanges", laid_unicode_utf8_acceptRanges), ("unicode/utf8.first", laid_unicode_utf8_first)] }
def TransformMergesSaid : Prop := transformMergesRow.holds Tryz.pinned (OpenSpec.ofChange transformMergesSpec)

/-- ITS FALSE NEIGHBOUR: 'it returns false'. Refute it at one input. -/
def transformMergesWrong : ChangeSpec := { name := "transformMerges", fn := fun _ => fun
  | [d1, d2, d3, d4, d5] => { results := [.lit (.bool false)], args := [d1, d2, d3, d4, d5] }
  | _ => none }
def TransformMergesWrongFalsely : Prop := transformMergesRow.holds Tryz.pinned (OpenSpec.ofChange transformMergesWrong)

/-- 'rubriclaw24.BuilderFormats': WHATEVER THE INPUT: true; the input reads as it did. -/
def builderFormatsSpec : ChangeSpec := { name := "builderFormats", fn := fun _ => fun
  | [d1, d2, d3, d4, d5] => { results := [.lit (.bool true)], args := [d1, d2, d3, d4, d5] }
  | _ => none }
def builderFormatsRow : OpenClaim := { program := "ytfnkjcodcoehcaagreatdoor", sum := "414f37d9053cca999deeaefdf1d8bc693a88e3f393112afd5f4d7c03cdd47ff9", func := "rubric/rubriclaw24.BuilderFormats", spec := "builderFormats", inPlace := ["math.Float64frombits", "math.Float64bits", "slices.overlaps[rubric/api.Change]"], unfollowed := true, recurses := true, named := ["unicode/utf8.first", "unicode/utf8.acceptRanges"], apart := false, laid := [("unicode/utf8.acceptRanges", laid_unicode_utf8_acceptRanges), ("unicode/utf8.first", laid_unicode_utf8_first)] }
def BuilderFormatsSaid : Prop := builderFormatsRow.holds Tryz.pinned (OpenSpec.ofChange builderFormatsSpec)

/-- ITS FALSE NEIGHBOUR: 'it returns false'. Refute it at one input. -/
def builderFormatsWrong : ChangeSpec := { name := "builderFormats", fn := fun _ => fun
  | [d1, d2, d3, d4, d5] => { results := [.lit (.bool false)], args := [d1, d2, d3, d4, d5] }
  | _ => none }
def BuilderFormatsWrongFalsely : Prop := builderFormatsRow.holds Tryz.pinned (OpenSpec.ofChange builderFormatsWrong)

/-- 'rubriclaw24.BuilderSteps': WHATEVER THE INPUT: true; the input reads as it did. -/
def builderStepsSpec : ChangeSpec := { name := "builderSteps", fn := fun _ => fun
  | [d1, d2, d3, d4] => { results := [.lit (.bool true)], args := [d1, d2, d3, d4] }
  | _ => none }
def builderStepsRow : OpenClaim := { program := "ytfnkjcodcoehcaagreatdoor", sum := "414f37d9053cca999deeaefdf1d8bc693a88e3f393112afd5f4d7c03cdd47ff9", func := "rubric/rubriclaw24.BuilderSteps", spec := "builderSteps", inPlace := ["math.Float64frombits", "math.Float64bits", "slices.overlaps[rubric/api.Change]"], unfollowed := true, recurses := true, named := ["unicode/utf8.first", "unicode/utf8.acceptRanges"], apart := false, laid := [("unicode/utf8.acceptRanges", laid_unicode_utf8_acceptRanges), ("unicode/utf8.first", laid_unicode_utf8_first)] }
def BuilderStepsSaid : Prop := builderStepsRow.holds Tryz.pinned (OpenSpec.ofChange builderStepsSpec)

/-- ITS FALSE NEIGHBOUR: 'it returns false'. Refute it at one input. -/
def builderStepsWrong : ChangeSpec := { name := "builderSteps", fn := fun _ => fun
  | [d1, d2, d3, d4] => { results := [.lit (.bool false)], args := [d1, d2, d3, d4] }
  | _ => none }
def BuilderStepsWrongFalsely : Prop := builderStepsRow.holds Tryz.pinned (OpenSpec.ofChange builderStepsWrong)

/- THE SECOND FORM. 'bulk': how many values and letters a reading holds, each counted each time it is reached (what is shared counts as often as it is met; a slice's spare places count too). A statement '..UptoSaid' is the law's where the arguments, and the package variables that the reading takes, are together of bulk at most 1048576: NARROWER than '..Said'. Prove '..Said' where nothing that the law and all that it calls make is longer than what came in: it says more and counts as full. Else prove '..UptoSaid'. A law counts once. -/
mutual
def uptoBulk {H : Type} : DataW H → Nat
  | .lit (.string bytes) => bytes.length + 1
  | .lit _ => 1
  | .nil => 1
  | .ptr d => uptoBulk d + 1
  | .slice elems spare => uptoBulkAll elems + uptoBulkAll spare + 1
  | .agg parts => uptoBulkAll parts + 1
  | .iface _ d => uptoBulk d + 1
  | .map entries => uptoBulkEntries entries + 1
  | .held _ => 1
def uptoBulkAll {H : Type} : List (DataW H) → Nat
  | [] => 0
  | d :: r => uptoBulk d + uptoBulkAll r
def uptoBulkEntries {H : Type} : List (Lit × DataW H) → Nat
  | [] => 0
  | x :: r => uptoBulkEntry x + uptoBulkEntries r
def uptoBulkEntry {H : Type} : Lit × DataW H → Nat
  | (.string bytes, d) => bytes.length + uptoBulk d + 1
  | (_, d) => uptoBulk d + 1
 end
def uptoSmall : (H : Type) → List (DataW H) → Bool := fun _ ds => decide (uptoBulkAll ds ≤ 1048576)
def OpenSpec.upto (s : _root_.Go.ChangeSpec) : _root_.Go.OpenSpec := { _root_.Go.OpenSpec.ofChange s with cond := some uptoSmall }

/-- 'rubriclaw26.FragmentDoes', WHERE WHAT IT READS IS OF BULK AT MOST 1048576: true; the input reads as it did. -/
def fragmentDoesUptoRow : OpenClaim := { program := "ytfnkjcodcoehcaagreatdoor", sum := "414f37d9053cca999deeaefdf1d8bc693a88e3f393112afd5f4d7c03cdd47ff9", func := "rubric/rubriclaw26.FragmentDoes", spec := "fragmentDoes", inPlace := ["math.Float64frombits", "math.Float64bits"], unfollowed := true, recurses := true, named := ["unicode/utf8.first", "unicode/utf8.acceptRanges"], apart := false, laid := [("unicode/utf8.acceptRanges", laid_unicode_utf8_acceptRanges), ("unicode/utf8.first", laid_unicode_utf8_first)], narrowed := true }
def FragmentDoesUptoSaid : Prop := fragmentDoesUptoRow.holds Tryz.pinned (OpenSpec.upto fragmentDoesSpec)

/-- 'rubriclaw23.DiffDoes', WHERE WHAT IT READS IS OF BULK AT MOST 1048576: true; the input reads as it did. -/
def diffDoesUptoRow : OpenClaim := { program := "ytfnkjcodcoehcaagreatdoor", sum := "414f37d9053cca999deeaefdf1d8bc693a88e3f393112afd5f4d7c03cdd47ff9", func := "rubric/rubriclaw23.DiffDoes", spec := "diffDoes", inPlace := ["math.Float64frombits", "math.Float64bits"], unfollowed := true, recurses := true, named := ["unicode/utf8.first", "unicode/utf8.acceptRanges"], apart := false, laid := [("unicode/utf8.acceptRanges", laid_unicode_utf8_acceptRanges), ("unicode/utf8.first", laid_unicode_utf8_first)], narrowed := true }
def DiffDoesUptoSaid : Prop := diffDoesUptoRow.holds Tryz.pinned (OpenSpec.upto diffDoesSpec)

/-- 'rubriclaw19.ApplyDoes', WHERE WHAT IT READS IS OF BULK AT MOST 1048576: true; the input reads as it did. -/
def applyDoesUptoRow : OpenClaim := { program := "ytfnkjcodcoehcaagreatdoor", sum := "414f37d9053cca999deeaefdf1d8bc693a88e3f393112afd5f4d7c03cdd47ff9", func := "rubric/rubriclaw19.ApplyDoes", spec := "applyDoes", inPlace := ["math.Float64frombits", "math.Float64bits"], unfollowed := true, recurses := true, named := ["unicode/utf8.first", "unicode/utf8.acceptRanges"], apart := false, laid := [("unicode/utf8.acceptRanges", laid_unicode_utf8_acceptRanges), ("unicode/utf8.first", laid_unicode_utf8_first)], narrowed := true }
def ApplyDoesUptoSaid : Prop := applyDoesUptoRow.holds Tryz.pinned (OpenSpec.upto applyDoesSpec)

/-- 'rubriclaw20.ComposeDoes', WHERE WHAT IT READS IS OF BULK AT MOST 1048576: true; the input reads as it did. -/
def composeDoesUptoRow : OpenClaim := { program := "ytfnkjcodcoehcaagreatdoor", sum := "414f37d9053cca999deeaefdf1d8bc693a88e3f393112afd5f4d7c03cdd47ff9", func := "rubric/rubriclaw20.ComposeDoes", spec := "composeDoes", inPlace := ["math.Float64frombits", "math.Float64bits"], unfollowed := true, recurses := true, named := ["unicode/utf8.first", "unicode/utf8.acceptRanges"], apart := false, laid := [("unicode/utf8.acceptRanges", laid_unicode_utf8_acceptRanges), ("unicode/utf8.first", laid_unicode_utf8_first)], narrowed := true }
def ComposeDoesUptoSaid : Prop := composeDoesUptoRow.holds Tryz.pinned (OpenSpec.upto composeDoesSpec)

/-- 'rubriclaw22.TransformDoes', WHERE WHAT IT READS IS OF BULK AT MOST 1048576: true; the input reads as it did. -/
def transformDoesUptoRow : OpenClaim := { program := "ytfnkjcodcoehcaagreatdoor", sum := "414f37d9053cca999deeaefdf1d8bc693a88e3f393112afd5f4d7c03cdd47ff9", func := "rubric/rubriclaw22.TransformDoes", spec := "transformDoes", inPlace := ["math.Float64frombits", "math.Float64bits"], unfollowed := true, recurses := true, named := ["unicode/utf8.first", "unicode/utf8.acceptRanges"], apart := false, laid := [("unicode/utf8.acceptRanges", laid_unicode_utf8_acceptRanges), ("unicode/utf8.first", laid_unicode_utf8_first)], narrowed := true }
def TransformDoesUptoSaid : Prop := transformDoesUptoRow.holds Tryz.pinned (OpenSpec.upto transformDoesSpec)

/-- 'rubriclaw22.TransformMerges', WHERE WHAT IT READS IS OF BULK AT MOST 1048576: true; the input reads as it did. -/
def transformMergesUptoRow : OpenClaim := { program := "ytfnkjcodcoehcaagreatdoor", sum := "414f37d9053cca999deeaefdf1d8bc693a88e3f393112afd5f4d7c03cdd47ff9", func := "rubric/rubriclaw22.TransformMerges", spec := "transformMerges", inPlace := ["math.Float64frombits", "math.Float64bits"], unfollowed := true, recurses := true, named := ["unicode/utf8.first", "unicode/utf8.acceptRanges"], apart := false, laid := [("unicode/utf8.acceptRanges", laid_unicode_utf8_acceptRanges), ("unicode/utf8.first", laid_unicode_utf8_first)], narrowed := true }
def TransformMergesUptoSaid : Prop := transformMergesUptoRow.holds Tryz.pinned (OpenSpec.upto transformMergesSpec)

/-- 'rubriclaw24.BuilderFormats', WHERE WHAT IT READS IS OF BULK AT MOST 1048576: true; the input reads as it did. -/
def builderFormatsUptoRow : OpenClaim := { program := "ytfnkjcodcoehcaagreatdoor", sum := "414f37d9053cca999deeaefdf1d8bc693a88e3f393112afd5f4d7c03cdd47ff9", func := "rubric/rubriclaw24.BuilderFormats", spec := "builderFormats", inPlace := ["math.Float64frombits", "math.Float64bits", "slices.overlaps[rubric/api.Change]"], unfollowed := true, recurses := true, named := ["unicode/utf8.first", "unicode/utf8.acceptRanges"], apart := false, laid := [("unicode/utf8.acceptRanges", laid_unicode_utf8_acceptRanges), ("unicode/utf8.first", laid_unicode_utf8_first)], narrowed := true }
def BuilderFormatsUptoSaid : Prop := builderFormatsUptoRow.holds Tryz.pinned (OpenSpec.upto builderFormatsSpec)

/-- 'rubriclaw24.BuilderSteps', WHERE WHAT IT READS IS OF BULK AT MOST 1048576: true; the input reads as it did. -/
def builderStepsUptoRow : OpenClaim := { program := "ytfnkjcodcoehcaagreatdoor", sum := "414f37d9053cca999deeaefdf1d8bc693a88e3f393112afd5f4d7c03cdd47ff9", func := "rubric/rubriclaw24.BuilderSteps", spec := "builderSteps", inPlace := ["math.Float64frombits", "math.Float64bits", "slices.overlaps[rubric/api.Change]"], unfollowed := true, recurses := true, named := ["unicode/utf8.first", "unicode/utf8.acceptRanges"], apart := false, laid := [("unicode/utf8.acceptRanges", laid_unicode_utf8_acceptRanges), ("unicode/utf8.first", laid_unicode_utf8_first)], narrowed := true }
def BuilderStepsUptoSaid : Prop := builderStepsUptoRow.holds Tryz.pinned (OpenSpec.upto builderStepsSpec)

end Rows
end Go.Proofs.YtfnkjcodcoehcaaGreatDoor
