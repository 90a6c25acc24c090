/-
  NARROWER THAN 'FOR EVERY INPUT', by the rows' own cells (each row's printed sentence says how): InvertForms: laid · InvertBack: laid · InvertBoth: laid · ComposeLong: laid · ComposeBrackets: laid · ComposeIs: laid · ComposeEmpty: laid · ComposeNothing: laid · ComposeFirst: laid · ComposeDoes: laid · ApplyDoes: laid · DiffDoes: laid.
  DERIVED. THE GIVEN ROWS OF THIS SEAT. 12 by the template 'for every input the law returns true; each argument reads behind the call as it read before'; 0 by the template 'total and deterministic' (their statements: YtnppoifgfehpfaaGreatDoorTotals.lean).
  GIVEN WITH THE SEED: the statements are not yours to turn. If you find one false, say at which input.
  Laid BY PROGRAM, IN A SANDBOX (cutbox-rows.mjs): the forced cells as the released guide's own fill.sh prints them over the translation 0c239a156dcf7e73… (all of the seat's roots in one cut). By AI agents, Wed Nov 11 2026. No macro, syntax, notation, axiom, sorry.
-/
import Derived.Test.YtnppoifgfehpfaaGreatDoorChecked
import GoSem.PinnedTables
import GoSem.Claim
import GoSem.ClaimJoined
import GoSem.ClaimMapViews
import Derived.JoinedTies
import Derived.KernelRfl
namespace Go.Proofs.YtnppoifgfehpfaaGreatDoor
/- THE CELL 'sum', in the pinned program and in every row, IS THE sha256 OF THE DUMP (.gsa) THAT YtnppoifgfehpfaaGreatDoorProg.lean LOADS. Nothing in Lean hashes anything: it is a label: what it is worth is what the hold of that sum in a sandbox is worth. -/
noncomputable def Tryz.pinned : Pinned := { name := "ytnppoifgfehpfaagreatdoor", sum := "0c239a156dcf7e73db3e267fa08a7a6700f44600df532ea537874bd933f0372a", checked := Tryz.checked }
namespace Rows
def none {H : Type} : Left H := { results := [], args := [] }

/- WHAT THE LISTED PACKAGE-LEVEL VARIABLES READ AS WHEN THE CALL BEGINS. Each datum BY PROGRAM (the guide's laid-datum.mjs) off the statement by which the dump's own 'gosem.cut.vars' lays the variable. In a bare row this is a premise. The card (YtnppoifgfehpfaaGreatDoorCards.lean) ties it to the program's text. -/
def laid_unicode_utf8_acceptRanges {H : Type} : DataW H := .agg [.agg [.lit (.int .u8 128), .lit (.int .u8 191)], .agg [.lit (.int .u8 160), .lit (.int .u8 191)], .agg [.lit (.int .u8 128), .lit (.int .u8 159)], .agg [.lit (.int .u8 144), .lit (.int .u8 191)], .agg [.lit (.int .u8 128), .lit (.int .u8 143)], .agg [.lit (.int .u8 0), .lit (.int .u8 0)], .agg [.lit (.int .u8 0), .lit (.int .u8 0)], .agg [.lit (.int .u8 0), .lit (.int .u8 0)], .agg [.lit (.int .u8 0), .lit (.int .u8 0)], .agg [.lit (.int .u8 0), .lit (.int .u8 0)], .agg [.lit (.int .u8 0), .lit (.int .u8 0)], .agg [.lit (.int .u8 0), .lit (.int .u8 0)], .agg [.lit (.int .u8 0), .lit (.int .u8 0)], .agg [.lit (.int .u8 0), .lit (.int .u8 0)], .agg [.lit (.int .u8 0), .lit (.int .u8 0)], .agg [.lit (.int .u8 0), .lit (.int .u8 0)]]
/-- One of Go's own tables, pinned by name: the form's constant. -/
def laid_unicode_utf8_first : DataW Unit := Go.Pinned.utf8First

/-- 'rubriclaw21.InvertForms': WHATEVER THE INPUT: true; the input reads as it did. -/
def invertFormsSpec : ChangeSpec := { name := "invertForms", fn := fun _ => fun
  | [d1, d2, d3] => { results := [.lit (.bool true)], args := [d1, d2, d3] }
  | _ => none }
def invertFormsRow : OpenClaim := { program := "ytnppoifgfehpfaagreatdoor", sum := "0c239a156dcf7e73db3e267fa08a7a6700f44600df532ea537874bd933f0372a", func := "rubric/rubriclaw21.InvertForms", spec := "invertForms", inPlace := ["math.Float64frombits", "math.Float64bits"], unfollowed := true, recurses := true, named := ["unicode/utf8.first", "unicode/utf8.acceptRanges"], apart := false, laid := [("unicode/utf8.acceptRanges", laid_unicode_utf8_acceptRanges), ("unicode/utf8.first", laid_unicode_utf8_first)] }
def InvertFormsSaid : Prop := invertFormsRow.holds Tryz.pinned (OpenSpec.ofChange invertFormsSpec)

/-- ITS FALSE NEIGHBOUR: 'it returns false'. Refute it at one input. -/
def invertFormsWrong : ChangeSpec := { name := "invertForms", fn := fun _ => fun
  | [d1, d2, d3] => { results := [.lit (.bool false)], args := [d1, d2, d3] }
  | _ => none }
def InvertFormsWrongFalsely : Prop := invertFormsRow.holds Tryz.pinned (OpenSpec.ofChange invertFormsWrong)

/-- 'rubriclaw21.InvertBack': WHATEVER THE INPUT: true; the input reads as it did. -/
def invertBackSpec : ChangeSpec := { name := "invertBack", fn := fun _ => fun
  | [d1, d2, d3, d4] => { results := [.lit (.bool true)], args := [d1, d2, d3, d4] }
  | _ => none }
def invertBackRow : OpenClaim := { program := "ytnppoifgfehpfaagreatdoor", sum := "0c239a156dcf7e73db3e267fa08a7a6700f44600df532ea537874bd933f0372a", func := "rubric/rubriclaw21.InvertBack", spec := "invertBack", inPlace := ["math.Float64frombits", "math.Float64bits"], unfollowed := true, recurses := true, named := ["unicode/utf8.first", "unicode/utf8.acceptRanges"], apart := false, laid := [("unicode/utf8.acceptRanges", laid_unicode_utf8_acceptRanges), ("unicode/utf8.first", laid_unicode_utf8_first)] }
def InvertBackSaid : Prop := invertBackRow.holds Tryz.pinned (OpenSpec.ofChange invertBackSpec)

/-- ITS FALSE NEIGHBOUR: 'it returns false'. Refute it at one input. -/
def invertBackWrong : ChangeSpec := { name := "invertBack", fn := fun _ => fun
  | [d1, d2, d3, d4] => { results := [.lit (.bool false)], args := [d1, d2, d3, d4] }
  | _ => none }
def InvertBackWrongFalsely : Prop := invertBackRow.holds Tryz.pinned (OpenSpec.ofChange invertBackWrong)

/-- 'rubriclaw21.InvertBoth': WHATEVER THE INPUT: true; the input reads as it did. -/
def invertBothSpec : ChangeSpec := { name := "invertBoth", fn := fun _ => fun
  | [d1, d2, d3, d4] => { results := [.lit (.bool true)], args := [d1, d2, d3, d4] }
  | _ => none }
def invertBothRow : OpenClaim := { program := "ytnppoifgfehpfaagreatdoor", sum := "0c239a156dcf7e73db3e267fa08a7a6700f44600df532ea537874bd933f0372a", func := "rubric/rubriclaw21.InvertBoth", spec := "invertBoth", inPlace := ["math.Float64frombits", "math.Float64bits"], unfollowed := true, recurses := true, named := ["unicode/utf8.first", "unicode/utf8.acceptRanges"], apart := false, laid := [("unicode/utf8.acceptRanges", laid_unicode_utf8_acceptRanges), ("unicode/utf8.first", laid_unicode_utf8_first)] }
def InvertBothSaid : Prop := invertBothRow.holds Tryz.pinned (OpenSpec.ofChange invertBothSpec)

/-- ITS FALSE NEIGHBOUR: 'it returns false'. Refute it at one input. -/
def invertBothWrong : ChangeSpec := { name := "invertBoth", fn := fun _ => fun
  | [d1, d2, d3, d4] => { results := [.lit (.bool false)], args := [d1, d2, d3, d4] }
  | _ => none }
def InvertBothWrongFalsely : Prop := invertBothRow.holds Tryz.pinned (OpenSpec.ofChange invertBothWrong)

/-- 'rubriclaw20.ComposeLong': WHATEVER THE INPUT: true; the input reads as it did. -/
def composeLongSpec : ChangeSpec := { name := "composeLong", fn := fun _ => fun
  | [d1, d2, d3, d4] => { results := [.lit (.bool true)], args := [d1, d2, d3, d4] }
  | _ => none }
def composeLongRow : OpenClaim := { program := "ytnppoifgfehpfaagreatdoor", sum := "0c239a156dcf7e73db3e267fa08a7a6700f44600df532ea537874bd933f0372a", func := "rubric/rubriclaw20.ComposeLong", spec := "composeLong", inPlace := ["math.Float64frombits", "math.Float64bits"], unfollowed := true, recurses := true, named := ["unicode/utf8.first", "unicode/utf8.acceptRanges"], apart := false, laid := [("unicode/utf8.acceptRanges", laid_unicode_utf8_acceptRanges), ("unicode/utf8.first", laid_unicode_utf8_first)] }
def ComposeLongSaid : Prop := composeLongRow.holds Tryz.pinned (OpenSpec.ofChange composeLongSpec)

/-- ITS FALSE NEIGHBOUR: 'it returns false'. Refute it at one input. -/
def composeLongWrong : ChangeSpec := { name := "composeLong", fn := fun _ => fun
  | [d1, d2, d3, d4] => { results := [.lit (.bool false)], args := [d1, d2, d3, d4] }
  | _ => none }
def ComposeLongWrongFalsely : Prop := composeLongRow.holds Tryz.pinned (OpenSpec.ofChange composeLongWrong)

/-- 'rubriclaw20.ComposeBrackets': WHATEVER THE INPUT: true; the input reads as it did. -/
def composeBracketsSpec : ChangeSpec := { name := "composeBrackets", fn := fun _ => fun
  | [d1, d2, d3, d4, d5] => { results := [.lit (.bool true)], args := [d1, d2, d3, d4, d5] }
  | _ => none }
def composeBracketsRow : OpenClaim := { program := "ytnppoifgfehpfaagreatdoor", sum := "0c239a156dcf7e73db3e267fa08a7a6700f44600df532ea537874bd933f0372a", func := "rubric/rubriclaw20.ComposeBrackets", spec := "composeBrackets", inPlace := ["math.Float64frombits", "math.Float64bits"], unfollowed := true, recurses := true, named := ["unicode/utf8.first", "unicode/utf8.acceptRanges"], apart := false, laid := [("unicode/utf8.acceptRanges", laid_unicode_utf8_acceptRanges), ("unicode/utf8.first", laid_unicode_utf8_first)] }
def ComposeBracketsSaid : Prop := composeBracketsRow.holds Tryz.pinned (OpenSpec.ofChange composeBracketsSpec)

/-- ITS FALSE NEIGHBOUR: 'it returns false'. Refute it at one input. -/
def composeBracketsWrong : ChangeSpec := { name := "composeBrackets", fn := fun _ => fun
  | [d1, d2, d3, d4, d5] => { results := [.lit (.bool false)], args := [d1, d2, d3, d4, d5] }
  | _ => none }
def ComposeBracketsWrongFalsely : Prop := composeBracketsRow.holds Tryz.pinned (OpenSpec.ofChange composeBracketsWrong)

/-- 'rubriclaw20.ComposeIs': WHATEVER THE INPUT: true; the input reads as it did. -/
def composeIsSpec : ChangeSpec := { name := "composeIs", fn := fun _ => fun
  | [d1, d2, d3, d4, d5] => { results := [.lit (.bool true)], args := [d1, d2, d3, d4, d5] }
  | _ => none }
def composeIsRow : OpenClaim := { program := "ytnppoifgfehpfaagreatdoor", sum := "0c239a156dcf7e73db3e267fa08a7a6700f44600df532ea537874bd933f0372a", func := "rubric/rubriclaw20.ComposeIs", spec := "composeIs", inPlace := ["math.Float64frombits", "math.Float64bits"], unfollowed := true, recurses := true, named := ["unicode/utf8.first", "unicode/utf8.acceptRanges"], apart := false, laid := [("unicode/utf8.acceptRanges", laid_unicode_utf8_acceptRanges), ("unicode/utf8.first", laid_unicode_utf8_first)] }
def ComposeIsSaid : Prop := composeIsRow.holds Tryz.pinned (OpenSpec.ofChange composeIsSpec)

/-- ITS FALSE NEIGHBOUR: 'it returns false'. Refute it at one input. -/
def composeIsWrong : ChangeSpec := { name := "composeIs", fn := fun _ => fun
  | [d1, d2, d3, d4, d5] => { results := [.lit (.bool false)], args := [d1, d2, d3, d4, d5] }
  | _ => none }
def ComposeIsWrongFalsely : Prop := composeIsRow.holds Tryz.pinned (OpenSpec.ofChange composeIsWrong)

/-- 'rubriclaw20.ComposeEmpty': WHATEVER THE INPUT: true; the input reads as it did. -/
def composeEmptySpec : ChangeSpec := { name := "composeEmpty", fn := fun _ => fun
  | [d1, d2] => { results := [.lit (.bool true)], args := [d1, d2] }
  | _ => none }
def composeEmptyRow : OpenClaim := { program := "ytnppoifgfehpfaagreatdoor", sum := "0c239a156dcf7e73db3e267fa08a7a6700f44600df532ea537874bd933f0372a", func := "rubric/rubriclaw20.ComposeEmpty", spec := "composeEmpty", inPlace := ["math.Float64frombits", "math.Float64bits"], unfollowed := true, recurses := true, named := ["unicode/utf8.first", "unicode/utf8.acceptRanges"], apart := false, laid := [("unicode/utf8.acceptRanges", laid_unicode_utf8_acceptRanges), ("unicode/utf8.first", laid_unicode_utf8_first)] }
def ComposeEmptySaid : Prop := composeEmptyRow.holds Tryz.pinned (OpenSpec.ofChange composeEmptySpec)

/-- ITS FALSE NEIGHBOUR: 'it returns false'. Refute it at one input. -/
def composeEmptyWrong : ChangeSpec := { name := "composeEmpty", fn := fun _ => fun
  | [d1, d2] => { results := [.lit (.bool false)], args := [d1, d2] }
  | _ => none }
def ComposeEmptyWrongFalsely : Prop := composeEmptyRow.holds Tryz.pinned (OpenSpec.ofChange composeEmptyWrong)

/-- 'rubriclaw20.ComposeNothing': WHATEVER THE INPUT: true; the input reads as it did. -/
def composeNothingSpec : ChangeSpec := { name := "composeNothing", fn := fun _ => fun
  | [d1, d2, d3, d4, d5] => { results := [.lit (.bool true)], args := [d1, d2, d3, d4, d5] }
  | _ => none }
def composeNothingRow : OpenClaim := { program := "ytnppoifgfehpfaagreatdoor", sum := "0c239a156dcf7e73db3e267fa08a7a6700f44600df532ea537874bd933f0372a", func := "rubric/rubriclaw20.ComposeNothing", spec := "composeNothing", inPlace := ["math.Float64frombits", "math.Float64bits"], unfollowed := true, recurses := true, named := ["unicode/utf8.first", "unicode/utf8.acceptRanges"], apart := false, laid := [("unicode/utf8.acceptRanges", laid_unicode_utf8_acceptRanges), ("unicode/utf8.first", laid_unicode_utf8_first)] }
def ComposeNothingSaid : Prop := composeNothingRow.holds Tryz.pinned (OpenSpec.ofChange composeNothingSpec)

/-- ITS FALSE NEIGHBOUR: 'it returns false'. Refute it at one input. -/
def composeNothingWrong : ChangeSpec := { name := "composeNothing", fn := fun _ => fun
  | [d1, d2, d3, d4, d5] => { results := [.lit (.bool false)], args := [d1, d2, d3, d4, d5] }
  | _ => none }
def ComposeNothingWrongFalsely : Prop := composeNothingRow.holds Tryz.pinned (OpenSpec.ofChange composeNothingWrong)

/-- 'rubriclaw20.ComposeFirst': WHATEVER THE INPUT: true; the input reads as it did. -/
def composeFirstSpec : ChangeSpec := { name := "composeFirst", fn := fun _ => fun
  | [d1, d2] => { results := [.lit (.bool true)], args := [d1, d2] }
  | _ => none }
def composeFirstRow : OpenClaim := { program := "ytnppoifgfehpfaagreatdoor", sum := "0c239a156dcf7e73db3e267fa08a7a6700f44600df532ea537874bd933f0372a", func := "rubric/rubriclaw20.ComposeFirst", spec := "composeFirst", inPlace := ["math.Float64frombits", "math.Float64bits"], unfollowed := true, recurses := true, named := ["unicode/utf8.first", "unicode/utf8.acceptRanges"], apart := false, laid := [("unicode/utf8.acceptRanges", laid_unicode_utf8_acceptRanges), ("unicode/utf8.first", laid_unicode_utf8_first)] }
def ComposeFirstSaid : Prop := composeFirstRow.holds Tryz.pinned (OpenSpec.ofChange composeFirstSpec)

/-- ITS FALSE NEIGHBOUR: 'it returns false'. Refute it at one input. -/
def composeFirstWrong : ChangeSpec := { name := "composeFirst", fn := fun _ => fun
  | [d1, d2] => { results := [.lit (.bool false)], args := [d1, d2] }
  | _ => none }
def ComposeFirstWrongFalsely : Prop := composeFirstRow.holds Tryz.pinned (OpenSpec.ofChange composeFirstWrong)

/-- 'rubriclaw20.ComposeDoes': WHATEVER THE INPUT: true; the input reads as it did. -/
def composeDoesSpec : ChangeSpec := { name := "composeDoes", fn := fun _ => fun
  | [d1, d2, d3] => { results := [.lit (.bool true)], args := [d1, d2, d3] }
  | _ => none }
def composeDoesRow : OpenClaim := { program := "ytnppoifgfehpfaagreatdoor", sum := "0c239a156dcf7e73db3e267fa08a7a6700f44600df532ea537874bd933f0372a", func := "rubric/rubriclaw20.ComposeDoes", spec := "composeDoes", inPlace := ["math.Float64frombits", "math.Float64bits"], unfollowed := true, recurses := true, named := ["unicode/utf8.first", "unicode/utf8.acceptRanges"], apart := false, laid := [("unicode/utf8.acceptRanges", laid_unicode_utf8_acceptRanges), ("unicode/utf8.first", laid_unicode_utf8_first)] }
def ComposeDoesSaid : Prop := composeDoesRow.holds Tryz.pinned (OpenSpec.ofChange composeDoesSpec)

/-- ITS FALSE NEIGHBOUR: 'it returns false'. Refute it at one input. -/
def composeDoesWrong : ChangeSpec := { name := "composeDoes", fn := fun _ => fun
  | [d1, d2, d3] => { results := [.lit (.bool false)], args := [d1, d2, d3] }
  | _ => none }
def ComposeDoesWrongFalsely : Prop := composeDoesRow.holds Tryz.pinned (OpenSpec.ofChange composeDoesWrong)

/-- 'rubriclaw19.ApplyDoes': WHATEVER THE INPUT: true; the input reads as it did. -/
def applyDoesSpec : ChangeSpec := { name := "applyDoes", fn := fun _ => fun
  | [d1, d2, d3, d4, d5] => { results := [.lit (.bool true)], args := [d1, d2, d3, d4, d5] }
  | _ => none }
def applyDoesRow : OpenClaim := { program := "ytnppoifgfehpfaagreatdoor", sum := "0c239a156dcf7e73db3e267fa08a7a6700f44600df532ea537874bd933f0372a", func := "rubric/rubriclaw19.ApplyDoes", spec := "applyDoes", inPlace := ["math.Float64frombits", "math.Float64bits"], unfollowed := true, recurses := true, named := ["unicode/utf8.first", "unicode/utf8.acceptRanges"], apart := false, laid := [("unicode/utf8.acceptRanges", laid_unicode_utf8_acceptRanges), ("unicode/utf8.first", laid_unicode_utf8_first)] }
def ApplyDoesSaid : Prop := applyDoesRow.holds Tryz.pinned (OpenSpec.ofChange applyDoesSpec)

/-- ITS FALSE NEIGHBOUR: 'it returns false'. Refute it at one input. -/
def applyDoesWrong : ChangeSpec := { name := "applyDoes", fn := fun _ => fun
  | [d1, d2, d3, d4, d5] => { results := [.lit (.bool false)], args := [d1, d2, d3, d4, d5] }
  | _ => none }
def ApplyDoesWrongFalsely : Prop := applyDoesRow.holds Tryz.pinned (OpenSpec.ofChange applyDoesWrong)

/-- 'rubriclaw23.DiffDoes': WHATEVER THE INPUT: true; the input reads as it did. -/
def diffDoesSpec : ChangeSpec := { name := "diffDoes", fn := fun _ => fun
  | [d1, d2, d3] => { results := [.lit (.bool true)], args := [d1, d2, d3] }
  | _ => none }
def diffDoesRow : OpenClaim := { program := "ytnppoifgfehpfaagreatdoor", sum := "0c239a156dcf7e73db3e267fa08a7a6700f44600df532ea537874bd933f0372a", func := "rubric/rubriclaw23.DiffDoes", spec := "diffDoes", inPlace := ["math.Float64frombits", "math.Float64bits"], unfollowed := true, recurses := true, named := ["unicode/utf8.first", "unicode/utf8.acceptRanges"], apart := false, laid := [("unicode/utf8.acceptRanges", laid_unicode_utf8_acceptRanges), ("unicode/utf8.first", laid_unicode_utf8_first)] }
def DiffDoesSaid : Prop := diffDoesRow.holds Tryz.pinned (OpenSpec.ofChange diffDoesSpec)

/-- ITS FALSE NEIGHBOUR: 'it returns false'. Refute it at one input. -/
def diffDoesWrong : ChangeSpec := { name := "diffDoes", fn := fun _ => fun
  | [d1, d2, d3] => { results := [.lit (.bool false)], args := [d1, d2, d3] }
  | _ => none }
def DiffDoesWrongFalsely : Prop := diffDoesRow.holds Tryz.pinned (OpenSpec.ofChange diffDoesWrong)

/- THE SECOND FORM. 'bulk': how many values and letters a reading holds, each counted each time it is reached (what is shared counts as often as it is met; a slice's spare places count too). A statement '..UptoSaid' is the law's where the arguments, and the package variables that the reading takes, are together of bulk at most 1048576: NARROWER than '..Said'. Prove '..Said' where nothing that the law and all that it calls make is longer than what came in: it says more and counts as full. Else prove '..UptoSaid'. A law counts once. -/
mutual
def uptoBulk {H : Type} : DataW H → Nat
  | .lit (.string bytes) => bytes.length + 1
  | .lit _ => 1
  | .nil => 1
  | .ptr d => uptoBulk d + 1
  | .slice elems spare => uptoBulkAll elems + uptoBulkAll spare + 1
  | .agg parts => uptoBulkAll parts + 1
  | .iface _ d => uptoBulk d + 1
  | .map entries => uptoBulkEntries entries + 1
  | .held _ => 1
def uptoBulkAll {H : Type} : List (DataW H) → Nat
  | [] => 0
  | d :: r => uptoBulk d + uptoBulkAll r
def uptoBulkEntries {H : Type} : List (Lit × DataW H) → Nat
  | [] => 0
  | x :: r => uptoBulkEntry x + uptoBulkEntries r
def uptoBulkEntry {H : Type} : Lit × DataW H → Nat
  | (.string bytes, d) => bytes.length + uptoBulk d + 1
  | (_, d) => uptoBulk d + 1
 end
def uptoSmall : (H : Type) → List (DataW H) → Bool := fun _ ds => decide (uptoBulkAll ds ≤ 1048576)
def OpenSpec.upto (s : _root_.Go.ChangeSpec) : _root_.Go.OpenSpec := { _root_.Go.OpenSpec.ofChange s with cond := some uptoSmall }

/-- 'rubriclaw21.InvertForms', WHERE WHAT IT READS IS OF BULK AT MOST 1048576: true; the input reads as it did. -/
def invertFormsUptoRow : OpenClaim := { program := "ytnppoifgfehpfaagreatdoor", sum := "0c239a156dcf7e73db3e267fa08a7a6700f44600df532ea537874bd933f0372a", func := "rubric/rubriclaw21.InvertForms", spec := "invertForms", inPlace := ["math.Float64frombits", "math.Float64bits"], unfollowed := true, recurses := true, named := ["unicode/utf8.first", "unicode/utf8.acceptRanges"], apart := false, laid := [("unicode/utf8.acceptRanges", laid_unicode_utf8_acceptRanges), ("unicode/utf8.first", laid_unicode_utf8_first)], narrowed := true }
def InvertFormsUptoSaid : Prop := invertFormsUptoRow.holds Tryz.pinned (OpenSpec.upto invertFormsSpec)

/-- 'rubriclaw21.InvertBack', WHERE WHAT IT READS IS OF BULK AT MOST 1048576: true; the input reads as it did. -/
def invertBackUptoRow : OpenClaim := { program := "ytnppoifgfehpfaagreatdoor", sum := "0c239a156dcf7e73db3e267fa08a7a6700f44600df532ea537874bd933f0372a", func := "rubric/rubriclaw21.InvertBack", spec := "invertBack", inPlace := ["math.Float64frombits", "math.Float64bits"], unfollowed := true, recurses := true, named := ["unicode/utf8.first", "unicode/utf8.acceptRanges"], apart := false, laid := [("unicode/utf8.acceptRanges", laid_unicode_utf8_acceptRanges), ("unicode/utf8.first", laid_unicode_utf8_first)], narrowed := true }
def InvertBackUptoSaid : Prop := invertBackUptoRow.holds Tryz.pinned (OpenSpec.upto invertBackSpec)

/-- 'rubriclaw21.InvertBoth', WHERE WHAT IT READS IS OF BULK AT MOST 1048576: true; the input reads as it did. -/
def invertBothUptoRow : OpenClaim := { program := "ytnppoifgfehpfaagreatdoor", sum := "0c239a156dcf7e73db3e267fa08a7a6700f44600df532ea537874bd933f0372a", func := "rubric/rubriclaw21.InvertBoth", spec := "invertBoth", inPlace := ["math.Float64frombits", "math.Float64bits"], unfollowed := true, recurses := true, named := ["unicode/utf8.first", "unicode/utf8.acceptRanges"], apart := false, laid := [("unicode/utf8.acceptRanges", laid_unicode_utf8_acceptRanges), ("unicode/utf8.first", laid_unicode_utf8_first)], narrowed := true }
def InvertBothUptoSaid : Prop := invertBothUptoRow.holds Tryz.pinned (OpenSpec.upto invertBothSpec)

/-- 'rubriclaw20.ComposeLong', WHERE WHAT IT READS IS OF BULK AT MOST 1048576: true; the input reads as it did. -/
def composeLongUptoRow : OpenClaim := { program := "ytnppoifgfehpfaagreatdoor", sum := "0c239a156dcf7e73db3e267fa08a7a6700f44600df532ea537874bd933f0372a", func := "rubric/rubriclaw20.ComposeLong", spec := "composeLong", inPlace := ["math.Float64frombits", "math.Float64bits"], unfollowed := true, recurses := true, named := ["unicode/utf8.first", "unicode/utf8.acceptRanges"], apart := false, laid := [("unicode/utf8.acceptRanges", laid_unicode_utf8_acceptRanges), ("unicode/utf8.first", laid_unicode_utf8_first)], narrowed := true }
def ComposeLongUptoSaid : Prop := composeLongUptoRow.holds Tryz.pinned (OpenSpec.upto composeLongSpec)

/-- 'rubriclaw20.ComposeBrackets', WHERE WHAT IT READS IS OF BULK AT MOST 1048576: true; the input reads as it did. -/
def composeBracketsUptoRow : OpenClaim := { program := "ytnppoifgfehpfaagreatdoor", sum := "0c239a156dcf7e73db3e267fa08a7a6700f44600df532ea537874bd933f0372a", func := "rubric/rubriclaw20.ComposeBrackets", spec := "composeBrackets", inPlace := ["math.Float64frombits", "math.Float64bits"], unfollowed := true, recurses := true, named := ["unicode/utf8.first", "unicode/utf8.acceptRanges"], apart := false, laid := [("unicode/utf8.acceptRanges", laid_unicode_utf8_acceptRanges), ("unicode/utf8.first", laid_unicode_utf8_first)], narrowed := true }
def ComposeBracketsUptoSaid : Prop := composeBracketsUptoRow.holds Tryz.pinned (OpenSpec.upto composeBracketsSpec)

/-- 'rubriclaw20.ComposeIs', WHERE WHAT IT READS IS OF BULK AT MOST 1048576: true; the input reads as it did. -/
def composeIsUptoRow : OpenClaim := { program := "ytnppoifgfehpfaagreatdoor", sum := "0c239a156dcf7e73db3e267fa08a7a6700f44600df532ea537874bd933f0372a", func := "rubric/rubriclaw20.ComposeIs", spec := "composeIs", inPlace := ["math.Float64frombits", "math.Float64bits"], unfollowed := true, recurses := true, named := ["unicode/utf8.first", "unicode/utf8.acceptRanges"], apart := false, laid := [("unicode/utf8.acceptRanges", laid_unicode_utf8_acceptRanges), ("unicode/utf8.first", laid_unicode_utf8_first)], narrowed := true }
def ComposeIsUptoSaid : Prop := composeIsUptoRow.holds Tryz.pinned (OpenSpec.upto composeIsSpec)

/-- 'rubriclaw20.ComposeEmpty', WHERE WHAT IT READS IS OF BULK AT MOST 1048576: true; the input reads as it did. -/
def composeEmptyUptoRow : OpenClaim := { program := "ytnppoifgfehpfaagreatdoor", sum := "0c239a156dcf7e73db3e267fa08a7a6700f44600df532ea537874bd933f0372a", func := "rubric/rubriclaw20.ComposeEmpty", spec := "composeEmpty", inPlace := ["math.Float64frombits", "math.Float64bits"], unfollowed := true, recurses := true, named := ["unicode/utf8.first", "unicode/utf8.acceptRanges"], apart := false, laid := [("unicode/utf8.acceptRanges", laid_unicode_utf8_acceptRanges), ("unicode/utf8.first", laid_unicode_utf8_first)], narrowed := true }
def ComposeEmptyUptoSaid : Prop := composeEmptyUptoRow.holds Tryz.pinned (OpenSpec.upto composeEmptySpec)

/-- 'rubriclaw20.ComposeNothing', WHERE WHAT IT READS IS OF BULK AT MOST 1048576: true; the input reads as it did. -/
def composeNothingUptoRow : OpenClaim := { program := "ytnppoifgfehpfaagreatdoor", sum := "0c239a156dcf7e73db3e267fa08a7a6700f44600df532ea537874bd933f0372a", func := "rubric/rubriclaw20.ComposeNothing", spec := "composeNothing", inPlace := ["math.Float64frombits", "math.Float64bits"], unfollowed := true, recurses := true, named := ["unicode/utf8.first", "unicode/utf8.acceptRanges"], apart := false, laid := [("unicode/utf8.acceptRanges", laid_unicode_utf8_acceptRanges), ("unicode/utf8.first", laid_unicode_utf8_first)], narrowed := true }
def ComposeNothingUptoSaid : Prop := composeNothingUptoRow.holds Tryz.pinned (OpenSpec.upto composeNothingSpec)

/-- 'rubriclaw20.ComposeFirst', WHERE WHAT IT READS IS OF BULK AT MOST 1048576: true; the input reads as it did. -/
def composeFirstUptoRow : OpenClaim := { program := "ytnppoifgfehpfaagreatdoor", sum := "0c239a156dcf7e73db3e267fa08a7a6700f44600df532ea537874bd933f0372a", func := "rubric/rubriclaw20.ComposeFirst", spec := "composeFirst", inPlace := ["math.Float64frombits", "math.Float64bits"], unfollowed := true, recurses := true, named := ["unicode/utf8.first", "unicode/utf8.acceptRanges"], apart := false, laid := [("unicode/utf8.acceptRanges", laid_unicode_utf8_acceptRanges), ("unicode/utf8.first", laid_unicode_utf8_first)], narrowed := true }
def ComposeFirstUptoSaid : Prop := composeFirstUptoRow.holds Tryz.pinned (OpenSpec.upto composeFirstSpec)

/-- 'rubriclaw20.ComposeDoes', WHERE WHAT IT READS IS OF BULK AT MOST 1048576: true; the input reads as it did. -/
def composeDoesUptoRow : OpenClaim := { program := "ytnppoifgfehpfaagreatdoor", sum := "0c239a156dcf7e73db3e267fa08a7a6700f44600df532ea537874bd933f0372a", func := "rubric/rubriclaw20.ComposeDoes", spec := "composeDoes", inPlace := ["math.Float64frombits", "math.Float64bits"], unfollowed := true, recurses := true, named := ["unicode/utf8.first", "unicode/utf8.acceptRanges"], apart := false, laid := [("unicode/utf8.acceptRanges", laid_unicode_utf8_acceptRanges), ("unicode/utf8.first", laid_unicode_utf8_first)], narrowed := true }
def ComposeDoesUptoSaid : Prop := composeDoesUptoRow.holds Tryz.pinned (OpenSpec.upto composeDoesSpec)

/-- 'rubriclaw19.ApplyDoes', WHERE WHAT IT READS IS OF BULK AT MOST 1048576: true; the input reads as it did. -/
def applyDoesUptoRow : OpenClaim := { program := "ytnppoifgfehpfaagreatdoor", sum := "0c239a156dcf7e73db3e267fa08a7a6700f44600df532ea537874bd933f0372a", func := "rubric/rubriclaw19.ApplyDoes", spec := "applyDoes", inPlace := ["math.Float64frombits", "math.Float64bits"], unfollowed := true, recurses := true, named := ["unicode/utf8.first", "unicode/utf8.acceptRanges"], apart := false, laid := [("unicode/utf8.acceptRanges", laid_unicode_utf8_acceptRanges), ("unicode/utf8.first", laid_unicode_utf8_first)], narrowed := true }
def ApplyDoesUptoSaid : Prop := applyDoesUptoRow.holds Tryz.pinned (OpenSpec.upto applyDoesSpec)

/-- 'rubriclaw23.DiffDoes', WHERE WHAT IT READS IS OF BULK AT MOST 1048576: true; the input reads as it did. -/
def diffDoesUptoRow : OpenClaim := { program := "ytnppoifgfehpfaagreatdoor", sum := "0c239a156dcf7e73db3e267fa08a7a6700f44600df532ea537874bd933f0372a", func := "rubric/rubriclaw23.DiffDoes", spec := "diffDoes", inPlace := ["math.Float64frombits", "math.Float64bits"], unfollowed := true, recurses := true, named := ["unicode/utf8.first", "unicode/utf8.acceptRanges"], apart := false, laid := [("unicode/utf8.acceptRanges", laid_unicode_utf8_acceptRanges), ("unicode/utf8.first", laid_unicode_utf8_first)], narrowed := true }
def DiffDoesUptoSaid : Prop := diffDoesUptoRow.holds Tryz.pinned (OpenSpec.upto diffDoesSpec)

end Rows
end Go.Proofs.YtnppoifgfehpfaaGreatDoor
