/-
  NARROWER THAN 'FOR EVERY INPUT', by the rows' own cells (each row's printed sentence says how): FragmentStays: laid · FragmentJoin: laid · FragmentMoves: laid · DiffBoth: laid · DiffLeads: laid · ApplyOnce: laid · ApplyWhole: laid · ApplyLoads: laid.
  DERIVED. THE GIVEN ROWS OF THIS SEAT. 8 by the template 'for every input the law returns true; each argument reads behind the call as it read before'; 0 by the template 'total and deterministic' (their statements: YtipoeidmblnbbaaGreatDoorTotals.lean).
  GIVEN WITH THE SEED: the statements are not yours to turn. If you find one false, say at which input.
  Laid BY PROGRAM, IN A SANDBOX (cutbox-rows.mjs): the forced cells as the released guide's own fill.sh prints them over the translation 1eb85be450175185… (all of the seat's roots in one cut). By AI agents, Wed Nov 11 2026. No macro, syntax, notation, axiom, sorry.
-/
import Derived.Test.YtipoeidmblnbbaaGreatDoorChecked
import GoSem.PinnedTables
import GoSem.Claim
import GoSem.ClaimJoined
import GoSem.ClaimMapViews
import Derived.JoinedTies
import Derived.KernelRfl
namespace Go.Proofs.YtipoeidmblnbbaaGreatDoor
/- THE CELL 'sum', in the pinned program and in every row, IS THE sha256 OF THE DUMP (.gsa) THAT YtipoeidmblnbbaaGreatDoorProg.lean LOADS. Nothing in Lean hashes anything: it is a label: what it is worth is what the hold of that sum in a sandbox is worth. -/
noncomputable def Tryz.pinned : Pinned := { name := "ytipoeidmblnbbaagreatdoor", sum := "1eb85be4501751858ae4be50d0a89303a5fbaabc05732c713167bf77363a4cef", checked := Tryz.checked }
namespace Rows
def none {H : Type} : Left H := { results := [], args := [] }

/- WHAT THE LISTED PACKAGE-LEVEL VARIABLES READ AS WHEN THE CALL BEGINS. Each datum BY PROGRAM (the guide's laid-datum.mjs) off the statement by which the dump's own 'gosem.cut.vars' lays the variable. In a bare row this is a premise. The card (YtipoeidmblnbbaaGreatDoorCards.lean) ties it to the program's text. -/
def laid_unicode_utf8_acceptRanges {H : Type} : DataW H := .agg [.agg [.lit (.int .u8 128), .lit (.int .u8 191)], .agg [.lit (.int .u8 160), .lit (.int .u8 191)], .agg [.lit (.int .u8 128), .lit (.int .u8 159)], .agg [.lit (.int .u8 144), .lit (.int .u8 191)], .agg [.lit (.int .u8 128), .lit (.int .u8 143)], .agg [.lit (.int .u8 0), .lit (.int .u8 0)], .agg [.lit (.int .u8 0), .lit (.int .u8 0)], .agg [.lit (.int .u8 0), .lit (.int .u8 0)], .agg [.lit (.int .u8 0), .lit (.int .u8 0)], .agg [.lit (.int .u8 0), .lit (.int .u8 0)], .agg [.lit (.int .u8 0), .lit (.int .u8 0)], .agg [.lit (.int .u8 0), .lit (.int .u8 0)], .agg [.lit (.int .u8 0), .lit (.int .u8 0)], .agg [.lit (.int .u8 0), .lit (.int .u8 0)], .agg [.lit (.int .u8 0), .lit (.int .u8 0)], .agg [.lit (.int .u8 0), .lit (.int .u8 0)]]
/-- One of Go's own tables, pinned by name: the form's constant. -/
def laid_unicode_utf8_first : DataW Unit := Go.Pinned.utf8First

/-- 'rubriclaw26.FragmentStays': WHATEVER THE INPUT: true; the input reads as it did. -/
def fragmentStaysSpec : ChangeSpec := { name := "fragmentStays", fn := fun _ => fun
  | [d1, d2, d3, d4, d5, d6] => { results := [.lit (.bool true)], args := [d1, d2, d3, d4, d5, d6] }
  | _ => none }
def fragmentStaysRow : OpenClaim := { program := "ytipoeidmblnbbaagreatdoor", sum := "1eb85be4501751858ae4be50d0a89303a5fbaabc05732c713167bf77363a4cef", func := "rubric/rubriclaw26.FragmentStays", spec := "fragmentStays", inPlace := ["math.Float64frombits", "math.Float64bits"], unfollowed := true, recurses := true, named := ["unicode/utf8.first", "unicode/utf8.acceptRanges"], apart := false, laid := [("unicode/utf8.acceptRanges", laid_unicode_utf8_acceptRanges), ("unicode/utf8.first", laid_unicode_utf8_first)] }
def FragmentStaysSaid : Prop := fragmentStaysRow.holds Tryz.pinned (OpenSpec.ofChange fragmentStaysSpec)

/-- ITS FALSE NEIGHBOUR: 'it returns false'. Refute it at one input. -/
def fragmentStaysWrong : ChangeSpec := { name := "fragmentStays", fn := fun _ => fun
  | [d1, d2, d3, d4, d5, d6] => { results := [.lit (.bool false)], args := [d1, d2, d3, d4, d5, d6] }
  | _ => none }
def FragmentStaysWrongFalsely : Prop := fragmentStaysRow.holds Tryz.pinned (OpenSpec.ofChange fragmentStaysWrong)

/-- 'rubriclaw26.FragmentJoin': WHATEVER THE INPUT: true; the input reads as it did. -/
def fragmentJoinSpec : ChangeSpec := { name := "fragmentJoin", fn := fun _ => fun
  | [d1, d2, d3, d4, d5, d6] => { results := [.lit (.bool true)], args := [d1, d2, d3, d4, d5, d6] }
  | _ => none }
def fragmentJoinRow : OpenClaim := { program := "ytipoeidmblnbbaagreatdoor", sum := "1eb85be4501751858ae4be50d0a89303a5fbaabc05732c713167bf77363a4cef", func := "rubric/rubriclaw26.FragmentJoin", spec := "fragmentJoin", inPlace := ["math.Float64frombits", "math.Float64bits"], unfollowed := true, recurses := true, named := ["unicode/utf8.first", "unicode/utf8.acceptRanges"], apart := false, laid := [("unicode/utf8.acceptRanges", laid_unicode_utf8_acceptRanges), ("unicode/utf8.first", laid_unicode_utf8_first)] }
def FragmentJoinSaid : Prop := fragmentJoinRow.holds Tryz.pinned (OpenSpec.ofChange fragmentJoinSpec)

/-- ITS FALSE NEIGHBOUR: 'it returns false'. Refute it at one input. -/
def fragmentJoinWrong : ChangeSpec := { name := "fragmentJoin", fn := fun _ => fun
  | [d1, d2, d3, d4, d5, d6] => { results := [.lit (.bool false)], args := [d1, d2, d3, d4, d5, d6] }
  | _ => none }
def FragmentJoinWrongFalsely : Prop := fragmentJoinRow.holds Tryz.pinned (OpenSpec.ofChange fragmentJoinWrong)

/-- 'rubriclaw26.FragmentMoves': WHATEVER THE INPUT: true; the input reads as it did. -/
def fragmentMovesSpec : ChangeSpec := { name := "fragmentMoves", fn := fun _ => fun
  | [d1, d2, d3, d4, d5] => { results := [.lit (.bool true)], args := [d1, d2, d3, d4, d5] }
  | _ => none }
def fragmentMovesRow : OpenClaim := { program := "ytipoeidmblnbbaagreatdoor", sum := "1eb85be4501751858ae4be50d0a89303a5fbaabc05732c713167bf77363a4cef", func := "rubric/rubriclaw26.FragmentMoves", spec := "fragmentMoves", inPlace := ["math.Float64frombits", "math.Float64bits"], unfollowed := true, recurses := true, named := ["unicode/utf8.first", "unicode/utf8.acceptRanges"], apart := false, laid := [("unicode/utf8.acceptRanges", laid_unicode_utf8_acceptRanges), ("unicode/utf8.first", laid_unicode_utf8_first)] }
def FragmentMovesSaid : Prop := fragmentMovesRow.holds Tryz.pinned (OpenSpec.ofChange fragmentMovesSpec)

/-- ITS FALSE NEIGHBOUR: 'it returns false'. Refute it at one input. -/
def fragmentMovesWrong : ChangeSpec := { name := "fragmentMoves", fn := fun _ => fun
  | [d1, d2, d3, d4, d5] => { results := [.lit (.bool false)], args := [d1, d2, d3, d4, d5] }
  | _ => none }
def FragmentMovesWrongFalsely : Prop := fragmentMovesRow.holds Tryz.pinned (OpenSpec.ofChange fragmentMovesWrong)

/-- 'rubriclaw23.DiffBoth': WHATEVER THE INPUT: true; the input reads as it did. -/
def diffBothSpec : ChangeSpec := { name := "diffBoth", fn := fun _ => fun
  | [d1, d2, d3, d4] => { results := [.lit (.bool true)], args := [d1, d2, d3, d4] }
  | _ => none }
def diffBothRow : OpenClaim := { program := "ytipoeidmblnbbaagreatdoor", sum := "1eb85be4501751858ae4be50d0a89303a5fbaabc05732c713167bf77363a4cef", func := "rubric/rubriclaw23.DiffBoth", spec := "diffBoth", inPlace := ["math.Float64frombits", "math.Float64bits"], unfollowed := true, recurses := true, named := ["unicode/utf8.first", "unicode/utf8.acceptRanges"], apart := false, laid := [("unicode/utf8.acceptRanges", laid_unicode_utf8_acceptRanges), ("unicode/utf8.first", laid_unicode_utf8_first)] }
def DiffBothSaid : Prop := diffBothRow.holds Tryz.pinned (OpenSpec.ofChange diffBothSpec)

/-- ITS FALSE NEIGHBOUR: 'it returns false'. Refute it at one input. -/
def diffBothWrong : ChangeSpec := { name := "diffBoth", fn := fun _ => fun
  | [d1, d2, d3, d4] => { results := [.lit (.bool false)], args := [d1, d2, d3, d4] }
  | _ => none }
def DiffBothWrongFalsely : Prop := diffBothRow.holds Tryz.pinned (OpenSpec.ofChange diffBothWrong)

/-- 'rubriclaw23.DiffLeads': WHATEVER THE INPUT: true; the input reads as it did. -/
def diffLeadsSpec : ChangeSpec := { name := "diffLeads", fn := fun _ => fun
  | [d1, d2, d3] => { results := [.lit (.bool true)], args := [d1, d2, d3] }
  | _ => none }
def diffLeadsRow : OpenClaim := { program := "ytipoeidmblnbbaagreatdoor", sum := "1eb85be4501751858ae4be50d0a89303a5fbaabc05732c713167bf77363a4cef", func := "rubric/rubriclaw23.DiffLeads", spec := "diffLeads", inPlace := ["math.Float64frombits", "math.Float64bits"], unfollowed := true, recurses := true, named := ["unicode/utf8.first", "unicode/utf8.acceptRanges"], apart := false, laid := [("unicode/utf8.acceptRanges", laid_unicode_utf8_acceptRanges), ("unicode/utf8.first", laid_unicode_utf8_first)] }
def DiffLeadsSaid : Prop := diffLeadsRow.holds Tryz.pinned (OpenSpec.ofChange diffLeadsSpec)

/-- ITS FALSE NEIGHBOUR: 'it returns false'. Refute it at one input. -/
def diffLeadsWrong : ChangeSpec := { name := "diffLeads", fn := fun _ => fun
  | [d1, d2, d3] => { results := [.lit (.bool false)], args := [d1, d2, d3] }
  | _ => none }
def DiffLeadsWrongFalsely : Prop := diffLeadsRow.holds Tryz.pinned (OpenSpec.ofChange diffLeadsWrong)

/-- 'rubriclaw19.ApplyOnce': WHATEVER THE INPUT: true; the input reads as it did. -/
def applyOnceSpec : ChangeSpec := { name := "applyOnce", fn := fun _ => fun
  | [d1, d2, d3, d4, d5] => { results := [.lit (.bool true)], args := [d1, d2, d3, d4, d5] }
  | _ => none }
def applyOnceRow : OpenClaim := { program := "ytipoeidmblnbbaagreatdoor", sum := "1eb85be4501751858ae4be50d0a89303a5fbaabc05732c713167bf77363a4cef", func := "rubric/rubriclaw19.ApplyOnce", spec := "applyOnce", inPlace := ["math.Float64frombits", "math.Float64bits"], unfollowed := true, recurses := true, named := ["unicode/utf8.first", "unicode/utf8.acceptRanges"], apart := false, laid := [("unicode/utf8.acceptRanges", laid_unicode_utf8_acceptRanges), ("unicode/utf8.first", laid_unicode_utf8_first)] }
def ApplyOnceSaid : Prop := applyOnceRow.holds Tryz.pinned (OpenSpec.ofChange applyOnceSpec)

/-- ITS FALSE NEIGHBOUR: 'it returns false'. Refute it at one input. -/
def applyOnceWrong : ChangeSpec := { name := "applyOnce", fn := fun _ => fun
  | [d1, d2, d3, d4, d5] => { results := [.lit (.bool false)], args := [d1, d2, d3, d4, d5] }
  | _ => none }
def ApplyOnceWrongFalsely : Prop := applyOnceRow.holds Tryz.pinned (OpenSpec.ofChange applyOnceWrong)

/-- 'rubriclaw19.ApplyWhole': WHATEVER THE INPUT: true; the input reads as it did. -/
def applyWholeSpec : ChangeSpec := { name := "applyWhole", fn := fun _ => fun
  | [d1, d2, d3, d4] => { results := [.lit (.bool true)], args := [d1, d2, d3, d4] }
  | _ => none }
def applyWholeRow : OpenClaim := { program := "ytipoeidmblnbbaagreatdoor", sum := "1eb85be4501751858ae4be50d0a89303a5fbaabc05732c713167bf77363a4cef", func := "rubric/rubriclaw19.ApplyWhole", spec := "applyWhole", inPlace := ["math.Float64frombits", "math.Float64bits"], unfollowed := true, recurses := true, named := ["unicode/utf8.first", "unicode/utf8.acceptRanges"], apart := false, laid := [("unicode/utf8.acceptRanges", laid_unicode_utf8_acceptRanges), ("unicode/utf8.first", laid_unicode_utf8_first)] }
def ApplyWholeSaid : Prop := applyWholeRow.holds Tryz.pinned (OpenSpec.ofChange applyWholeSpec)

/-- ITS FALSE NEIGHBOUR: 'it returns false'. Refute it at one input. -/
def applyWholeWrong : ChangeSpec := { name := "applyWhole", fn := fun _ => fun
  | [d1, d2, d3, d4] => { results := [.lit (.bool false)], args := [d1, d2, d3, d4] }
  | _ => none }
def ApplyWholeWrongFalsely : Prop := applyWholeRow.holds Tryz.pinned (OpenSpec.ofChange applyWholeWrong)

/-- 'rubriclaw19.ApplyLoads': WHATEVER THE INPUT: true; the input reads as it did. -/
def applyLoadsSpec : ChangeSpec := { name := "applyLoads", fn := fun _ => fun
  | [d1, d2] => { results := [.lit (.bool true)], args := [d1, d2] }
  | _ => none }
def applyLoadsRow : OpenClaim := { program := "ytipoeidmblnbbaagreatdoor", sum := "1eb85be4501751858ae4be50d0a89303a5fbaabc05732c713167bf77363a4cef", func := "rubric/rubriclaw19.ApplyLoads", spec := "applyLoads", inPlace := ["math.Float64frombits", "math.Float64bits"], unfollowed := true, recurses := true, named := ["unicode/utf8.first", "unicode/utf8.acceptRanges"], apart := false, laid := [("unicode/utf8.acceptRanges", laid_unicode_utf8_acceptRanges), ("unicode/utf8.first", laid_unicode_utf8_first)] }
def ApplyLoadsSaid : Prop := applyLoadsRow.holds Tryz.pinned (OpenSpec.ofChange applyLoadsSpec)

/-- ITS FALSE NEIGHBOUR: 'it returns false'. Refute it at one input. -/
def applyLoadsWrong : ChangeSpec := { name := "applyLoads", fn := fun _ => fun
  | [d1, d2] => { results := [.lit (.bool false)], args := [d1, d2] }
  | _ => none }
def ApplyLoadsWrongFalsely : Prop := applyLoadsRow.holds Tryz.pinned (OpenSpec.ofChange applyLoadsWrong)

/- THE SECOND FORM. 'bulk': how many values and letters a reading holds, each counted each time it is reached (what is shared counts as often as it is met; a slice's spare places count too). A statement '..UptoSaid' is the law's where the arguments, and the package variables that the reading takes, are together of bulk at most 1048576: NARROWER than '..Said'. Prove '..Said' where nothing that the law and all that it calls make is longer than what came in: it says more and counts as full. Else prove '..UptoSaid'. A law counts once. -/
mutual
def uptoBulk {H : Type} : DataW H → Nat
  | .lit (.string bytes) => bytes.length + 1
  | .lit _ => 1
  | .nil => 1
  | .ptr d => uptoBulk d + 1
  | .slice elems spare => uptoBulkAll elems + uptoBulkAll spare + 1
  | .agg parts => uptoBulkAll parts + 1
  | .iface _ d => uptoBulk d + 1
  | .map entries => uptoBulkEntries entries + 1
  | .held _ => 1
def uptoBulkAll {H : Type} : List (DataW H) → Nat
  | [] => 0
  | d :: r => uptoBulk d + uptoBulkAll r
def uptoBulkEntries {H : Type} : List (Lit × DataW H) → Nat
  | [] => 0
  | x :: r => uptoBulkEntry x + uptoBulkEntries r
def uptoBulkEntry {H : Type} : Lit × DataW H → Nat
  | (.string bytes, d) => bytes.length + uptoBulk d + 1
  | (_, d) => uptoBulk d + 1
 end
def uptoSmall : (H : Type) → List (DataW H) → Bool := fun _ ds => decide (uptoBulkAll ds ≤ 1048576)
def OpenSpec.upto (s : _root_.Go.ChangeSpec) : _root_.Go.OpenSpec := { _root_.Go.OpenSpec.ofChange s with cond := some uptoSmall }

/-- 'rubriclaw26.FragmentStays', WHERE WHAT IT READS IS OF BULK AT MOST 1048576: true; the input reads as it did. -/
def fragmentStaysUptoRow : OpenClaim := { program := "ytipoeidmblnbbaagreatdoor", sum := "1eb85be4501751858ae4be50d0a89303a5fbaabc05732c713167bf77363a4cef", func := "rubric/rubriclaw26.FragmentStays", spec := "fragmentStays", inPlace := ["math.Float64frombits", "math.Float64bits"], unfollowed := true, recurses := true, named := ["unicode/utf8.first", "unicode/utf8.acceptRanges"], apart := false, laid := [("unicode/utf8.acceptRanges", laid_unicode_utf8_acceptRanges), ("unicode/utf8.first", laid_unicode_utf8_first)], narrowed := true }
def FragmentStaysUptoSaid : Prop := fragmentStaysUptoRow.holds Tryz.pinned (OpenSpec.upto fragmentStaysSpec)

/-- 'rubriclaw26.FragmentJoin', WHERE WHAT IT READS IS OF BULK AT MOST 1048576: true; the input reads as it did. -/
def fragmentJoinUptoRow : OpenClaim := { program := "ytipoeidmblnbbaagreatdoor", sum := "1eb85be4501751858ae4be50d0a89303a5fbaabc05732c713167bf77363a4cef", func := "rubric/rubriclaw26.FragmentJoin", spec := "fragmentJoin", inPlace := ["math.Float64frombits", "math.Float64bits"], unfollowed := true, recurses := true, named := ["unicode/utf8.first", "unicode/utf8.acceptRanges"], apart := false, laid := [("unicode/utf8.acceptRanges", laid_unicode_utf8_acceptRanges), ("unicode/utf8.first", laid_unicode_utf8_first)], narrowed := true }
def FragmentJoinUptoSaid : Prop := fragmentJoinUptoRow.holds Tryz.pinned (OpenSpec.upto fragmentJoinSpec)

/-- 'rubriclaw26.FragmentMoves', WHERE WHAT IT READS IS OF BULK AT MOST 1048576: true; the input reads as it did. -/
def fragmentMovesUptoRow : OpenClaim := { program := "ytipoeidmblnbbaagreatdoor", sum := "1eb85be4501751858ae4be50d0a89303a5fbaabc05732c713167bf77363a4cef", func := "rubric/rubriclaw26.FragmentMoves", spec := "fragmentMoves", inPlace := ["math.Float64frombits", "math.Float64bits"], unfollowed := true, recurses := true, named := ["unicode/utf8.first", "unicode/utf8.acceptRanges"], apart := false, laid := [("unicode/utf8.acceptRanges", laid_unicode_utf8_acceptRanges), ("unicode/utf8.first", laid_unicode_utf8_first)], narrowed := true }
def FragmentMovesUptoSaid : Prop := fragmentMovesUptoRow.holds Tryz.pinned (OpenSpec.upto fragmentMovesSpec)

/-- 'rubriclaw23.DiffBoth', WHERE WHAT IT READS IS OF BULK AT MOST 1048576: true; the input reads as it did. -/
def diffBothUptoRow : OpenClaim := { program := "ytipoeidmblnbbaagreatdoor", sum := "1eb85be4501751858ae4be50d0a89303a5fbaabc05732c713167bf77363a4cef", func := "rubric/rubriclaw23.DiffBoth", spec := "diffBoth", inPlace := ["math.Float64frombits", "math.Float64bits"], unfollowed := true, recurses := true, named := ["unicode/utf8.first", "unicode/utf8.acceptRanges"], apart := false, laid := [("unicode/utf8.acceptRanges", laid_unicode_utf8_acceptRanges), ("unicode/utf8.first", laid_unicode_utf8_first)], narrowed := true }
def DiffBothUptoSaid : Prop := diffBothUptoRow.holds Tryz.pinned (OpenSpec.upto diffBothSpec)

/-- 'rubriclaw23.DiffLeads', WHERE WHAT IT READS IS OF BULK AT MOST 1048576: true; the input reads as it did. -/
def diffLeadsUptoRow : OpenClaim := { program := "ytipoeidmblnbbaagreatdoor", sum := "1eb85be4501751858ae4be50d0a89303a5fbaabc05732c713167bf77363a4cef", func := "rubric/rubriclaw23.DiffLeads", spec := "diffLeads", inPlace := ["math.Float64frombits", "math.Float64bits"], unfollowed := true, recurses := true, named := ["unicode/utf8.first", "unicode/utf8.acceptRanges"], apart := false, laid := [("unicode/utf8.acceptRanges", laid_unicode_utf8_acceptRanges), ("unicode/utf8.first", laid_unicode_utf8_first)], narrowed := true }
def DiffLeadsUptoSaid : Prop := diffLeadsUptoRow.holds Tryz.pinned (OpenSpec.upto diffLeadsSpec)

/-- 'rubriclaw19.ApplyOnce', WHERE WHAT IT READS IS OF BULK AT MOST 1048576: true; the input reads as it did. -/
def applyOnceUptoRow : OpenClaim := { program := "ytipoeidmblnbbaagreatdoor", sum := "1eb85be4501751858ae4be50d0a89303a5fbaabc05732c713167bf77363a4cef", func := "rubric/rubriclaw19.ApplyOnce", spec := "applyOnce", inPlace := ["math.Float64frombits", "math.Float64bits"], unfollowed := true, recurses := true, named := ["unicode/utf8.first", "unicode/utf8.acceptRanges"], apart := false, laid := [("unicode/utf8.acceptRanges", laid_unicode_utf8_acceptRanges), ("unicode/utf8.first", laid_unicode_utf8_first)], narrowed := true }
def ApplyOnceUptoSaid : Prop := applyOnceUptoRow.holds Tryz.pinned (OpenSpec.upto applyOnceSpec)

/-- 'rubriclaw19.ApplyWhole', WHERE WHAT IT READS IS OF BULK AT MOST 1048576: true; the input reads as it did. -/
def applyWholeUptoRow : OpenClaim := { program := "ytipoeidmblnbbaagreatdoor", sum := "1eb85be4501751858ae4be50d0a89303a5fbaabc05732c713167bf77363a4cef", func := "rubric/rubriclaw19.ApplyWhole", spec := "applyWhole", inPlace := ["math.Float64frombits", "math.Float64bits"], unfollowed := true, recurses := true, named := ["unicode/utf8.first", "unicode/utf8.acceptRanges"], apart := false, laid := [("unicode/utf8.acceptRanges", laid_unicode_utf8_acceptRanges), ("unicode/utf8.first", laid_unicode_utf8_first)], narrowed := true }
def ApplyWholeUptoSaid : Prop := applyWholeUptoRow.holds Tryz.pinned (OpenSpec.upto applyWholeSpec)

/-- 'rubriclaw19.ApplyLoads', WHERE WHAT IT READS IS OF BULK AT MOST 1048576: true; the input reads as it did. -/
def applyLoadsUptoRow : OpenClaim := { program := "ytipoeidmblnbbaagreatdoor", sum := "1eb85be4501751858ae4be50d0a89303a5fbaabc05732c713167bf77363a4cef", func := "rubric/rubriclaw19.ApplyLoads", spec := "applyLoads", inPlace := ["math.Float64frombits", "math.Float64bits"], unfollowed := true, recurses := true, named := ["unicode/utf8.first", "unicode/utf8.acceptRanges"], apart := false, laid := [("unicode/utf8.acceptRanges", laid_unicode_utf8_acceptRanges), ("unicode/utf8.first", laid_unicode_utf8_first)], narrowed := true }
def ApplyLoadsUptoSaid : Prop := applyLoadsUptoRow.holds Tryz.pinned (OpenSpec.upto applyLoadsSpec)

end Rows
end Go.Proofs.YtipoeidmblnbbaaGreatDoor
