/- Facts on the whole program's text that the closing text of TopCodes asks, each by itself. -/
import Derived.Test.YtnmedachaeanbaaGreatDoorRows
import Derived.Test.YtnmedachaeanbaaGreatDoorChecked
import Derived.KernelRfl
import Derived.JoinedCond
import GoSem.ClaimGoes
namespace Go.Proofs.YtnmedachaeanbaaGreatDoor.topCodesUptoCard
set_option linter.unusedVariables false

theorem lifts8 : Tryz.pinned.checked.prog.liftsFinal = false := by kernel_rfl
theorem makes8 : Tryz.pinned.checked.prog.make = some Rows.topCodesUptoRow.make := by kernel_rfl
theorem enters8 : Tryz.pinned.checked.prog.mayEnter = true := by kernel_rfl
theorem inPlace8 : Tryz.pinned.checked.prog.inPlace 5 = Rows.topCodesUptoRow.inPlace := by kernel_rfl
theorem unfol8 : Tryz.pinned.checked.prog.unfollowed 5 = Rows.topCodesUptoRow.unfollowed := by kernel_rfl
theorem recur8 : Tryz.pinned.checked.prog.recurses 5 = Rows.topCodesUptoRow.recurses := by kernel_rfl
theorem named8 : Tryz.pinned.checked.prog.varsNamed 5 = Rows.topCodesUptoRow.named := by kernel_rfl
theorem stops8 : Tryz.pinned.checked.prog.stops = [] := by kernel_rfl
theorem knobs8 : Tryz.pinned.checked.prog.stopKnobs = [] := by kernel_rfl
theorem heard8 : Tryz.pinned.checked.prog.stopsHeard = true := by kernel_rfl
theorem laid8 : laidOutB Tryz.pinned.checked.prog = true := by kernel_rfl
theorem maps8 : mapsRowed Tryz.pinned.checked.prog = true := by kernel_rfl
theorem keys8 : Tryz.pinned.checked.prog.plainKeys = Rows.topCodesUptoRow.plainKeys := by kernel_rfl
theorem closed8 : joinedFacts Tryz.pinned.checked.prog 5 Tryz.f5 (Rows.OpenSpec.upto Rows.topCodesSpec).bare Rows.topCodesUptoRow = true := by
  unfold joinedFacts
  rw [lifts8, enters8, makes8, inPlace8, unfol8, recur8, named8, stops8, knobs8, heard8, laid8, maps8, keys8]
  as_aux_lemma => kernel_rfl
theorem func8 : Tryz.pinned.checked.prog.funcNamed "rubric/rubrictop.TopCodes" = some 5 := by kernel_rfl
theorem gofuncs8 : Tryz.pinned.checked.prog.funcs.any Func.goes = false := by kernel_rfl
theorem goes_none {P : Program} {f : FuncId} (h : P.funcs.any Func.goes = false) : P.goes f = false := by
  unfold Program.goes
  rw [h, Bool.and_false, Bool.or_false, List.any_eq_false]
  intro g _
  cases hg : P.funcs[g]? with
  | none => simp
  | some fn =>
    have := Array.any_eq_false.1 h
    simp only [Option.any_some]
    obtain ⟨hlt, e⟩ := Array.getElem?_eq_some_iff.1 hg
    have := this g hlt
    rw [e] at this
    exact this
theorem goes8 : false = Rows.topCodesUptoRow.goesBy Tryz.pinned.checked.prog := by
  have e : Rows.topCodesUptoRow.goesBy Tryz.pinned.checked.prog = ((Tryz.pinned.checked.prog.funcNamed "rubric/rubrictop.TopCodes").any Tryz.pinned.checked.prog.goes || false) := rfl
  rw [e, func8, Option.any_some, goes_none gofuncs8]
  rfl
end Go.Proofs.YtnmedachaeanbaaGreatDoor.topCodesUptoCard
