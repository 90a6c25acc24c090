/- RulesSteps is true of every input: a step leads to a number from 0 to 8; a step by 0 behind it leaves the set as it is. Conditions: none. -/
import Derived.Test.YtnhmbocgopjbjaaRulesSteps
import Derived.Test.YtnhmbocgopjbjaaOpenKy
import Derived.Test.YtnhmbocgopjbjaaClose
namespace Go.Proofs.Ytnhmbocgopjbjaa.rulesStepsPlain
open Go.ChangeShapes Go.WideShapes Go.ChangeAt Go.RowKit Go.Deep
set_option linter.unusedVariables false
set_option maxRecDepth 20000

theorem contract (H : Type) (enc : TypeId × Value → H) (W : World) (base : Nat) (args : Array Value) (ds gs : List (DataW H)) (before : List MemPlace)
    (hval : ∀ (j : Nat) t v, Try.f3.params[j]? = some t → args[j]? = some v → Value.okWide Try.prog W .any base t v)
    (hW : DataW.Whole enc Try.prog Try.f3.params.toList Rows.rulesStepsSpec.vars false W args.toList ds gs before) :
    Calls Try.prog 3 args W fun e W' => ∃ v, e = .returned v ∧ Rows.rulesStepsSpec.post enc Try.prog Try.f3 false true false false W args v W' := by
  have hW' := hW
  obtain ⟨p, q, hA0, hV, rfl, hfz, hnd⟩ := hW
  have hA : DataW.TrodAll enc Try.prog W 0 (fun _ => true) true Try.f3.params.toList args.toList ds p := hA0
  rw [Try.params3] at hA hval
  obtain ⟨v0, v1, v2, v3, d0, d1, d2, d3, p0, p1, p2, p3, rfl, rfl, rfl, h0, h1, h2, h3⟩ := trodAll_four hA
  obtain ⟨rfl, rfl⟩ := trodVars_none hV
  obtain ⟨A0, n0, c0, l0, rfl, e0, k0, m0, r0, b0⟩ := open_list Try.slKy Try.clKy Ky.enc_len (by omega) read_ky (hval 0 22 v0 rfl rfl) h0
  obtain ⟨A1, n1, c1, l1, rfl, e1, k1, m1, r1, b1⟩ := open_list Try.slAt Try.clAt At.enc_len (by omega) read_at (hval 1 23 v1 rfl rfl) h1
  obtain ⟨z2, rfl, -, -, -⟩ := open_int Try.undInt (hval 2 3 v2 rfl rfl) h2
  obtain ⟨z3, rfl, -, -, -⟩ := open_int Try.undInt (hval 3 3 v3 rfl rfl) h3
  refine (rulesSteps_any A0 A1 n0 n1 c0 c1 l0 l1 z2 z3 W e0 e1 r0 r1 (Nat.le_trans (Nat.le_trans k0 m0) (by unfold maxLen; omega)) (Nat.le_trans (Nat.le_trans k1 m1) (by unfold maxLen; omega)) k1 m1).mono fun e W' ⟨he, hg⟩ => ?_
  subst he
  exact ⟨_, rfl, post_law hW' rfl (by kernel_rfl) Try.undBool rfl Try.laidOut (by kernel_rfl) hg⟩

set_option maxRecDepth 100000 in
theorem lifted (os : Os) (started : os.Started) (H : Type) (enc : TypeId × Value → H) :
    ReturnsInHanded {} Try.checked os 3 .any (Rows.rulesStepsSpec.pre6 enc Try.prog Try.f3 Rows.rulesStepsRow.domain false) (Rows.rulesStepsSpec.post enc Try.prog Try.f3 false true false false) := by
  refine returnsInHanded_of_change (C := Try.checked) Try.own started (by kernel_rfl) Try.func3
    (ChangeSpec.witness6 (enc := enc) (C := Try.checked) false ⟨#[], #[.slice none 0 0, .slice none 0 0, .int .i64 0, .int .i64 0], []⟩ 8 (by kernel_rfl) (by kernel_rfl) (by kernel_rfl) (by kernel_rfl)) ?_
  intro W base args ds gs before hval hW _ _
  exact contract H enc W base args ds gs before hval hW

theorem over : Rows.rulesStepsRow.holds Try.pinned (OpenSpec.ofChange Rows.rulesStepsSpec) :=
  OpenClaim.holds_of_wide 3 Try.f3 rfl rfl rfl rfl rfl rfl rfl ⟨rfl, rfl, rfl, rfl, rfl⟩ rfl rfl rfl rfl rfl (by kernel_rfl) Try.func3 (by kernel_rfl)
    (of_decide_eq_true (by kernel_rfl)) (by unfold Func.isWrapper; first | (rw [if_pos (by decide +kernel)]; kernel_rfl) | (rw [if_neg (by decide +kernel)]; exact ⟨rfl, rfl⟩))
    (fun os started H enc _ => lifted os started H enc)

theorem holds : Rows.RulesStepsSaid := over
end Go.Proofs.Ytnhmbocgopjbjaa.rulesStepsPlain
