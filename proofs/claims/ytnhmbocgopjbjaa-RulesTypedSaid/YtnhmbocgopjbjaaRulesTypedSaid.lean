/- RulesTyped is true of every input: what is typed has inline keys with After or Before alone, each with its left's value, or its right's; between two alike ones it is of their set; typed rune by rune it is the same as at once. Conditions: none. -/
import Derived.Test.YtnhmbocgopjbjaaRulesTyped
import Derived.Test.YtnhmbocgopjbjaaOpenKy
import Derived.Test.YtnhmbocgopjbjaaClose
namespace Go.Proofs.Ytnhmbocgopjbjaa.rulesTypedPlain
open Go.ChangeShapes Go.WideShapes Go.ChangeAt Go.RowKit Go.Deep
set_option linter.unusedVariables false
set_option maxRecDepth 20000

theorem contract (H : Type) (enc : TypeId × Value → H) (W : World) (base : Nat) (args : Array Value) (ds gs : List (DataW H)) (before : List MemPlace)
    (hval : ∀ (j : Nat) t v, Try.f5.params[j]? = some t → args[j]? = some v → Value.okWide Try.prog W .any base t v)
    (hW : DataW.Whole enc Try.prog Try.f5.params.toList Rows.rulesTypedSpec.vars false W args.toList ds gs before) :
    Calls Try.prog 5 args W fun e W' => ∃ v, e = .returned v ∧ Rows.rulesTypedSpec.post enc Try.prog Try.f5 false true false false W args v W' := by
  have hW' := hW
  obtain ⟨p, q, hA0, hV, rfl, hfz, hnd⟩ := hW
  have hA : DataW.TrodAll enc Try.prog W 0 (fun _ => true) true Try.f5.params.toList args.toList ds p := hA0
  rw [Try.params5] at hA hval
  obtain ⟨v0, v1, v2, d0, d1, d2, p0, p1, p2, rfl, rfl, rfl, h0, h1, h2⟩ := trodAll_three hA
  obtain ⟨rfl, rfl⟩ := trodVars_none hV
  obtain ⟨A0, n0, c0, l0, rfl, e0, k0, m0, r0, b0⟩ := open_list Try.slKy Try.clKy Ky.enc_len (by omega) read_ky (hval 0 22 v0 rfl rfl) h0
  obtain ⟨A1, n1, c1, l1, rfl, e1, k1, m1, r1, b1⟩ := open_list Try.slAt Try.clAt At.enc_len (by omega) read_at (hval 1 23 v1 rfl rfl) h1
  obtain ⟨A2, n2, c2, l2, rfl, e2, k2, m2, r2, b2⟩ := open_list Try.slAt Try.clAt At.enc_len (by omega) read_at (hval 2 23 v2 rfl rfl) h2
  refine (rulesTyped_any A0 A1 A2 n0 n1 n2 c0 c1 c2 l0 l1 l2 W e0 e1 e2 r0 r1 r2 (Nat.le_trans (Nat.le_trans k0 m0) (by unfold maxLen; omega)) (Nat.le_trans (Nat.le_trans k1 m1) (by unfold maxLen; omega)) (Nat.le_trans (Nat.le_trans k2 m2) (by unfold maxLen; omega))).mono fun e W' ⟨he, hg⟩ => ?_
  subst he
  exact ⟨_, rfl, post_law hW' rfl (by kernel_rfl) Try.undBool rfl Try.laidOut (by kernel_rfl) hg⟩

set_option maxRecDepth 100000 in
theorem lifted (os : Os) (started : os.Started) (H : Type) (enc : TypeId × Value → H) :
    ReturnsInHanded {} Try.checked os 5 .any (Rows.rulesTypedSpec.pre6 enc Try.prog Try.f5 Rows.rulesTypedRow.domain false) (Rows.rulesTypedSpec.post enc Try.prog Try.f5 false true false false) := by
  refine returnsInHanded_of_change (C := Try.checked) Try.own started (by kernel_rfl) Try.func5
    (ChangeSpec.witness6 (enc := enc) (C := Try.checked) false ⟨#[], #[.slice none 0 0, .slice none 0 0, .slice none 0 0], []⟩ 8 (by kernel_rfl) (by kernel_rfl) (by kernel_rfl) (by kernel_rfl)) ?_
  intro W base args ds gs before hval hW _ _
  exact contract H enc W base args ds gs before hval hW

theorem over : Rows.rulesTypedRow.holds Try.pinned (OpenSpec.ofChange Rows.rulesTypedSpec) :=
  OpenClaim.holds_of_wide 5 Try.f5 rfl rfl rfl rfl rfl rfl rfl ⟨rfl, rfl, rfl, rfl, rfl⟩ rfl rfl rfl rfl rfl (by kernel_rfl) Try.func5 (by kernel_rfl)
    (of_decide_eq_true (by kernel_rfl)) (by unfold Func.isWrapper; first | (rw [if_pos (by decide +kernel)]; kernel_rfl) | (rw [if_neg (by decide +kernel)]; exact ⟨rfl, rfl⟩))
    (fun os started H enc _ => lifted os started H enc)

theorem holds : Rows.RulesTypedSaid := over
end Go.Proofs.Ytnhmbocgopjbjaa.rulesTypedPlain
