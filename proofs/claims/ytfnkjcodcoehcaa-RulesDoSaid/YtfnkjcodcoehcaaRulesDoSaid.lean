/- RulesDo is true of every input: whatever patch is completed, set split, or stepped, and whatever is typed between any sets: it is what the document says; what is handed in stays. Conditions: none. -/
import Derived.Test.YtfnkjcodcoehcaaRulesDo
import Derived.Test.YtfnkjcodcoehcaaOpenKy
import Derived.Test.YtfnkjcodcoehcaaClose
import Derived.Test.YtfnkjcodcoehcaaSixP
namespace Go.Proofs.Ytfnkjcodcoehcaa.rulesDoPlain
open Go.ChangeShapes Go.WideShapes Go.ChangeAt Go.RowKit Go.Deep
set_option linter.unusedVariables false
set_option maxRecDepth 20000

theorem contract (H : Type) (enc : TypeId × Value → H) (W : World) (base : Nat) (args : Array Value) (ds gs : List (DataW H)) (before : List MemPlace)
    (hval : ∀ (j : Nat) t v, Try.f3.params[j]? = some t → args[j]? = some v → Value.okWide Try.prog W .any base t v)
    (hW : DataW.Whole enc Try.prog Try.f3.params.toList Rows.rulesDoSpec.vars false W args.toList ds gs before) :
    Calls Try.prog 3 args W fun e W' => ∃ v, e = .returned v ∧ Rows.rulesDoSpec.post enc Try.prog Try.f3 false true false false W args v W' := by
  have hW' := hW
  obtain ⟨p, q, hA0, hV, rfl, hfz, hnd⟩ := hW
  have hA : DataW.TrodAll enc Try.prog W 0 (fun _ => true) true Try.f3.params.toList args.toList ds p := hA0
  rw [Try.params3] at hA hval
  obtain ⟨v0, v1, v2, v3, v4, v5, d0, d1, d2, d3, d4, d5, p0, p1, p2, p3, p4, p5, rfl, rfl, rfl, h0, h1, h2, h3, h4, h5⟩ := trodAll_six hA
  obtain ⟨rfl, rfl⟩ := trodVars_none hV
  obtain ⟨A0, n0, c0, l0, rfl, e0, k0, m0, r0, b0⟩ := open_list Try.slKy Try.clKy Ky.enc_len (by omega) read_ky (hval 0 22 v0 rfl rfl) h0
  obtain ⟨A1, n1, c1, l1, rfl, e1, k1, m1, r1, b1⟩ := open_list Try.slCh Try.clCh Ch.enc_len (by omega) read_ch (hval 1 23 v1 rfl rfl) h1
  obtain ⟨A2, n2, c2, l2, rfl, e2, k2, m2, r2, b2⟩ := open_list Try.slAt Try.clAt At.enc_len (by omega) read_at (hval 2 24 v2 rfl rfl) h2
  obtain ⟨A3, n3, c3, l3, rfl, e3, k3, m3, r3, b3⟩ := open_list Try.slAt Try.clAt At.enc_len (by omega) read_at (hval 3 24 v3 rfl rfl) h3
  obtain ⟨z4, rfl, -, -, -⟩ := open_int Try.undInt (hval 4 3 v4 rfl rfl) h4
  obtain ⟨z5, rfl, -, -, -⟩ := open_int Try.undInt (hval 5 3 v5 rfl rfl) h5
  refine (rulesDo_any A0 A1 A2 A3 n0 n1 n2 n3 c0 c1 c2 c3 l0 l1 l2 l3 z4 z5 W e0 e1 e2 e3 r0 r1 r2 r3 (Nat.le_trans (Nat.le_trans k0 m0) (by unfold maxLen; omega)) (Nat.le_trans (Nat.le_trans k1 m1) (by unfold maxLen; omega)) (Nat.le_trans (Nat.le_trans k2 m2) (by unfold maxLen; omega)) (Nat.le_trans (Nat.le_trans k3 m3) (by unfold maxLen; omega)) k2 m2).mono fun e W' ⟨he, hg⟩ => ?_
  subst he
  exact ⟨_, rfl, post_law hW' rfl (by kernel_rfl) Try.undBool rfl Try.laidOut (by kernel_rfl) hg⟩

set_option maxRecDepth 100000 in
theorem lifted (os : Os) (started : os.Started) (H : Type) (enc : TypeId × Value → H) :
    ReturnsInHanded {} Try.checked os 3 .any (Rows.rulesDoSpec.pre6 enc Try.prog Try.f3 Rows.rulesDoRow.domain false) (Rows.rulesDoSpec.post enc Try.prog Try.f3 false true false false) := by
  refine returnsInHanded_of_change (C := Try.checked) Try.own started (by kernel_rfl) Try.func3
    (ChangeSpec.witness6 (enc := enc) (C := Try.checked) false ⟨#[], #[.slice none 0 0, .slice none 0 0, .slice none 0 0, .slice none 0 0, .int .i64 0, .int .i64 0], []⟩ 8 (by kernel_rfl) (by kernel_rfl) (by kernel_rfl) (by kernel_rfl)) ?_
  intro W base args ds gs before hval hW _ _
  exact contract H enc W base args ds gs before hval hW

theorem over : Rows.rulesDoRow.holds Try.pinned (OpenSpec.ofChange Rows.rulesDoSpec) :=
  OpenClaim.holds_of_wide 3 Try.f3 rfl rfl rfl rfl rfl rfl rfl ⟨rfl, rfl, rfl, rfl, rfl⟩ rfl rfl rfl rfl rfl (by kernel_rfl) Try.func3 (by kernel_rfl)
    (of_decide_eq_true (by kernel_rfl)) (by unfold Func.isWrapper; first | (rw [if_pos (by decide +kernel)]; kernel_rfl) | (rw [if_neg (by decide +kernel)]; exact ⟨rfl, rfl⟩))
    (fun os started H enc _ => lifted os started H enc)

theorem holds : Rows.RulesDoSaid := over
end Go.Proofs.Ytfnkjcodcoehcaa.rulesDoPlain
