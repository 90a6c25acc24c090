/- PatchPast is true of every input within the bound of the second form: of two patches at once, one and what the other one has besides is the other one and that one on top of it. Condition: the arguments hold at most 1048576 values and letters. -/
import Derived.Test.YtclfplpggmefjaaPatchPast
import Derived.Test.YtclfplpggmefjaaClose
namespace Go.Proofs.Ytclfplpggmefjaa.patchPastUpto
open Go.ChangeShapes Go.WideShapes Go.ChangeAt Go.RowKit Go.Deep
set_option linter.unusedVariables false

theorem contract (H : Type) (enc : TypeId × Value → H) (W : World) (base : Nat) (args : Array Value) (ds gs : List (DataW H)) (before : List MemPlace)
    (hval : ∀ (j : Nat) t v, Try.f5.params[j]? = some t → args[j]? = some v → Value.okWide Try.prog W .any base t v)
    (hW : DataW.Whole enc Try.prog Try.f5.params.toList Rows.patchPastSpec.vars false W args.toList ds gs before) (hk : Rows.uptoSmall H (ds ++ gs) = true) :
    Calls Try.prog 5 args W fun e W' => ∃ v, e = .returned v ∧ Rows.patchPastSpec.post enc Try.prog Try.f5 false true false false W args v W' := by
  have hW' := hW
  obtain ⟨p, q, hA0, hV, rfl, hfz, hnd⟩ := hW
  have hA : DataW.TrodAll enc Try.prog W 0 (fun _ => true) true Try.f5.params.toList args.toList ds p := hA0
  rw [Try.params5] at hA hval
  obtain ⟨v0, v1, v2, d0, d1, d2, p0, p1, p2, rfl, rfl, rfl, h0, h1, h2⟩ := trodAll_three hA
  obtain ⟨rfl, rfl⟩ := trodVars_none hV
  obtain ⟨A0, n0, c0, l0, rfl, e0, k0, m0, r0, b0⟩ := open_list Try.slAt Try.clAt At.enc_len (by omega) read_at (hval 0 22 v0 rfl rfl) h0
  obtain ⟨A1, n1, c1, l1, rfl, e1, k1, m1, r1, b1⟩ := open_list Try.slCh Try.clCh Ch.enc_len (by omega) read_ch (hval 1 23 v1 rfl rfl) h1
  obtain ⟨A2, n2, c2, l2, rfl, e2, k2, m2, r2, b2⟩ := open_list Try.slCh Try.clCh Ch.enc_len (by omega) read_ch (hval 2 23 v2 rfl rfl) h2
  rw [List.append_nil] at hk
  refine (patchPast_any A0 n0 c0 l0 A1 n1 c1 l1 A2 n2 c2 l2 W e0 r0 (bulk_slice b0 (by simp) hk) ⟨k0, m0⟩ e1 r1 (bulk_slice b1 (by simp) hk) ⟨k1, m1⟩ e2 r2 (bulk_slice b2 (by simp) hk) ⟨k2, m2⟩).mono fun e W' ⟨he, hg⟩ => ?_
  subst he
  exact ⟨_, rfl, post_law hW' rfl (by kernel_rfl) Try.undBool rfl Try.laidOut (by kernel_rfl) hg⟩

set_option maxRecDepth 100000 in
theorem lifted (os : Os) (started : os.Started) (H : Type) (enc : TypeId × Value → H) (F : Stop.Interp) :
    ReturnsInHanded {} Try.checked os 5 .any ((Rows.OpenSpec.upto Rows.patchPastSpec).pre6 enc Try.prog Try.f5 Rows.patchPastUptoRow.domain false) (((Rows.OpenSpec.upto Rows.patchPastSpec).at F).post enc Try.prog Try.f5 false true false false) := by
  refine returnsInHanded_of_cond (C := Try.checked) (s := Rows.OpenSpec.upto Rows.patchPastSpec) (k := Rows.uptoSmall) rfl Try.own started (by kernel_rfl) Try.func5
    (OpenSpec.witness (enc := enc) (C := Try.checked) (s := Rows.OpenSpec.upto Rows.patchPastSpec) (k := Rows.uptoSmall) rfl false ⟨#[], #[.slice none 0 0, .slice none 0 0, .slice none 0 0], []⟩ 8 (by kernel_rfl) (by kernel_rfl) (by kernel_rfl)
      (x := ([.nil, .nil, .nil], [], [])) (by kernel_rfl) rfl (by kernel_rfl)) ?_
  intro W base args ds gs before hval hW _ hk _
  exact contract H enc W base args ds gs before hval hW hk

theorem over : Rows.patchPastUptoRow.holds Try.pinned (Rows.OpenSpec.upto Rows.patchPastSpec) :=
  OpenClaim.holds_of_cond 5 Try.f5 rfl rfl rfl rfl rfl rfl rfl ⟨rfl, rfl, rfl, rfl, rfl⟩ rfl rfl rfl rfl rfl (by kernel_rfl) Try.func5 (by kernel_rfl)
    (of_decide_eq_true (by kernel_rfl)) (by unfold Func.isWrapper; first | (rw [if_pos (by decide +kernel)]; kernel_rfl) | (rw [if_neg (by decide +kernel)]; exact ⟨rfl, rfl⟩))
    (fun os started H enc _ F => lifted os started H enc F)

theorem holds : Rows.PatchPastUptoSaid := over
end Go.Proofs.Ytclfplpggmefjaa.patchPastUpto
