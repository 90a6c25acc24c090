/- AttrsSame is true of every input: a set is alike with itself and its copy, and of two that are alike nothing differs by any call. Conditions: none. -/
import Derived.Test.YtclfplpggmefjaaAttrsSame
import Derived.Test.YtclfplpggmefjaaClose
namespace Go.Proofs.Ytclfplpggmefjaa
open Go.ChangeShapes Go.WideShapes Go.ChangeAt Go.RowKit Go.Deep
theorem open_at1 {H : Type} {enc : TypeId × Value → H} {W : World} {base b0 : Nat} {spare : Nat → Bool} {held : Bool} {v : Value} {d : DataW H} {ps : List MemPlace} {r : Reach}
    (hv : Value.okWide Try.prog W r b0 46 v) (h : DataW.Trod enc Try.prog W base spare held 46 v d ps) :
    ∃ x : At, v = .agg #[.int .i64 x.key, .int .u8 x.v.k, .int .i64 x.v.n, .int .u64 x.v.f, .string x.v.s] := by
  obtain ⟨cs, rfl, _⟩ := okWide_struct Try.undAt hv
  obtain ⟨fuel, hf⟩ := h
  obtain ⟨a, ha⟩ := read_at hf
  refine ⟨a, ?_⟩
  have e : cs.toList = At.enc a := by simpa [Value.cells] using ha
  have e2 : cs = (At.enc a).toArray := by rw [← e]
  rw [e2]
  rfl
end Go.Proofs.Ytclfplpggmefjaa
namespace Go.Proofs.Ytclfplpggmefjaa.attrsSamePlain
open Go.ChangeShapes Go.WideShapes Go.ChangeAt Go.RowKit Go.Deep
set_option linter.unusedVariables false

theorem contract (H : Type) (enc : TypeId × Value → H) (W : World) (base : Nat) (args : Array Value) (ds gs : List (DataW H)) (before : List MemPlace)
    (hval : ∀ (j : Nat) t v, Try.f7.params[j]? = some t → args[j]? = some v → Value.okWide Try.prog W .any base t v)
    (hW : DataW.Whole enc Try.prog Try.f7.params.toList Rows.attrsSameSpec.vars false W args.toList ds gs before) :
    Calls Try.prog 7 args W fun e W' => ∃ v, e = .returned v ∧ Rows.attrsSameSpec.post enc Try.prog Try.f7 false true false false W args v W' := by
  have hW' := hW
  obtain ⟨p, q, hA0, hV, rfl, hfz, hnd⟩ := hW
  have hA : DataW.TrodAll enc Try.prog W 0 (fun _ => true) true Try.f7.params.toList args.toList ds p := hA0
  rw [Try.params7] at hA hval
  obtain ⟨v0, v1, v2, d0, d1, d2, p0, p1, p2, rfl, rfl, rfl, h0, h1, h2⟩ := trodAll_three hA
  obtain ⟨rfl, rfl⟩ := trodVars_none hV
  obtain ⟨A0, n0, c0, l0, rfl, e0, k0, m0, r0, b0⟩ := open_list Try.slAt Try.clAt At.enc_len (by omega) read_at (hval 0 22 v0 rfl rfl) h0
  obtain ⟨A1, n1, c1, l1, rfl, e1, k1, m1, r1, b1⟩ := open_list Try.slAt Try.clAt At.enc_len (by omega) read_at (hval 1 22 v1 rfl rfl) h1
  obtain ⟨x2, rfl⟩ := open_at1 (hval 2 46 v2 rfl rfl) h2
  refine (attrsSameLaw_any A0 A1 n0 c0 n1 c1 l0 l1 x2.key x2.v.k x2.v.n x2.v.f x2.v.s W e0 r0 (Nat.le_trans k0 m0) e1 r1 (Nat.le_trans k1 m1)).mono fun e W' ⟨he, hg⟩ => ?_
  subst he
  exact ⟨_, rfl, post_law hW' rfl (by kernel_rfl) Try.undBool rfl Try.laidOut (by kernel_rfl) hg⟩

set_option maxRecDepth 100000 in
theorem lifted (os : Os) (started : os.Started) (H : Type) (enc : TypeId × Value → H) :
    ReturnsInHanded {} Try.checked os 7 .any (Rows.attrsSameSpec.pre6 enc Try.prog Try.f7 Rows.attrsSameRow.domain false) (Rows.attrsSameSpec.post enc Try.prog Try.f7 false true false false) := by
  refine returnsInHanded_of_change (C := Try.checked) Try.own started (by kernel_rfl) Try.func7
    (ChangeSpec.witness6 (enc := enc) (C := Try.checked) false ⟨#[], #[.slice none 0 0, .slice none 0 0, .agg #[.int .i64 0, .int .u8 0, .int .i64 0, .int .u64 0, .string ⟨#[]⟩]], []⟩ 8 (by kernel_rfl) (by kernel_rfl) (by kernel_rfl) (by kernel_rfl)) ?_
  intro W base args ds gs before hval hW _ _
  exact contract H enc W base args ds gs before hval hW

theorem over : Rows.attrsSameRow.holds Try.pinned (OpenSpec.ofChange Rows.attrsSameSpec) :=
  OpenClaim.holds_of_wide 7 Try.f7 rfl rfl rfl rfl rfl rfl rfl ⟨rfl, rfl, rfl, rfl, rfl⟩ rfl rfl rfl rfl rfl (by kernel_rfl) Try.func7 (by kernel_rfl)
    (of_decide_eq_true (by kernel_rfl)) (by unfold Func.isWrapper; first | (rw [if_pos (by decide +kernel)]; kernel_rfl) | (rw [if_neg (by decide +kernel)]; exact ⟨rfl, rfl⟩))
    (fun os started H enc _ => lifted os started H enc)

theorem holds : Rows.AttrsSameSaid := over
end Go.Proofs.Ytclfplpggmefjaa.attrsSamePlain
