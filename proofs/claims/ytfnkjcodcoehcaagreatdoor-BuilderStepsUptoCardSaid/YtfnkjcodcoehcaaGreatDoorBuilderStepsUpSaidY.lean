/- BuilderSteps is true of every input within the bound of the second form: so many steps by 1 of lines without the key are that many, at most 8; steps back lead to none. Conditions: the arguments hold at most 1048576 values and letters; the two listed tables of the library start as their text lays them, which the card ties. -/
import Derived.Test.YtfnkjcodcoehcaaGreatDoorY25
import Derived.Test.YtfnkjcodcoehcaaGreatDoorY26
import Derived.Test.YtfnkjcodcoehcaaGreatDoorY10
import Derived.Test.YtfnkjcodcoehcaaGreatDoorY18
namespace Go.Proofs.YtfnkjcodcoehcaaGreatDoor.builderStepsUptoCard
open Go.ChangeShapes Go.WideShapes Go.ChangeAt Go.RowKit Go.Deep
set_option linter.unusedVariables false
set_option linter.constructorNameAsVariable false
set_option maxRecDepth 20000

theorem contract (H : Type) (enc : TypeId × Value → H) (W : World) (base : Nat) (args : Array Value) (ds gs : List (DataW H)) (before : List MemPlace)
    (hval : ∀ (j : Nat) t v, Tryz.f10.params[j]? = some t → args[j]? = some v → Value.okWide Tryz.prog W .any base t v)
    (hW : DataW.Whole enc Tryz.prog Tryz.f10.params.toList Rows.builderStepsSpec.vars false W args.toList ds gs before) (hk : Rows.uptoSmall H (ds ++ gs) = true) (hL : laidMetH Tryz.prog Rows.builderStepsUptoRow.laid W) :
    Calls Tryz.prog 10 args W fun e W' => ∃ v, e = .returned v ∧ Rows.builderStepsSpec.post enc Tryz.prog Tryz.f10 false true false false W args v W' := by
  have hW' := hW
  obtain ⟨p, q, hA0, hV, rfl, hfz, hnd⟩ := hW
  have hA : DataW.TrodAll enc Tryz.prog W 0 (fun _ => true) true Tryz.f10.params.toList args.toList ds p := hA0
  rw [Tryz.params10] at hA hval
  obtain ⟨v0, v1, v2, v3, d0, d1, d2, d3, p0, p1, p2, p3, rfl, rfl, rfl, h0, h1, h2, h3⟩ := trodAll_four hA
  obtain ⟨rfl, rfl⟩ := trodVars_none hV
  obtain ⟨A0, n0, c0, l0, rfl, e0, k0, m0, r0, b0, z0⟩ := open_listP (fun _ _ => True) Tryz.slKy Tryz.qcKy Ky.enc_len (by omega) read_kyd (hval 0 22 v0 rfl rfl) h0
  obtain ⟨A1, n1, c1, l1, rfl, e1, k1, m1, s1, b1, z1⟩ := open_listP (clPrC W) Tryz.qslCl Tryz.qcCl ClS.enc_len (by omega) read_cldC (hval 1 23 v1 rfl rfl) h1
  have r1 : RdCl W W.heap.size A1 l1 := ⟨s1, fun x hx => (z1 x hx).elim fun _ h => h.1.1.1⟩
  clear s1
  obtain ⟨x2, rfl, _, _, g2⟩ := open_int Tryz.qInt (hval 2 3 v2 rfl rfl) h2
  obtain ⟨x3, rfl, _, _, g3⟩ := open_int Tryz.qInt (hval 3 3 v3 rfl rfl) h3
  rw [List.append_nil] at hk
  have s0 : Rows.uptoBulk d0 ≤ 1048576 := small_of (by simp) hk
  have s1 : Rows.uptoBulk d1 ≤ 1048576 := small_of (by simp) hk
  have q1 : ∀ x ∈ l1, x.c.s.length ≤ 100000000 ∧ okVr x.c.s := fun x hx => by
    obtain ⟨d, ⟨⟨_, h2, h3⟩, _⟩, h4⟩ := z1 x hx
    exact ⟨h3 (by omega), h2⟩
  have g1 : ∀ x ∈ l1, x.c.s.length ≤ x.cs ∧ x.cs ≤ maxLen := fun x hx => (z1 x hx).elim fun _ h => h.1.2
  have hT := tabs (W := W) hL
  refine (builderSteps_any A0 A1 n0 n1 c0 c1 l0 l1 x2 x3 W e0 r0 (by omega) e1 r1 (by omega) k1 q1 g1 hT).mono fun e W' ⟨he, hg⟩ => ?_
  subst he
  exact ⟨_, rfl, post_law hW' rfl (by kernel_rfl) Tryz.undBool rfl Tryz.laidOut (by kernel_rfl) hg⟩

set_option maxRecDepth 100000 in
theorem laid_met (os : Os) : laidMet Tryz.prog Rows.builderStepsUptoRow.laid ((laidWorld os).forCall (fun _ _ => 0) ⟨#[], #[.slice none 0 0, .slice none 0 0, .int .i64 0, .int .i64 0], []⟩).memory :=
  laidMet_of_run' 8 (by kernel_rfl) (by kernel_rfl)
theorem reads (os : Os) {H : Type} (enc : TypeId × Value → H) : ∃ places, DataW.whole enc Tryz.prog ((laidWorld os).forCall (fun _ _ => 0) ⟨#[], #[.slice none 0 0, .slice none 0 0, .int .i64 0, .int .i64 0], []⟩).memory Tryz.f10.params.toList Rows.builderStepsSpec.vars false (#[.slice none 0 0, .slice none 0 0, .int .i64 0, .int .i64 0] : Array Value).toList 8 = some ([.nil, .nil, .lit (.int .i64 0), .lit (.int .i64 0)], [], places) :=
  ⟨[], by kernel_rfl⟩

set_option maxRecDepth 100000 in
theorem lifted (os : Os) (started : os.Started) (H : Type) (enc : TypeId × Value → H) (F : Stop.Interp) :
    ReturnsInHanded {} Tryz.checked os 10 .any ((Rows.OpenSpec.upto Rows.builderStepsSpec).preRow enc Tryz.prog Tryz.f10 Rows.builderStepsUptoRow.domain false Rows.builderStepsUptoRow.laid) (((Rows.OpenSpec.upto Rows.builderStepsSpec).at F).post enc Tryz.prog Tryz.f10 false true false false) := by
  obtain ⟨places, hx⟩ := reads os enc
  refine returnsInHanded_of_row (C := Tryz.checked) (s := Rows.OpenSpec.upto Rows.builderStepsSpec) Tryz.own started (by kernel_rfl) Tryz.func10
    (witness_row_at (enc := enc) (C := Tryz.checked) false (laidWorld os) #[.slice none 0 0, .slice none 0 0, .int .i64 0, .int .i64 0] rfl (by kernel_rfl) (by kernel_rfl) (by kernel_rfl)
      (OpenSpec.preRow_of_cond 8 hx (by kernel_rfl) (fun k hk => by cases hk; kernel_rfl) (by kernel_rfl) (laid_met os))) ?_
  intro W base args ds gs before hval hW _ hk _ hL _ _
  exact contract H enc W base args ds gs before hval hW (hk _ rfl) hL

theorem lifts8 : Tryz.pinned.checked.prog.liftsFinal = false := by kernel_rfl
theorem makes8 : Tryz.pinned.checked.prog.make = some Rows.builderStepsUptoRow.make := by kernel_rfl
theorem enters8 : Tryz.pinned.checked.prog.mayEnter = true := by kernel_rfl
set_option maxHeartbeats 1600000 in
theorem said : Rows.BuilderStepsUptoSaid :=
  OpenClaim.holds_of_cond 10 Tryz.f10 rfl rfl rfl rfl rfl rfl rfl ⟨rfl, rfl, rfl, rfl, rfl⟩ rfl rfl rfl rfl rfl (by as_aux_lemma => kernel_rfl) Tryz.func10 (by unfold joinedFacts; rw [lifts8, enters8, makes8]; as_aux_lemma => kernel_rfl)
    (of_decide_eq_true (by kernel_rfl)) (by unfold Func.isWrapper; first | (rw [if_pos (by decide +kernel)]; kernel_rfl) | (rw [if_neg (by decide +kernel)]; exact ⟨rfl, rfl⟩))
    (fun os started H enc _ F => by rw [OpenClaim.pre_eq_preRow]; exact lifted os started H enc F)

theorem plain (f : FuncId) (fn : Func) (hf : Tryz.pinned.checked.prog.funcNamed "rubric/rubriclaw24.BuilderSteps" = some f) (hfn : Tryz.pinned.checked.prog.funcs[f]? = some fn) :
    false = Tryz.pinned.checked.prog.looks [] ∧ ∀ (j : Nat) t, fn.params[j]? = some t → Tryz.pinned.checked.prog.wantsStandIn t = false := by
  obtain rfl : f = 10 := Option.some.inj ((show Tryz.prog.funcNamed "rubric/rubriclaw24.BuilderSteps" = some 10 by kernel_rfl).symm.trans hf) |>.symm
  obtain rfl : fn = Tryz.f10 := (Option.some.inj (Tryz.func10.symm.trans hfn)).symm
  refine ⟨by kernel_rfl, fun j t ht => ?_⟩
  have hall : Tryz.f10.params.toList.all (fun t => Tryz.pinned.checked.prog.wantsStandIn t == false) = true := by kernel_rfl
  have := List.all_eq_true.1 hall t (by rw [Array.mem_toList_iff]; exact Array.mem_of_getElem? ht)
  simpa using this

theorem card : Rows.BuilderStepsUptoCardSaid :=
  Claim7.holds_tied_plain_at .later [] _ _ _ _ said (fun _ h => by cases h) (by as_aux_lemma => kernel_rfl) (fun _ h => by cases h) builderStepsUpto_row_tie rfl ⟨rfl, rfl⟩ (by as_aux_lemma => kernel_rfl) rfl plain (by as_aux_lemma => kernel_rfl)
end Go.Proofs.YtfnkjcodcoehcaaGreatDoor.builderStepsUptoCard
