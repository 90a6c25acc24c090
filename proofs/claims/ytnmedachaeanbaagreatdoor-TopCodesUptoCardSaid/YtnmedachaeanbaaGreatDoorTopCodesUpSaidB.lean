/- TopCodes is true of every input within the bound of the second form: bytes are refused, or are a normal delta that has just these bytes; a delta that may be has the bytes of its normal form, which are read as that; and on any document both make the same. Conditions: the arguments hold at most 1048576 values and letters; the two listed tables of the library start as their text lays them, which the card ties. -/
import Derived.Test.YtnmedachaeanbaaGreatDoorB54
import Derived.Test.YtnmedachaeanbaaGreatDoorFactsTopCodes
namespace Go.Proofs.YtnmedachaeanbaaGreatDoor.topCodesUptoCard
open Go.ChangeShapes Go.WideShapes Go.ChangeAt Go.RowKit Go.Deep
set_option linter.unusedVariables false
set_option linter.constructorNameAsVariable false
set_option maxRecDepth 20000
theorem contract (H : Type) (enc : TypeId × Value → H) (W : World) (base : Nat) (args : Array Value) (ds gs : List (DataW H)) (before : List MemPlace)
 (hval : ∀ (j : Nat) t v, Tryz.f5.params[j]? = some t → args[j]? = some v → Value.okWide Tryz.prog W .any base t v)
 (hW : DataW.Whole enc Tryz.prog Tryz.f5.params.toList Rows.topCodesSpec.vars false W args.toList ds gs before) (hk : Rows.uptoSmall H (ds ++ gs) = true) (hL : laidMetH Tryz.prog Rows.topCodesUptoRow.laid W) :
 Calls Tryz.prog 5 args W fun e W' => ∃ v, e = .returned v ∧ Rows.topCodesSpec.post enc Tryz.prog Tryz.f5 false true false false W args v W' := by
 have hW' := hW
 obtain ⟨p, q, hA0, hV, rfl, hfz, hnd⟩ := hW
 have hA : DataW.TrodAll enc Tryz.prog W 0 (fun _ => true) true Tryz.f5.params.toList args.toList ds p := hA0
 rw [Tryz.params5] at hA hval
 obtain ⟨v0, v1, v2, v3, d0, d1, d2, d3, p0, p1, p2, p3, rfl, rfl, rfl, h0, h1, h2, h3⟩ := trodAll_four hA
 obtain ⟨rfl, rfl⟩ := trodVars_none hV
 obtain ⟨A0, n0, c0, l0, rfl, e0, k0, m0, r0, b0, z0⟩ := Z3T (fun _ _ => True) Tryz.slKy Tryz.qcKy Ky.enc_len (by omega) Y6u (hval 0 22 v0 rfl rfl) h0
 obtain ⟨A1, n1, c1, l1, rfl, e1, k1, m1, r1, b1, z1⟩ := Z3T (fun _ _ => True) Tryz.slU8 Tryz.clU8 Y4U (by omega) (fun h => (Y7X h).elim fun a ha => ⟨a, ha, trivial⟩) (hval 1 55 v1 rfl rfl) h1
 obtain ⟨A2, n2, c2, l2, rfl, e2, k2, m2, s2, b2, z2⟩ := Z3T (Y83 W) Tryz.qslOp Tryz.qcOp OpS.enc_len (by omega) Y4K (hval 2 37 v2 rfl rfl) h2
 have r2 : RdOp W W.heap.size A2 l2 := ⟨s2, fun x hx => (z2 x hx).elim fun _ h => h.1.1.1.1⟩
 clear s2
 obtain ⟨A3, n3, c3, l3, rfl, e3, k3, m3, s3, b3, z3⟩ := Z3T (Y84 W) Tryz.qslCl Tryz.qcCl ClS.enc_len (by omega) Y4L (hval 3 23 v3 rfl rfl) h3
 have r3 : RdCl W W.heap.size A3 l3 := ⟨s3, fun x hx => (z3 x hx).elim fun _ h => h.1.1.1⟩
 clear s3
 rw [List.append_nil] at hk
 have s0 : Rows.uptoBulk d0 ≤ 1048576 := Z5J (by simp) hk
 have s1 : Rows.uptoBulk d1 ≤ 1048576 := Z5J (by simp) hk
 have s2 : Rows.uptoBulk d2 ≤ 1048576 := Z5J (by simp) hk
 have q2 : ∀ o ∈ l2, okOp o.o := fun o ho => by
  obtain ⟨d, ⟨⟨⟨_, h2⟩, _⟩, _⟩, h3⟩ := z2 o ho
  exact h2 (by omega)
 have y2 : szX l2 ≤ 2305850000000000000 := Y7Y (by omega) (fun o ho => by
  obtain ⟨d, ⟨⟨_, h2⟩, _⟩, h3⟩ := z2 o ho
  exact h2 (by omega))
 have f2 : ∀ o ∈ l2, capO o := fun o ho => (z2 o ho).elim fun _ h => h.1.2
 have s3 : Rows.uptoBulk d3 ≤ 1048576 := Z5J (by simp) hk
 have q3 : ∀ x ∈ l3, x.c.s.length ≤ 100000000 ∧ okVr x.c.s := fun x hx => by
  obtain ⟨d, ⟨⟨_, h2, h3⟩, _⟩, h4⟩ := z3 x hx
  exact ⟨h3 (by omega), h2⟩
 have g3 : ∀ x ∈ l3, x.c.s.length ≤ x.cs ∧ x.cs ≤ maxLen := fun x hx => (z3 x hx).elim fun _ h => h.1.2
 have hT := tabs (W := W) hL
 refine (Z9t A0 A1 A2 A3 n0 n1 n2 n3 c0 c1 c2 c3 l0 (intB l1) l2 l3 W e0 r0 (by omega) (by rw [Z1v]; exact e1) (Z7x.2 r1) (by omega) k1 (Z3I l1) e2 r2 (by omega) k2 m2 q2 y2 f2 e3 r3 (by omega) k3 q3 g3 hT).mono fun e W' ⟨he, hg⟩ => ?_
 subst he
 exact ⟨_, rfl, Y6s hW' rfl (by kernel_rfl) Tryz.undBool rfl Tryz.laidOut (by kernel_rfl) hg⟩
set_option maxRecDepth 100000 in
theorem laid_met (os : Os) : laidMet Tryz.prog Rows.topCodesUptoRow.laid ((laidWorld os).forCall (fun _ _ => 0) ⟨#[], #[.slice none 0 0, .slice none 0 0, .slice none 0 0, .slice none 0 0], []⟩).memory :=
 laidMet_of_run' 8 (by kernel_rfl) (by kernel_rfl)
theorem reads (os : Os) {H : Type} (enc : TypeId × Value → H) : ∃ places, DataW.whole enc Tryz.prog ((laidWorld os).forCall (fun _ _ => 0) ⟨#[], #[.slice none 0 0, .slice none 0 0, .slice none 0 0, .slice none 0 0], []⟩).memory Tryz.f5.params.toList Rows.topCodesSpec.vars false (#[.slice none 0 0, .slice none 0 0, .slice none 0 0, .slice none 0 0] : Array Value).toList 8 = some ([.nil, .nil, .nil, .nil], [], places) :=
 ⟨[], by kernel_rfl⟩
set_option maxRecDepth 100000 in
theorem lifted (os : Os) (started : os.Started) (H : Type) (enc : TypeId × Value → H) (F : Stop.Interp) :
 ReturnsInHanded {} Tryz.checked os 5 .any ((Rows.OpenSpec.upto Rows.topCodesSpec).preRow enc Tryz.prog Tryz.f5 Rows.topCodesUptoRow.domain false Rows.topCodesUptoRow.laid) (((Rows.OpenSpec.upto Rows.topCodesSpec).at F).post enc Tryz.prog Tryz.f5 false true false false) := by
 obtain ⟨places, hx⟩ := reads os enc
 refine returnsInHanded_of_row (C := Tryz.checked) (s := Rows.OpenSpec.upto Rows.topCodesSpec) Tryz.own started (by kernel_rfl) Tryz.func5
  (witness_row_at (enc := enc) (C := Tryz.checked) false (laidWorld os) #[.slice none 0 0, .slice none 0 0, .slice none 0 0, .slice none 0 0] rfl (by kernel_rfl) (by kernel_rfl) (by kernel_rfl)
   (OpenSpec.preRow_of_cond 8 hx (by kernel_rfl) (fun k hk => by cases hk; kernel_rfl) (by kernel_rfl) (laid_met os))) ?_
 intro W base args ds gs before hval hW _ hk _ hL _ _
 exact contract H enc W base args ds gs before hval hW (hk _ rfl) hL
set_option maxHeartbeats 1600000 in
theorem said : Rows.TopCodesUptoSaid :=
 OpenClaim.holds_of_cond 5 Tryz.f5 rfl rfl rfl rfl rfl rfl rfl ⟨rfl, rfl, rfl, rfl, rfl⟩ rfl rfl rfl rfl rfl func8 Tryz.func5 closed8
  (of_decide_eq_true (by kernel_rfl)) (by unfold Func.isWrapper; first | (rw [if_pos (by decide +kernel)]; kernel_rfl) | (rw [if_neg (by decide +kernel)]; exact ⟨rfl, rfl⟩))
  (fun os started H enc _ F => by rw [OpenClaim.pre_eq_preRow]; exact lifted os started H enc F)
theorem plain (f : FuncId) (fn : Func) (hf : Tryz.pinned.checked.prog.funcNamed "rubric/rubrictop.TopCodes" = some f) (hfn : Tryz.pinned.checked.prog.funcs[f]? = some fn) :
 false = Tryz.pinned.checked.prog.looks [] ∧ ∀ (j : Nat) t, fn.params[j]? = some t → Tryz.pinned.checked.prog.wantsStandIn t = false := by
 obtain rfl : f = 5 := Option.some.inj (func8.symm.trans hf) |>.symm
 obtain rfl : fn = Tryz.f5 := (Option.some.inj (Tryz.func5.symm.trans hfn)).symm
 refine ⟨by kernel_rfl, fun j t ht => ?_⟩
 have hall : Tryz.f5.params.toList.all (fun t => Tryz.pinned.checked.prog.wantsStandIn t == false) = true := by kernel_rfl
 have := List.all_eq_true.1 hall t (by rw [Array.mem_toList_iff]; exact Array.mem_of_getElem? ht)
 simpa using this
theorem card : Rows.TopCodesUptoCardSaid :=
 Claim7.holds_tied_plain_at .later [] _ _ _ _ said (fun _ h => by cases h) (by as_aux_lemma => kernel_rfl) (fun _ h => by cases h) topCodesUpto_row_tie rfl ⟨rfl, rfl⟩ (by as_aux_lemma => kernel_rfl) rfl plain goes8
end Go.Proofs.YtnmedachaeanbaaGreatDoor.topCodesUptoCard
