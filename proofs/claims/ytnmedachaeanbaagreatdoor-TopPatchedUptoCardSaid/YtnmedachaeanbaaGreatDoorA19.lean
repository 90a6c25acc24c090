/- Merged texts. -/
import Derived.Test.YtnmedachaeanbaaGreatDoorA18
namespace Go.Proofs.YtnmedachaeanbaaGreatDoor
set_option maxRecDepth 100000
set_option maxHeartbeats 1600000
open Go.RowKit
open Go.Lib (hid Utf8Tabs)
set_option linter.unusedVariables false
set_option linter.unusedSimpArgs false
theorem PartN.base_le {w : World} {B B' g : Nat} {x : OpS} (h : PartN w B g x) (hb : B' ≤ B) : PartN w B' g x :=
 ⟨⟨h.1.1.base_le hb, h.1.2⟩, ⟨h.2.1.1.base_le hb, h.2.1.2⟩, ⟨h.2.2.1.base_le hb, h.2.2.2⟩⟩
theorem NewOps.late {o : List Opd} {w w2 : World} (y : Below w.heap.size w w2) {e : Ending} {w3 : World} (h : NewOps o w2 e w3) : NewOps o w e w3 := by
 obtain ⟨A, c, l, h1, h2, h3, h4, h5⟩ := h
 exact ⟨A, c, l, h1, h2, h3.base_le y.size, fun x hx => (h4 x hx).imp fun g p => p.base_le y.size, Z0a y h5⟩
theorem Mkr.sub {w : World} {F : Nat → Prop} {b : Nat} {vd vi : Value} {D I : List OpS} (h10 : ∀ x ∈ D, PartF w F x) (h11 : InsF w F b vd vi I) (g : Int) : Sub w w.heap.size (D ++ gapS I g) := by
 intro x hx
 rcases List.mem_append.1 hx with hx | hx
 ·have := h10 x hx; exact ⟨this.1.1, this.2.1.1, this.2.2.1⟩
 ·unfold gapS at hx
  rcases List.mem_append.1 hx with hx | hx
  ·rcases List.eq_nil_or_concat I with h0 | ⟨t, z, h0⟩
   ·rw [h0] at hx; cases hx
   ·rw [List.concat_eq_append] at h0
    have hx' := hx
    rw [h0] at hx'
    rcases List.mem_append.1 hx' with hx' | hx'
    ·have := h11.1 x (by rw [h0]; simpa using hx'); exact ⟨this.1.1, this.2.1.1, this.2.2.1⟩
    ·simp at hx'; subst hx'
     have := h11.2 x (by rw [h0]; simp)
     exact ⟨this.1.rd Z1C, this.2.2.1.1, this.2.2.2.1⟩
  ·split at hx
   ·simp at hx; subst hx
    exact ⟨Rd.nil, Rd.nil, Rd.nil⟩
   ·cases hx
theorem Y53 (b : Nat) (w : World) (F : Nat → Prop) (m : Mk) (h : Mkr w F b m) (hmb : m.done.length + m.ins.length ≤ 10000000)
 (hs : ∀ o ∈ m.done ++ Z03 m, o.r.length ≤ 100000000 ∧ o.s.length ≤ 100000000 ∧ o.p.length ≤ 100000000) (h0 : m.done ++ Z03 m = []) :
 Calls Tryz.prog 68 #[.pointer (some ⟨b, 0, none⟩)] w (NewOps (Z1u m) w) := by
 obtain ⟨vd, vi, D, I, h1, h2, h3, h4, h5, h6, h7, h8, h9, h10, h11⟩ := h
 obtain ⟨Ad, cd, rfl, _, _⟩ := h2.form
 obtain ⟨Ai, ci, rfl, _, _⟩ := h3.form
 have HD := hid (show D.length ≤ 10000000 by rw [← h4, ← h5] at hmb; simp [osOf] at hmb; omega)
 have HI := hid (show I.length ≤ 10000000 by rw [← h4, ← h5] at hmb; simp [osOf] at hmb; omega)
 have H1 := hid h1
 have H2 := hid h2
 have H3 := hid h3
 have hlt := Z0b h1
 obtain ⟨c0, c1, c2⟩ := Z0Z h1
 have HSUB := hid (Mkr.sub h10 h11 m.gone)
 have HL0 : Hid (osOf (D ++ gapS I m.gone) = m.done ++ Z03 m) := hid (by
  unfold osOf; rw [List.map_append]; show osOf D ++ osOf (gapS I m.gone) = _; rw [Z3r, h4, h5]; rfl)
 have HSZ : Hid (∀ x ∈ D ++ gapS I m.gone, x.o.r.length ≤ 100000000 ∧ x.o.s.length ≤ 100000000 ∧ x.o.p.length ≤ 100000000) := hid (fun x hx => hs x.o (by
  rw [← HL0.out]; unfold osOf; exact List.mem_map_of_mem hx))
 have HL : Hid (D ++ gapS I m.gone = []) := hid (by have e := HL0.out; rw [h0] at e; unfold osOf at e; simpa using e)
 have HM : Hid (osOf (D ++ gapS I m.gone) = Z1u m) := hid (by rw [HL0.out]; unfold Z1u; rw [h0]; rfl)
 clear h1 h2 h3 h4 h5 hmb hs h6 h7 h8 h9 h10 h11 h0
 generalize hgone : m.gone = gone at *
 have HGO := hid hgone
 clear hgone
 go_enter Tryz.func68, Tryz.ntmps68
 go_wp2_with (fail)
 go_region_law (first
  | (refine Z0E rfl 140 [.tmp 11] #[110] rfl Tryz.f140 (by kernel_rfl) (by kernel_rfl) (by kernel_rfl) [.pointer (some ⟨b, 0, none⟩)] (by rfl) (Z3s b (.slice Ad D.length cd) Ai I.length ci gone I w.drew H1.out rfl (H3.out.rd OpS.enc_len) (by have := HI.out; omega)) ?_
     rintro e w1 ⟨A1, k1, rfl, o1, y1⟩
     refine ⟨_, rfl, ?_⟩
     have hb1 := (y1.block b hlt).trans H1.out
     obtain ⟨d0, d1, d2⟩ := Z0Z hb1
     have O1 := hid o1
     have Y1 : Hid (Below w.heap.size w w1) := hid ((Z0v (Below.refl _ _)).trans y1)
     clear hb1 o1 y1)
  | (refine Z0E rfl 147 [.tmp 13] #[67] rfl Tryz.f147 (by kernel_rfl) (by kernel_rfl) (by kernel_rfl) [.slice (some ⟨w1.heap.size, 0, none⟩) 2 2] (by rfl) (Z2z (some ⟨w1.heap.size, 0, none⟩) 2 2 [⟨Ad, D, cd⟩, ⟨A1, gapS I gone, k1⟩] (w1.alloc (.cells #[.slice Ad D.length cd, .slice A1 (gapS I gone).length k1] 37)) rfl (Rd.new (enc := RwS.enc) (size := 1) (fun _ => rfl) w1 _ _ rfl rfl) (fun x hx => by
   have yy := Z0c w1 (.cells #[.slice Ad D.length cd, .slice A1 (gapS I gone).length k1] 37)
   rcases List.mem_cons.1 hx with rfl | hx
   ·exact ((H2.out.below Y1.out (Nat.le_refl _)).rd OpS.enc_len).ext yy
   ·simp at hx; subst hx; exact (O1.out.rd OpS.enc_len).ext yy) (by omega) (fun x hx => by
   have := HD.out; have := HI.out; have := Z1e I gone
   rcases List.mem_cons.1 hx with rfl | hx
   ·simp only; omega
   ·simp at hx; subst hx; simp only; omega)) ?_
     rintro e w2 ⟨A2, k2, he, o2, y2⟩
     have eL : [(⟨Ad, D, cd⟩ : RwS), ⟨A1, gapS I gone, k1⟩].flatMap (fun x => x.l) = D ++ gapS I gone := by simp
     rw [eL] at he o2
     generalize hnl : (D ++ gapS I gone).length = nl at he o2
     subst he
     refine ⟨_, rfl, ?_⟩
     have hnlb : nl ≤ 20000001 := by rw [← hnl, List.length_append]; have := HD.out; have := HI.out; have := Z1e I gone; omega
     have HNL := hid hnl
     have O2 := hid o2
     have Y2 : Hid (Below w.heap.size w w2) := hid (Z0a Y1.out (Z0a (Z0c w1 _) y2))
     clear o2 y2 hnl eL)
  )
 all_goals
  have hnl0 : nl = 0 := by have := HNL.out; rw [HL.out] at this; exact this.symm
  subst hnl0
  go_wp2_with (go_at_call 148; refine Hid.out ?_)
  refine hid ?_
  refine (Z25 _ _ k2 (D ++ gapS I gone) _ HNL.out.symm ⟨O2.out.rd OpS.enc_len, fun x hx => (HSUB.out.ext Y2.out) x hx⟩ (by omega) (fun x hx => HSZ.out x hx)).mono ?_
  intro e w3 hN
  have hM := NewOps.late Y2.out hN
  clear hN
  rw [HM.out] at hM
  obtain ⟨A3, k3, l3, rfl, hM2⟩ := hM
  go_wp2_with (fail)
  go_ret
  exact ⟨A3, k3, l3, rfl, hM2⟩
theorem Y4y (b : Nat) (w : World) (F : Nat → Prop) (m : Mk) (h : Mkr w F b m) (hmb : m.done.length + m.ins.length ≤ 10000000)
 (hs : ∀ o ∈ m.done ++ Z03 m, o.r.length ≤ 100000000 ∧ o.s.length ≤ 100000000 ∧ o.p.length ≤ 100000000) (o : Opd) (h0 : (m.done ++ Z03 m).getLast? = some o) (hk : ¬ o.k = 1) :
 Calls Tryz.prog 68 #[.pointer (some ⟨b, 0, none⟩)] w (NewOps (Z1u m) w) := by
 obtain ⟨vd, vi, D, I, h1, h2, h3, h4, h5, h6, h7, h8, h9, h10, h11⟩ := h
 obtain ⟨Ad, cd, rfl, _, _⟩ := h2.form
 obtain ⟨Ai, ci, rfl, _, _⟩ := h3.form
 have HD := hid (show D.length ≤ 10000000 by rw [← h4, ← h5] at hmb; simp [osOf] at hmb; omega)
 have HI := hid (show I.length ≤ 10000000 by rw [← h4, ← h5] at hmb; simp [osOf] at hmb; omega)
 have H1 := hid h1
 have H2 := hid h2
 have H3 := hid h3
 have hlt := Z0b h1
 obtain ⟨c0, c1, c2⟩ := Z0Z h1
 have HSUB := hid (Mkr.sub h10 h11 m.gone)
 have HL0 : Hid (osOf (D ++ gapS I m.gone) = m.done ++ Z03 m) := hid (by
  unfold osOf; rw [List.map_append]; show osOf D ++ osOf (gapS I m.gone) = _; rw [Z3r, h4, h5]; rfl)
 have HSZ : Hid (∀ x ∈ D ++ gapS I m.gone, x.o.r.length ≤ 100000000 ∧ x.o.s.length ≤ 100000000 ∧ x.o.p.length ≤ 100000000) := hid (fun x hx => hs x.o (by
  rw [← HL0.out]; unfold osOf; exact List.mem_map_of_mem hx))
 have H0 : Hid ((osOf (D ++ gapS I m.gone)).getLast? = some o) := hid (by rw [HL0.out]; exact h0)
 have HM : Hid (osOf (D ++ gapS I m.gone) = Z1u m) := hid (by rw [HL0.out]; unfold Z1u cutR; rw [h0]; simp only; rw [if_neg (fun h => hk h.1)])
 have HK := hid hk
 clear h1 h2 h3 h4 h5 hmb hs h6 h7 h8 h9 h10 h11 h0 hk
 generalize hgone : m.gone = gone at *
 have HGO := hid hgone
 clear hgone
 go_enter Tryz.func68, Tryz.ntmps68
 go_wp2_with (fail)
 go_region_law (first
  | (refine Z0E rfl 140 [.tmp 11] #[110] rfl Tryz.f140 (by kernel_rfl) (by kernel_rfl) (by kernel_rfl) [.pointer (some ⟨b, 0, none⟩)] (by rfl) (Z3s b (.slice Ad D.length cd) Ai I.length ci gone I w.drew H1.out rfl (H3.out.rd OpS.enc_len) (by have := HI.out; omega)) ?_
     rintro e w1 ⟨A1, k1, rfl, o1, y1⟩
     refine ⟨_, rfl, ?_⟩
     have hb1 := (y1.block b hlt).trans H1.out
     obtain ⟨d0, d1, d2⟩ := Z0Z hb1
     have O1 := hid o1
     have Y1 : Hid (Below w.heap.size w w1) := hid ((Z0v (Below.refl _ _)).trans y1)
     clear hb1 o1 y1)
  | (refine Z0E rfl 147 [.tmp 13] #[67] rfl Tryz.f147 (by kernel_rfl) (by kernel_rfl) (by kernel_rfl) [.slice (some ⟨w1.heap.size, 0, none⟩) 2 2] (by rfl) (Z2z (some ⟨w1.heap.size, 0, none⟩) 2 2 [⟨Ad, D, cd⟩, ⟨A1, gapS I gone, k1⟩] (w1.alloc (.cells #[.slice Ad D.length cd, .slice A1 (gapS I gone).length k1] 37)) rfl (Rd.new (enc := RwS.enc) (size := 1) (fun _ => rfl) w1 _ _ rfl rfl) (fun x hx => by
   have yy := Z0c w1 (.cells #[.slice Ad D.length cd, .slice A1 (gapS I gone).length k1] 37)
   rcases List.mem_cons.1 hx with rfl | hx
   ·exact ((H2.out.below Y1.out (Nat.le_refl _)).rd OpS.enc_len).ext yy
   ·simp at hx; subst hx; exact (O1.out.rd OpS.enc_len).ext yy) (by omega) (fun x hx => by
   have := HD.out; have := HI.out; have := Z1e I gone
   rcases List.mem_cons.1 hx with rfl | hx
   ·simp only; omega
   ·simp at hx; subst hx; simp only; omega)) ?_
     rintro e w2 ⟨A2, k2, he, o2, y2⟩
     have eL : [(⟨Ad, D, cd⟩ : RwS), ⟨A1, gapS I gone, k1⟩].flatMap (fun x => x.l) = D ++ gapS I gone := by simp
     rw [eL] at he o2
     generalize hnl : (D ++ gapS I gone).length = nl at he o2
     subst he
     refine ⟨_, rfl, ?_⟩
     have hnlb : nl ≤ 20000001 := by rw [← hnl, List.length_append]; have := HD.out; have := HI.out; have := Z1e I gone; omega
     have HNL := hid hnl
     have O2 := hid o2
     have Y2 : Hid (Below w.heap.size w w2) := hid (Z0a Y1.out (Z0a (Z0c w1 _) y2))
     clear o2 y2 hnl eL)
  )
 all_goals
  obtain ⟨g, x, hnp1, hA', hx, hxo, hLx, ⟨cur, hg⟩, hcx⟩ := Z2R O2.out HNL.out H0.out
  subst hA'
  obtain ⟨⟨xk, xn, xr, xs, xp⟩, Ar, cr, As, cs, Aq, cq⟩ := x
  obtain ⟨z0, z1, z2, z3, z4⟩ := Z0x hcx
  have e1 : (1 : Int) ≤ (nl : Int) := by omega
  have e2 : (nl : Int) - 1 < (nl : Int) := by omega
  have hko : xk = o.k := by rw [← hxo]
  have hpo : xp = o.p := by rw [← hxo]
  clear hcx hLx hx hxo hg
  have hk1 : (xk == 1) = false := beq_eq_false_iff_ne.2 (by rw [hko]; exact HK.out)
  clear hko hpo
  go_wp2_with (go_at_call 148; refine Hid.out ?_)
  refine hid ?_
  refine (Z25 _ _ k2 (D ++ gapS I gone) _ HNL.out.symm ⟨O2.out.rd OpS.enc_len, fun x hx => (HSUB.out.ext Y2.out) x hx⟩ (by omega) (fun x hx => HSZ.out x hx)).mono ?_
  intro e w3 hN
  have hM := NewOps.late Y2.out hN
  clear hN
  rw [HM.out] at hM
  obtain ⟨A3, k3, l3, rfl, hM2⟩ := hM
  go_wp2_with (fail)
  go_ret
  exact ⟨A3, k3, l3, rfl, hM2⟩
theorem Y2S (b : Nat) (w : World) (F : Nat → Prop) (m : Mk) (h : Mkr w F b m) (hmb : m.done.length + m.ins.length ≤ 10000000)
 (hs : ∀ o ∈ m.done ++ Z03 m, o.r.length ≤ 100000000 ∧ o.s.length ≤ 100000000 ∧ o.p.length ≤ 100000000) (o : Opd) (h0 : (m.done ++ Z03 m).getLast? = some o) (hk : o.k = 1) (hp : ¬ o.p = []) :
 Calls Tryz.prog 68 #[.pointer (some ⟨b, 0, none⟩)] w (NewOps (Z1u m) w) := by
 obtain ⟨vd, vi, D, I, h1, h2, h3, h4, h5, h6, h7, h8, h9, h10, h11⟩ := h
 obtain ⟨Ad, cd, rfl, _, _⟩ := h2.form
 obtain ⟨Ai, ci, rfl, _, _⟩ := h3.form
 have HD := hid (show D.length ≤ 10000000 by rw [← h4, ← h5] at hmb; simp [osOf] at hmb; omega)
 have HI := hid (show I.length ≤ 10000000 by rw [← h4, ← h5] at hmb; simp [osOf] at hmb; omega)
 have H1 := hid h1
 have H2 := hid h2
 have H3 := hid h3
 have hlt := Z0b h1
 obtain ⟨c0, c1, c2⟩ := Z0Z h1
 have HSUB := hid (Mkr.sub h10 h11 m.gone)
 have HL0 : Hid (osOf (D ++ gapS I m.gone) = m.done ++ Z03 m) := hid (by
  unfold osOf; rw [List.map_append]; show osOf D ++ osOf (gapS I m.gone) = _; rw [Z3r, h4, h5]; rfl)
 have HSZ : Hid (∀ x ∈ D ++ gapS I m.gone, x.o.r.length ≤ 100000000 ∧ x.o.s.length ≤ 100000000 ∧ x.o.p.length ≤ 100000000) := hid (fun x hx => hs x.o (by
  rw [← HL0.out]; unfold osOf; exact List.mem_map_of_mem hx))
 have H0 : Hid ((osOf (D ++ gapS I m.gone)).getLast? = some o) := hid (by rw [HL0.out]; exact h0)
 have HM : Hid (osOf (D ++ gapS I m.gone) = Z1u m) := hid (by rw [HL0.out]; unfold Z1u cutR; rw [h0]; simp only; rw [if_neg (fun h => hp h.2)])
 have HK := hid hk
 have HP := hid hp
 clear h1 h2 h3 h4 h5 hmb hs h6 h7 h8 h9 h10 h11 h0 hk hp
 generalize hgone : m.gone = gone at *
 have HGO := hid hgone
 clear hgone
 go_enter Tryz.func68, Tryz.ntmps68
 go_wp2_with (fail)
 go_region_law (first
  | (refine Z0E rfl 140 [.tmp 11] #[110] rfl Tryz.f140 (by kernel_rfl) (by kernel_rfl) (by kernel_rfl) [.pointer (some ⟨b, 0, none⟩)] (by rfl) (Z3s b (.slice Ad D.length cd) Ai I.length ci gone I w.drew H1.out rfl (H3.out.rd OpS.enc_len) (by have := HI.out; omega)) ?_
     rintro e w1 ⟨A1, k1, rfl, o1, y1⟩
     refine ⟨_, rfl, ?_⟩
     have hb1 := (y1.block b hlt).trans H1.out
     obtain ⟨d0, d1, d2⟩ := Z0Z hb1
     have O1 := hid o1
     have Y1 : Hid (Below w.heap.size w w1) := hid ((Z0v (Below.refl _ _)).trans y1)
     clear hb1 o1 y1)
  | (refine Z0E rfl 147 [.tmp 13] #[67] rfl Tryz.f147 (by kernel_rfl) (by kernel_rfl) (by kernel_rfl) [.slice (some ⟨w1.heap.size, 0, none⟩) 2 2] (by rfl) (Z2z (some ⟨w1.heap.size, 0, none⟩) 2 2 [⟨Ad, D, cd⟩, ⟨A1, gapS I gone, k1⟩] (w1.alloc (.cells #[.slice Ad D.length cd, .slice A1 (gapS I gone).length k1] 37)) rfl (Rd.new (enc := RwS.enc) (size := 1) (fun _ => rfl) w1 _ _ rfl rfl) (fun x hx => by
   have yy := Z0c w1 (.cells #[.slice Ad D.length cd, .slice A1 (gapS I gone).length k1] 37)
   rcases List.mem_cons.1 hx with rfl | hx
   ·exact ((H2.out.below Y1.out (Nat.le_refl _)).rd OpS.enc_len).ext yy
   ·simp at hx; subst hx; exact (O1.out.rd OpS.enc_len).ext yy) (by omega) (fun x hx => by
   have := HD.out; have := HI.out; have := Z1e I gone
   rcases List.mem_cons.1 hx with rfl | hx
   ·simp only; omega
   ·simp at hx; subst hx; simp only; omega)) ?_
     rintro e w2 ⟨A2, k2, he, o2, y2⟩
     have eL : [(⟨Ad, D, cd⟩ : RwS), ⟨A1, gapS I gone, k1⟩].flatMap (fun x => x.l) = D ++ gapS I gone := by simp
     rw [eL] at he o2
     generalize hnl : (D ++ gapS I gone).length = nl at he o2
     subst he
     refine ⟨_, rfl, ?_⟩
     have hnlb : nl ≤ 20000001 := by rw [← hnl, List.length_append]; have := HD.out; have := HI.out; have := Z1e I gone; omega
     have HNL := hid hnl
     have O2 := hid o2
     have Y2 : Hid (Below w.heap.size w w2) := hid (Z0a Y1.out (Z0a (Z0c w1 _) y2))
     clear o2 y2 hnl eL)
  )
 all_goals
  obtain ⟨g, x, hnp1, hA', hx, hxo, hLx, ⟨cur, hg⟩, hcx⟩ := Z2R O2.out HNL.out H0.out
  subst hA'
  obtain ⟨⟨xk, xn, xr, xs, xp⟩, Ar, cr, As, cs, Aq, cq⟩ := x
  obtain ⟨z0, z1, z2, z3, z4⟩ := Z0x hcx
  have e1 : (1 : Int) ≤ (nl : Int) := by omega
  have e2 : (nl : Int) - 1 < (nl : Int) := by omega
  have hko : xk = o.k := by rw [← hxo]
  have hpo : xp = o.p := by rw [← hxo]
  clear hcx hLx hx hxo hg
  have hk1 : xk = 1 := by rw [hko]; exact HK.out
  clear hko
  subst hk1
  have hp1 : ((xp.length : Int) == 0) = false := beq_eq_false_iff_ne.2 (by rw [hpo]; intro e; exact HP.out (List.eq_nil_of_length_eq_zero (by omega)))
  clear hpo
  go_wp2_with (go_at_call 148; refine Hid.out ?_)
  refine hid ?_
  refine (Z25 _ _ k2 (D ++ gapS I gone) _ HNL.out.symm ⟨O2.out.rd OpS.enc_len, fun x hx => (HSUB.out.ext Y2.out) x hx⟩ (by omega) (fun x hx => HSZ.out x hx)).mono ?_
  intro e w3 hN
  have hM := NewOps.late Y2.out hN
  clear hN
  rw [HM.out] at hM
  obtain ⟨A3, k3, l3, rfl, hM2⟩ := hM
  go_wp2_with (fail)
  go_ret
  exact ⟨A3, k3, l3, rfl, hM2⟩
theorem Y54 (b : Nat) (w : World) (F : Nat → Prop) (m : Mk) (h : Mkr w F b m) (hmb : m.done.length + m.ins.length ≤ 10000000)
 (hs : ∀ o ∈ m.done ++ Z03 m, o.r.length ≤ 100000000 ∧ o.s.length ≤ 100000000 ∧ o.p.length ≤ 100000000) (o : Opd) (h0 : (m.done ++ Z03 m).getLast? = some o) (hk : o.k = 1) (hp : o.p = []) :
 Calls Tryz.prog 68 #[.pointer (some ⟨b, 0, none⟩)] w (NewOps (Z1u m) w) := by
 obtain ⟨vd, vi, D, I, h1, h2, h3, h4, h5, h6, h7, h8, h9, h10, h11⟩ := h
 obtain ⟨Ad, cd, rfl, _, _⟩ := h2.form
 obtain ⟨Ai, ci, rfl, _, _⟩ := h3.form
 have HD := hid (show D.length ≤ 10000000 by rw [← h4, ← h5] at hmb; simp [osOf] at hmb; omega)
 have HI := hid (show I.length ≤ 10000000 by rw [← h4, ← h5] at hmb; simp [osOf] at hmb; omega)
 have H1 := hid h1
 have H2 := hid h2
 have H3 := hid h3
 have hlt := Z0b h1
 obtain ⟨c0, c1, c2⟩ := Z0Z h1
 have HSUB := hid (Mkr.sub h10 h11 m.gone)
 have HL0 : Hid (osOf (D ++ gapS I m.gone) = m.done ++ Z03 m) := hid (by
  unfold osOf; rw [List.map_append]; show osOf D ++ osOf (gapS I m.gone) = _; rw [Z3r, h4, h5]; rfl)
 have HSZ : Hid (∀ x ∈ D ++ gapS I m.gone, x.o.r.length ≤ 100000000 ∧ x.o.s.length ≤ 100000000 ∧ x.o.p.length ≤ 100000000) := hid (fun x hx => hs x.o (by
  rw [← HL0.out]; unfold osOf; exact List.mem_map_of_mem hx))
 have H0 : Hid ((osOf (D ++ gapS I m.gone)).getLast? = some o) := hid (by rw [HL0.out]; exact h0)
 have HM : Hid (osOf ((D ++ gapS I m.gone).take ((D ++ gapS I m.gone).length - 1)) = Z1u m) := hid (by rw [← List.dropLast_eq_take]; unfold osOf; rw [List.map_dropLast]; show (osOf _).dropLast = _; rw [HL0.out]; unfold Z1u cutR; rw [h0]; simp only; rw [if_pos ⟨hk, hp⟩])
 have HK := hid hk
 have HP := hid hp
 clear h1 h2 h3 h4 h5 hmb hs h6 h7 h8 h9 h10 h11 h0 hk hp
 generalize hgone : m.gone = gone at *
 have HGO := hid hgone
 clear hgone
 go_enter Tryz.func68, Tryz.ntmps68
 go_wp2_with (fail)
 go_region_law (first
  | (refine Z0E rfl 140 [.tmp 11] #[110] rfl Tryz.f140 (by kernel_rfl) (by kernel_rfl) (by kernel_rfl) [.pointer (some ⟨b, 0, none⟩)] (by rfl) (Z3s b (.slice Ad D.length cd) Ai I.length ci gone I w.drew H1.out rfl (H3.out.rd OpS.enc_len) (by have := HI.out; omega)) ?_
     rintro e w1 ⟨A1, k1, rfl, o1, y1⟩
     refine ⟨_, rfl, ?_⟩
     have hb1 := (y1.block b hlt).trans H1.out
     obtain ⟨d0, d1, d2⟩ := Z0Z hb1
     have O1 := hid o1
     have Y1 : Hid (Below w.heap.size w w1) := hid ((Z0v (Below.refl _ _)).trans y1)
     clear hb1 o1 y1)
  | (refine Z0E rfl 147 [.tmp 13] #[67] rfl Tryz.f147 (by kernel_rfl) (by kernel_rfl) (by kernel_rfl) [.slice (some ⟨w1.heap.size, 0, none⟩) 2 2] (by rfl) (Z2z (some ⟨w1.heap.size, 0, none⟩) 2 2 [⟨Ad, D, cd⟩, ⟨A1, gapS I gone, k1⟩] (w1.alloc (.cells #[.slice Ad D.length cd, .slice A1 (gapS I gone).length k1] 37)) rfl (Rd.new (enc := RwS.enc) (size := 1) (fun _ => rfl) w1 _ _ rfl rfl) (fun x hx => by
   have yy := Z0c w1 (.cells #[.slice Ad D.length cd, .slice A1 (gapS I gone).length k1] 37)
   rcases List.mem_cons.1 hx with rfl | hx
   ·exact ((H2.out.below Y1.out (Nat.le_refl _)).rd OpS.enc_len).ext yy
   ·simp at hx; subst hx; exact (O1.out.rd OpS.enc_len).ext yy) (by omega) (fun x hx => by
   have := HD.out; have := HI.out; have := Z1e I gone
   rcases List.mem_cons.1 hx with rfl | hx
   ·simp only; omega
   ·simp at hx; subst hx; simp only; omega)) ?_
     rintro e w2 ⟨A2, k2, he, o2, y2⟩
     have eL : [(⟨Ad, D, cd⟩ : RwS), ⟨A1, gapS I gone, k1⟩].flatMap (fun x => x.l) = D ++ gapS I gone := by simp
     rw [eL] at he o2
     generalize hnl : (D ++ gapS I gone).length = nl at he o2
     subst he
     refine ⟨_, rfl, ?_⟩
     have hnlb : nl ≤ 20000001 := by rw [← hnl, List.length_append]; have := HD.out; have := HI.out; have := Z1e I gone; omega
     have HNL := hid hnl
     have O2 := hid o2
     have Y2 : Hid (Below w.heap.size w w2) := hid (Z0a Y1.out (Z0a (Z0c w1 _) y2))
     clear o2 y2 hnl eL)
  )
 all_goals
  obtain ⟨g, x, hnp1, hA', hx, hxo, hLx, ⟨cur, hg⟩, hcx⟩ := Z2R O2.out HNL.out H0.out
  subst hA'
  obtain ⟨⟨xk, xn, xr, xs, xp⟩, Ar, cr, As, cs, Aq, cq⟩ := x
  obtain ⟨z0, z1, z2, z3, z4⟩ := Z0x hcx
  have e1 : (1 : Int) ≤ (nl : Int) := by omega
  have e2 : (nl : Int) - 1 < (nl : Int) := by omega
  have hko : xk = o.k := by rw [← hxo]
  have hpo : xp = o.p := by rw [← hxo]
  clear hcx hLx hx hxo hg
  have hk1 : xk = 1 := by rw [hko]; exact HK.out
  clear hko
  subst hk1
  have hp1 : xp = [] := by rw [hpo]; exact HP.out
  clear hpo
  subst hp1
  have hcap : nl ≤ k2 := by have := O2.out.cap; have := HNL.out; omega
  go_wp2_with (go_at_call 148; refine Hid.out ?_)
  refine hid ?_
  refine (Z25 _ _ k2 ((D ++ gapS I gone).take (nl - 1)) _ (by rw [List.length_take, HNL.out]; omega) ⟨(O2.out.rd OpS.enc_len).take (nl - 1), fun x hx => (HSUB.out.ext Y2.out) x (List.mem_of_mem_take hx)⟩ (by omega) (fun x hx => HSZ.out x (List.mem_of_mem_take hx))).mono ?_
  intro e w3 hN
  have hM := NewOps.late Y2.out hN
  clear hN
  rw [← HNL.out, HM.out] at hM
  obtain ⟨A3, k3, l3, rfl, hM2⟩ := hM
  go_wp2_with (fail)
  go_ret
  exact ⟨A3, k3, l3, rfl, hM2⟩
theorem Z8t (b : Nat) (w : World) (F : Nat → Prop) (m : Mk) (h : Mkr w F b m) (hmb : m.done.length + m.ins.length ≤ 10000000)
 (hs : ∀ o ∈ m.done ++ Z03 m, o.r.length ≤ 100000000 ∧ o.s.length ≤ 100000000 ∧ o.p.length ≤ 100000000) :
 Calls Tryz.prog 68 #[.pointer (some ⟨b, 0, none⟩)] w (NewOps (Z1u m) w) := by
 cases h0 : (m.done ++ Z03 m).getLast? with
 | none => exact Y53 b w F m h hmb hs (List.getLast?_eq_none_iff.1 h0)
 | some o =>
   by_cases hk : o.k = 1
   ·by_cases hp : o.p = []
    ·exact Y54 b w F m h hmb hs o h0 hk hp
    ·exact Y2S b w F m h hmb hs o h0 hk hp
   ·exact Y4y b w F m h hmb hs o h0 hk
def Z3P (d : List Cl) : Mk :=
 match d.getLast? with
 | none => Mk.new
 | some c => Z0s (Y4t Mk.new d.dropLast) 1 (Z7w [] c.s)
theorem Y4z (s : List At) : Z7w [] s = s.map chg := by
 induction s with
 | nil => rfl
 | cons x s ih => rw [Y0W, Y0X, ih]; rfl
theorem Y55 {a b : At} (h : chg a = chg b) : a = b := by
 unfold chg at h
 injection h with h1 h2 h3
 cases a; cases b
 simp only at h1 h3
 rw [h1, h3]
theorem Z9o {s t : List At} (h : s.map chg = t.map chg) : s = t := by
 induction s generalizing t with
 | nil => cases t with
   | nil => rfl
   | cons b t => cases h
 | cons a s ih => cases t with
   | nil => cases h
   | cons b t =>
     simp only [List.map_cons, List.cons.injEq] at h
     rw [Y55 h.1, ih h.2]
def insU (c : Cl) : Un := .ins c.r c.s
theorem Y4A {a b : Cl} (h : insU a = insU b) : a = b := by
 unfold insU at h
 injection h with h1 h2
 cases a; cases b
 simp only at h1 h2
 rw [h1, h2]
theorem Z49 {s t : List Cl} (h : s.map insU = t.map insU) : s = t := by
 induction s generalizing t with
 | nil => cases t with
   | nil => rfl
   | cons b t => cases h
 | cons a s ih => cases t with
   | nil => cases h
   | cons b t =>
     simp only [List.map_cons, List.cons.injEq] at h
     rw [Y4A h.1, ih h.2]
theorem MkAt.tell {m : Mk} {K I : List Un} {g : Nat} (h : MkAt m K I g) (d : List Cl) : MkAt (Y4t m d) K (I ++ d.map insU) g := by
 induction d generalizing m I with
 | nil => simpa [Y4t] using h
 | cons c d ih =>
   have := ih (h.insert [c.r] c.s)
   rw [List.append_assoc] at this
   exact this
theorem Y4B (t : List Cl) (c : Cl) (hb : t.length ≤ 1000000) : MkAt (Z3P (t ++ [c])) (t.map insU ++ [.ret (c.s.map chg)]) [] 0 := by
 have h1 := (MkAt.new.tell t).retain (n := 1) (p := Z7w [] c.s) (by omega) (by simp; omega)
 have e : Z3P (t ++ [c]) = Z0s (Y4t Mk.new t) 1 (Z7w [] c.s) := by unfold Z3P; simp
 rw [e, Y4z] at *
 simpa using h1
theorem Z6d (t : List Cl) (c : Cl) (hb : t.length ≤ 1000000) : Z1t (Z1u (Z3P (t ++ [c]))) ∧ Z0e (Z1u (Z3P (t ++ [c]))) = trim (t.map insU ++ [.ret (c.s.map chg)]) := by
 have h := (Y4B t c hb).ops
 simpa using h
theorem Y4C (t : List Cl) : trim (t.map insU) = t.map insU := Z39 fun u hu => by
 have hm := List.mem_of_getLast? hu
 obtain ⟨c, _, rfl⟩ := List.mem_map.1 hm
 intro h; cases h
theorem Z61 (t : List Cl) (s : List At) : trim (t.map insU ++ [.ret (s.map chg)]) = if s = [] then t.map insU else t.map insU ++ [.ret (s.map chg)] := by
 by_cases h : s = []
 ·subst h
  rw [if_pos rfl]
  show trim (t.map insU ++ [.ret []]) = _
  rw [Z74, Y4C]
 ·rw [if_neg h, Z43]
  intro e
  injection e with e
  exact h (by simpa using e)
theorem Y0j {t t' : List Cl} {p : List Ch} (h : t.map insU = t'.map insU ++ [.ret p]) : False := by
 have : (t.map insU).getLast? = some (.ret p) := by rw [h]; simp
 have hm := List.mem_of_getLast? this
 obtain ⟨c, _, e⟩ := List.mem_map.1 hm
 cases e
theorem Y2T {t t' : List Cl} {c c' : Cl} (hb : t.length ≤ 1000000) (hb' : t'.length ≤ 1000000) (hr : c.r = c'.r) (h : Z1u (Z3P (t ++ [c])) = Z1u (Z3P (t' ++ [c']))) : t ++ [c] = t' ++ [c'] := by
 have h1 := (Z6d t c hb).2
 have h2 := (Z6d t' c' hb').2
 rw [h, h2, Z61, Z61] at h1
 have key : t = t' ∧ c.s = c'.s := by
  by_cases e : c.s = [] <;> by_cases e' : c'.s = []
  ·rw [if_pos e, if_pos e'] at h1
   exact ⟨(Z49 h1).symm, e.trans e'.symm⟩
  ·rw [if_pos e, if_neg e'] at h1
   exact (Y0j h1.symm).elim
  ·rw [if_neg e, if_pos e'] at h1
   exact (Y0j h1).elim
  ·rw [if_neg e, if_neg e'] at h1
   have h2 := List.append_inj' h1 rfl
   injection h2.2 with h3 _
   injection h3 with h3
   exact ⟨(Z49 h2.1).symm, (Z9o h3).symm⟩
 obtain ⟨rfl, hs⟩ := key
 cases c; cases c'
 simp only at hr hs
 rw [hr, hs]
theorem Z8u {l : List Ky} {d : List Cl} (h : mayD l d = 0) : ∃ t c, d = t ++ [c] ∧ c.r = 10 := by
 unfold mayD at h
 split at h
 ·cases h
 ·split at h
  ·cases h
  ·split at h
   ·cases h
   ·split at h
    ·cases h
    ·rename_i hl
     rcases List.eq_nil_or_concat d with h0 | ⟨t, c, h0⟩
     ·subst h0; simp at hl
     ·rw [List.concat_eq_append] at h0
      subst h0
      refine ⟨t, c, rfl, ?_⟩
      simpa using hl
theorem apart {l : List Ky} {d o : List Cl} (hd : mayD l d = 0) (ho : mayD l o = 0) (bd : d.length ≤ 1000000) (bo : o.length ≤ 1000000) : decide (Z1u (Z3P d) = Z1u (Z3P o)) = decide (d = o) := by
 obtain ⟨t, c, rfl, hr⟩ := Z8u hd
 obtain ⟨t', c', rfl, hr'⟩ := Z8u ho
 by_cases h : t ++ [c] = t' ++ [c']
 ·rw [decide_eq_true h, decide_eq_true (congrArg (fun x => Z1u (Z3P x)) h)]
 ·rw [decide_eq_false h]
  refine decide_eq_false fun e => h (Y2T ?_ ?_ (hr.trans hr'.symm) e)
  ·simp at bd; omega
  ·simp at bo; omega
theorem Z4L : ∀ {x : List Opd}, Z1t x → ∀ o ∈ x, isOp o
 | [], _ => fun o h => by cases h
 | a :: x, h => fun o ho => by
   rcases List.mem_cons.1 ho with rfl | ho
   ·exact h.1
   ·exact Z4L h.2.2 o ho
theorem Y2U {v : V} (h : mayV v = true) : v.s.size ≤ 64 := by
 unfold mayV at h
 by_cases h1 : v.k = 1
 ·rw [if_pos h1] at h
  have e : v = _ := of_decide_eq_true h
  rw [e]; exact Nat.zero_le _
 rw [if_neg h1] at h
 by_cases h2 : v.k = 2
 ·rw [if_pos h2] at h
  have e : v = _ := of_decide_eq_true h
  rw [e]; exact Nat.zero_le _
 rw [if_neg h2] at h
 by_cases h3 : v.k = 3
 ·rw [if_pos h3] at h
  have e : v = _ := of_decide_eq_true h
  rw [e]; exact Nat.zero_le _
 rw [if_neg h3] at h
 by_cases h4 : v.k = 4
 ·rw [if_pos h4, Bool.and_eq_true] at h
  exact (of_decide_eq_true h.1).1
 ·rw [if_neg h4] at h; cases h
structure MkB (m : Mk) (K S : Nat) : Prop where
 len : m.done.length + m.ins.length ≤ K
 prt : ∀ o ∈ m.done ++ m.ins, o.r.length ≤ K ∧ o.s.length ≤ S ∧ o.p.length ≤ S
theorem MkB.new (S : Nat) : MkB Mk.new 0 S := ⟨Nat.le_refl _, fun o h => by simp [Mk.new] at h⟩
theorem MkB.mono {m : Mk} {K K' S S' : Nat} (h : MkB m K S) (hK : K ≤ K') (hS : S ≤ S') : MkB m K' S' :=
 ⟨Nat.le_trans h.len hK, fun o ho => by obtain ⟨h1, h2, h3⟩ := h.prt o ho; exact ⟨by omega, by omega, by omega⟩⟩
theorem MkB.gap {m : Mk} {K S : Nat} (h : MkB m K S) : (m.done ++ Z03 m).length ≤ K + 1 ∧ ∀ o ∈ m.done ++ Z03 m, o.r.length ≤ K ∧ o.s.length ≤ S ∧ o.p.length ≤ S := by
 have h1 := h.len
 refine ⟨?_, fun o ho => ?_⟩
 ·unfold Z03
  split <;> simp <;> omega
 ·unfold Z03 at ho
  rw [← List.append_assoc] at ho
  rcases List.mem_append.1 ho with ho | ho
  ·exact h.prt o ho
  ·split at ho
   ·simp at ho; subst ho; exact ⟨Nat.zero_le _, Nat.zero_le _, Nat.zero_le _⟩
   ·cases ho
theorem Y4D {d : List Opd} {n : Int} {p : List Ch} {K S : Nat} (h : ∀ o ∈ d, o.r.length ≤ K ∧ o.s.length ≤ S ∧ o.p.length ≤ S) (hp : p.length ≤ S) :
 (addR d n p).length ≤ d.length + 1 ∧ ∀ o ∈ addR d n p, o.r.length ≤ K ∧ o.s.length ≤ S ∧ o.p.length ≤ S := by
 have push : (d ++ [opR n p]).length ≤ d.length + 1 ∧ ∀ o ∈ d ++ [opR n p], o.r.length ≤ K ∧ o.s.length ≤ S ∧ o.p.length ≤ S := ⟨by simp, fun o ho => by
  rcases List.mem_append.1 ho with ho | ho
  ·exact h o ho
  ·simp at ho; subst ho; exact ⟨Nat.zero_le _, Nat.zero_le _, hp⟩⟩
 unfold addR
 cases hg : d.getLast? with
 | none => exact push
 | some o =>
   simp only
   by_cases hc : o.k = 1 ∧ o.p = p
   ·rw [if_pos hc]
    have hm := List.mem_of_getLast? hg
    refine ⟨by simp, fun x hx => ?_⟩
    rcases List.mem_append.1 hx with hx | hx
    ·exact h x ((List.dropLast_sublist _).subset hx)
    ·simp at hx; subst hx; exact h o hm
   ·rw [if_neg hc]; exact push
theorem MkB.retain {m : Mk} {K S : Nat} (h : MkB m K S) (n : Int) {p : List Ch} (hp : p.length ≤ S) : MkB (Z0s m n p) (K + 2) S := by
 unfold Z0s
 split
 ·exact h.mono (by omega) (Nat.le_refl _)
 ·obtain ⟨g1, g2⟩ := h.gap
  obtain ⟨a1, a2⟩ := Y4D (n := n) (p := p) g2 hp
  refine ⟨by show (addR _ n p).length + 0 ≤ _; omega, fun o ho => ?_⟩
  have ho' : o ∈ addR (m.done ++ Z03 m) n p := by simpa using ho
  obtain ⟨h1, h2, h3⟩ := a2 o ho'
  exact ⟨by omega, h2, h3⟩
theorem MkB.insert {m : Mk} {K S : Nat} (h : MkB m K S) (l : List Int) {s : List At} (hs : s.length ≤ S) : MkB (Z0F m l s) (K + l.length) S := by
 unfold Z0F
 by_cases hl : l = []
 ·rw [if_pos hl]; exact h.mono (by omega) (Nat.le_refl _)
 ·rw [if_neg hl]
  have hpos : 0 < l.length := List.length_pos_iff.2 hl
  have hlen := h.len
  have base : ∀ o ∈ m.done ++ m.ins, o.r.length ≤ K + l.length ∧ o.s.length ≤ S ∧ o.p.length ≤ S := fun o ho => by obtain ⟨h1, h2, h3⟩ := h.prt o ho; exact ⟨by omega, h2, h3⟩
  have push : MkB { m with ins := m.ins ++ [opI l s] } (K + l.length) S := ⟨by simp; omega, fun o ho => by
   simp only at ho
   rw [← List.append_assoc] at ho
   rcases List.mem_append.1 ho with ho | ho
   ·exact base o ho
   ·simp at ho; subst ho; exact ⟨by simp [opI], hs, Nat.zero_le _⟩⟩
  unfold addI
  cases hg : m.ins.getLast? with
  | none => exact push
  | some o =>
    simp only
    by_cases hc : o.s = s
    ·rw [if_pos hc]
     have hm := List.mem_of_getLast? hg
     have hpi := List.length_pos_of_mem hm
     refine ⟨by simp; omega, fun x hx => ?_⟩
     simp only at hx
     rw [← List.append_assoc] at hx
     rcases List.mem_append.1 hx with hx | hx
     ·refine base x ?_
      rcases List.mem_append.1 hx with hx | hx
      ·exact List.mem_append_left _ hx
      ·exact List.mem_append_right _ ((List.dropLast_sublist _).subset hx)
     ·simp at hx; subst hx
      obtain ⟨h1, h2, h3⟩ := h.prt o (List.mem_append_right _ hm)
      exact ⟨by simp; omega, h2, h3⟩
    ·rw [if_neg hc]; exact push
theorem MkB.delete {m : Mk} {K S : Nat} (h : MkB m K S) (n : Int) : MkB (Z1G m n) K S := ⟨h.len, h.prt⟩
theorem Y4E (d : List Opd) : (cutR d).length ≤ d.length ∧ ∀ o ∈ cutR d, o ∈ d := by
 unfold cutR
 split
 ·split
  ·exact ⟨(List.dropLast_sublist _).length_le, fun o ho => (List.dropLast_sublist _).subset ho⟩
  ·exact ⟨Nat.le_refl _, fun o ho => ho⟩
 ·exact ⟨Nat.le_refl _, fun o ho => ho⟩
theorem MkB.ops {m : Mk} {K S : Nat} (h : MkB m K S) : (Z1u m).length ≤ K + 1 ∧ ∀ o ∈ Z1u m, o.r.length ≤ K ∧ o.s.length ≤ S ∧ o.p.length ≤ S := by
 obtain ⟨g1, g2⟩ := h.gap
 obtain ⟨c1, c2⟩ := Y4E (m.done ++ Z03 m)
 exact ⟨Nat.le_trans c1 g1, fun o ho => g2 o (c2 o ho)⟩
theorem Z6e {P : Un → Prop} (hd : P .del) {us : List Un} (h : ∀ u ∈ us, P u) : ∀ u ∈ nf us, P u := fun u hu => by
 obtain ⟨k, hk⟩ := Z4h (Z16 us)
 refine Z8r hd us [] 0 (by simp) h u ?_
 show u ∈ Z16 us
 rw [hk]; exact List.mem_append_left _ hu
theorem Y58 {x : List OpS} {m : Mk} {us : List Un} {K S : Nat} (hx : osOf x = Z1u m) (ht : Told m us) (hu : ∀ u ∈ us, okUn u) (hB : MkB m K S) (hK : K ≤ 100000000) (hS : S ≤ 100000000) : (∀ o ∈ x, okOp o.o) ∧ x.length ≤ K + 1 := by
 obtain ⟨h1, h2⟩ := ht.ops
 rw [← hx] at h1 h2
 obtain ⟨b1, b2⟩ := hB.ops
 rw [← hx] at b1 b2
 have hn := Z6e (P := okUn) trivial hu
 rw [← h2] at hn
 refine ⟨fun o ho => ?_, by unfold osOf at b1; simpa using b1⟩
 have hom : o.o ∈ osOf x := by unfold osOf; exact List.mem_map_of_mem ho
 obtain ⟨l1, l2, l3⟩ := b2 o.o hom
 have hop := Z4L h1 o.o hom
 have hsub : ∀ u ∈ Z0h o.o, okUn u := fun u hu => hn u (Z11.2 ⟨o, ho, hu⟩)
 have nilr : okVr ([] : List At) := fun c hc => by cases hc
 have nils : okVs ([] : List Ch) := fun c hc => by cases hc
 refine ⟨?_, ?_, by omega, by omega, by omega⟩
 ·rcases Z0q hop with hk | hk | hk
  ·obtain ⟨e, hr⟩ := Z18 hop hk
   cases hr' : o.o.r with
   | nil => exact absurd hr' hr
   | cons r rs => exact hsub (.ins r o.o.s) (by unfold Z0h; rw [if_pos hk, hr']; simp)
  ·obtain ⟨e, hr⟩ := Z2L hop hk
   rw [e]; exact nilr
  ·obtain ⟨e, hr⟩ := Z2g hop hk
   rw [e]; exact nilr
 ·rcases Z0q hop with hk | hk | hk
  ·obtain ⟨e, hr⟩ := Z18 hop hk
   rw [e]; exact nils
  ·obtain ⟨e, hr⟩ := Z2L hop hk
   rw [e]; exact nils
  ·obtain ⟨e, hr⟩ := Z2g hop hk
   obtain ⟨k, hk2⟩ : ∃ k, o.o.n.toNat = k + 1 := ⟨o.o.n.toNat - 1, by omega⟩
   exact hsub (.ret o.o.p) (by unfold Z0h; rw [if_neg (by rw [hk]; decide), if_pos hk, hk2]; simp [List.replicate_succ])
theorem Y59 {w : World} {B : Nat} {A : Option Addr} {c : Nat} {x : List OpS} (ho : OwOs w B (.slice A x.length c) x) (hp : ∀ z ∈ x, ∃ g, PartN w B g z) : RdOp w w.heap.size A x := ⟨ho.rd OpS.enc_len, fun z hz => by
 obtain ⟨g, h1, h2, h3⟩ := hp z hz
 exact ⟨h1.1.rd Z1C, h2.1.rd At.enc_len, h3.1.rd Ch.enc_len⟩⟩
theorem Y4F {w : World} {B B2 : Nat} {A : Option Addr} {c : Nat} {v : Value} {L : List ClS} (ho : OwCs w B (.slice A L.length c) L) (hp : ∀ z ∈ L, PartC w B2 v z) : RdCl w w.heap.size A L ∧ (∀ z ∈ L, z.c.s.length ≤ z.cs ∧ z.cs ≤ maxLen) ∧ L.length ≤ c := ⟨⟨ho.rd ClS.enc_len, fun z hz => (hp z hz).1.rd At.enc_len⟩, fun z hz => by
 obtain ⟨_, _, hv, hc1, hc2⟩ := (hp z hz).1.form
 injection hv with _ _ hcc
 subst hcc
 exact ⟨hc1, hc2⟩, ho.cap.1⟩
theorem Tryz.elOpD : Tryz.prog.elem 37 = 36 := by kernel_rfl
theorem Tryz.szOpD : (Tryz.prog.info? 36).map (·.size) = some 5 := by kernel_rfl
theorem Z7G (W : World) : (sizeOf 36).run Tryz.prog W = .ok 5 W := by
 cases h : Tryz.prog.info? 36 with
 | none => have := Tryz.szOpD; rw [h] at this; cases this
 | some i => have := Tryz.szOpD; rw [h] at this; simp at this; simp [sizeOf, typeInfo, h, this]
structure DocAt (w : World) (A : Option Addr) (n c : Nat) (L : List ClS) : Prop where
 rd : RdCl w w.heap.size A L
 len : n = L.length
 cap : n ≤ c
 caps : ∀ z ∈ L, z.c.s.length ≤ z.cs ∧ z.cs ≤ maxLen
 vr : ∀ z ∈ L, z.c.s.length ≤ 1000000 ∧ okVr z.c.s
 b : n ≤ 20000
structure OpsAt (w : World) (A : Option Addr) (n : Nat) (x : List OpS) : Prop where
 rd : RdOp w w.heap.size A x
 len : n = x.length
 ok : ∀ o ∈ x, okOp o.o
 b : n ≤ 1000000
theorem DocAt.ext {w w' : World} {A : Option Addr} {n c : Nat} {L : List ClS} (h : DocAt w A n c L) (y : Below w.heap.size w w') : DocAt w' A n c L := ⟨h.rd.ext y, h.len, h.cap, h.caps, h.vr, h.b⟩
theorem OpsAt.ext {w w' : World} {A : Option Addr} {n : Nat} {x : List OpS} (h : OpsAt w A n x) (y : Below w.heap.size w w') : OpsAt w' A n x := ⟨h.rd.ext y, h.len, h.ok, h.b⟩
theorem Y6a {L : List ClS} {z : ClS} (h : z ∈ L) : z.c ∈ Z0i L := by unfold Z0i; exact List.mem_map_of_mem h
theorem Y6b {L : List ClS} {c : Cl} (h : c ∈ Z0i L) : ∃ z ∈ L, z.c = c := by
 obtain ⟨z, hz, e⟩ := List.mem_map.1 h
 exact ⟨z, hz, e⟩
theorem DocAt.cvr {w : World} {A : Option Addr} {n c : Nat} {L : List ClS} (h : DocAt w A n c L) : ∀ x ∈ Z0i L, okVr x.s := fun x hx => by
 obtain ⟨z, hz, rfl⟩ := Y6b hx
 exact (h.vr z hz).2
theorem DocAt.clen {w : World} {A : Option Addr} {n c : Nat} {L : List ClS} (h : DocAt w A n c L) : (Z0i L).length = n := by rw [Z0D, ← h.len]
theorem DocAt.made {w : World} {B B2 : Nat} {A : Option Addr} {c : Nat} {v : Value} {L : List ClS} (ho : OwCs w B (.slice A L.length c) L) (hp : ∀ z ∈ L, PartC w B2 v z) (hv : ∀ x ∈ Z0i L, x.s.length ≤ 1000000 ∧ okVr x.s) (hb : L.length ≤ 20000) : DocAt w A L.length c L := by
 obtain ⟨h1, h2, h3⟩ := Y4F ho hp
 exact ⟨h1, rfl, h3, h2, fun z hz => hv _ (Y6a hz), hb⟩
section
variable {w : World} {A B : Option Addr} {n c n2 c2 : Nat} {L M : List ClS}
theorem Y65 {s : Nat} {l : List Ky} (h : DocAt w A n c L) (hS : Sch w s l) (hT : Utf8Tabs 0 1 w) {r : Int} (hr : mayD l (Z0i L) = r) : Calls Tryz.prog 10 #[.pointer (some ⟨s, 0, none⟩), .slice A n c] w fun e w' => e = .returned (.int .i64 r) ∧ Below w.heap.size w w' := by
 have h1 := Z48 s l A n c L w h.len h.rd (by have := h.b; omega) hS (fun x hx => ⟨by have := (h.vr x hx).1; omega, (h.vr x hx).2⟩) hT
 rw [hr] at h1
 exact h1
theorem Z4j {s : Nat} {l : List Ky} {most : Int} {N : Nat} {x : List OpS} (h : DocAt w A n c L) (hx : OpsAt w B n2 x) (hS : Sch w s l) (hT : Utf8Tabs 0 1 w) (hl : l.length ≤ 64) (hmo : N ≤ 10000)
 {us : List Un} (hz : Z00 l x (Z0i L) most = 0) (hN : Z00 l x (Z0i L) (N : Int) = 0) (hu : app l (Z0e (osOf x)) (Z0i L) = app l us (Z0i L)) :
 Calls Tryz.prog 28 #[.pointer (some ⟨s, 0, none⟩), .slice A n c, .slice B n2 c2, .int .i64 most] w (fun e w' => ∃ A c M, e = .returned (.tuple #[.slice A M.length c, .int .i64 0]) ∧ Z0i M = app l us (Z0i L) ∧ mayD l (Z0i M) = 0 ∧ M.length ≤ N ∧ DocAt w' A M.length c M ∧ Below w.heap.size w w') := by
 refine (Z6Z s l A B n c n2 c2 L x most w h.len hx.len h.cap (by have := h.b; omega) (by have := hx.b; omega) h.rd hx.rd hS (fun z hz => ⟨by have := (h.vr z hz).1; omega, (h.vr z hz).2⟩) h.caps hx.ok hT).mono ?_
 rintro e w' ⟨y, ⟨hne, _⟩ | ⟨_, A', c', M, rfl, hM, oM, pM⟩⟩
 ·exact absurd hz hne
 ·obtain ⟨hg, hf, cm⟩ := came hl (by have := hx.b; have := hx.len; omega) (by omega) hx.ok h.cvr hN
  rw [← hM] at cm
  have hlen : M.length ≤ N := by
   have h1 := cm.len
   have h2 := hf.m
   rw [Z0D] at h1
   omega
  exact ⟨A', c', M, rfl, hM.trans hu, cm.may, hlen, DocAt.made oM pM (fun z hz => ⟨by have := cm.s64 z hz; omega, cm.vr z hz⟩) (by omega), y⟩
theorem Y0k {s : Nat} {l : List Ky} {most : Int} {x : List OpS} (h : DocAt w A n c L) (hx : OpsAt w B n2 x) (hS : Sch w s l) (hT : Utf8Tabs 0 1 w) {r : Int} (hr : Z00 l x (Z0i L) most = r) (hz : r ≠ 0) :
 Calls Tryz.prog 28 #[.pointer (some ⟨s, 0, none⟩), .slice A n c, .slice B n2 c2, .int .i64 most] w (fun e w' => e = .returned (.tuple #[.slice none 0 0, .int .i64 r]) ∧ Below w.heap.size w w') := by
 refine (Z6Z s l A B n c n2 c2 L x most w h.len hx.len h.cap (by have := h.b; omega) (by have := hx.b; omega) h.rd hx.rd hS (fun z hz => ⟨by have := (h.vr z hz).1; omega, (h.vr z hz).2⟩) h.caps hx.ok hT).mono ?_
 rintro e w' ⟨y, ⟨_, rfl⟩ | ⟨h0, _⟩⟩
 ·exact ⟨by rw [hr], y⟩
 ·exact absurd (hr.symm.trans h0) hz
end
open Go.RowKit
set_option linter.unusedVariables false
set_option linter.unusedSimpArgs false
def Y4G (n : Nat) (l : List ClS) (lim : Int) (w : World) (e : Ending) (w' : World) : Prop :=
 ∃ b : Bool, e = .returned (.bool b) ∧ (b = false → (n : Int) ≤ lim ∧ ∀ x ∈ l, x.c.s.length ≤ 64) ∧ ∃ d, w' = w.drewN d
theorem Z9p (A : Option Addr) (n c : Nat) (l : List ClS) (lim : Int) (w : World) (hn : n = l.length) (h : RdCl w w.heap.size A l) (hb : n ≤ 140737488355328) (hs : ∀ x ∈ l, x.c.s.length ≤ 140737488355328) :
 Calls Tryz.prog 30 #[.slice A n c, .int .i64 lim] w (Y4G n l lim w) := by
 have N := hid hn
 have HR := hid h
 have HS := hid hs
 clear hn h hs
 by_cases hl : lim < (n : Int)
 ·go_enter Tryz.func30, Tryz.ntmps30
  go_wp2_with (fail)
  go_ret
  exact ⟨true, rfl, (by intro h; cases h), 0, rfl⟩
 have hle : (n : Int) ≤ lim := by omega
 go_enter Tryz.func30, Tryz.ntmps30
 go_wp2_with (fail)
 go_loopg [5, 6] n (fun g av iv wr => ∃ (m : Nat) (a : Int), m ≤ n ∧ g = n - m ∧ av = .int .i64 a ∧ iv = .int .i64 (m : Int) ∧ (∃ d, wr = w.drewN d) ∧ Hid (∀ x ∈ l.take m, x.c.s.length ≤ 64))
 case atStart => exact ⟨0, 0, by omega, rfl, rfl, rfl, ⟨0, rfl⟩, hid (by simp)⟩
 case round =>
  obtain ⟨m, a, hm, hg, rfl, rfl, ⟨d, rfl⟩, HI⟩ := hrel
  have HG := hid hg
  clear hg
  by_cases hlt : m < n
  ·have hl1 : m < l.length := by have := N.out; omega
   obtain ⟨ad, o, had0, had, hd1, hx1, hc0⟩ := HR.out.1.el hl1
   subst had0
   have hmem := List.mem_of_getElem? hx1
   have g2 := HR.out.2 o hmem
   have hso := HS.out o hmem
   have HT : Hid (l.take (m + 1) = l.take m ++ [o]) := hid (by rw [List.take_add_one, hx1]; rfl)
   obtain ⟨⟨r, s⟩, As, cs⟩ := o
   simp only at g2 hso
   obtain ⟨r0, r1⟩ := Z1I hc0
   obtain ⟨ns, hns⟩ : ∃ X, s.length = X := ⟨_, rfl⟩
   have NS := hid hns
   rw [hns] at r1 hso
   have hw2 : IntKind.i64.wrap ((m:Int) + 1) = (m : Int) + 1 := IntWalk.i64_in _ (by omega)
   clear hc0 hd1 hx1 hmem hns hl1
   by_cases h64 : (64 : Int) < (ns : Int)
   ·go_wp2_with (fail)
    go_ret
    exact ⟨true, rfl, (by intro h; cases h), _, rfl⟩
   ·have h64' : Hid (s.length ≤ 64) := hid (by rw [NS.out]; omega)
    go_wp2_with (fail)
    go_loopg [5, 7] ns (fun g av iv wi => ∃ (j : Nat) (b : Int), j ≤ ns ∧ g = ns - j ∧ av = .int .i64 b ∧ iv = .int .i64 (j : Int) ∧ ∃ d, wi = w.drewN d)
    case atStart => exact ⟨0, _, by omega, rfl, rfl, rfl, _, rfl⟩
    case round =>
     obtain ⟨j, b, hj, hg2, rfl, rfl, d2, rfl⟩ := hrel
     have HG2 := hid hg2
     clear hg2
     by_cases hls : j < ns
     ·obtain ⟨ad2, z, e2, _, _, _, hz⟩ := g2.el (i := j) (by have := NS.out; omega)
      subst e2
      obtain ⟨z1, z2, z3, z4, z5⟩ := z
      obtain ⟨s0, s1, s2, s3, s4⟩ := Z1b hz
      have hw3 : IntKind.i64.wrap ((j:Int) + 1) = (j : Int) + 1 := IntWalk.i64_in _ (by omega)
      clear hz
      go_wp2_with (fail)
      go_roundg (ns - (j + 1))
      case measure => have := HG2.out; omega
      case rel => exact ⟨j + 1, _, by omega, rfl, rfl, by go_num, _, rfl⟩
     ·go_wp2_with (fail)
      go_roundg (n - (m + 1))
      case measure => have := HG.out; omega
      case rel =>
       refine ⟨m + 1, _, by omega, rfl, rfl, by go_num, ⟨_, rfl⟩, hid ?_⟩
       intro y hy
       rw [HT.out] at hy
       rcases List.mem_append.1 hy with hy | hy
       ·exact HI.out y hy
       ·simp at hy; subst hy; exact h64'.out
  ·have hmn : l.take m = l := List.take_of_length_le (by have := N.out; omega)
   have HI2 := HI.out
   rw [hmn] at HI2
   have H2 := hid HI2
   clear HI2 hmn
   go_wp2_with (fail)
   go_ret
   exact ⟨_, rfl, fun _ => ⟨hle, H2.out⟩, _, rfl⟩
def CellsIn (w : World) (p : Addr) (cs : List Value) : Prop := p.block < w.heap.size ∧ CellsAt w p cs
theorem CellsIn.ext {w w' : World} {p : Addr} {cs : List Value} (h : CellsIn w p cs) (y : Below w.heap.size w w') : CellsIn w' p cs :=
 ⟨Nat.lt_of_lt_of_le h.1 y.size, h.2.keep fun q hq => y.cell (by rw [hq]; exact h.1)⟩
theorem Rd.elIn {α : Type} {enc : α → List Value} {size : Nat} {w : World} {A : Option Addr} {l : List α} (h : Rd enc size w w.heap.size A l) {i : Nat} (hi : i < l.length) :
 ∃ ad a, A = some ad ∧ l.drop i = a :: l.drop (i + 1) ∧ l[i]? = some a ∧ CellsIn w (ad.add (i * size)) (enc a) := by
 obtain ⟨ad, a, h1, h2, h3, h4, h5⟩ := h.el hi
 exact ⟨ad, a, h1, h3, h4, by rw [Z0U]; exact h2, h5⟩
theorem Y4H {w w' : World} {d : Nat} (h : w' = w.drewN d) : Below w.heap.size w w' := by subst h; exact Z0p w d
end Go.Proofs.YtnmedachaeanbaaGreatDoor
