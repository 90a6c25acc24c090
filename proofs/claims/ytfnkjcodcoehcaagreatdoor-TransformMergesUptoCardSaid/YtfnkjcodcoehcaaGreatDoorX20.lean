/- Merged texts. -/
import Derived.Test.YtfnkjcodcoehcaaGreatDoorX19
namespace Go.Proofs.YtfnkjcodcoehcaaGreatDoor
set_option maxRecDepth 100000
set_option maxHeartbeats 1600000
open Go.RowKit
open Go.Lib (hid Utf8Tabs)
set_option linter.unusedVariables false
set_option linter.unusedSimpArgs false
theorem PartN.base_le {w : World} {B B' g : Nat} {x : OpS} (h : PartN w B g x) (hb : B' ≤ B) : PartN w B' g x :=
 ⟨⟨h.1.1.base_le hb, h.1.2⟩, ⟨h.2.1.1.base_le hb, h.2.1.2⟩, ⟨h.2.2.1.base_le hb, h.2.2.2⟩⟩
theorem NewOps.late {o : List Opd} {w w2 : World} (y : Below w.heap.size w w2) {e : Ending} {w3 : World} (h : NewOps o w2 e w3) : NewOps o w e w3 := by
 obtain ⟨A, c, l, h1, h2, h3, h4, h5⟩ := h
 exact ⟨A, c, l, h1, h2, h3.base_le y.size, fun x hx => (h4 x hx).imp fun g p => p.base_le y.size, Z0a y h5⟩
theorem Mkr.sub {w : World} {F : Nat → Prop} {b : Nat} {vd vi : Value} {D I : List OpS} (h10 : ∀ x ∈ D, PartF w F x) (h11 : InsF w F b vd vi I) (g : Int) : Sub w w.heap.size (D ++ gapS I g) := by
 intro x hx
 rcases List.mem_append.1 hx with hx | hx
 ·have := h10 x hx; exact ⟨this.1.1, this.2.1.1, this.2.2.1⟩
 ·unfold gapS at hx
  rcases List.mem_append.1 hx with hx | hx
  ·rcases List.eq_nil_or_concat I with h0 | ⟨t, z, h0⟩
   ·rw [h0] at hx; cases hx
   ·rw [List.concat_eq_append] at h0
    have hx' := hx
    rw [h0] at hx'
    rcases List.mem_append.1 hx' with hx' | hx'
    ·have := h11.1 x (by rw [h0]; simpa using hx'); exact ⟨this.1.1, this.2.1.1, this.2.2.1⟩
    ·simp at hx'; subst hx'
     have := h11.2 x (by rw [h0]; simp)
     exact ⟨this.1.rd Z08, this.2.2.1.1, this.2.2.2.1⟩
  ·split at hx
   ·simp at hx; subst hx
    exact ⟨Rd.nil, Rd.nil, Rd.nil⟩
   ·cases hx
theorem Y5s (b : Nat) (w : World) (F : Nat → Prop) (m : Mk) (h : Mkr w F b m) (hmb : m.done.length + m.ins.length ≤ 10000000)
 (hs : ∀ o ∈ m.done ++ Z09 m, o.r.length ≤ 100000000 ∧ o.s.length ≤ 100000000 ∧ o.p.length ≤ 100000000) (h0 : m.done ++ Z09 m = []) :
 Calls Tryz.prog 77 #[.pointer (some ⟨b, 0, none⟩)] w (NewOps (Z1z m) w) := by
 obtain ⟨vd, vi, D, I, h1, h2, h3, h4, h5, h6, h7, h8, h9, h10, h11⟩ := h
 obtain ⟨Ad, cd, rfl, _, _⟩ := h2.form
 obtain ⟨Ai, ci, rfl, _, _⟩ := h3.form
 have HD := hid (show D.length ≤ 10000000 by rw [← h4, ← h5] at hmb; simp [osOf] at hmb; omega)
 have HI := hid (show I.length ≤ 10000000 by rw [← h4, ← h5] at hmb; simp [osOf] at hmb; omega)
 have H1 := hid h1
 have H2 := hid h2
 have H3 := hid h3
 have hlt := Z0c h1
 obtain ⟨c0, c1, c2⟩ := Z1e h1
 have HSUB := hid (Mkr.sub h10 h11 m.gone)
 have HL0 : Hid (osOf (D ++ gapS I m.gone) = m.done ++ Z09 m) := hid (by
  unfold osOf; rw [List.map_append]; show osOf D ++ osOf (gapS I m.gone) = _; rw [Z3A, h4, h5]; rfl)
 have HSZ : Hid (∀ x ∈ D ++ gapS I m.gone, x.o.r.length ≤ 100000000 ∧ x.o.s.length ≤ 100000000 ∧ x.o.p.length ≤ 100000000) := hid (fun x hx => hs x.o (by
  rw [← HL0.out]; unfold osOf; exact List.mem_map_of_mem hx))
 have HL : Hid (D ++ gapS I m.gone = []) := hid (by have e := HL0.out; rw [h0] at e; unfold osOf at e; simpa using e)
 have HM : Hid (osOf (D ++ gapS I m.gone) = Z1z m) := hid (by rw [HL0.out]; unfold Z1z; rw [h0]; rfl)
 clear h1 h2 h3 h4 h5 hmb hs h6 h7 h8 h9 h10 h11 h0
 generalize hgone : m.gone = gone at *
 have HGO := hid hgone
 clear hgone
 go_enter Tryz.func77, Tryz.ntmps77
 go_wp2_with (fail)
 go_region_law (first
  | (refine Z0M rfl 152 [.tmp 11] #[115] rfl Tryz.f152 (by kernel_rfl) (by kernel_rfl) (by kernel_rfl) [.pointer (some ⟨b, 0, none⟩)] (by rfl) (Z3B b (.slice Ad D.length cd) Ai I.length ci gone I w.drew H1.out rfl (H3.out.rd OpS.enc_len) (by have := HI.out; omega)) ?_
     rintro e w1 ⟨A1, k1, rfl, o1, y1⟩
     refine ⟨_, rfl, ?_⟩
     have hb1 := (y1.block b hlt).trans H1.out
     obtain ⟨d0, d1, d2⟩ := Z1e hb1
     have O1 := hid o1
     have Y1 : Hid (Below w.heap.size w w1) := hid ((Z0j (Below.refl _ _)).trans y1)
     clear hb1 o1 y1)
  | (refine Z0M rfl 156 [.tmp 13] #[126] rfl Tryz.f156 (by kernel_rfl) (by kernel_rfl) (by kernel_rfl) [.slice (some ⟨w1.heap.size, 0, none⟩) 2 2] (by rfl) (Z2L (some ⟨w1.heap.size, 0, none⟩) 2 2 [⟨Ad, D, cd⟩, ⟨A1, gapS I gone, k1⟩] (w1.alloc (.cells #[.slice Ad D.length cd, .slice A1 (gapS I gone).length k1] 44)) rfl (Rd.new (enc := RwS.enc) (size := 1) (fun _ => rfl) w1 _ _ rfl rfl) (fun x hx => by
   have yy := Z0b w1 (.cells #[.slice Ad D.length cd, .slice A1 (gapS I gone).length k1] 44)
   rcases List.mem_cons.1 hx with rfl | hx
   ·exact ((H2.out.below Y1.out (Nat.le_refl _)).rd OpS.enc_len).ext yy
   ·simp at hx; subst hx; exact (O1.out.rd OpS.enc_len).ext yy) (by omega) (fun x hx => by
   have := HD.out; have := HI.out; have := Z1r I gone
   rcases List.mem_cons.1 hx with rfl | hx
   ·simp only; omega
   ·simp at hx; subst hx; simp only; omega)) ?_
     rintro e w2 ⟨A2, k2, he, o2, y2⟩
     have eL : [(⟨Ad, D, cd⟩ : RwS), ⟨A1, gapS I gone, k1⟩].flatMap (fun x => x.l) = D ++ gapS I gone := by simp
     rw [eL] at he o2
     generalize hnl : (D ++ gapS I gone).length = nl at he o2
     subst he
     refine ⟨_, rfl, ?_⟩
     have hnlb : nl ≤ 20000001 := by rw [← hnl, List.length_append]; have := HD.out; have := HI.out; have := Z1r I gone; omega
     have HNL := hid hnl
     have O2 := hid o2
     have Y2 : Hid (Below w.heap.size w w2) := hid (Z0a Y1.out (Z0a (Z0b w1 _) y2))
     clear o2 y2 hnl eL)
  )
 all_goals
  have hnl0 : nl = 0 := by have := HNL.out; rw [HL.out] at this; exact this.symm
  subst hnl0
  go_wp2_with (go_at_call 157; refine Hid.out ?_)
  refine hid ?_
  refine (Z3e _ _ k2 (D ++ gapS I gone) _ HNL.out.symm ⟨O2.out.rd OpS.enc_len, fun x hx => (HSUB.out.ext Y2.out) x hx⟩ (by omega) (fun x hx => HSZ.out x hx)).mono ?_
  intro e w3 hN
  have hM := NewOps.late Y2.out hN
  clear hN
  rw [HM.out] at hM
  obtain ⟨A3, k3, l3, rfl, hM2⟩ := hM
  go_wp2_with (fail)
  go_ret
  exact ⟨A3, k3, l3, rfl, hM2⟩
theorem Y4m (b : Nat) (w : World) (F : Nat → Prop) (m : Mk) (h : Mkr w F b m) (hmb : m.done.length + m.ins.length ≤ 10000000)
 (hs : ∀ o ∈ m.done ++ Z09 m, o.r.length ≤ 100000000 ∧ o.s.length ≤ 100000000 ∧ o.p.length ≤ 100000000) (o : Opd) (h0 : (m.done ++ Z09 m).getLast? = some o) (hk : ¬ o.k = 1) :
 Calls Tryz.prog 77 #[.pointer (some ⟨b, 0, none⟩)] w (NewOps (Z1z m) w) := by
 obtain ⟨vd, vi, D, I, h1, h2, h3, h4, h5, h6, h7, h8, h9, h10, h11⟩ := h
 obtain ⟨Ad, cd, rfl, _, _⟩ := h2.form
 obtain ⟨Ai, ci, rfl, _, _⟩ := h3.form
 have HD := hid (show D.length ≤ 10000000 by rw [← h4, ← h5] at hmb; simp [osOf] at hmb; omega)
 have HI := hid (show I.length ≤ 10000000 by rw [← h4, ← h5] at hmb; simp [osOf] at hmb; omega)
 have H1 := hid h1
 have H2 := hid h2
 have H3 := hid h3
 have hlt := Z0c h1
 obtain ⟨c0, c1, c2⟩ := Z1e h1
 have HSUB := hid (Mkr.sub h10 h11 m.gone)
 have HL0 : Hid (osOf (D ++ gapS I m.gone) = m.done ++ Z09 m) := hid (by
  unfold osOf; rw [List.map_append]; show osOf D ++ osOf (gapS I m.gone) = _; rw [Z3A, h4, h5]; rfl)
 have HSZ : Hid (∀ x ∈ D ++ gapS I m.gone, x.o.r.length ≤ 100000000 ∧ x.o.s.length ≤ 100000000 ∧ x.o.p.length ≤ 100000000) := hid (fun x hx => hs x.o (by
  rw [← HL0.out]; unfold osOf; exact List.mem_map_of_mem hx))
 have H0 : Hid ((osOf (D ++ gapS I m.gone)).getLast? = some o) := hid (by rw [HL0.out]; exact h0)
 have HM : Hid (osOf (D ++ gapS I m.gone) = Z1z m) := hid (by rw [HL0.out]; unfold Z1z cutR; rw [h0]; simp only; rw [if_neg (fun h => hk h.1)])
 have HK := hid hk
 clear h1 h2 h3 h4 h5 hmb hs h6 h7 h8 h9 h10 h11 h0 hk
 generalize hgone : m.gone = gone at *
 have HGO := hid hgone
 clear hgone
 go_enter Tryz.func77, Tryz.ntmps77
 go_wp2_with (fail)
 go_region_law (first
  | (refine Z0M rfl 152 [.tmp 11] #[115] rfl Tryz.f152 (by kernel_rfl) (by kernel_rfl) (by kernel_rfl) [.pointer (some ⟨b, 0, none⟩)] (by rfl) (Z3B b (.slice Ad D.length cd) Ai I.length ci gone I w.drew H1.out rfl (H3.out.rd OpS.enc_len) (by have := HI.out; omega)) ?_
     rintro e w1 ⟨A1, k1, rfl, o1, y1⟩
     refine ⟨_, rfl, ?_⟩
     have hb1 := (y1.block b hlt).trans H1.out
     obtain ⟨d0, d1, d2⟩ := Z1e hb1
     have O1 := hid o1
     have Y1 : Hid (Below w.heap.size w w1) := hid ((Z0j (Below.refl _ _)).trans y1)
     clear hb1 o1 y1)
  | (refine Z0M rfl 156 [.tmp 13] #[126] rfl Tryz.f156 (by kernel_rfl) (by kernel_rfl) (by kernel_rfl) [.slice (some ⟨w1.heap.size, 0, none⟩) 2 2] (by rfl) (Z2L (some ⟨w1.heap.size, 0, none⟩) 2 2 [⟨Ad, D, cd⟩, ⟨A1, gapS I gone, k1⟩] (w1.alloc (.cells #[.slice Ad D.length cd, .slice A1 (gapS I gone).length k1] 44)) rfl (Rd.new (enc := RwS.enc) (size := 1) (fun _ => rfl) w1 _ _ rfl rfl) (fun x hx => by
   have yy := Z0b w1 (.cells #[.slice Ad D.length cd, .slice A1 (gapS I gone).length k1] 44)
   rcases List.mem_cons.1 hx with rfl | hx
   ·exact ((H2.out.below Y1.out (Nat.le_refl _)).rd OpS.enc_len).ext yy
   ·simp at hx; subst hx; exact (O1.out.rd OpS.enc_len).ext yy) (by omega) (fun x hx => by
   have := HD.out; have := HI.out; have := Z1r I gone
   rcases List.mem_cons.1 hx with rfl | hx
   ·simp only; omega
   ·simp at hx; subst hx; simp only; omega)) ?_
     rintro e w2 ⟨A2, k2, he, o2, y2⟩
     have eL : [(⟨Ad, D, cd⟩ : RwS), ⟨A1, gapS I gone, k1⟩].flatMap (fun x => x.l) = D ++ gapS I gone := by simp
     rw [eL] at he o2
     generalize hnl : (D ++ gapS I gone).length = nl at he o2
     subst he
     refine ⟨_, rfl, ?_⟩
     have hnlb : nl ≤ 20000001 := by rw [← hnl, List.length_append]; have := HD.out; have := HI.out; have := Z1r I gone; omega
     have HNL := hid hnl
     have O2 := hid o2
     have Y2 : Hid (Below w.heap.size w w2) := hid (Z0a Y1.out (Z0a (Z0b w1 _) y2))
     clear o2 y2 hnl eL)
  )
 all_goals
  obtain ⟨g, x, hnp1, hA', hx, hxo, hLx, ⟨cur, hg⟩, hcx⟩ := Z20 O2.out HNL.out H0.out
  subst hA'
  obtain ⟨⟨xk, xn, xr, xs, xp⟩, Ar, cr, As, cs, Aq, cq⟩ := x
  obtain ⟨z0, z1, z2, z3, z4⟩ := Z0o hcx
  have e1 : (1 : Int) ≤ (nl : Int) := by omega
  have e2 : (nl : Int) - 1 < (nl : Int) := by omega
  have hko : xk = o.k := by rw [← hxo]
  have hpo : xp = o.p := by rw [← hxo]
  clear hcx hLx hx hxo hg
  have hk1 : (xk == 1) = false := beq_eq_false_iff_ne.2 (by rw [hko]; exact HK.out)
  clear hko hpo
  go_wp2_with (go_at_call 157; refine Hid.out ?_)
  refine hid ?_
  refine (Z3e _ _ k2 (D ++ gapS I gone) _ HNL.out.symm ⟨O2.out.rd OpS.enc_len, fun x hx => (HSUB.out.ext Y2.out) x hx⟩ (by omega) (fun x hx => HSZ.out x hx)).mono ?_
  intro e w3 hN
  have hM := NewOps.late Y2.out hN
  clear hN
  rw [HM.out] at hM
  obtain ⟨A3, k3, l3, rfl, hM2⟩ := hM
  go_wp2_with (fail)
  go_ret
  exact ⟨A3, k3, l3, rfl, hM2⟩
theorem Y2E (b : Nat) (w : World) (F : Nat → Prop) (m : Mk) (h : Mkr w F b m) (hmb : m.done.length + m.ins.length ≤ 10000000)
 (hs : ∀ o ∈ m.done ++ Z09 m, o.r.length ≤ 100000000 ∧ o.s.length ≤ 100000000 ∧ o.p.length ≤ 100000000) (o : Opd) (h0 : (m.done ++ Z09 m).getLast? = some o) (hk : o.k = 1) (hp : ¬ o.p = []) :
 Calls Tryz.prog 77 #[.pointer (some ⟨b, 0, none⟩)] w (NewOps (Z1z m) w) := by
 obtain ⟨vd, vi, D, I, h1, h2, h3, h4, h5, h6, h7, h8, h9, h10, h11⟩ := h
 obtain ⟨Ad, cd, rfl, _, _⟩ := h2.form
 obtain ⟨Ai, ci, rfl, _, _⟩ := h3.form
 have HD := hid (show D.length ≤ 10000000 by rw [← h4, ← h5] at hmb; simp [osOf] at hmb; omega)
 have HI := hid (show I.length ≤ 10000000 by rw [← h4, ← h5] at hmb; simp [osOf] at hmb; omega)
 have H1 := hid h1
 have H2 := hid h2
 have H3 := hid h3
 have hlt := Z0c h1
 obtain ⟨c0, c1, c2⟩ := Z1e h1
 have HSUB := hid (Mkr.sub h10 h11 m.gone)
 have HL0 : Hid (osOf (D ++ gapS I m.gone) = m.done ++ Z09 m) := hid (by
  unfold osOf; rw [List.map_append]; show osOf D ++ osOf (gapS I m.gone) = _; rw [Z3A, h4, h5]; rfl)
 have HSZ : Hid (∀ x ∈ D ++ gapS I m.gone, x.o.r.length ≤ 100000000 ∧ x.o.s.length ≤ 100000000 ∧ x.o.p.length ≤ 100000000) := hid (fun x hx => hs x.o (by
  rw [← HL0.out]; unfold osOf; exact List.mem_map_of_mem hx))
 have H0 : Hid ((osOf (D ++ gapS I m.gone)).getLast? = some o) := hid (by rw [HL0.out]; exact h0)
 have HM : Hid (osOf (D ++ gapS I m.gone) = Z1z m) := hid (by rw [HL0.out]; unfold Z1z cutR; rw [h0]; simp only; rw [if_neg (fun h => hp h.2)])
 have HK := hid hk
 have HP := hid hp
 clear h1 h2 h3 h4 h5 hmb hs h6 h7 h8 h9 h10 h11 h0 hk hp
 generalize hgone : m.gone = gone at *
 have HGO := hid hgone
 clear hgone
 go_enter Tryz.func77, Tryz.ntmps77
 go_wp2_with (fail)
 go_region_law (first
  | (refine Z0M rfl 152 [.tmp 11] #[115] rfl Tryz.f152 (by kernel_rfl) (by kernel_rfl) (by kernel_rfl) [.pointer (some ⟨b, 0, none⟩)] (by rfl) (Z3B b (.slice Ad D.length cd) Ai I.length ci gone I w.drew H1.out rfl (H3.out.rd OpS.enc_len) (by have := HI.out; omega)) ?_
     rintro e w1 ⟨A1, k1, rfl, o1, y1⟩
     refine ⟨_, rfl, ?_⟩
     have hb1 := (y1.block b hlt).trans H1.out
     obtain ⟨d0, d1, d2⟩ := Z1e hb1
     have O1 := hid o1
     have Y1 : Hid (Below w.heap.size w w1) := hid ((Z0j (Below.refl _ _)).trans y1)
     clear hb1 o1 y1)
  | (refine Z0M rfl 156 [.tmp 13] #[126] rfl Tryz.f156 (by kernel_rfl) (by kernel_rfl) (by kernel_rfl) [.slice (some ⟨w1.heap.size, 0, none⟩) 2 2] (by rfl) (Z2L (some ⟨w1.heap.size, 0, none⟩) 2 2 [⟨Ad, D, cd⟩, ⟨A1, gapS I gone, k1⟩] (w1.alloc (.cells #[.slice Ad D.length cd, .slice A1 (gapS I gone).length k1] 44)) rfl (Rd.new (enc := RwS.enc) (size := 1) (fun _ => rfl) w1 _ _ rfl rfl) (fun x hx => by
   have yy := Z0b w1 (.cells #[.slice Ad D.length cd, .slice A1 (gapS I gone).length k1] 44)
   rcases List.mem_cons.1 hx with rfl | hx
   ·exact ((H2.out.below Y1.out (Nat.le_refl _)).rd OpS.enc_len).ext yy
   ·simp at hx; subst hx; exact (O1.out.rd OpS.enc_len).ext yy) (by omega) (fun x hx => by
   have := HD.out; have := HI.out; have := Z1r I gone
   rcases List.mem_cons.1 hx with rfl | hx
   ·simp only; omega
   ·simp at hx; subst hx; simp only; omega)) ?_
     rintro e w2 ⟨A2, k2, he, o2, y2⟩
     have eL : [(⟨Ad, D, cd⟩ : RwS), ⟨A1, gapS I gone, k1⟩].flatMap (fun x => x.l) = D ++ gapS I gone := by simp
     rw [eL] at he o2
     generalize hnl : (D ++ gapS I gone).length = nl at he o2
     subst he
     refine ⟨_, rfl, ?_⟩
     have hnlb : nl ≤ 20000001 := by rw [← hnl, List.length_append]; have := HD.out; have := HI.out; have := Z1r I gone; omega
     have HNL := hid hnl
     have O2 := hid o2
     have Y2 : Hid (Below w.heap.size w w2) := hid (Z0a Y1.out (Z0a (Z0b w1 _) y2))
     clear o2 y2 hnl eL)
  )
 all_goals
  obtain ⟨g, x, hnp1, hA', hx, hxo, hLx, ⟨cur, hg⟩, hcx⟩ := Z20 O2.out HNL.out H0.out
  subst hA'
  obtain ⟨⟨xk, xn, xr, xs, xp⟩, Ar, cr, As, cs, Aq, cq⟩ := x
  obtain ⟨z0, z1, z2, z3, z4⟩ := Z0o hcx
  have e1 : (1 : Int) ≤ (nl : Int) := by omega
  have e2 : (nl : Int) - 1 < (nl : Int) := by omega
  have hko : xk = o.k := by rw [← hxo]
  have hpo : xp = o.p := by rw [← hxo]
  clear hcx hLx hx hxo hg
  have hk1 : xk = 1 := by rw [hko]; exact HK.out
  clear hko
  subst hk1
  have hp1 : ((xp.length : Int) == 0) = false := beq_eq_false_iff_ne.2 (by rw [hpo]; intro e; exact HP.out (List.eq_nil_of_length_eq_zero (by omega)))
  clear hpo
  go_wp2_with (go_at_call 157; refine Hid.out ?_)
  refine hid ?_
  refine (Z3e _ _ k2 (D ++ gapS I gone) _ HNL.out.symm ⟨O2.out.rd OpS.enc_len, fun x hx => (HSUB.out.ext Y2.out) x hx⟩ (by omega) (fun x hx => HSZ.out x hx)).mono ?_
  intro e w3 hN
  have hM := NewOps.late Y2.out hN
  clear hN
  rw [HM.out] at hM
  obtain ⟨A3, k3, l3, rfl, hM2⟩ := hM
  go_wp2_with (fail)
  go_ret
  exact ⟨A3, k3, l3, rfl, hM2⟩
theorem Y5t (b : Nat) (w : World) (F : Nat → Prop) (m : Mk) (h : Mkr w F b m) (hmb : m.done.length + m.ins.length ≤ 10000000)
 (hs : ∀ o ∈ m.done ++ Z09 m, o.r.length ≤ 100000000 ∧ o.s.length ≤ 100000000 ∧ o.p.length ≤ 100000000) (o : Opd) (h0 : (m.done ++ Z09 m).getLast? = some o) (hk : o.k = 1) (hp : o.p = []) :
 Calls Tryz.prog 77 #[.pointer (some ⟨b, 0, none⟩)] w (NewOps (Z1z m) w) := by
 obtain ⟨vd, vi, D, I, h1, h2, h3, h4, h5, h6, h7, h8, h9, h10, h11⟩ := h
 obtain ⟨Ad, cd, rfl, _, _⟩ := h2.form
 obtain ⟨Ai, ci, rfl, _, _⟩ := h3.form
 have HD := hid (show D.length ≤ 10000000 by rw [← h4, ← h5] at hmb; simp [osOf] at hmb; omega)
 have HI := hid (show I.length ≤ 10000000 by rw [← h4, ← h5] at hmb; simp [osOf] at hmb; omega)
 have H1 := hid h1
 have H2 := hid h2
 have H3 := hid h3
 have hlt := Z0c h1
 obtain ⟨c0, c1, c2⟩ := Z1e h1
 have HSUB := hid (Mkr.sub h10 h11 m.gone)
 have HL0 : Hid (osOf (D ++ gapS I m.gone) = m.done ++ Z09 m) := hid (by
  unfold osOf; rw [List.map_append]; show osOf D ++ osOf (gapS I m.gone) = _; rw [Z3A, h4, h5]; rfl)
 have HSZ : Hid (∀ x ∈ D ++ gapS I m.gone, x.o.r.length ≤ 100000000 ∧ x.o.s.length ≤ 100000000 ∧ x.o.p.length ≤ 100000000) := hid (fun x hx => hs x.o (by
  rw [← HL0.out]; unfold osOf; exact List.mem_map_of_mem hx))
 have H0 : Hid ((osOf (D ++ gapS I m.gone)).getLast? = some o) := hid (by rw [HL0.out]; exact h0)
 have HM : Hid (osOf ((D ++ gapS I m.gone).take ((D ++ gapS I m.gone).length - 1)) = Z1z m) := hid (by rw [← List.dropLast_eq_take]; unfold osOf; rw [List.map_dropLast]; show (osOf _).dropLast = _; rw [HL0.out]; unfold Z1z cutR; rw [h0]; simp only; rw [if_pos ⟨hk, hp⟩])
 have HK := hid hk
 have HP := hid hp
 clear h1 h2 h3 h4 h5 hmb hs h6 h7 h8 h9 h10 h11 h0 hk hp
 generalize hgone : m.gone = gone at *
 have HGO := hid hgone
 clear hgone
 go_enter Tryz.func77, Tryz.ntmps77
 go_wp2_with (fail)
 go_region_law (first
  | (refine Z0M rfl 152 [.tmp 11] #[115] rfl Tryz.f152 (by kernel_rfl) (by kernel_rfl) (by kernel_rfl) [.pointer (some ⟨b, 0, none⟩)] (by rfl) (Z3B b (.slice Ad D.length cd) Ai I.length ci gone I w.drew H1.out rfl (H3.out.rd OpS.enc_len) (by have := HI.out; omega)) ?_
     rintro e w1 ⟨A1, k1, rfl, o1, y1⟩
     refine ⟨_, rfl, ?_⟩
     have hb1 := (y1.block b hlt).trans H1.out
     obtain ⟨d0, d1, d2⟩ := Z1e hb1
     have O1 := hid o1
     have Y1 : Hid (Below w.heap.size w w1) := hid ((Z0j (Below.refl _ _)).trans y1)
     clear hb1 o1 y1)
  | (refine Z0M rfl 156 [.tmp 13] #[126] rfl Tryz.f156 (by kernel_rfl) (by kernel_rfl) (by kernel_rfl) [.slice (some ⟨w1.heap.size, 0, none⟩) 2 2] (by rfl) (Z2L (some ⟨w1.heap.size, 0, none⟩) 2 2 [⟨Ad, D, cd⟩, ⟨A1, gapS I gone, k1⟩] (w1.alloc (.cells #[.slice Ad D.length cd, .slice A1 (gapS I gone).length k1] 44)) rfl (Rd.new (enc := RwS.enc) (size := 1) (fun _ => rfl) w1 _ _ rfl rfl) (fun x hx => by
   have yy := Z0b w1 (.cells #[.slice Ad D.length cd, .slice A1 (gapS I gone).length k1] 44)
   rcases List.mem_cons.1 hx with rfl | hx
   ·exact ((H2.out.below Y1.out (Nat.le_refl _)).rd OpS.enc_len).ext yy
   ·simp at hx; subst hx; exact (O1.out.rd OpS.enc_len).ext yy) (by omega) (fun x hx => by
   have := HD.out; have := HI.out; have := Z1r I gone
   rcases List.mem_cons.1 hx with rfl | hx
   ·simp only; omega
   ·simp at hx; subst hx; simp only; omega)) ?_
     rintro e w2 ⟨A2, k2, he, o2, y2⟩
     have eL : [(⟨Ad, D, cd⟩ : RwS), ⟨A1, gapS I gone, k1⟩].flatMap (fun x => x.l) = D ++ gapS I gone := by simp
     rw [eL] at he o2
     generalize hnl : (D ++ gapS I gone).length = nl at he o2
     subst he
     refine ⟨_, rfl, ?_⟩
     have hnlb : nl ≤ 20000001 := by rw [← hnl, List.length_append]; have := HD.out; have := HI.out; have := Z1r I gone; omega
     have HNL := hid hnl
     have O2 := hid o2
     have Y2 : Hid (Below w.heap.size w w2) := hid (Z0a Y1.out (Z0a (Z0b w1 _) y2))
     clear o2 y2 hnl eL)
  )
 all_goals
  obtain ⟨g, x, hnp1, hA', hx, hxo, hLx, ⟨cur, hg⟩, hcx⟩ := Z20 O2.out HNL.out H0.out
  subst hA'
  obtain ⟨⟨xk, xn, xr, xs, xp⟩, Ar, cr, As, cs, Aq, cq⟩ := x
  obtain ⟨z0, z1, z2, z3, z4⟩ := Z0o hcx
  have e1 : (1 : Int) ≤ (nl : Int) := by omega
  have e2 : (nl : Int) - 1 < (nl : Int) := by omega
  have hko : xk = o.k := by rw [← hxo]
  have hpo : xp = o.p := by rw [← hxo]
  clear hcx hLx hx hxo hg
  have hk1 : xk = 1 := by rw [hko]; exact HK.out
  clear hko
  subst hk1
  have hp1 : xp = [] := by rw [hpo]; exact HP.out
  clear hpo
  subst hp1
  have hcap : nl ≤ k2 := by have := O2.out.cap; have := HNL.out; omega
  go_wp2_with (go_at_call 157; refine Hid.out ?_)
  refine hid ?_
  refine (Z3e _ _ k2 ((D ++ gapS I gone).take (nl - 1)) _ (by rw [List.length_take, HNL.out]; omega) ⟨(O2.out.rd OpS.enc_len).take (nl - 1), fun x hx => (HSUB.out.ext Y2.out) x (List.mem_of_mem_take hx)⟩ (by omega) (fun x hx => HSZ.out x (List.mem_of_mem_take hx))).mono ?_
  intro e w3 hN
  have hM := NewOps.late Y2.out hN
  clear hN
  rw [← HNL.out, HM.out] at hM
  obtain ⟨A3, k3, l3, rfl, hM2⟩ := hM
  go_wp2_with (fail)
  go_ret
  exact ⟨A3, k3, l3, rfl, hM2⟩
theorem Z8q (b : Nat) (w : World) (F : Nat → Prop) (m : Mk) (h : Mkr w F b m) (hmb : m.done.length + m.ins.length ≤ 10000000)
 (hs : ∀ o ∈ m.done ++ Z09 m, o.r.length ≤ 100000000 ∧ o.s.length ≤ 100000000 ∧ o.p.length ≤ 100000000) :
 Calls Tryz.prog 77 #[.pointer (some ⟨b, 0, none⟩)] w (NewOps (Z1z m) w) := by
 cases h0 : (m.done ++ Z09 m).getLast? with
 | none => exact Y5s b w F m h hmb hs (List.getLast?_eq_none_iff.1 h0)
 | some o =>
   by_cases hk : o.k = 1
   ·by_cases hp : o.p = []
    ·exact Y5t b w F m h hmb hs o h0 hk hp
    ·exact Y2E b w F m h hmb hs o h0 hk hp
   ·exact Y4m b w F m h hmb hs o h0 hk
theorem Z48 : ∀ {x : List Opd}, Z1J x → ∀ o ∈ x, isOp o
 | [], _ => fun o h => by cases h
 | a :: x, h => fun o ho => by
   rcases List.mem_cons.1 ho with rfl | ho
   ·exact h.1
   ·exact Z48 h.2.2 o ho
structure MkB (m : Mk) (K S : Nat) : Prop where
 len : m.done.length + m.ins.length ≤ K
 prt : ∀ o ∈ m.done ++ m.ins, o.r.length ≤ K ∧ o.s.length ≤ S ∧ o.p.length ≤ S
theorem MkB.new (S : Nat) : MkB Mk.new 0 S := ⟨Nat.le_refl _, fun o h => by simp [Mk.new] at h⟩
theorem MkB.mono {m : Mk} {K K' S S' : Nat} (h : MkB m K S) (hK : K ≤ K') (hS : S ≤ S') : MkB m K' S' :=
 ⟨Nat.le_trans h.len hK, fun o ho => by obtain ⟨h1, h2, h3⟩ := h.prt o ho; exact ⟨by omega, by omega, by omega⟩⟩
theorem MkB.gap {m : Mk} {K S : Nat} (h : MkB m K S) : (m.done ++ Z09 m).length ≤ K + 1 ∧ ∀ o ∈ m.done ++ Z09 m, o.r.length ≤ K ∧ o.s.length ≤ S ∧ o.p.length ≤ S := by
 have h1 := h.len
 refine ⟨?_, fun o ho => ?_⟩
 ·unfold Z09
  split <;> simp <;> omega
 ·unfold Z09 at ho
  rw [← List.append_assoc] at ho
  rcases List.mem_append.1 ho with ho | ho
  ·exact h.prt o ho
  ·split at ho
   ·simp at ho; subst ho; exact ⟨Nat.zero_le _, Nat.zero_le _, Nat.zero_le _⟩
   ·cases ho
theorem Y4n {d : List Opd} {n : Int} {p : List Ch} {K S : Nat} (h : ∀ o ∈ d, o.r.length ≤ K ∧ o.s.length ≤ S ∧ o.p.length ≤ S) (hp : p.length ≤ S) :
 (addR d n p).length ≤ d.length + 1 ∧ ∀ o ∈ addR d n p, o.r.length ≤ K ∧ o.s.length ≤ S ∧ o.p.length ≤ S := by
 have push : (d ++ [opR n p]).length ≤ d.length + 1 ∧ ∀ o ∈ d ++ [opR n p], o.r.length ≤ K ∧ o.s.length ≤ S ∧ o.p.length ≤ S := ⟨by simp, fun o ho => by
  rcases List.mem_append.1 ho with ho | ho
  ·exact h o ho
  ·simp at ho; subst ho; exact ⟨Nat.zero_le _, Nat.zero_le _, hp⟩⟩
 unfold addR
 cases hg : d.getLast? with
 | none => exact push
 | some o =>
   simp only
   by_cases hc : o.k = 1 ∧ o.p = p
   ·rw [if_pos hc]
    have hm := List.mem_of_getLast? hg
    refine ⟨by simp, fun x hx => ?_⟩
    rcases List.mem_append.1 hx with hx | hx
    ·exact h x ((List.dropLast_sublist _).subset hx)
    ·simp at hx; subst hx; exact h o hm
   ·rw [if_neg hc]; exact push
theorem MkB.retain {m : Mk} {K S : Nat} (h : MkB m K S) (n : Int) {p : List Ch} (hp : p.length ≤ S) : MkB (Z0D m n p) (K + 2) S := by
 unfold Z0D
 split
 ·exact h.mono (by omega) (Nat.le_refl _)
 ·obtain ⟨g1, g2⟩ := h.gap
  obtain ⟨a1, a2⟩ := Y4n (n := n) (p := p) g2 hp
  refine ⟨by show (addR _ n p).length + 0 ≤ _; omega, fun o ho => ?_⟩
  have ho' : o ∈ addR (m.done ++ Z09 m) n p := by simpa using ho
  obtain ⟨h1, h2, h3⟩ := a2 o ho'
  exact ⟨by omega, h2, h3⟩
theorem MkB.insert {m : Mk} {K S : Nat} (h : MkB m K S) (l : List Int) {s : List At} (hs : s.length ≤ S) : MkB (Z0S m l s) (K + l.length) S := by
 unfold Z0S
 by_cases hl : l = []
 ·rw [if_pos hl]; exact h.mono (by omega) (Nat.le_refl _)
 ·rw [if_neg hl]
  have hpos : 0 < l.length := List.length_pos_iff.2 hl
  have hlen := h.len
  have base : ∀ o ∈ m.done ++ m.ins, o.r.length ≤ K + l.length ∧ o.s.length ≤ S ∧ o.p.length ≤ S := fun o ho => by obtain ⟨h1, h2, h3⟩ := h.prt o ho; exact ⟨by omega, h2, h3⟩
  have push : MkB { m with ins := m.ins ++ [opI l s] } (K + l.length) S := ⟨by simp; omega, fun o ho => by
   simp only at ho
   rw [← List.append_assoc] at ho
   rcases List.mem_append.1 ho with ho | ho
   ·exact base o ho
   ·simp at ho; subst ho; exact ⟨by simp [opI], hs, Nat.zero_le _⟩⟩
  unfold addI
  cases hg : m.ins.getLast? with
  | none => exact push
  | some o =>
    simp only
    by_cases hc : o.s = s
    ·rw [if_pos hc]
     have hm := List.mem_of_getLast? hg
     have hpi := List.length_pos_of_mem hm
     refine ⟨by simp; omega, fun x hx => ?_⟩
     simp only at hx
     rw [← List.append_assoc] at hx
     rcases List.mem_append.1 hx with hx | hx
     ·refine base x ?_
      rcases List.mem_append.1 hx with hx | hx
      ·exact List.mem_append_left _ hx
      ·exact List.mem_append_right _ ((List.dropLast_sublist _).subset hx)
     ·simp at hx; subst hx
      obtain ⟨h1, h2, h3⟩ := h.prt o (List.mem_append_right _ hm)
      exact ⟨by simp; omega, h2, h3⟩
    ·rw [if_neg hc]; exact push
theorem MkB.delete {m : Mk} {K S : Nat} (h : MkB m K S) (n : Int) : MkB (Z1M m n) K S := ⟨h.len, h.prt⟩
theorem Y4o (d : List Opd) : (cutR d).length ≤ d.length ∧ ∀ o ∈ cutR d, o ∈ d := by
 unfold cutR
 split
 ·split
  ·exact ⟨(List.dropLast_sublist _).length_le, fun o ho => (List.dropLast_sublist _).subset ho⟩
  ·exact ⟨Nat.le_refl _, fun o ho => ho⟩
 ·exact ⟨Nat.le_refl _, fun o ho => ho⟩
theorem MkB.ops {m : Mk} {K S : Nat} (h : MkB m K S) : (Z1z m).length ≤ K + 1 ∧ ∀ o ∈ Z1z m, o.r.length ≤ K ∧ o.s.length ≤ S ∧ o.p.length ≤ S := by
 obtain ⟨g1, g2⟩ := h.gap
 obtain ⟨c1, c2⟩ := Y4o (m.done ++ Z09 m)
 exact ⟨Nat.le_trans c1 g1, fun o ho => g2 o (c2 o ho)⟩
theorem Z3m {P : Un → Prop} (hd : P .del) {us : List Un} (h : ∀ u ∈ us, P u) : ∀ u ∈ nf us, P u := fun u hu => by
 obtain ⟨k, hk⟩ := Z4x (Z2i us)
 refine Z8p hd us [] 0 (by simp) h u ?_
 show u ∈ Z2i us
 rw [hk]; exact List.mem_append_left _ hu
theorem Z9f {x : List OpS} {m : Mk} {us : List Un} {K S : Nat} (hx : osOf x = Z1z m) (ht : Told m us) (hu : ∀ u ∈ us, okUn u) (hB : MkB m K S) (hK : K ≤ 100000000) (hS : S ≤ 100000000) : (∀ o ∈ x, okOp o.o) ∧ x.length ≤ K + 1 := by
 obtain ⟨h1, h2⟩ := ht.ops
 rw [← hx] at h1 h2
 obtain ⟨b1, b2⟩ := hB.ops
 rw [← hx] at b1 b2
 have hn := Z3m (P := okUn) trivial hu
 rw [← h2] at hn
 refine ⟨fun o ho => ?_, by unfold osOf at b1; simpa using b1⟩
 have hom : o.o ∈ osOf x := by unfold osOf; exact List.mem_map_of_mem ho
 obtain ⟨l1, l2, l3⟩ := b2 o.o hom
 have hop := Z48 h1 o.o hom
 have hsub : ∀ u ∈ Z0h o.o, okUn u := fun u hu => hn u (Z1C.2 ⟨o, ho, hu⟩)
 have nilr : okVr ([] : List At) := fun c hc => by cases hc
 have nils : okVs ([] : List Ch) := fun c hc => by cases hc
 refine ⟨?_, ?_, by omega, by omega, by omega⟩
 ·rcases Z0x hop with hk | hk | hk
  ·obtain ⟨e, hr⟩ := Z13 hop hk
   cases hr' : o.o.r with
   | nil => exact absurd hr' hr
   | cons r rs => exact hsub (.ins r o.o.s) (by unfold Z0h; rw [if_pos hk, hr']; simp)
  ·obtain ⟨e, hr⟩ := Z14 hop hk
   rw [e]; exact nilr
  ·obtain ⟨e, hr⟩ := Z1K hop hk
   rw [e]; exact nilr
 ·rcases Z0x hop with hk | hk | hk
  ·obtain ⟨e, hr⟩ := Z13 hop hk
   rw [e]; exact nils
  ·obtain ⟨e, hr⟩ := Z14 hop hk
   rw [e]; exact nils
  ·obtain ⟨e, hr⟩ := Z1K hop hk
   obtain ⟨k, hk2⟩ : ∃ k, o.o.n.toNat = k + 1 := ⟨o.o.n.toNat - 1, by omega⟩
   exact hsub (.ret o.o.p) (by unfold Z0h; rw [if_neg (by rw [hk]; decide), if_pos hk, hk2]; simp [List.replicate_succ])
theorem Z9g {w : World} {B : Nat} {A : Option Addr} {c : Nat} {x : List OpS} (ho : OwOs w B (.slice A x.length c) x) (hp : ∀ z ∈ x, ∃ g, PartN w B g z) : RdOp w w.heap.size A x := ⟨ho.rd OpS.enc_len, fun z hz => by
 obtain ⟨g, h1, h2, h3⟩ := hp z hz
 exact ⟨h1.1.rd Z08, h2.1.rd At.enc_len, h3.1.rd Ch.enc_len⟩⟩
theorem Y4p {w : World} {B B2 : Nat} {A : Option Addr} {c : Nat} {v : Value} {L : List ClS} (ho : OwCs w B (.slice A L.length c) L) (hp : ∀ z ∈ L, PartC w B2 v z) : RdCl w w.heap.size A L ∧ (∀ z ∈ L, z.c.s.length ≤ z.cs ∧ z.cs ≤ maxLen) ∧ L.length ≤ c := ⟨⟨ho.rd ClS.enc_len, fun z hz => (hp z hz).1.rd At.enc_len⟩, fun z hz => by
 obtain ⟨_, _, hv, hc1, hc2⟩ := (hp z hz).1.form
 injection hv with _ _ hcc
 subst hcc
 exact ⟨hc1, hc2⟩, ho.cap.1⟩
theorem Ow.new {α : Type} {enc : α → List Value} {size : Nat} (hs : ∀ a, (enc a).length = size) (w : World) (e : TypeId) (l : List α) {cs : Array Value} (hc : cs.toList = l.flatMap enc) {n b B : Nat} (hn : n = l.length) (hm : n ≤ maxLen) (hB : B ≤ w.heap.size) (hb : b = w.heap.size) :
 Ow enc size e (w.alloc (.cells cs e)) B (.slice (some ⟨b, 0, none⟩) n n) l := by
 subst hb
 subst hn
 refine .inr ⟨by rw [Z2F hs], .inr ⟨w.heap.size, l.length, cs, rfl, hB, heap_alloc_new w (.cells cs e), Nat.le_refl _, hm, ?_, ?_⟩⟩
 ·rw [← Array.length_toList, hc, Z2F hs]
 ·rw [hc]
  exact List.take_of_length_le (by rw [Z2F hs]; exact Nat.le_refl _)
theorem Tryz.elOpD : Tryz.prog.elem 44 = 50 := by kernel_rfl
theorem Tryz.szOpD : (Tryz.prog.info? 50).map (·.size) = some 5 := by kernel_rfl
theorem Z4A (W : World) : (sizeOf 50).run Tryz.prog W = .ok 5 W := by
 cases h : Tryz.prog.info? 50 with
 | none => have := Tryz.szOpD; rw [h] at this; cases this
 | some i => have := Tryz.szOpD; rw [h] at this; simp at this; simp [sizeOf, typeInfo, h, this]
structure DocAt (w : World) (A : Option Addr) (n c : Nat) (L : List ClS) : Prop where
 rd : RdCl w w.heap.size A L
 len : n = L.length
 cap : n ≤ c
 caps : ∀ z ∈ L, z.c.s.length ≤ z.cs ∧ z.cs ≤ maxLen
 vr : ∀ z ∈ L, z.c.s.length ≤ 1000000 ∧ okVr z.c.s
 b : n ≤ 20000
structure OpsAt (w : World) (A : Option Addr) (n : Nat) (x : List OpS) : Prop where
 rd : RdOp w w.heap.size A x
 len : n = x.length
 ok : ∀ o ∈ x, okOp o.o
 b : n ≤ 1000000
theorem DocAt.ext {w w' : World} {A : Option Addr} {n c : Nat} {L : List ClS} (h : DocAt w A n c L) (y : Below w.heap.size w w') : DocAt w' A n c L := ⟨h.rd.ext y, h.len, h.cap, h.caps, h.vr, h.b⟩
theorem OpsAt.ext {w w' : World} {A : Option Addr} {n : Nat} {x : List OpS} (h : OpsAt w A n x) (y : Below w.heap.size w w') : OpsAt w' A n x := ⟨h.rd.ext y, h.len, h.ok, h.b⟩
theorem Y2F {L : List ClS} {z : ClS} (h : z ∈ L) : z.c ∈ Z0e L := by unfold Z0e; exact List.mem_map_of_mem h
theorem Z9h {L : List ClS} {c : Cl} (h : c ∈ Z0e L) : ∃ z ∈ L, z.c = c := by
 obtain ⟨z, hz, e⟩ := List.mem_map.1 h
 exact ⟨z, hz, e⟩
theorem DocAt.cvr {w : World} {A : Option Addr} {n c : Nat} {L : List ClS} (h : DocAt w A n c L) : ∀ x ∈ Z0e L, okVr x.s := fun x hx => by
 obtain ⟨z, hz, rfl⟩ := Z9h hx
 exact (h.vr z hz).2
theorem DocAt.clen {w : World} {A : Option Addr} {n c : Nat} {L : List ClS} (h : DocAt w A n c L) : (Z0e L).length = n := by rw [Z0s, ← h.len]
theorem DocAt.made {w : World} {B B2 : Nat} {A : Option Addr} {c : Nat} {v : Value} {L : List ClS} (ho : OwCs w B (.slice A L.length c) L) (hp : ∀ z ∈ L, PartC w B2 v z) (hv : ∀ x ∈ Z0e L, x.s.length ≤ 1000000 ∧ okVr x.s) (hb : L.length ≤ 20000) : DocAt w A L.length c L := by
 obtain ⟨h1, h2, h3⟩ := Y4p ho hp
 exact ⟨h1, rfl, h3, h2, fun z hz => hv _ (Y2F hz), hb⟩
def Y41 (o : List Cl) (w : World) (e : Ending) (w' : World) : Prop :=
 ∃ A c L, e = .returned (.slice A L.length c) ∧ Z0e L = o ∧ DocAt w' A L.length c L ∧ Below w.heap.size w w'
theorem NewCls.doc {o : List Cl} {w w' : World} {e : Ending} (h : NewCls o w e w') (hv : ∀ x ∈ o, x.s.length ≤ 1000000 ∧ okVr x.s) (hb : o.length ≤ 20000) : Y41 o w e w' := by
 obtain ⟨A, c, L, he, hL, ho, hp, y⟩ := h
 exact ⟨A, c, L, he, hL, DocAt.made ho hp (by rw [hL]; exact hv) (by rw [← Z0s, hL]; exact hb), y⟩
section
variable {w : World} {A B : Option Addr} {n c n2 c2 : Nat} {L M : List ClS}
theorem Z3D {s : Nat} {l : List Ky} {most : Int} {N : Nat} {x : List OpS} (h : DocAt w A n c L) (hx : OpsAt w B n2 x) (hS : Sch w s l) (hT : Utf8Tabs 1 2 w) (hl : l.length ≤ 64) (hmo : N ≤ 10000)
 {us : List Un} (hz : Z0F l x (Z0e L) most = 0) (hN : Z0F l x (Z0e L) (N : Int) = 0) (hu : app l (Z0d (osOf x)) (Z0e L) = app l us (Z0e L)) :
 Calls Tryz.prog 33 #[.pointer (some ⟨s, 0, none⟩), .slice A n c, .slice B n2 c2, .int .i64 most] w (fun e w' => ∃ A c M, e = .returned (.tuple #[.slice A M.length c, .int .i64 0]) ∧ Z0e M = app l us (Z0e L) ∧ mayD l (Z0e M) = 0 ∧ M.length ≤ N ∧ DocAt w' A M.length c M ∧ Below w.heap.size w w') := by
 refine (Z6Y s l A B n c n2 c2 L x most w h.len hx.len h.cap (by have := h.b; omega) (by have := hx.b; omega) h.rd hx.rd hS (fun z hz => ⟨by have := (h.vr z hz).1; omega, (h.vr z hz).2⟩) h.caps hx.ok hT).mono ?_
 rintro e w' ⟨y, ⟨hne, _⟩ | ⟨_, A', c', M, rfl, hM, oM, pM⟩⟩
 ·exact absurd hz hne
 ·obtain ⟨hg, hf, cm⟩ := came hl (by have := hx.b; have := hx.len; omega) (by omega) hx.ok h.cvr hN
  rw [← hM] at cm
  have hlen : M.length ≤ N := by
   have h1 := cm.len
   have h2 := hf.m
   rw [Z0s] at h1
   omega
  exact ⟨A', c', M, rfl, hM.trans hu, cm.may, hlen, DocAt.made oM pM (fun z hz => ⟨by have := cm.s64 z hz; omega, cm.vr z hz⟩) (by omega), y⟩
theorem Z5H {s : Nat} {l : List Ky} {most : Int} {x : List OpS} (h : DocAt w A n c L) (hx : OpsAt w B n2 x) (hS : Sch w s l) (hT : Utf8Tabs 1 2 w) {r : Int} (hr : Z0F l x (Z0e L) most = r) (hz : r ≠ 0) :
 Calls Tryz.prog 33 #[.pointer (some ⟨s, 0, none⟩), .slice A n c, .slice B n2 c2, .int .i64 most] w (fun e w' => e = .returned (.tuple #[.slice none 0 0, .int .i64 r]) ∧ Below w.heap.size w w') := by
 refine (Z6Y s l A B n c n2 c2 L x most w h.len hx.len h.cap (by have := h.b; omega) (by have := hx.b; omega) h.rd hx.rd hS (fun z hz => ⟨by have := (h.vr z hz).1; omega, (h.vr z hz).2⟩) h.caps hx.ok hT).mono ?_
 rintro e w' ⟨y, ⟨_, rfl⟩ | ⟨h0, _⟩⟩
 ·exact ⟨by rw [hr], y⟩
 ·exact absurd (hr.symm.trans h0) hz
end
open Go.RowKit
set_option linter.unusedVariables false
set_option linter.unusedSimpArgs false
def KeyRow (K : IntKind) (size : Nat) (e : TypeId) (w : World) (base : Nat) (A : Option Addr) (n : Nat) : Prop :=
 0 < n → ∃ g cur, A = some ⟨g, 0, none⟩ ∧ base ≤ g ∧ w.heap[g]? = some (.cells cur e (0, 0)) ∧ ∀ i, i < n → ∃ k, cur[i * size]? = some (.int K k)
section
variable {K : IntKind} {size : Nat} {e e' : TypeId} {w w' : World} {base : Nat} {A : Option Addr} {n g : Nat} {cur : Array Value}
theorem KeyRow.below (h : KeyRow K size e w base A n) (y : Below w.heap.size w w') : KeyRow K size e w' base A n := fun hn => by
 obtain ⟨g, cur, e1, e2, e3, e4⟩ := h hn
 exact ⟨g, cur, e1, e2, (y.block g (Z0c e3)).trans e3, e4⟩
theorem KeyRow.of {α : Type} {enc : α → List Value} {l : List α} {c : Nat} (hs : ∀ a, (enc a).length = size) (hk : ∀ a, ∃ k, (enc a)[0]? = some (.int K k))
 (h : Ow enc size e w base (.slice A n c) l) (hl : n = l.length) : KeyRow K size e w base A n := fun hn => by
 obtain ⟨g, cur, hA, _, hb, hg, h1, _, hc, ht⟩ := h.row (by omega)
 refine ⟨g, cur, hA, hb, hg, fun i hi => ?_⟩
 obtain ⟨k, hk⟩ := hk (l[i]'(by omega))
 have hf := Z3K hs l i 0 _ (by omega) hk
 refine ⟨k, ?_⟩
 rw [← ht, List.getElem?_take, Nat.add_zero] at hf
 split at hf
 ·rw [← Array.getElem?_toList]; exact hf
 ·cases hf
end
theorem Y5u (a : At) : ∃ k, (At.enc a)[0]? = some (.int .i64 k) := ⟨a.key, rfl⟩
theorem Y5v (a : Ch) : ∃ k, (Ch.enc a)[0]? = some (.int .i64 k) := ⟨a.key, rfl⟩
theorem Y4q (a : Int) : ∃ k, (Z3l a)[0]? = some (.int .i32 k) := ⟨a, rfl⟩
def WrO (w : World) (base : Nat) (A : Option Addr) (n c : Nat) (x : List OpS) : Prop :=
 n = x.length ∧ OwOs w base (.slice A n c) x ∧ ∀ z ∈ x, KeyRow .i32 1 21 w base z.Ar z.o.r.length ∧ KeyRow .i64 5 43 w base z.As z.o.s.length ∧ KeyRow .i64 6 77 w base z.Ap z.o.p.length
theorem WrO.of {w : World} {base : Nat} {A : Option Addr} {c : Nat} {x : List OpS} (ho : OwOs w base (.slice A x.length c) x) (hp : ∀ z ∈ x, ∃ g, PartN w base g z) : WrO w base A x.length c x :=
 ⟨rfl, ho, fun z hz => by
  obtain ⟨g, h1, h2, h3⟩ := hp z hz
  exact ⟨KeyRow.of Z08 Y4q h1.1 rfl, KeyRow.of At.enc_len Y5u h2.1 rfl, KeyRow.of Ch.enc_len Y5v h3.1 rfl⟩⟩
theorem WrO.below {w w' : World} {base : Nat} {A : Option Addr} {n c : Nat} {x : List OpS} (h : WrO w base A n c x) (y : Below w.heap.size w w') : WrO w' base A n c x :=
 ⟨h.1, h.2.1.below y (Nat.le_refl _), fun z hz => ⟨(h.2.2 z hz).1.below y, (h.2.2 z hz).2.1.below y, (h.2.2 z hz).2.2.below y⟩⟩
open Go.RowKit
set_option linter.unusedVariables false
set_option linter.unusedSimpArgs false
def CellsIn (w : World) (p : Addr) (cs : List Value) : Prop := p.block < w.heap.size ∧ CellsAt w p cs
theorem CellsIn.ext {w w' : World} {p : Addr} {cs : List Value} (h : CellsIn w p cs) (y : Below w.heap.size w w') : CellsIn w' p cs :=
 ⟨Nat.lt_of_lt_of_le h.1 y.size, h.2.keep fun q hq => y.cell (by rw [hq]; exact h.1)⟩
theorem Rd.elIn {α : Type} {enc : α → List Value} {size : Nat} {w : World} {A : Option Addr} {l : List α} (h : Rd enc size w w.heap.size A l) {i : Nat} (hi : i < l.length) :
 ∃ ad a, A = some ad ∧ l.drop i = a :: l.drop (i + 1) ∧ l[i]? = some a ∧ CellsIn w (ad.add (i * size)) (enc a) := by
 obtain ⟨ad, a, h1, h2, h3, h4, h5⟩ := h.el hi
 exact ⟨ad, a, h1, h3, h4, by rw [Z0q]; exact h2, h5⟩
theorem Y0b {w w' : World} {d : Nat} (h : w' = w.drewN d) : Below w.heap.size w w' := by subst h; exact Z0m w d
section
variable {ops : Array Oper} {rest : List Oper} {o : Oper} {a : Act} {Q : Exit → Act → World → Prop} {w : World} {base : Nat} {v : Value} {K : Act → World → Prop} {E : Prop}
theorem Y5w {l m : List At} (hgd : o.guard = none) (s x : Operand)
 (ho : o.op = .call { callee := .builtin .append, args := #[s, x], argTypes := #[36, 36] })
 (hsv : a.eval s = v) (hown : OwAt w base v l) (B : Nat) (A : Option Addr) (c n : Nat) (hx : a.eval x = .slice A n c) (hn : n = m.length) (hr : RdAt w B A m)
 (hb : l.length + m.length ≤ 1000000000000) (hbase : base ≤ w.heap.size)
 (h : ∀ v' w', OwAt w' base v' (l ++ m) → w.grownBy w' (wb v) → (v' = v ∧ w' = w ∨ wb v' = wb v ∨ wb v' = some w.heap.size) → K (a.put o.dst v') w') :
 if Region.wanted o (yielded ops a.tmps) = true then Oper.wp Tryz.prog o a w K Q else E := by
 have hw : Region.wanted o (yielded ops a.tmps) = true := by simp [Region.wanted, hgd]
 rw [if_pos hw]
 obtain ⟨i0, hi0, hz0, hz1, hz2⟩ := info_parts Tryz.infoAt
 exact Z6J s x _ ho i0 _ 48 Tryz.slAt hi0 hz0 hz1 hz2 rfl (by omega) At.enc_len At.enc_one hsv hown B A c n hx hn hr (by simp only [maxLen]; omega) (by omega) hbase h
theorem Y5x {l m : List Ch} (hgd : o.guard = none) (s x : Operand)
 (ho : o.op = .call { callee := .builtin .append, args := #[s, x], argTypes := #[48, 48] })
 (hsv : a.eval s = v) (hown : OwCh w base v l) (B : Nat) (A : Option Addr) (c n : Nat) (hx : a.eval x = .slice A n c) (hn : n = m.length) (hr : RdCh w B A m)
 (hb : l.length + m.length ≤ 1000000000000) (hbase : base ≤ w.heap.size)
 (h : ∀ v' w', OwCh w' base v' (l ++ m) → w.grownBy w' (wb v) → (v' = v ∧ w' = w ∨ wb v' = wb v ∨ wb v' = some w.heap.size) → K (a.put o.dst v') w') :
 if Region.wanted o (yielded ops a.tmps) = true then Oper.wp Tryz.prog o a w K Q else E := by
 have hw : Region.wanted o (yielded ops a.tmps) = true := by simp [Region.wanted, hgd]
 rw [if_pos hw]
 obtain ⟨i0, hi0, hz0, hz1, hz2⟩ := info_parts Tryz.infoCh
 exact Z6J s x _ ho i0 _ 56 Tryz.slCh hi0 hz0 hz1 hz2 rfl (by omega) Ch.enc_len Ch.enc_one hsv hown B A c n hx hn hr (by simp only [maxLen]; omega) (by omega) hbase h
theorem Z60 {m : List Int} (hgd : o.guard = none) (s x : Operand)
 (ho : o.op = .call { callee := .builtin .append, args := #[s, x], argTypes := #[47, 47] })
 (hsv : ∃ A0, a.eval s = .slice A0 0 0) (base B : Nat) (A : Option Addr) (c n : Nat) (hx : a.eval x = .slice A n c) (hn : n = m.length) (hr : Z1V w B A m)
 (hb : m.length ≤ 1000000000) (hbase : base ≤ w.heap.size)
 (h : ∀ v' w', Z3p w' base v' m → w.grownBy w' none → K (a.put o.dst v') w') :
 if Region.wanted o (yielded ops a.tmps) = true then Oper.wp Tryz.prog o a w K Q else E := by
 obtain ⟨A0, e⟩ := hsv
 refine Z7D (l := []) (m := m) hgd s x ho e (Ow.empty _ base _) B A c n hx hn hr (by simp only [List.length_nil]; omega) hbase ?_
 intro v' w' h1 h2 _
 have e2 : wb (.slice A0 0 0) = none := by cases A0 <;> rfl
 rw [e2] at h2
 exact h v' w' h1 h2
theorem Z6k {m : List At} (hgd : o.guard = none) (s x : Operand)
 (ho : o.op = .call { callee := .builtin .append, args := #[s, x], argTypes := #[36, 36] })
 (hsv : ∃ A0, a.eval s = .slice A0 0 0) (base B : Nat) (A : Option Addr) (c n : Nat) (hx : a.eval x = .slice A n c) (hn : n = m.length) (hr : RdAt w B A m)
 (hb : m.length ≤ 1000000000) (hbase : base ≤ w.heap.size)
 (h : ∀ v' w', OwAt w' base v' m → w.grownBy w' none → K (a.put o.dst v') w') :
 if Region.wanted o (yielded ops a.tmps) = true then Oper.wp Tryz.prog o a w K Q else E := by
 obtain ⟨A0, e⟩ := hsv
 refine Y5w (l := []) (m := m) hgd s x ho e (Ow.empty _ base _) B A c n hx hn hr (by simp only [List.length_nil]; omega) hbase ?_
 intro v' w' h1 h2 _
 have e2 : wb (.slice A0 0 0) = none := by cases A0 <;> rfl
 rw [e2] at h2
 exact h v' w' h1 h2
theorem Y2G {m : List Ch} (hgd : o.guard = none) (s x : Operand)
 (ho : o.op = .call { callee := .builtin .append, args := #[s, x], argTypes := #[48, 48] })
 (hsv : ∃ A0, a.eval s = .slice A0 0 0) (base B : Nat) (A : Option Addr) (c n : Nat) (hx : a.eval x = .slice A n c) (hn : n = m.length) (hr : RdCh w B A m)
 (hb : m.length ≤ 1000000000) (hbase : base ≤ w.heap.size)
 (h : ∀ v' w', OwCh w' base v' m → w.grownBy w' none → K (a.put o.dst v') w') :
 if Region.wanted o (yielded ops a.tmps) = true then Oper.wp Tryz.prog o a w K Q else E := by
 obtain ⟨A0, e⟩ := hsv
 refine Y5x (l := []) (m := m) hgd s x ho e (Ow.empty _ base _) B A c n hx hn hr (by simp only [List.length_nil]; omega) hbase ?_
 intro v' w' h1 h2 _
 have e2 : wb (.slice A0 0 0) = none := by cases A0 <;> rfl
 rw [e2] at h2
 exact h v' w' h1 h2
end
end Go.Proofs.YtfnkjcodcoehcaaGreatDoor
