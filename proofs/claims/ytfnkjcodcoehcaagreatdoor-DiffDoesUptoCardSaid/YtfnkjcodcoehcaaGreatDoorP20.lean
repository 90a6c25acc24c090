/- Merged texts: MkOps. -/
import Derived.Test.YtfnkjcodcoehcaaGreatDoorP19
import Derived.Test.YtfnkjcodcoehcaaGreatDoorP18
namespace Go.Proofs.YtfnkjcodcoehcaaGreatDoor
open Go.RowKit
set_option linter.unusedVariables false
set_option linter.unusedSimpArgs false

theorem PartN.base_le {w : World} {B B' g : Nat} {x : OpS} (h : PartN w B g x) (hb : B' ≤ B) : PartN w B' g x :=
  ⟨⟨h.1.1.base_le hb, h.1.2⟩, ⟨h.2.1.1.base_le hb, h.2.1.2⟩, ⟨h.2.2.1.base_le hb, h.2.2.2⟩⟩
theorem NewOps.late {o : List Opd} {w w2 : World} (y : Below w.heap.size w w2) {e : Ending} {w3 : World} (h : NewOps o w2 e w3) : NewOps o w e w3 := by
  obtain ⟨A, c, l, h1, h2, h3, h4, h5⟩ := h
  exact ⟨A, c, l, h1, h2, h3.base_le y.size, fun x hx => (h4 x hx).imp fun g p => p.base_le y.size, ext_trans y h5⟩
/-- the parts of all ops of a maker can be read -/
theorem Mkr.sub {w : World} {F : Nat → Prop} {b : Nat} {vd vi : Value} {D I : List OpS} (h10 : ∀ x ∈ D, PartF w F x) (h11 : InsF w F b vd vi I) (g : Int) : Sub w w.heap.size (D ++ gapS I g) := by
  intro x hx
  rcases List.mem_append.1 hx with hx | hx
  · have := h10 x hx; exact ⟨this.1.1, this.2.1.1, this.2.2.1⟩
  · unfold gapS at hx
    rcases List.mem_append.1 hx with hx | hx
    · rcases List.eq_nil_or_concat I with h0 | ⟨t, z, h0⟩
      · rw [h0] at hx; cases hx
      · rw [List.concat_eq_append] at h0
        have hx' := hx
        rw [h0] at hx'
        rcases List.mem_append.1 hx' with hx' | hx'
        · have := h11.1 x (by rw [h0]; simpa using hx'); exact ⟨this.1.1, this.2.1.1, this.2.2.1⟩
        · simp at hx'; subst hx'
          have := h11.2 x (by rw [h0]; simp)
          exact ⟨this.1.rd encI32_len, this.2.2.1.1, this.2.2.2.1⟩
    · split at hx
      · simp at hx; subst hx
        exact ⟨Rd.nil, Rd.nil, Rd.nil⟩
      · cases hx

set_option maxRecDepth 100000 in
set_option maxHeartbeats 1600000 in
theorem ops_nil (b : Nat) (w : World) (F : Nat → Prop) (m : Mk) (h : Mkr w F b m) (hmb : m.done.length + m.ins.length ≤ 10000000)
    (hs : ∀ o ∈ m.done ++ mkGap m, o.r.length ≤ 100000000 ∧ o.s.length ≤ 100000000 ∧ o.p.length ≤ 100000000) (h0 : m.done ++ mkGap m = []) :
    Calls Tryz.prog 77 #[.pointer (some ⟨b, 0, none⟩)] w (NewOps (mkOps m) w) := by
  obtain ⟨vd, vi, D, I, h1, h2, h3, h4, h5, h6, h7, h8, h9, h10, h11⟩ := h
  obtain ⟨Ad, cd, rfl, _, _⟩ := h2.form
  obtain ⟨Ai, ci, rfl, _, _⟩ := h3.form
  have HD := Lib.hid (show D.length ≤ 10000000 by rw [← h4, ← h5] at hmb; simp [osOf] at hmb; omega)
  have HI := Lib.hid (show I.length ≤ 10000000 by rw [← h4, ← h5] at hmb; simp [osOf] at hmb; omega)
  have H1 := Lib.hid h1
  have H2 := Lib.hid h2
  have H3 := Lib.hid h3
  have hlt := lt_of_some h1
  obtain ⟨c0, c1, c2⟩ := box_3 h1
  have HSUB := Lib.hid (Mkr.sub h10 h11 m.gone)
  have HL0 : Hid (osOf (D ++ gapS I m.gone) = m.done ++ mkGap m) := Lib.hid (by
    unfold osOf; rw [List.map_append]; show osOf D ++ osOf (gapS I m.gone) = _; rw [gapS_os, h4, h5]; rfl)
  have HSZ : Hid (∀ x ∈ D ++ gapS I m.gone, x.o.r.length ≤ 100000000 ∧ x.o.s.length ≤ 100000000 ∧ x.o.p.length ≤ 100000000) := Lib.hid (fun x hx => hs x.o (by
    rw [← HL0.out]; unfold osOf; exact List.mem_map_of_mem hx))
  have HL : Hid (D ++ gapS I m.gone = []) := Lib.hid (by have e := HL0.out; rw [h0] at e; unfold osOf at e; simpa using e)
  have HM : Hid (osOf (D ++ gapS I m.gone) = mkOps m) := Lib.hid (by rw [HL0.out]; unfold mkOps; rw [h0]; rfl)
  clear h1 h2 h3 h4 h5 hmb hs h6 h7 h8 h9 h10 h11 h0
  generalize hgone : m.gone = gone at *
  have HGO := Lib.hid hgone
  clear hgone
  go_enter Tryz.func77, Tryz.ntmps77
  go_wp2_with (fail)
  go_region_law (first
      | (refine step_fn rfl 152 [.tmp 11] #[115] rfl Tryz.f152 (by kernel_rfl) (by kernel_rfl) (by kernel_rfl) [.pointer (some ⟨b, 0, none⟩)] (by rfl) (gap_any b (.slice Ad D.length cd) Ai I.length ci gone I w.drew H1.out rfl (H3.out.rd OpS.enc_len) (by have := HI.out; omega)) ?_
         rintro e w1 ⟨A1, k1, rfl, o1, y1⟩
         refine ⟨_, rfl, ?_⟩
         have hb1 := (y1.block b hlt).trans H1.out
         obtain ⟨d0, d1, d2⟩ := box_3 hb1
         have O1 := Lib.hid o1
         have Y1 : Hid (Below w.heap.size w w1) := Lib.hid ((up_drew (Below.refl _ _)).trans y1)
         clear hb1 o1 y1)
      | (refine step_fn rfl 156 [.tmp 13] #[126] rfl Tryz.f156 (by kernel_rfl) (by kernel_rfl) (by kernel_rfl) [.slice (some ⟨w1.heap.size, 0, none⟩) 2 2] (by rfl) (concatOs_any (some ⟨w1.heap.size, 0, none⟩) 2 2 [⟨Ad, D, cd⟩, ⟨A1, gapS I gone, k1⟩] (w1.alloc (.cells #[.slice Ad D.length cd, .slice A1 (gapS I gone).length k1] 44)) rfl (Rd.new (enc := RwS.enc) (size := 1) (fun _ => rfl) w1 _ _ rfl rfl) (fun x hx => by
            have yy := ext_alloc w1 (.cells #[.slice Ad D.length cd, .slice A1 (gapS I gone).length k1] 44)
            rcases List.mem_cons.1 hx with rfl | hx
            · exact ((H2.out.below Y1.out (Nat.le_refl _)).rd OpS.enc_len).ext yy
            · simp at hx; subst hx; exact (O1.out.rd OpS.enc_len).ext yy) (by omega) (fun x hx => by
            have := HD.out; have := HI.out; have := gapS_len I gone
            rcases List.mem_cons.1 hx with rfl | hx
            · simp only; omega
            · simp at hx; subst hx; simp only; omega)) ?_
         rintro e w2 ⟨A2, k2, he, o2, y2⟩
         have eL : [(⟨Ad, D, cd⟩ : RwS), ⟨A1, gapS I gone, k1⟩].flatMap (fun x => x.l) = D ++ gapS I gone := by simp
         rw [eL] at he o2
         generalize hnl : (D ++ gapS I gone).length = nl at he o2
         subst he
         refine ⟨_, rfl, ?_⟩
         have hnlb : nl ≤ 20000001 := by rw [← hnl, List.length_append]; have := HD.out; have := HI.out; have := gapS_len I gone; omega
         have HNL := Lib.hid hnl
         have O2 := Lib.hid o2
         have Y2 : Hid (Below w.heap.size w w2) := Lib.hid (ext_trans Y1.out (ext_trans (ext_alloc w1 _) y2))
         clear o2 y2 hnl eL)
      )
  all_goals
    have hnl0 : nl = 0 := by have := HNL.out; rw [HL.out] at this; exact this.symm
    subst hnl0
    go_wp2_with (go_at_call 157; refine Hid.out ?_)
    refine Lib.hid ?_
    refine (copyOps_any _ _ k2 (D ++ gapS I gone) _ HNL.out.symm ⟨O2.out.rd OpS.enc_len, fun x hx => (HSUB.out.ext Y2.out) x hx⟩ (by omega) (fun x hx => HSZ.out x hx)).mono ?_
    intro e w3 hN
    have hM := NewOps.late Y2.out hN
    clear hN
    rw [HM.out] at hM
    obtain ⟨A3, k3, l3, rfl, hM2⟩ := hM
    go_wp2_with (fail)
    go_ret
    exact ⟨A3, k3, l3, rfl, hM2⟩

set_option maxRecDepth 100000 in
set_option maxHeartbeats 1600000 in
theorem ops_kind (b : Nat) (w : World) (F : Nat → Prop) (m : Mk) (h : Mkr w F b m) (hmb : m.done.length + m.ins.length ≤ 10000000)
    (hs : ∀ o ∈ m.done ++ mkGap m, o.r.length ≤ 100000000 ∧ o.s.length ≤ 100000000 ∧ o.p.length ≤ 100000000) (o : Opd) (h0 : (m.done ++ mkGap m).getLast? = some o) (hk : ¬ o.k = 1) :
    Calls Tryz.prog 77 #[.pointer (some ⟨b, 0, none⟩)] w (NewOps (mkOps m) w) := by
  obtain ⟨vd, vi, D, I, h1, h2, h3, h4, h5, h6, h7, h8, h9, h10, h11⟩ := h
  obtain ⟨Ad, cd, rfl, _, _⟩ := h2.form
  obtain ⟨Ai, ci, rfl, _, _⟩ := h3.form
  have HD := Lib.hid (show D.length ≤ 10000000 by rw [← h4, ← h5] at hmb; simp [osOf] at hmb; omega)
  have HI := Lib.hid (show I.length ≤ 10000000 by rw [← h4, ← h5] at hmb; simp [osOf] at hmb; omega)
  have H1 := Lib.hid h1
  have H2 := Lib.hid h2
  have H3 := Lib.hid h3
  have hlt := lt_of_some h1
  obtain ⟨c0, c1, c2⟩ := box_3 h1
  have HSUB := Lib.hid (Mkr.sub h10 h11 m.gone)
  have HL0 : Hid (osOf (D ++ gapS I m.gone) = m.done ++ mkGap m) := Lib.hid (by
    unfold osOf; rw [List.map_append]; show osOf D ++ osOf (gapS I m.gone) = _; rw [gapS_os, h4, h5]; rfl)
  have HSZ : Hid (∀ x ∈ D ++ gapS I m.gone, x.o.r.length ≤ 100000000 ∧ x.o.s.length ≤ 100000000 ∧ x.o.p.length ≤ 100000000) := Lib.hid (fun x hx => hs x.o (by
    rw [← HL0.out]; unfold osOf; exact List.mem_map_of_mem hx))
  have H0 : Hid ((osOf (D ++ gapS I m.gone)).getLast? = some o) := Lib.hid (by rw [HL0.out]; exact h0)
  have HM : Hid (osOf (D ++ gapS I m.gone) = mkOps m) := Lib.hid (by rw [HL0.out]; unfold mkOps cutR; rw [h0]; simp only; rw [if_neg (fun h => hk h.1)])
  have HK := Lib.hid hk
  clear h1 h2 h3 h4 h5 hmb hs h6 h7 h8 h9 h10 h11 h0 hk
  generalize hgone : m.gone = gone at *
  have HGO := Lib.hid hgone
  clear hgone
  go_enter Tryz.func77, Tryz.ntmps77
  go_wp2_with (fail)
  go_region_law (first
      | (refine step_fn rfl 152 [.tmp 11] #[115] rfl Tryz.f152 (by kernel_rfl) (by kernel_rfl) (by kernel_rfl) [.pointer (some ⟨b, 0, none⟩)] (by rfl) (gap_any b (.slice Ad D.length cd) Ai I.length ci gone I w.drew H1.out rfl (H3.out.rd OpS.enc_len) (by have := HI.out; omega)) ?_
         rintro e w1 ⟨A1, k1, rfl, o1, y1⟩
         refine ⟨_, rfl, ?_⟩
         have hb1 := (y1.block b hlt).trans H1.out
         obtain ⟨d0, d1, d2⟩ := box_3 hb1
         have O1 := Lib.hid o1
         have Y1 : Hid (Below w.heap.size w w1) := Lib.hid ((up_drew (Below.refl _ _)).trans y1)
         clear hb1 o1 y1)
      | (refine step_fn rfl 156 [.tmp 13] #[126] rfl Tryz.f156 (by kernel_rfl) (by kernel_rfl) (by kernel_rfl) [.slice (some ⟨w1.heap.size, 0, none⟩) 2 2] (by rfl) (concatOs_any (some ⟨w1.heap.size, 0, none⟩) 2 2 [⟨Ad, D, cd⟩, ⟨A1, gapS I gone, k1⟩] (w1.alloc (.cells #[.slice Ad D.length cd, .slice A1 (gapS I gone).length k1] 44)) rfl (Rd.new (enc := RwS.enc) (size := 1) (fun _ => rfl) w1 _ _ rfl rfl) (fun x hx => by
            have yy := ext_alloc w1 (.cells #[.slice Ad D.length cd, .slice A1 (gapS I gone).length k1] 44)
            rcases List.mem_cons.1 hx with rfl | hx
            · exact ((H2.out.below Y1.out (Nat.le_refl _)).rd OpS.enc_len).ext yy
            · simp at hx; subst hx; exact (O1.out.rd OpS.enc_len).ext yy) (by omega) (fun x hx => by
            have := HD.out; have := HI.out; have := gapS_len I gone
            rcases List.mem_cons.1 hx with rfl | hx
            · simp only; omega
            · simp at hx; subst hx; simp only; omega)) ?_
         rintro e w2 ⟨A2, k2, he, o2, y2⟩
         have eL : [(⟨Ad, D, cd⟩ : RwS), ⟨A1, gapS I gone, k1⟩].flatMap (fun x => x.l) = D ++ gapS I gone := by simp
         rw [eL] at he o2
         generalize hnl : (D ++ gapS I gone).length = nl at he o2
         subst he
         refine ⟨_, rfl, ?_⟩
         have hnlb : nl ≤ 20000001 := by rw [← hnl, List.length_append]; have := HD.out; have := HI.out; have := gapS_len I gone; omega
         have HNL := Lib.hid hnl
         have O2 := Lib.hid o2
         have Y2 : Hid (Below w.heap.size w w2) := Lib.hid (ext_trans Y1.out (ext_trans (ext_alloc w1 _) y2))
         clear o2 y2 hnl eL)
      )
  all_goals
    obtain ⟨g, x, hnp1, hA', hx, hxo, hLx, ⟨cur, hg⟩, hcx⟩ := own_lastN O2.out HNL.out H0.out
    subst hA'
    obtain ⟨⟨xk, xn, xr, xs, xp⟩, Ar, cr, As, cs, Aq, cq⟩ := x
    obtain ⟨z0, z1, z2, z3, z4⟩ := op_cells hcx
    have e1 : (1 : Int) ≤ (nl : Int) := by omega
    have e2 : (nl : Int) - 1 < (nl : Int) := by omega
    have hko : xk = o.k := by rw [← hxo]
    have hpo : xp = o.p := by rw [← hxo]
    clear hcx hLx hx hxo hg
    have hk1 : (xk == 1) = false := beq_eq_false_iff_ne.2 (by rw [hko]; exact HK.out)
    clear hko hpo
    go_wp2_with (go_at_call 157; refine Hid.out ?_)
    refine Lib.hid ?_
    refine (copyOps_any _ _ k2 (D ++ gapS I gone) _ HNL.out.symm ⟨O2.out.rd OpS.enc_len, fun x hx => (HSUB.out.ext Y2.out) x hx⟩ (by omega) (fun x hx => HSZ.out x hx)).mono ?_
    intro e w3 hN
    have hM := NewOps.late Y2.out hN
    clear hN
    rw [HM.out] at hM
    obtain ⟨A3, k3, l3, rfl, hM2⟩ := hM
    go_wp2_with (fail)
    go_ret
    exact ⟨A3, k3, l3, rfl, hM2⟩

set_option maxRecDepth 100000 in
set_option maxHeartbeats 1600000 in
theorem ops_patch (b : Nat) (w : World) (F : Nat → Prop) (m : Mk) (h : Mkr w F b m) (hmb : m.done.length + m.ins.length ≤ 10000000)
    (hs : ∀ o ∈ m.done ++ mkGap m, o.r.length ≤ 100000000 ∧ o.s.length ≤ 100000000 ∧ o.p.length ≤ 100000000) (o : Opd) (h0 : (m.done ++ mkGap m).getLast? = some o) (hk : o.k = 1) (hp : ¬ o.p = []) :
    Calls Tryz.prog 77 #[.pointer (some ⟨b, 0, none⟩)] w (NewOps (mkOps m) w) := by
  obtain ⟨vd, vi, D, I, h1, h2, h3, h4, h5, h6, h7, h8, h9, h10, h11⟩ := h
  obtain ⟨Ad, cd, rfl, _, _⟩ := h2.form
  obtain ⟨Ai, ci, rfl, _, _⟩ := h3.form
  have HD := Lib.hid (show D.length ≤ 10000000 by rw [← h4, ← h5] at hmb; simp [osOf] at hmb; omega)
  have HI := Lib.hid (show I.length ≤ 10000000 by rw [← h4, ← h5] at hmb; simp [osOf] at hmb; omega)
  have H1 := Lib.hid h1
  have H2 := Lib.hid h2
  have H3 := Lib.hid h3
  have hlt := lt_of_some h1
  obtain ⟨c0, c1, c2⟩ := box_3 h1
  have HSUB := Lib.hid (Mkr.sub h10 h11 m.gone)
  have HL0 : Hid (osOf (D ++ gapS I m.gone) = m.done ++ mkGap m) := Lib.hid (by
    unfold osOf; rw [List.map_append]; show osOf D ++ osOf (gapS I m.gone) = _; rw [gapS_os, h4, h5]; rfl)
  have HSZ : Hid (∀ x ∈ D ++ gapS I m.gone, x.o.r.length ≤ 100000000 ∧ x.o.s.length ≤ 100000000 ∧ x.o.p.length ≤ 100000000) := Lib.hid (fun x hx => hs x.o (by
    rw [← HL0.out]; unfold osOf; exact List.mem_map_of_mem hx))
  have H0 : Hid ((osOf (D ++ gapS I m.gone)).getLast? = some o) := Lib.hid (by rw [HL0.out]; exact h0)
  have HM : Hid (osOf (D ++ gapS I m.gone) = mkOps m) := Lib.hid (by rw [HL0.out]; unfold mkOps cutR; rw [h0]; simp only; rw [if_neg (fun h => hp h.2)])
  have HK := Lib.hid hk
  have HP := Lib.hid hp
  clear h1 h2 h3 h4 h5 hmb hs h6 h7 h8 h9 h10 h11 h0 hk hp
  generalize hgone : m.gone = gone at *
  have HGO := Lib.hid hgone
  clear hgone
  go_enter Tryz.func77, Tryz.ntmps77
  go_wp2_with (fail)
  go_region_law (first
      | (refine step_fn rfl 152 [.tmp 11] #[115] rfl Tryz.f152 (by kernel_rfl) (by kernel_rfl) (by kernel_rfl) [.pointer (some ⟨b, 0, none⟩)] (by rfl) (gap_any b (.slice Ad D.length cd) Ai I.length ci gone I w.drew H1.out rfl (H3.out.rd OpS.enc_len) (by have := HI.out; omega)) ?_
         rintro e w1 ⟨A1, k1, rfl, o1, y1⟩
         refine ⟨_, rfl, ?_⟩
         have hb1 := (y1.block b hlt).trans H1.out
         obtain ⟨d0, d1, d2⟩ := box_3 hb1
         have O1 := Lib.hid o1
         have Y1 : Hid (Below w.heap.size w w1) := Lib.hid ((up_drew (Below.refl _ _)).trans y1)
         clear hb1 o1 y1)
      | (refine step_fn rfl 156 [.tmp 13] #[126] rfl Tryz.f156 (by kernel_rfl) (by kernel_rfl) (by kernel_rfl) [.slice (some ⟨w1.heap.size, 0, none⟩) 2 2] (by rfl) (concatOs_any (some ⟨w1.heap.size, 0, none⟩) 2 2 [⟨Ad, D, cd⟩, ⟨A1, gapS I gone, k1⟩] (w1.alloc (.cells #[.slice Ad D.length cd, .slice A1 (gapS I gone).length k1] 44)) rfl (Rd.new (enc := RwS.enc) (size := 1) (fun _ => rfl) w1 _ _ rfl rfl) (fun x hx => by
            have yy := ext_alloc w1 (.cells #[.slice Ad D.length cd, .slice A1 (gapS I gone).length k1] 44)
            rcases List.mem_cons.1 hx with rfl | hx
            · exact ((H2.out.below Y1.out (Nat.le_refl _)).rd OpS.enc_len).ext yy
            · simp at hx; subst hx; exact (O1.out.rd OpS.enc_len).ext yy) (by omega) (fun x hx => by
            have := HD.out; have := HI.out; have := gapS_len I gone
            rcases List.mem_cons.1 hx with rfl | hx
            · simp only; omega
            · simp at hx; subst hx; simp only; omega)) ?_
         rintro e w2 ⟨A2, k2, he, o2, y2⟩
         have eL : [(⟨Ad, D, cd⟩ : RwS), ⟨A1, gapS I gone, k1⟩].flatMap (fun x => x.l) = D ++ gapS I gone := by simp
         rw [eL] at he o2
         generalize hnl : (D ++ gapS I gone).length = nl at he o2
         subst he
         refine ⟨_, rfl, ?_⟩
         have hnlb : nl ≤ 20000001 := by rw [← hnl, List.length_append]; have := HD.out; have := HI.out; have := gapS_len I gone; omega
         have HNL := Lib.hid hnl
         have O2 := Lib.hid o2
         have Y2 : Hid (Below w.heap.size w w2) := Lib.hid (ext_trans Y1.out (ext_trans (ext_alloc w1 _) y2))
         clear o2 y2 hnl eL)
      )
  all_goals
    obtain ⟨g, x, hnp1, hA', hx, hxo, hLx, ⟨cur, hg⟩, hcx⟩ := own_lastN O2.out HNL.out H0.out
    subst hA'
    obtain ⟨⟨xk, xn, xr, xs, xp⟩, Ar, cr, As, cs, Aq, cq⟩ := x
    obtain ⟨z0, z1, z2, z3, z4⟩ := op_cells hcx
    have e1 : (1 : Int) ≤ (nl : Int) := by omega
    have e2 : (nl : Int) - 1 < (nl : Int) := by omega
    have hko : xk = o.k := by rw [← hxo]
    have hpo : xp = o.p := by rw [← hxo]
    clear hcx hLx hx hxo hg
    have hk1 : xk = 1 := by rw [hko]; exact HK.out
    clear hko
    subst hk1
    have hp1 : ((xp.length : Int) == 0) = false := beq_eq_false_iff_ne.2 (by rw [hpo]; intro e; exact HP.out (List.eq_nil_of_length_eq_zero (by omega)))
    clear hpo
    go_wp2_with (go_at_call 157; refine Hid.out ?_)
    refine Lib.hid ?_
    refine (copyOps_any _ _ k2 (D ++ gapS I gone) _ HNL.out.symm ⟨O2.out.rd OpS.enc_len, fun x hx => (HSUB.out.ext Y2.out) x hx⟩ (by omega) (fun x hx => HSZ.out x hx)).mono ?_
    intro e w3 hN
    have hM := NewOps.late Y2.out hN
    clear hN
    rw [HM.out] at hM
    obtain ⟨A3, k3, l3, rfl, hM2⟩ := hM
    go_wp2_with (fail)
    go_ret
    exact ⟨A3, k3, l3, rfl, hM2⟩

set_option maxRecDepth 100000 in
set_option maxHeartbeats 1600000 in
theorem ops_cut (b : Nat) (w : World) (F : Nat → Prop) (m : Mk) (h : Mkr w F b m) (hmb : m.done.length + m.ins.length ≤ 10000000)
    (hs : ∀ o ∈ m.done ++ mkGap m, o.r.length ≤ 100000000 ∧ o.s.length ≤ 100000000 ∧ o.p.length ≤ 100000000) (o : Opd) (h0 : (m.done ++ mkGap m).getLast? = some o) (hk : o.k = 1) (hp : o.p = []) :
    Calls Tryz.prog 77 #[.pointer (some ⟨b, 0, none⟩)] w (NewOps (mkOps m) w) := by
  obtain ⟨vd, vi, D, I, h1, h2, h3, h4, h5, h6, h7, h8, h9, h10, h11⟩ := h
  obtain ⟨Ad, cd, rfl, _, _⟩ := h2.form
  obtain ⟨Ai, ci, rfl, _, _⟩ := h3.form
  have HD := Lib.hid (show D.length ≤ 10000000 by rw [← h4, ← h5] at hmb; simp [osOf] at hmb; omega)
  have HI := Lib.hid (show I.length ≤ 10000000 by rw [← h4, ← h5] at hmb; simp [osOf] at hmb; omega)
  have H1 := Lib.hid h1
  have H2 := Lib.hid h2
  have H3 := Lib.hid h3
  have hlt := lt_of_some h1
  obtain ⟨c0, c1, c2⟩ := box_3 h1
  have HSUB := Lib.hid (Mkr.sub h10 h11 m.gone)
  have HL0 : Hid (osOf (D ++ gapS I m.gone) = m.done ++ mkGap m) := Lib.hid (by
    unfold osOf; rw [List.map_append]; show osOf D ++ osOf (gapS I m.gone) = _; rw [gapS_os, h4, h5]; rfl)
  have HSZ : Hid (∀ x ∈ D ++ gapS I m.gone, x.o.r.length ≤ 100000000 ∧ x.o.s.length ≤ 100000000 ∧ x.o.p.length ≤ 100000000) := Lib.hid (fun x hx => hs x.o (by
    rw [← HL0.out]; unfold osOf; exact List.mem_map_of_mem hx))
  have H0 : Hid ((osOf (D ++ gapS I m.gone)).getLast? = some o) := Lib.hid (by rw [HL0.out]; exact h0)
  have HM : Hid (osOf ((D ++ gapS I m.gone).take ((D ++ gapS I m.gone).length - 1)) = mkOps m) := Lib.hid (by rw [← List.dropLast_eq_take]; unfold osOf; rw [List.map_dropLast]; show (osOf _).dropLast = _; rw [HL0.out]; unfold mkOps cutR; rw [h0]; simp only; rw [if_pos ⟨hk, hp⟩])
  have HK := Lib.hid hk
  have HP := Lib.hid hp
  clear h1 h2 h3 h4 h5 hmb hs h6 h7 h8 h9 h10 h11 h0 hk hp
  generalize hgone : m.gone = gone at *
  have HGO := Lib.hid hgone
  clear hgone
  go_enter Tryz.func77, Tryz.ntmps77
  go_wp2_with (fail)
  go_region_law (first
      | (refine step_fn rfl 152 [.tmp 11] #[115] rfl Tryz.f152 (by kernel_rfl) (by kernel_rfl) (by kernel_rfl) [.pointer (some ⟨b, 0, none⟩)] (by rfl) (gap_any b (.slice Ad D.length cd) Ai I.length ci gone I w.drew H1.out rfl (H3.out.rd OpS.enc_len) (by have := HI.out; omega)) ?_
         rintro e w1 ⟨A1, k1, rfl, o1, y1⟩
         refine ⟨_, rfl, ?_⟩
         have hb1 := (y1.block b hlt).trans H1.out
         obtain ⟨d0, d1, d2⟩ := box_3 hb1
         have O1 := Lib.hid o1
         have Y1 : Hid (Below w.heap.size w w1) := Lib.hid ((up_drew (Below.refl _ _)).trans y1)
         clear hb1 o1 y1)
      | (refine step_fn rfl 156 [.tmp 13] #[126] rfl Tryz.f156 (by kernel_rfl) (by kernel_rfl) (by kernel_rfl) [.slice (some ⟨w1.heap.size, 0, none⟩) 2 2] (by rfl) (concatOs_any (some ⟨w1.heap.size, 0, none⟩) 2 2 [⟨Ad, D, cd⟩, ⟨A1, gapS I gone, k1⟩] (w1.alloc (.cells #[.slice Ad D.length cd, .slice A1 (gapS I gone).length k1] 44)) rfl (Rd.new (enc := RwS.enc) (size := 1) (fun _ => rfl) w1 _ _ rfl rfl) (fun x hx => by
            have yy := ext_alloc w1 (.cells #[.slice Ad D.length cd, .slice A1 (gapS I gone).length k1] 44)
            rcases List.mem_cons.1 hx with rfl | hx
            · exact ((H2.out.below Y1.out (Nat.le_refl _)).rd OpS.enc_len).ext yy
            · simp at hx; subst hx; exact (O1.out.rd OpS.enc_len).ext yy) (by omega) (fun x hx => by
            have := HD.out; have := HI.out; have := gapS_len I gone
            rcases List.mem_cons.1 hx with rfl | hx
            · simp only; omega
            · simp at hx; subst hx; simp only; omega)) ?_
         rintro e w2 ⟨A2, k2, he, o2, y2⟩
         have eL : [(⟨Ad, D, cd⟩ : RwS), ⟨A1, gapS I gone, k1⟩].flatMap (fun x => x.l) = D ++ gapS I gone := by simp
         rw [eL] at he o2
         generalize hnl : (D ++ gapS I gone).length = nl at he o2
         subst he
         refine ⟨_, rfl, ?_⟩
         have hnlb : nl ≤ 20000001 := by rw [← hnl, List.length_append]; have := HD.out; have := HI.out; have := gapS_len I gone; omega
         have HNL := Lib.hid hnl
         have O2 := Lib.hid o2
         have Y2 : Hid (Below w.heap.size w w2) := Lib.hid (ext_trans Y1.out (ext_trans (ext_alloc w1 _) y2))
         clear o2 y2 hnl eL)
      )
  all_goals
    obtain ⟨g, x, hnp1, hA', hx, hxo, hLx, ⟨cur, hg⟩, hcx⟩ := own_lastN O2.out HNL.out H0.out
    subst hA'
    obtain ⟨⟨xk, xn, xr, xs, xp⟩, Ar, cr, As, cs, Aq, cq⟩ := x
    obtain ⟨z0, z1, z2, z3, z4⟩ := op_cells hcx
    have e1 : (1 : Int) ≤ (nl : Int) := by omega
    have e2 : (nl : Int) - 1 < (nl : Int) := by omega
    have hko : xk = o.k := by rw [← hxo]
    have hpo : xp = o.p := by rw [← hxo]
    clear hcx hLx hx hxo hg
    have hk1 : xk = 1 := by rw [hko]; exact HK.out
    clear hko
    subst hk1
    have hp1 : xp = [] := by rw [hpo]; exact HP.out
    clear hpo
    subst hp1
    have hcap : nl ≤ k2 := by have := O2.out.cap; have := HNL.out; omega
    go_wp2_with (go_at_call 157; refine Hid.out ?_)
    refine Lib.hid ?_
    refine (copyOps_any _ _ k2 ((D ++ gapS I gone).take (nl - 1)) _ (by rw [List.length_take, HNL.out]; omega) ⟨(O2.out.rd OpS.enc_len).take (nl - 1), fun x hx => (HSUB.out.ext Y2.out) x (List.mem_of_mem_take hx)⟩ (by omega) (fun x hx => HSZ.out x (List.mem_of_mem_take hx))).mono ?_
    intro e w3 hN
    have hM := NewOps.late Y2.out hN
    clear hN
    rw [← HNL.out, HM.out] at hM
    obtain ⟨A3, k3, l3, rfl, hM2⟩ := hM
    go_wp2_with (fail)
    go_ret
    exact ⟨A3, k3, l3, rfl, hM2⟩

/-- Ops, at whatever maker -/
theorem mkOps_any (b : Nat) (w : World) (F : Nat → Prop) (m : Mk) (h : Mkr w F b m) (hmb : m.done.length + m.ins.length ≤ 10000000)
    (hs : ∀ o ∈ m.done ++ mkGap m, o.r.length ≤ 100000000 ∧ o.s.length ≤ 100000000 ∧ o.p.length ≤ 100000000) :
    Calls Tryz.prog 77 #[.pointer (some ⟨b, 0, none⟩)] w (NewOps (mkOps m) w) := by
  cases h0 : (m.done ++ mkGap m).getLast? with
  | none => exact ops_nil b w F m h hmb hs (List.getLast?_eq_none_iff.1 h0)
  | some o =>
    by_cases hk : o.k = 1
    · by_cases hp : o.p = []
      · exact ops_cut b w F m h hmb hs o h0 hk hp
      · exact ops_patch b w F m h hmb hs o h0 hk hp
    · exact ops_kind b w F m h hmb hs o h0 hk
end Go.Proofs.YtfnkjcodcoehcaaGreatDoor
