/- Merged texts: MkRetK, MkRetP, MkRetS, MkRetA. -/
import Derived.Test.YtfnkjcodcoehcaaGreatDoorS20
namespace Go.Proofs.YtfnkjcodcoehcaaGreatDoor
open Go.RowKit
set_option linter.unusedVariables false
set_option linter.unusedSimpArgs false

set_option maxRecDepth 100000 in
set_option maxHeartbeats 1600000 in
theorem ret_kind (b : Nat) (Ap : Option Addr) (n : Int) (np cp : Nat) (p : List Ch) (w : World) (F : Nat → Prop) (m : Mk) (h : Mkr w F b m)
    (hnp : np = p.length) (rp : RdCh w w.heap.size Ap p) (op : OffF F Ap p.length) (hb : np ≤ 1048576) (hn1 : ¬ n < 1) (hmb : m.done.length + m.ins.length ≤ 10000000) (o : Opd) (h0 : (m.done ++ mkGap m).getLast? = some o) (hob : o.p.length ≤ 1048576) (hk : ¬ o.k = 1) :
    Calls Tryz.prog 75 #[.pointer (some ⟨b, 0, none⟩), .int .i64 n, .slice Ap np cp] w (MkOut (mkRetain m n p) w F b) := by
  obtain ⟨vd, vi, D, I, h1, h2, h3, h4, h5, h6, h7, h8, h9, h10, h11⟩ := h
  obtain ⟨Ad, cd, rfl, _, _⟩ := h2.form
  obtain ⟨Ai, ci, rfl, _, _⟩ := h3.form
  have HD := Lib.hid (show D.length ≤ 10000000 by rw [← h4, ← h5] at hmb; simp [osOf] at hmb; omega)
  have HI := Lib.hid (show I.length ≤ 10000000 by rw [← h4, ← h5] at hmb; simp [osOf] at hmb; omega)
  have NP := Lib.hid hnp
  have H1 := Lib.hid h1
  have H2 := Lib.hid h2
  have H3 := Lib.hid h3
  have hlt := lt_of_some h1
  obtain ⟨c0, c1, c2⟩ := box_3 h1
  have hf := box_thaw h1 0
  have H4 := Lib.hid h4
  have H5 := Lib.hid h5
  have HL0 : Hid (osOf (D ++ gapS I m.gone) = m.done ++ mkGap m) := Lib.hid (by
    unfold osOf; rw [List.map_append]; show osOf D ++ osOf (gapS I m.gone) = _; rw [gapS_os, h4, h5]; rfl)
  have HM : Hid (mkRetain m n p = ⟨m.done ++ mkGap m ++ [opR n p], [], 0⟩) := Lib.hid (by unfold mkRetain addR; rw [if_neg hn1, h0]; simp only; rw [if_neg (fun h => hk h.1)])
  have H0 : Hid ((osOf (D ++ gapS I m.gone)).getLast? = some o) := Lib.hid (by rw [HL0.out]; exact h0)
  have HK := Lib.hid hk
  clear hnp h1 h2 h3 h4 h5 hmb h0 hk
  generalize hgone : m.gone = gone at *
  go_enter Tryz.func75, Tryz.ntmps75
  go_wp2_with (fail)
  go_region_law (first
      | (refine step_fn rfl 152 [.tmp 18] #[115] rfl Tryz.f152 (by kernel_rfl) (by kernel_rfl) (by kernel_rfl) [.pointer (some ⟨b, 0, none⟩)] (by rfl) (gap_any b (.slice Ad D.length cd) Ai I.length ci gone I w.drew H1.out rfl (H3.out.rd OpS.enc_len) (by have := HI.out; omega)) ?_
         rintro e w1 ⟨A1, k1, rfl, o1, y1⟩
         refine ⟨_, rfl, ?_⟩
         have hb1 := (y1.block b hlt).trans H1.out
         obtain ⟨d0, d1, d2⟩ := box_3 hb1
         have hf1 := box_thaw hb1 0
         have HB1 := Lib.hid hb1
         have O1 := Lib.hid o1
         have Y1 : Hid (Below w.heap.size w w1) := Lib.hid ((up_drew (Below.refl _ _)).trans y1)
         clear hb1 o1 y1)
      | (refine step_os (m := gapS I gone) rfl (.tmp 17) (.tmp 19) (by rfl) (by rfl) (H2.out.below Y1.out (Nat.le_refl _)) w1.heap.size A1 k1 (gapS I gone).length (by rfl) rfl (O1.out.rd OpS.enc_len) (by have := HD.out; have := HI.out; have := gapS_len I gone; omega) (Nat.zero_le _) ?_
         intro vd' w4 ho hgr hv
         obtain ⟨A', c', hv', _, _⟩ := ho.form
         subst hv'
         generalize hnl : (D ++ gapS I gone).length = nl at ho hv
         have hbv : wb (.slice Ad D.length cd) ≠ some b := fun e => (h8 b e).2.1 rfl
         have hb4 := (hgr.block b (lt_of_some HB1.out) (fun e => hbv e.symm)).trans HB1.out
         obtain ⟨q0, q1, q2⟩ := box_3 hb4
         have hf4 := box_thaw hb4 0
         have hf4b := box_thaw hb4 1
         have hf4c := box_thaw hb4 2
         have HB4 := Lib.hid hb4
         have HO := Lib.hid ho
         have HG := Lib.hid hgr
         have HV := Lib.hid hv
         have HNL := Lib.hid hnl
         have hnlb : nl ≤ 20000001 := by rw [← hnl, List.length_append]; have := HD.out; have := HI.out; have := gapS_len I gone; omega
         clear ho hgr hv hb4 hbv hnl))
  all_goals
    obtain ⟨F2, hF2, hG2⟩ := flush_mk (m := m) (by rw [hgone]; exact H1.out) H2.out H3.out H4.out H5.out h6 h7 h8 h9 h10 h11 Y1.out (by rw [hgone]; exact HO.out) HG.out HV.out
    obtain ⟨g, x, hnp1, hA', hx, hxo, hLx, ⟨cur, hg⟩, hcx⟩ := own_lastN HO.out HNL.out H0.out
    subst hA'
    have hgb : g ≠ b := (hF2.2.2.2.2.1 g (by obtain ⟨q, hq⟩ : ∃ q, c' = q + 1 := ⟨c' - 1, by have := HO.out.cap; have := HNL.out; omega⟩; rw [hq]; rfl)).2
    have hgb' : b ≠ g := fun e => hgb e.symm
    have hPF := hF2.2.2.2.2.2 x (by rw [hgone]; rw [hLx]; simp)
    obtain ⟨⟨xk, xn, xr, xs, xp⟩, Ar, cr, As, cs, Aq, cq⟩ := x
    obtain ⟨z0, z1, z2, z3, z4⟩ := op_cells hcx
    have e1 : (1 : Int) ≤ (nl : Int) := by omega
    have e2 : (nl : Int) - 1 < (nl : Int) := by omega
    have hzf : w4.frozen? ⟨g, (nl - 1) * 5 + 1, none⟩ = false := box_thaw hg _
    have hko : xk = o.k := by rw [← hxo]
    have hpo : xp = o.p := by rw [← hxo]
    have rpE := rp.grow hG2 op
    have rqE := hPF.2.2.1
    have hqb : xp.length ≤ 1048576 := by rw [hpo]; exact hob
    have HCX := Lib.hid hcx
    have HLX := Lib.hid hLx
    have HX := Lib.hid hx
    have HXO := Lib.hid hxo
    clear hcx hPF hLx hx hxo
    have hk1 : (xk == 1) = false := beq_eq_false_iff_ne.2 (by rw [hko]; exact HK.out)
    clear hko hpo
    go_wp2_with (fail)
    generalize ((w4.setCell ⟨b, 0, none⟩ (.slice (some ⟨g, 0, none⟩) nl c')).setCell ⟨b, 1, none⟩ (.slice none 0 0)).setCell ⟨b, 2, none⟩ (.int .i64 0) = W at hF2 hG2 ⊢
    have rpW := rp.grow hG2 op
    rw [hgone] at hF2
    have hW := hF2.1
    obtain ⟨a0, a1, a2⟩ := box_3 hW
    have haf := box_thaw hW 0
    have hWlt := lt_of_some hW
    have HF2 := Lib.hid hF2
    have HW := Lib.hid hW
    clear hF2 hW
    go_region_law (first
        | (refine step_fn rfl 154 [.tmp 78] #[48] rfl Tryz.f154 (by kernel_rfl) (by kernel_rfl) (by kernel_rfl) [.slice Ap np cp] (by rfl) (copyC_any Ap np cp p W.drew NP.out (rpW.ext (up_drew (Below.refl _ _))) (by omega)) ?_
           rintro e w5 ⟨A3, k3, rfl, o5, y5⟩
           refine ⟨_, rfl, ?_⟩
           have hb5 := (y5.block b hWlt).trans HW.out
           obtain ⟨d0, d1, d2⟩ := box_3 hb5
           have hf5 := box_thaw hb5 0
           have O5 := Lib.hid o5
           have Y5 : Hid (Below W.heap.size W w5) := Lib.hid ((up_drew (Below.refl _ _)).trans y5)
           have y6 := ext_alloc w5 (.cells #[.int .u8 1, .int .i64 n, .slice none 0 0, .slice none 0 0, .slice A3 p.length k3] 50)
           have hb6 := (y6.block b (lt_of_some hb5)).trans hb5
           obtain ⟨g0, g1, g2⟩ := box_3 hb6
           have hf6 := box_thaw hb6 0
           have HB6 := Lib.hid hb6
           have Y6 := Lib.hid y6
           clear hb5 hb6 o5 y5 y6)
        | (refine step_os (m := [retS n p A3 k3]) rfl (.tmp 76) (.tmp 81) (by rfl) (by rfl) ((HF2.out.2.1.below Y5.out (Nat.le_refl _)).below Y6.out (Nat.le_refl _)) _ _ 1 1 (by rfl) rfl (rd_one (enc := OpS.enc) (size := 5) w5 _ (retS n p A3 k3) rfl) (by have := HNL.out; simp only [List.length_singleton]; omega) (Nat.zero_le _) ?_
           intro vd6 w6 ho hgr hv
           obtain ⟨A6, c6, hv6, _, _⟩ := ho.form
           subst hv6
           generalize hnl6 : (D ++ gapS I gone ++ [retS n p A3 k3]).length = nl6 at ho hv
           have hbv : wb (.slice (some ⟨g, 0, none⟩) nl c') ≠ some b := fun e => (HF2.out.2.2.2.2.1 b e).2 rfl
           have hb7 := (hgr.block b (lt_of_some HB6.out) (fun e => hbv e.symm)).trans HB6.out
           obtain ⟨q0', q1', q2'⟩ := box_3 hb7
           have hf7 := box_thaw hb7 0
           have HO6 := Lib.hid ho
           have HG6 := Lib.hid hgr
           have HV6 := Lib.hid hv
           clear ho hgr hv hb7 hbv hnl6))
    all_goals go_wp2_with (fail)
    all_goals
      refine bodyPost_ret (results_none rfl _ _ _) rfl ?_
      obtain ⟨F3, f1, f2⟩ := push_mk HF2.out Y5.out O5.out Y6.out HO6.out HG6.out HV6.out
      rw [HM.out]
      have e9 : osOf (D ++ gapS I gone ++ [retS n p A3 k3]) = m.done ++ mkGap m ++ [opR n p] := by rw [← HL0.out]; simp [osOf, retS]
      rw [← e9]
      exact ⟨rfl, F3, f1.mkr, hG2.trans f2⟩
end Go.Proofs.YtfnkjcodcoehcaaGreatDoor
namespace Go.Proofs.YtfnkjcodcoehcaaGreatDoor
open Go.RowKit
set_option linter.unusedVariables false
set_option linter.unusedSimpArgs false

set_option maxRecDepth 100000 in
set_option maxHeartbeats 1600000 in
theorem ret_patch (b : Nat) (Ap : Option Addr) (n : Int) (np cp : Nat) (p : List Ch) (w : World) (F : Nat → Prop) (m : Mk) (h : Mkr w F b m)
    (hnp : np = p.length) (rp : RdCh w w.heap.size Ap p) (op : OffF F Ap p.length) (hb : np ≤ 1048576) (hn1 : ¬ n < 1) (hmb : m.done.length + m.ins.length ≤ 10000000) (o : Opd) (h0 : (m.done ++ mkGap m).getLast? = some o) (hob : o.p.length ≤ 1048576) (hk : o.k = 1) (hp : ¬ o.p = p) :
    Calls Tryz.prog 75 #[.pointer (some ⟨b, 0, none⟩), .int .i64 n, .slice Ap np cp] w (MkOut (mkRetain m n p) w F b) := by
  obtain ⟨vd, vi, D, I, h1, h2, h3, h4, h5, h6, h7, h8, h9, h10, h11⟩ := h
  obtain ⟨Ad, cd, rfl, _, _⟩ := h2.form
  obtain ⟨Ai, ci, rfl, _, _⟩ := h3.form
  have HD := Lib.hid (show D.length ≤ 10000000 by rw [← h4, ← h5] at hmb; simp [osOf] at hmb; omega)
  have HI := Lib.hid (show I.length ≤ 10000000 by rw [← h4, ← h5] at hmb; simp [osOf] at hmb; omega)
  have NP := Lib.hid hnp
  have H1 := Lib.hid h1
  have H2 := Lib.hid h2
  have H3 := Lib.hid h3
  have hlt := lt_of_some h1
  obtain ⟨c0, c1, c2⟩ := box_3 h1
  have hf := box_thaw h1 0
  have H4 := Lib.hid h4
  have H5 := Lib.hid h5
  have HL0 : Hid (osOf (D ++ gapS I m.gone) = m.done ++ mkGap m) := Lib.hid (by
    unfold osOf; rw [List.map_append]; show osOf D ++ osOf (gapS I m.gone) = _; rw [gapS_os, h4, h5]; rfl)
  have HM : Hid (mkRetain m n p = ⟨m.done ++ mkGap m ++ [opR n p], [], 0⟩) := Lib.hid (by unfold mkRetain addR; rw [if_neg hn1, h0]; simp only; rw [if_neg (fun h => hp h.2)])
  have H0 : Hid ((osOf (D ++ gapS I m.gone)).getLast? = some o) := Lib.hid (by rw [HL0.out]; exact h0)
  have HK := Lib.hid hk
  have HP := Lib.hid hp
  clear hnp h1 h2 h3 h4 h5 hmb h0 hk hp
  generalize hgone : m.gone = gone at *
  go_enter Tryz.func75, Tryz.ntmps75
  go_wp2_with (fail)
  go_region_law (first
      | (refine step_fn rfl 152 [.tmp 18] #[115] rfl Tryz.f152 (by kernel_rfl) (by kernel_rfl) (by kernel_rfl) [.pointer (some ⟨b, 0, none⟩)] (by rfl) (gap_any b (.slice Ad D.length cd) Ai I.length ci gone I w.drew H1.out rfl (H3.out.rd OpS.enc_len) (by have := HI.out; omega)) ?_
         rintro e w1 ⟨A1, k1, rfl, o1, y1⟩
         refine ⟨_, rfl, ?_⟩
         have hb1 := (y1.block b hlt).trans H1.out
         obtain ⟨d0, d1, d2⟩ := box_3 hb1
         have hf1 := box_thaw hb1 0
         have HB1 := Lib.hid hb1
         have O1 := Lib.hid o1
         have Y1 : Hid (Below w.heap.size w w1) := Lib.hid ((up_drew (Below.refl _ _)).trans y1)
         clear hb1 o1 y1)
      | (refine step_os (m := gapS I gone) rfl (.tmp 17) (.tmp 19) (by rfl) (by rfl) (H2.out.below Y1.out (Nat.le_refl _)) w1.heap.size A1 k1 (gapS I gone).length (by rfl) rfl (O1.out.rd OpS.enc_len) (by have := HD.out; have := HI.out; have := gapS_len I gone; omega) (Nat.zero_le _) ?_
         intro vd' w4 ho hgr hv
         obtain ⟨A', c', hv', _, _⟩ := ho.form
         subst hv'
         generalize hnl : (D ++ gapS I gone).length = nl at ho hv
         have hbv : wb (.slice Ad D.length cd) ≠ some b := fun e => (h8 b e).2.1 rfl
         have hb4 := (hgr.block b (lt_of_some HB1.out) (fun e => hbv e.symm)).trans HB1.out
         obtain ⟨q0, q1, q2⟩ := box_3 hb4
         have hf4 := box_thaw hb4 0
         have hf4b := box_thaw hb4 1
         have hf4c := box_thaw hb4 2
         have HB4 := Lib.hid hb4
         have HO := Lib.hid ho
         have HG := Lib.hid hgr
         have HV := Lib.hid hv
         have HNL := Lib.hid hnl
         have hnlb : nl ≤ 20000001 := by rw [← hnl, List.length_append]; have := HD.out; have := HI.out; have := gapS_len I gone; omega
         clear ho hgr hv hb4 hbv hnl))
  all_goals
    obtain ⟨F2, hF2, hG2⟩ := flush_mk (m := m) (by rw [hgone]; exact H1.out) H2.out H3.out H4.out H5.out h6 h7 h8 h9 h10 h11 Y1.out (by rw [hgone]; exact HO.out) HG.out HV.out
    obtain ⟨g, x, hnp1, hA', hx, hxo, hLx, ⟨cur, hg⟩, hcx⟩ := own_lastN HO.out HNL.out H0.out
    subst hA'
    have hgb : g ≠ b := (hF2.2.2.2.2.1 g (by obtain ⟨q, hq⟩ : ∃ q, c' = q + 1 := ⟨c' - 1, by have := HO.out.cap; have := HNL.out; omega⟩; rw [hq]; rfl)).2
    have hgb' : b ≠ g := fun e => hgb e.symm
    have hPF := hF2.2.2.2.2.2 x (by rw [hgone]; rw [hLx]; simp)
    obtain ⟨⟨xk, xn, xr, xs, xp⟩, Ar, cr, As, cs, Aq, cq⟩ := x
    obtain ⟨z0, z1, z2, z3, z4⟩ := op_cells hcx
    have e1 : (1 : Int) ≤ (nl : Int) := by omega
    have e2 : (nl : Int) - 1 < (nl : Int) := by omega
    have hzf : w4.frozen? ⟨g, (nl - 1) * 5 + 1, none⟩ = false := box_thaw hg _
    have hko : xk = o.k := by rw [← hxo]
    have hpo : xp = o.p := by rw [← hxo]
    have rpE := rp.grow hG2 op
    have rqE := hPF.2.2.1
    have hqb : xp.length ≤ 1048576 := by rw [hpo]; exact hob
    have HCX := Lib.hid hcx
    have HLX := Lib.hid hLx
    have HX := Lib.hid hx
    have HXO := Lib.hid hxo
    clear hcx hPF hLx hx hxo
    have hk1 : xk = 1 := by rw [hko]; exact HK.out
    clear hko
    subst hk1
    have hfp : decide (xp = p) = false := by rw [hpo]; exact decide_eq_false HP.out
    clear hpo
    go_wp2_with (go_at_call 153; refine (sameC_any Aq Ap xp.length np cq cp xp p _ rfl NP.out rqE rpE (by omega) (by omega)).mono ?_; rintro e w5 ⟨rfl, q, rfl⟩)
    have hF2 := hF2.below (ext_drew _ q)
    have hG2 := hG2.trans (Grow.of (ext_drew _ q))
    generalize (((w4.setCell ⟨b, 0, none⟩ (.slice (some ⟨g, 0, none⟩) nl c')).setCell ⟨b, 1, none⟩ (.slice none 0 0)).setCell ⟨b, 2, none⟩ (.int .i64 0)).drewN q = W at hF2 hG2 ⊢
    have rpW := rp.grow hG2 op
    rw [hgone] at hF2
    have hW := hF2.1
    obtain ⟨a0, a1, a2⟩ := box_3 hW
    have haf := box_thaw hW 0
    have hWlt := lt_of_some hW
    have HF2 := Lib.hid hF2
    have HW := Lib.hid hW
    clear hF2 hW
    go_region_law (first
        | (refine step_fn rfl 154 [.tmp 78] #[48] rfl Tryz.f154 (by kernel_rfl) (by kernel_rfl) (by kernel_rfl) [.slice Ap np cp] (by rfl) (copyC_any Ap np cp p W.drew NP.out (rpW.ext (up_drew (Below.refl _ _))) (by omega)) ?_
           rintro e w5 ⟨A3, k3, rfl, o5, y5⟩
           refine ⟨_, rfl, ?_⟩
           have hb5 := (y5.block b hWlt).trans HW.out
           obtain ⟨d0, d1, d2⟩ := box_3 hb5
           have hf5 := box_thaw hb5 0
           have O5 := Lib.hid o5
           have Y5 : Hid (Below W.heap.size W w5) := Lib.hid ((up_drew (Below.refl _ _)).trans y5)
           have y6 := ext_alloc w5 (.cells #[.int .u8 1, .int .i64 n, .slice none 0 0, .slice none 0 0, .slice A3 p.length k3] 50)
           have hb6 := (y6.block b (lt_of_some hb5)).trans hb5
           obtain ⟨g0, g1, g2⟩ := box_3 hb6
           have hf6 := box_thaw hb6 0
           have HB6 := Lib.hid hb6
           have Y6 := Lib.hid y6
           clear hb5 hb6 o5 y5 y6)
        | (refine step_os (m := [retS n p A3 k3]) rfl (.tmp 76) (.tmp 81) (by rfl) (by rfl) ((HF2.out.2.1.below Y5.out (Nat.le_refl _)).below Y6.out (Nat.le_refl _)) _ _ 1 1 (by rfl) rfl (rd_one (enc := OpS.enc) (size := 5) w5 _ (retS n p A3 k3) rfl) (by have := HNL.out; simp only [List.length_singleton]; omega) (Nat.zero_le _) ?_
           intro vd6 w6 ho hgr hv
           obtain ⟨A6, c6, hv6, _, _⟩ := ho.form
           subst hv6
           generalize hnl6 : (D ++ gapS I gone ++ [retS n p A3 k3]).length = nl6 at ho hv
           have hbv : wb (.slice (some ⟨g, 0, none⟩) nl c') ≠ some b := fun e => (HF2.out.2.2.2.2.1 b e).2 rfl
           have hb7 := (hgr.block b (lt_of_some HB6.out) (fun e => hbv e.symm)).trans HB6.out
           obtain ⟨q0', q1', q2'⟩ := box_3 hb7
           have hf7 := box_thaw hb7 0
           have HO6 := Lib.hid ho
           have HG6 := Lib.hid hgr
           have HV6 := Lib.hid hv
           clear ho hgr hv hb7 hbv hnl6))
    all_goals go_wp2_with (fail)
    all_goals
      refine bodyPost_ret (results_none rfl _ _ _) rfl ?_
      obtain ⟨F3, f1, f2⟩ := push_mk HF2.out Y5.out O5.out Y6.out HO6.out HG6.out HV6.out
      rw [HM.out]
      have e9 : osOf (D ++ gapS I gone ++ [retS n p A3 k3]) = m.done ++ mkGap m ++ [opR n p] := by rw [← HL0.out]; simp [osOf, retS]
      rw [← e9]
      exact ⟨rfl, F3, f1.mkr, hG2.trans f2⟩
end Go.Proofs.YtfnkjcodcoehcaaGreatDoor
namespace Go.Proofs.YtfnkjcodcoehcaaGreatDoor
open Go.RowKit
set_option linter.unusedVariables false
set_option linter.unusedSimpArgs false

set_option maxRecDepth 100000 in
set_option maxHeartbeats 1600000 in
theorem ret_same (b : Nat) (Ap : Option Addr) (n : Int) (np cp : Nat) (p : List Ch) (w : World) (F : Nat → Prop) (m : Mk) (h : Mkr w F b m)
    (hnp : np = p.length) (rp : RdCh w w.heap.size Ap p) (op : OffF F Ap p.length) (hb : np ≤ 1048576) (hn1 : ¬ n < 1) (hmb : m.done.length + m.ins.length ≤ 10000000) (o : Opd) (h0 : (m.done ++ mkGap m).getLast? = some o) (hob : o.p.length ≤ 1048576) (hk : o.k = 1) (hp : o.p = p) :
    Calls Tryz.prog 75 #[.pointer (some ⟨b, 0, none⟩), .int .i64 n, .slice Ap np cp] w (MkOut (mkRetain m n p) w F b) := by
  obtain ⟨vd, vi, D, I, h1, h2, h3, h4, h5, h6, h7, h8, h9, h10, h11⟩ := h
  obtain ⟨Ad, cd, rfl, _, _⟩ := h2.form
  obtain ⟨Ai, ci, rfl, _, _⟩ := h3.form
  have HD := Lib.hid (show D.length ≤ 10000000 by rw [← h4, ← h5] at hmb; simp [osOf] at hmb; omega)
  have HI := Lib.hid (show I.length ≤ 10000000 by rw [← h4, ← h5] at hmb; simp [osOf] at hmb; omega)
  have NP := Lib.hid hnp
  have H1 := Lib.hid h1
  have H2 := Lib.hid h2
  have H3 := Lib.hid h3
  have hlt := lt_of_some h1
  obtain ⟨c0, c1, c2⟩ := box_3 h1
  have hf := box_thaw h1 0
  have H4 := Lib.hid h4
  have H5 := Lib.hid h5
  have HL0 : Hid (osOf (D ++ gapS I m.gone) = m.done ++ mkGap m) := Lib.hid (by
    unfold osOf; rw [List.map_append]; show osOf D ++ osOf (gapS I m.gone) = _; rw [gapS_os, h4, h5]; rfl)
  have HM : Hid (mkRetain m n p = ⟨(m.done ++ mkGap m).dropLast ++ [{ o with n := IntKind.i64.wrap (o.n + n) }], [], 0⟩) := Lib.hid (by unfold mkRetain addR; rw [if_neg hn1, h0]; simp only; rw [if_pos ⟨hk, hp⟩])
  have H0 : Hid ((osOf (D ++ gapS I m.gone)).getLast? = some o) := Lib.hid (by rw [HL0.out]; exact h0)
  have HK := Lib.hid hk
  have HP := Lib.hid hp
  clear hnp h1 h2 h3 h4 h5 hmb h0 hk hp
  generalize hgone : m.gone = gone at *
  go_enter Tryz.func75, Tryz.ntmps75
  go_wp2_with (fail)
  go_region_law (first
      | (refine step_fn rfl 152 [.tmp 18] #[115] rfl Tryz.f152 (by kernel_rfl) (by kernel_rfl) (by kernel_rfl) [.pointer (some ⟨b, 0, none⟩)] (by rfl) (gap_any b (.slice Ad D.length cd) Ai I.length ci gone I w.drew H1.out rfl (H3.out.rd OpS.enc_len) (by have := HI.out; omega)) ?_
         rintro e w1 ⟨A1, k1, rfl, o1, y1⟩
         refine ⟨_, rfl, ?_⟩
         have hb1 := (y1.block b hlt).trans H1.out
         obtain ⟨d0, d1, d2⟩ := box_3 hb1
         have hf1 := box_thaw hb1 0
         have HB1 := Lib.hid hb1
         have O1 := Lib.hid o1
         have Y1 : Hid (Below w.heap.size w w1) := Lib.hid ((up_drew (Below.refl _ _)).trans y1)
         clear hb1 o1 y1)
      | (refine step_os (m := gapS I gone) rfl (.tmp 17) (.tmp 19) (by rfl) (by rfl) (H2.out.below Y1.out (Nat.le_refl _)) w1.heap.size A1 k1 (gapS I gone).length (by rfl) rfl (O1.out.rd OpS.enc_len) (by have := HD.out; have := HI.out; have := gapS_len I gone; omega) (Nat.zero_le _) ?_
         intro vd' w4 ho hgr hv
         obtain ⟨A', c', hv', _, _⟩ := ho.form
         subst hv'
         generalize hnl : (D ++ gapS I gone).length = nl at ho hv
         have hbv : wb (.slice Ad D.length cd) ≠ some b := fun e => (h8 b e).2.1 rfl
         have hb4 := (hgr.block b (lt_of_some HB1.out) (fun e => hbv e.symm)).trans HB1.out
         obtain ⟨q0, q1, q2⟩ := box_3 hb4
         have hf4 := box_thaw hb4 0
         have hf4b := box_thaw hb4 1
         have hf4c := box_thaw hb4 2
         have HB4 := Lib.hid hb4
         have HO := Lib.hid ho
         have HG := Lib.hid hgr
         have HV := Lib.hid hv
         have HNL := Lib.hid hnl
         have hnlb : nl ≤ 20000001 := by rw [← hnl, List.length_append]; have := HD.out; have := HI.out; have := gapS_len I gone; omega
         clear ho hgr hv hb4 hbv hnl))
  all_goals
    obtain ⟨F2, hF2, hG2⟩ := flush_mk (m := m) (by rw [hgone]; exact H1.out) H2.out H3.out H4.out H5.out h6 h7 h8 h9 h10 h11 Y1.out (by rw [hgone]; exact HO.out) HG.out HV.out
    obtain ⟨g, x, hnp1, hA', hx, hxo, hLx, ⟨cur, hg⟩, hcx⟩ := own_lastN HO.out HNL.out H0.out
    subst hA'
    have hgb : g ≠ b := (hF2.2.2.2.2.1 g (by obtain ⟨q, hq⟩ : ∃ q, c' = q + 1 := ⟨c' - 1, by have := HO.out.cap; have := HNL.out; omega⟩; rw [hq]; rfl)).2
    have hgb' : b ≠ g := fun e => hgb e.symm
    have hPF := hF2.2.2.2.2.2 x (by rw [hgone]; rw [hLx]; simp)
    obtain ⟨⟨xk, xn, xr, xs, xp⟩, Ar, cr, As, cs, Aq, cq⟩ := x
    obtain ⟨z0, z1, z2, z3, z4⟩ := op_cells hcx
    have e1 : (1 : Int) ≤ (nl : Int) := by omega
    have e2 : (nl : Int) - 1 < (nl : Int) := by omega
    have hzf : w4.frozen? ⟨g, (nl - 1) * 5 + 1, none⟩ = false := box_thaw hg _
    have hko : xk = o.k := by rw [← hxo]
    have hpo : xp = o.p := by rw [← hxo]
    have rpE := rp.grow hG2 op
    have rqE := hPF.2.2.1
    have hqb : xp.length ≤ 1048576 := by rw [hpo]; exact hob
    have HCX := Lib.hid hcx
    have HLX := Lib.hid hLx
    have HX := Lib.hid hx
    have HXO := Lib.hid hxo
    clear hcx hPF hLx hx hxo
    have hk1 : xk = 1 := by rw [hko]; exact HK.out
    clear hko
    subst hk1
    have hfp : decide (xp = p) = true := by rw [hpo]; exact decide_eq_true HP.out
    clear hpo
    go_wp2_with (go_at_call 153; refine (sameC_any Aq Ap xp.length np cq cp xp p _ rfl NP.out rqE rpE (by omega) (by omega)).mono ?_; rintro e w5 ⟨rfl, q, rfl⟩)
    refine bodyPost_ret (results_none rfl _ _ _) rfl ?_
    have hF3 := hF2.below (ext_drew _ q)
    have hG3 := hG2.trans (Grow.of (ext_drew _ q))
    rw [hgone] at hF3
    have hw : IntKind.i64.wrap (xn + n) = wrap64 (xn + n) := by rw [IntWalk.i64_left]
    obtain ⟨f1, f2⟩ := grow_mk hF3 HX.out HLX.out (wrap64 (xn + n))
    rw [HNL.out] at f1 f2
    have e9 : osOf ((D ++ gapS I gone).dropLast ++ [({ o := { k := 1, n := wrap64 (xn + n), r := xr, s := xs, p := xp }, Ar := Ar, cr := cr, As := As, cs := cs, Ap := Aq, cp := cq } : OpS)]) = (m.done ++ mkGap m).dropLast ++ [{ o with n := IntKind.i64.wrap (o.n + n) }] := by
      rw [← HL0.out, ← HXO.out]; simp [osOf, List.map_dropLast, hw]
    rw [HM.out, ← e9]
    exact ⟨rfl, F2, f1.mkr, hG3.trans f2⟩
end Go.Proofs.YtfnkjcodcoehcaaGreatDoor
namespace Go.Proofs.YtfnkjcodcoehcaaGreatDoor
open Go.RowKit
set_option linter.unusedVariables false
theorem mkRetain_any (b : Nat) (Ap : Option Addr) (n : Int) (np cp : Nat) (p : List Ch) (w : World) (F : Nat → Prop) (m : Mk) (h : Mkr w F b m)
    (hnp : np = p.length) (rp : RdCh w w.heap.size Ap p) (op : OffF F Ap p.length) (hb : np ≤ 1048576) (hmb : m.done.length + m.ins.length ≤ 10000000) (hpb : ∀ o ∈ m.done ++ mkGap m, o.p.length ≤ 1048576) :
    Calls Tryz.prog 75 #[.pointer (some ⟨b, 0, none⟩), .int .i64 n, .slice Ap np cp] w (MkOut (mkRetain m n p) w F b) := by
  by_cases hn : n < 1
  · exact ret_less b Ap n np cp p w F m h hn
  · cases h0 : (m.done ++ mkGap m).getLast? with
    | none => exact ret_none b Ap n np cp p w F m h hnp rp op hb hn hmb (List.getLast?_eq_none_iff.1 h0)
    | some o =>
      have ho := hpb o (List.mem_of_getLast? h0)
      by_cases hk : o.k = 1
      · by_cases hp : o.p = p
        · exact ret_same b Ap n np cp p w F m h hnp rp op hb hn hmb o h0 ho hk hp
        · exact ret_patch b Ap n np cp p w F m h hnp rp op hb hn hmb o h0 ho hk hp
      · exact ret_kind b Ap n np cp p w F m h hnp rp op hb hn hmb o h0 ho hk
end Go.Proofs.YtfnkjcodcoehcaaGreatDoor
