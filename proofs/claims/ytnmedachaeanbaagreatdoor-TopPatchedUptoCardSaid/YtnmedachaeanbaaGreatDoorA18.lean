/- Merged texts. -/
import Derived.Test.YtnmedachaeanbaaGreatDoorA17
namespace Go.Proofs.YtnmedachaeanbaaGreatDoor
set_option maxRecDepth 100000
set_option maxHeartbeats 4000000
open Go.RowKit
open Go.Lib (hid)
set_option linter.unusedVariables false
set_option linter.unusedSimpArgs false
theorem Z4i (A : Option Addr) (n c : Nat) (l : List Ch) (w : World) (hn : n = l.length) (h : RdCh w w.heap.size A l) (hb : n ≤ 100000000) :
 Calls Tryz.prog 142 #[.slice A n c] w (Y2p l w) := by
 have N := hid hn
 clear hn
 go_enter Tryz.func142, Tryz.ntmps142
 go_wp2_with (go_at_call 145; refine Hid.out ?_)
 refine hid ?_
 refine (Z3T A n c l w N.out h hb).mono ?_
 rintro e w1 ⟨A', c', rfl, hown, y⟩
 go_wp2_with (fail)
 go_ret
 exact ⟨A', c', rfl, hown, y⟩
theorem Y4u (b : Nat) (Ap : Option Addr) (n : Int) (np cp : Nat) (p : List Ch) (w : World) (F : Nat → Prop) (m : Mk) (h : Mkr w F b m) (hn : n < 1) :
 Calls Tryz.prog 65 #[.pointer (some ⟨b, 0, none⟩), .int .i64 n, .slice Ap np cp] w (Z5j (Z0s m n p) w F b) := by
 have H := hid h
 have e : Z0s m n p = m := by unfold Z0s; rw [if_pos hn]
 rw [e]
 clear h e
 go_enter Tryz.func65, Tryz.ntmps65
 go_wp2_with (fail)
 refine bodyPost_ret (results_none rfl _ _ _) rfl ?_
 exact ⟨rfl, F, H.out, Grow.refl _ _⟩
theorem Y4v (b : Nat) (Ap : Option Addr) (n : Int) (np cp : Nat) (p : List Ch) (w : World) (F : Nat → Prop) (m : Mk) (h : Mkr w F b m)
 (hnp : np = p.length) (rp : RdCh w w.heap.size Ap p) (op : OffF F Ap p.length) (hb : np ≤ 1048576) (hn1 : ¬ n < 1) (hmb : m.done.length + m.ins.length ≤ 10000000) (h0 : m.done ++ Z03 m = []) :
 Calls Tryz.prog 65 #[.pointer (some ⟨b, 0, none⟩), .int .i64 n, .slice Ap np cp] w (Z5j (Z0s m n p) w F b) := by
 obtain ⟨vd, vi, D, I, h1, h2, h3, h4, h5, h6, h7, h8, h9, h10, h11⟩ := h
 obtain ⟨Ad, cd, rfl, _, _⟩ := h2.form
 obtain ⟨Ai, ci, rfl, _, _⟩ := h3.form
 have HD := hid (show D.length ≤ 10000000 by rw [← h4, ← h5] at hmb; simp [osOf] at hmb; omega)
 have HI := hid (show I.length ≤ 10000000 by rw [← h4, ← h5] at hmb; simp [osOf] at hmb; omega)
 have NP := hid hnp
 have H1 := hid h1
 have H2 := hid h2
 have H3 := hid h3
 have hlt := Z0b h1
 obtain ⟨c0, c1, c2⟩ := Z0Z h1
 have hf := Z0d h1 0
 have H4 := hid h4
 have H5 := hid h5
 have HL0 : Hid (D ++ gapS I m.gone = []) := hid (by
  have e : osOf (D ++ gapS I m.gone) = [] := by rw [← h0]; unfold osOf; rw [List.map_append]; show osOf D ++ osOf (gapS I m.gone) = _; rw [Z3r, h4, h5]; rfl
  unfold osOf at e
  simpa using e)
 have HM : Hid (Z0s m n p = ⟨[opR n p], [], 0⟩) := hid (by unfold Z0s addR; rw [if_neg hn1, h0]; rfl)
 clear hnp h1 h2 h3 h4 h5 hmb h0
 generalize hgone : m.gone = gone at *
 go_enter Tryz.func65, Tryz.ntmps65
 go_wp2_with (fail)
 go_region_law (first
  | (refine Z0E rfl 140 [.tmp 18] #[110] rfl Tryz.f140 (by kernel_rfl) (by kernel_rfl) (by kernel_rfl) [.pointer (some ⟨b, 0, none⟩)] (by rfl) (Z3s b (.slice Ad D.length cd) Ai I.length ci gone I w.drew H1.out rfl (H3.out.rd OpS.enc_len) (by have := HI.out; omega)) ?_
     rintro e w1 ⟨A1, k1, rfl, o1, y1⟩
     refine ⟨_, rfl, ?_⟩
     have hb1 := (y1.block b hlt).trans H1.out
     obtain ⟨d0, d1, d2⟩ := Z0Z hb1
     have hf1 := Z0d hb1 0
     have HB1 := hid hb1
     have O1 := hid o1
     have Y1 : Hid (Below w.heap.size w w1) := hid ((Z0v (Below.refl _ _)).trans y1)
     clear hb1 o1 y1)
  | (refine Z2E (m := gapS I gone) rfl (.tmp 17) (.tmp 19) (by rfl) (by rfl) (H2.out.below Y1.out (Nat.le_refl _)) w1.heap.size A1 k1 (gapS I gone).length (by rfl) rfl (O1.out.rd OpS.enc_len) (by have := HD.out; have := HI.out; have := Z1e I gone; omega) (Nat.zero_le _) ?_
     intro vd' w4 ho hgr hv
     obtain ⟨A', c', hv', _, _⟩ := ho.form
     subst hv'
     generalize hnl : (D ++ gapS I gone).length = nl at ho hv
     have hbv : wb (.slice Ad D.length cd) ≠ some b := fun e => (h8 b e).2.1 rfl
     have hb4 := (hgr.block b (Z0b HB1.out) (fun e => hbv e.symm)).trans HB1.out
     obtain ⟨q0, q1, q2⟩ := Z0Z hb4
     have hf4 := Z0d hb4 0
     have hf4b := Z0d hb4 1
     have hf4c := Z0d hb4 2
     have HB4 := hid hb4
     have HO := hid ho
     have HG := hid hgr
     have HV := hid hv
     have HNL := hid hnl
     have hnl0 : nl = 0 := by rw [← hnl, HL0.out]; rfl
     subst hnl0
     clear ho hgr hv hb4 hbv hnl))
 all_goals
  obtain ⟨F2, hF2, hG2⟩ := Z5w (m := m) (by rw [hgone]; exact H1.out) H2.out H3.out H4.out H5.out h6 h7 h8 h9 h10 h11 Y1.out (by rw [hgone]; exact HO.out) HG.out HV.out
  go_wp2_with (fail)
  generalize ((w4.setCell ⟨b, 0, none⟩ (.slice A' 0 c')).setCell ⟨b, 1, none⟩ (.slice none 0 0)).setCell ⟨b, 2, none⟩ (.int .i64 0) = W at hF2 hG2 ⊢
  have rpW := rp.grow hG2 op
  rw [hgone, HL0.out] at hF2
  have hW := hF2.1
  obtain ⟨a0, a1, a2⟩ := Z0Z hW
  have haf := Z0d hW 0
  have hWlt := Z0b hW
  have HF2 := hid hF2
  have HW := hid hW
  clear hF2 hW
  go_region_law (first
   | (refine Z0E rfl 142 [.tmp 78] #[24] rfl Tryz.f142 (by kernel_rfl) (by kernel_rfl) (by kernel_rfl) [.slice Ap np cp] (by rfl) (Z4i Ap np cp p W.drew NP.out (rpW.ext (Z0v (Below.refl _ _))) (by omega)) ?_
      rintro e w5 ⟨A3, k3, rfl, o5, y5⟩
      refine ⟨_, rfl, ?_⟩
      have hb5 := (y5.block b hWlt).trans HW.out
      obtain ⟨d0, d1, d2⟩ := Z0Z hb5
      have hf5 := Z0d hb5 0
      have O5 := hid o5
      have Y5 : Hid (Below W.heap.size W w5) := hid ((Z0v (Below.refl _ _)).trans y5)
      have y6 := Z0c w5 (.cells #[.int .u8 1, .int .i64 n, .slice none 0 0, .slice none 0 0, .slice A3 p.length k3] 36)
      have hb6 := (y6.block b (Z0b hb5)).trans hb5
      obtain ⟨g0, g1, g2⟩ := Z0Z hb6
      have hf6 := Z0d hb6 0
      have HB6 := hid hb6
      have Y6 := hid y6
      clear hb5 hb6 o5 y5 y6)
   | (refine Z2E (m := [retS n p A3 k3]) rfl (.tmp 76) (.tmp 81) (by rfl) (by rfl) ((HF2.out.2.1.below Y5.out (Nat.le_refl _)).below Y6.out (Nat.le_refl _)) _ _ 1 1 (by rfl) rfl (Z1O (enc := OpS.enc) (size := 5) w5 _ (retS n p A3 k3) rfl) (by simp) (Nat.zero_le _) ?_
      intro vd6 w6 ho hgr hv
      obtain ⟨A6, c6, hv6, _, _⟩ := ho.form
      subst hv6
      generalize hnl6 : ([] ++ [retS n p A3 k3]).length = nl6 at ho hv
      have hbv : wb (.slice A' 0 c') ≠ some b := fun e => (HF2.out.2.2.2.2.1 b e).2 rfl
      have hb7 := (hgr.block b (Z0b HB6.out) (fun e => hbv e.symm)).trans HB6.out
      obtain ⟨q0', q1', q2'⟩ := Z0Z hb7
      have hf7 := Z0d hb7 0
      have HO6 := hid ho
      have HG6 := hid hgr
      have HV6 := hid hv
      clear ho hgr hv hb7 hbv hnl6))
  all_goals go_wp2_with (fail)
  all_goals
   refine bodyPost_ret (results_none rfl _ _ _) rfl ?_
   obtain ⟨F3, f1, f2⟩ := Z9n HF2.out Y5.out O5.out Y6.out HO6.out HG6.out HV6.out
   rw [HM.out]
   exact ⟨rfl, F3, f1.mkr, hG2.trans f2⟩
theorem Z2R {w : World} {base n c : Nat} {A : Option Addr} {I : List OpS} {o : Opd} (h : OwOs w base (.slice A n c) I) (hn : I.length = n) (ho : (osOf I).getLast? = some o) :
 ∃ (g : Nat) (x : OpS), 0 < n ∧ A = some ⟨g, 0, none⟩ ∧ I.getLast? = some x ∧ x.o = o ∧ I = I.dropLast ++ [x] ∧
   (∃ cur, w.heap[g]? = some (.cells cur 36 (0, 0))) ∧ CellsAt w ⟨g, (n - 1) * 5, none⟩ x.enc := by
 subst hn
 exact Z7F h ho
theorem Y4w (b : Nat) (Ap : Option Addr) (n : Int) (np cp : Nat) (p : List Ch) (w : World) (F : Nat → Prop) (m : Mk) (h : Mkr w F b m)
 (hnp : np = p.length) (rp : RdCh w w.heap.size Ap p) (op : OffF F Ap p.length) (hb : np ≤ 1048576) (hn1 : ¬ n < 1) (hmb : m.done.length + m.ins.length ≤ 10000000) (o : Opd) (h0 : (m.done ++ Z03 m).getLast? = some o) (hob : o.p.length ≤ 1048576) (hk : ¬ o.k = 1) :
 Calls Tryz.prog 65 #[.pointer (some ⟨b, 0, none⟩), .int .i64 n, .slice Ap np cp] w (Z5j (Z0s m n p) w F b) := by
 obtain ⟨vd, vi, D, I, h1, h2, h3, h4, h5, h6, h7, h8, h9, h10, h11⟩ := h
 obtain ⟨Ad, cd, rfl, _, _⟩ := h2.form
 obtain ⟨Ai, ci, rfl, _, _⟩ := h3.form
 have HD := hid (show D.length ≤ 10000000 by rw [← h4, ← h5] at hmb; simp [osOf] at hmb; omega)
 have HI := hid (show I.length ≤ 10000000 by rw [← h4, ← h5] at hmb; simp [osOf] at hmb; omega)
 have NP := hid hnp
 have H1 := hid h1
 have H2 := hid h2
 have H3 := hid h3
 have hlt := Z0b h1
 obtain ⟨c0, c1, c2⟩ := Z0Z h1
 have hf := Z0d h1 0
 have H4 := hid h4
 have H5 := hid h5
 have HL0 : Hid (osOf (D ++ gapS I m.gone) = m.done ++ Z03 m) := hid (by
  unfold osOf; rw [List.map_append]; show osOf D ++ osOf (gapS I m.gone) = _; rw [Z3r, h4, h5]; rfl)
 have HM : Hid (Z0s m n p = ⟨m.done ++ Z03 m ++ [opR n p], [], 0⟩) := hid (by unfold Z0s addR; rw [if_neg hn1, h0]; simp only; rw [if_neg (fun h => hk h.1)])
 have H0 : Hid ((osOf (D ++ gapS I m.gone)).getLast? = some o) := hid (by rw [HL0.out]; exact h0)
 have HK := hid hk
 clear hnp h1 h2 h3 h4 h5 hmb h0 hk
 generalize hgone : m.gone = gone at *
 go_enter Tryz.func65, Tryz.ntmps65
 go_wp2_with (fail)
 go_region_law (first
  | (refine Z0E rfl 140 [.tmp 18] #[110] rfl Tryz.f140 (by kernel_rfl) (by kernel_rfl) (by kernel_rfl) [.pointer (some ⟨b, 0, none⟩)] (by rfl) (Z3s b (.slice Ad D.length cd) Ai I.length ci gone I w.drew H1.out rfl (H3.out.rd OpS.enc_len) (by have := HI.out; omega)) ?_
     rintro e w1 ⟨A1, k1, rfl, o1, y1⟩
     refine ⟨_, rfl, ?_⟩
     have hb1 := (y1.block b hlt).trans H1.out
     obtain ⟨d0, d1, d2⟩ := Z0Z hb1
     have hf1 := Z0d hb1 0
     have HB1 := hid hb1
     have O1 := hid o1
     have Y1 : Hid (Below w.heap.size w w1) := hid ((Z0v (Below.refl _ _)).trans y1)
     clear hb1 o1 y1)
  | (refine Z2E (m := gapS I gone) rfl (.tmp 17) (.tmp 19) (by rfl) (by rfl) (H2.out.below Y1.out (Nat.le_refl _)) w1.heap.size A1 k1 (gapS I gone).length (by rfl) rfl (O1.out.rd OpS.enc_len) (by have := HD.out; have := HI.out; have := Z1e I gone; omega) (Nat.zero_le _) ?_
     intro vd' w4 ho hgr hv
     obtain ⟨A', c', hv', _, _⟩ := ho.form
     subst hv'
     generalize hnl : (D ++ gapS I gone).length = nl at ho hv
     have hbv : wb (.slice Ad D.length cd) ≠ some b := fun e => (h8 b e).2.1 rfl
     have hb4 := (hgr.block b (Z0b HB1.out) (fun e => hbv e.symm)).trans HB1.out
     obtain ⟨q0, q1, q2⟩ := Z0Z hb4
     have hf4 := Z0d hb4 0
     have hf4b := Z0d hb4 1
     have hf4c := Z0d hb4 2
     have HB4 := hid hb4
     have HO := hid ho
     have HG := hid hgr
     have HV := hid hv
     have HNL := hid hnl
     have hnlb : nl ≤ 20000001 := by rw [← hnl, List.length_append]; have := HD.out; have := HI.out; have := Z1e I gone; omega
     clear ho hgr hv hb4 hbv hnl))
 all_goals
  obtain ⟨F2, hF2, hG2⟩ := Z5w (m := m) (by rw [hgone]; exact H1.out) H2.out H3.out H4.out H5.out h6 h7 h8 h9 h10 h11 Y1.out (by rw [hgone]; exact HO.out) HG.out HV.out
  obtain ⟨g, x, hnp1, hA', hx, hxo, hLx, ⟨cur, hg⟩, hcx⟩ := Z2R HO.out HNL.out H0.out
  subst hA'
  have hgb : g ≠ b := (hF2.2.2.2.2.1 g (by obtain ⟨q, hq⟩ : ∃ q, c' = q + 1 := ⟨c' - 1, by have := HO.out.cap; have := HNL.out; omega⟩; rw [hq]; rfl)).2
  have hgb' : b ≠ g := fun e => hgb e.symm
  have hPF := hF2.2.2.2.2.2 x (by rw [hgone]; rw [hLx]; simp)
  obtain ⟨⟨xk, xn, xr, xs, xp⟩, Ar, cr, As, cs, Aq, cq⟩ := x
  obtain ⟨z0, z1, z2, z3, z4⟩ := Z0x hcx
  have e1 : (1 : Int) ≤ (nl : Int) := by omega
  have e2 : (nl : Int) - 1 < (nl : Int) := by omega
  have hzf : w4.frozen? ⟨g, (nl - 1) * 5 + 1, none⟩ = false := Z0d hg _
  have hko : xk = o.k := by rw [← hxo]
  have hpo : xp = o.p := by rw [← hxo]
  have rpE := rp.grow hG2 op
  have rqE := hPF.2.2.1
  have hqb : xp.length ≤ 1048576 := by rw [hpo]; exact hob
  have HCX := hid hcx
  have HLX := hid hLx
  have HX := hid hx
  have HXO := hid hxo
  clear hcx hPF hLx hx hxo
  have hk1 : (xk == 1) = false := beq_eq_false_iff_ne.2 (by rw [hko]; exact HK.out)
  clear hko hpo
  go_wp2_with (fail)
  generalize ((w4.setCell ⟨b, 0, none⟩ (.slice (some ⟨g, 0, none⟩) nl c')).setCell ⟨b, 1, none⟩ (.slice none 0 0)).setCell ⟨b, 2, none⟩ (.int .i64 0) = W at hF2 hG2 ⊢
  have rpW := rp.grow hG2 op
  rw [hgone] at hF2
  have hW := hF2.1
  obtain ⟨a0, a1, a2⟩ := Z0Z hW
  have haf := Z0d hW 0
  have hWlt := Z0b hW
  have HF2 := hid hF2
  have HW := hid hW
  clear hF2 hW
  go_region_law (first
   | (refine Z0E rfl 142 [.tmp 78] #[24] rfl Tryz.f142 (by kernel_rfl) (by kernel_rfl) (by kernel_rfl) [.slice Ap np cp] (by rfl) (Z4i Ap np cp p W.drew NP.out (rpW.ext (Z0v (Below.refl _ _))) (by omega)) ?_
      rintro e w5 ⟨A3, k3, rfl, o5, y5⟩
      refine ⟨_, rfl, ?_⟩
      have hb5 := (y5.block b hWlt).trans HW.out
      obtain ⟨d0, d1, d2⟩ := Z0Z hb5
      have hf5 := Z0d hb5 0
      have O5 := hid o5
      have Y5 : Hid (Below W.heap.size W w5) := hid ((Z0v (Below.refl _ _)).trans y5)
      have y6 := Z0c w5 (.cells #[.int .u8 1, .int .i64 n, .slice none 0 0, .slice none 0 0, .slice A3 p.length k3] 36)
      have hb6 := (y6.block b (Z0b hb5)).trans hb5
      obtain ⟨g0, g1, g2⟩ := Z0Z hb6
      have hf6 := Z0d hb6 0
      have HB6 := hid hb6
      have Y6 := hid y6
      clear hb5 hb6 o5 y5 y6)
   | (refine Z2E (m := [retS n p A3 k3]) rfl (.tmp 76) (.tmp 81) (by rfl) (by rfl) ((HF2.out.2.1.below Y5.out (Nat.le_refl _)).below Y6.out (Nat.le_refl _)) _ _ 1 1 (by rfl) rfl (Z1O (enc := OpS.enc) (size := 5) w5 _ (retS n p A3 k3) rfl) (by have := HNL.out; simp only [List.length_singleton]; omega) (Nat.zero_le _) ?_
      intro vd6 w6 ho hgr hv
      obtain ⟨A6, c6, hv6, _, _⟩ := ho.form
      subst hv6
      generalize hnl6 : (D ++ gapS I gone ++ [retS n p A3 k3]).length = nl6 at ho hv
      have hbv : wb (.slice (some ⟨g, 0, none⟩) nl c') ≠ some b := fun e => (HF2.out.2.2.2.2.1 b e).2 rfl
      have hb7 := (hgr.block b (Z0b HB6.out) (fun e => hbv e.symm)).trans HB6.out
      obtain ⟨q0', q1', q2'⟩ := Z0Z hb7
      have hf7 := Z0d hb7 0
      have HO6 := hid ho
      have HG6 := hid hgr
      have HV6 := hid hv
      clear ho hgr hv hb7 hbv hnl6))
  all_goals go_wp2_with (fail)
  all_goals
   refine bodyPost_ret (results_none rfl _ _ _) rfl ?_
   obtain ⟨F3, f1, f2⟩ := Z9n HF2.out Y5.out O5.out Y6.out HO6.out HG6.out HV6.out
   rw [HM.out]
   have e9 : osOf (D ++ gapS I gone ++ [retS n p A3 k3]) = m.done ++ Z03 m ++ [opR n p] := by rw [← HL0.out]; simp [osOf, retS]
   rw [← e9]
   exact ⟨rfl, F3, f1.mkr, hG2.trans f2⟩
theorem Y2Q (b : Nat) (Ap : Option Addr) (n : Int) (np cp : Nat) (p : List Ch) (w : World) (F : Nat → Prop) (m : Mk) (h : Mkr w F b m)
 (hnp : np = p.length) (rp : RdCh w w.heap.size Ap p) (op : OffF F Ap p.length) (hb : np ≤ 1048576) (hn1 : ¬ n < 1) (hmb : m.done.length + m.ins.length ≤ 10000000) (o : Opd) (h0 : (m.done ++ Z03 m).getLast? = some o) (hob : o.p.length ≤ 1048576) (hk : o.k = 1) (hp : ¬ o.p = p) :
 Calls Tryz.prog 65 #[.pointer (some ⟨b, 0, none⟩), .int .i64 n, .slice Ap np cp] w (Z5j (Z0s m n p) w F b) := by
 obtain ⟨vd, vi, D, I, h1, h2, h3, h4, h5, h6, h7, h8, h9, h10, h11⟩ := h
 obtain ⟨Ad, cd, rfl, _, _⟩ := h2.form
 obtain ⟨Ai, ci, rfl, _, _⟩ := h3.form
 have HD := hid (show D.length ≤ 10000000 by rw [← h4, ← h5] at hmb; simp [osOf] at hmb; omega)
 have HI := hid (show I.length ≤ 10000000 by rw [← h4, ← h5] at hmb; simp [osOf] at hmb; omega)
 have NP := hid hnp
 have H1 := hid h1
 have H2 := hid h2
 have H3 := hid h3
 have hlt := Z0b h1
 obtain ⟨c0, c1, c2⟩ := Z0Z h1
 have hf := Z0d h1 0
 have H4 := hid h4
 have H5 := hid h5
 have HL0 : Hid (osOf (D ++ gapS I m.gone) = m.done ++ Z03 m) := hid (by
  unfold osOf; rw [List.map_append]; show osOf D ++ osOf (gapS I m.gone) = _; rw [Z3r, h4, h5]; rfl)
 have HM : Hid (Z0s m n p = ⟨m.done ++ Z03 m ++ [opR n p], [], 0⟩) := hid (by unfold Z0s addR; rw [if_neg hn1, h0]; simp only; rw [if_neg (fun h => hp h.2)])
 have H0 : Hid ((osOf (D ++ gapS I m.gone)).getLast? = some o) := hid (by rw [HL0.out]; exact h0)
 have HK := hid hk
 have HP := hid hp
 clear hnp h1 h2 h3 h4 h5 hmb h0 hk hp
 generalize hgone : m.gone = gone at *
 go_enter Tryz.func65, Tryz.ntmps65
 go_wp2_with (fail)
 go_region_law (first
  | (refine Z0E rfl 140 [.tmp 18] #[110] rfl Tryz.f140 (by kernel_rfl) (by kernel_rfl) (by kernel_rfl) [.pointer (some ⟨b, 0, none⟩)] (by rfl) (Z3s b (.slice Ad D.length cd) Ai I.length ci gone I w.drew H1.out rfl (H3.out.rd OpS.enc_len) (by have := HI.out; omega)) ?_
     rintro e w1 ⟨A1, k1, rfl, o1, y1⟩
     refine ⟨_, rfl, ?_⟩
     have hb1 := (y1.block b hlt).trans H1.out
     obtain ⟨d0, d1, d2⟩ := Z0Z hb1
     have hf1 := Z0d hb1 0
     have HB1 := hid hb1
     have O1 := hid o1
     have Y1 : Hid (Below w.heap.size w w1) := hid ((Z0v (Below.refl _ _)).trans y1)
     clear hb1 o1 y1)
  | (refine Z2E (m := gapS I gone) rfl (.tmp 17) (.tmp 19) (by rfl) (by rfl) (H2.out.below Y1.out (Nat.le_refl _)) w1.heap.size A1 k1 (gapS I gone).length (by rfl) rfl (O1.out.rd OpS.enc_len) (by have := HD.out; have := HI.out; have := Z1e I gone; omega) (Nat.zero_le _) ?_
     intro vd' w4 ho hgr hv
     obtain ⟨A', c', hv', _, _⟩ := ho.form
     subst hv'
     generalize hnl : (D ++ gapS I gone).length = nl at ho hv
     have hbv : wb (.slice Ad D.length cd) ≠ some b := fun e => (h8 b e).2.1 rfl
     have hb4 := (hgr.block b (Z0b HB1.out) (fun e => hbv e.symm)).trans HB1.out
     obtain ⟨q0, q1, q2⟩ := Z0Z hb4
     have hf4 := Z0d hb4 0
     have hf4b := Z0d hb4 1
     have hf4c := Z0d hb4 2
     have HB4 := hid hb4
     have HO := hid ho
     have HG := hid hgr
     have HV := hid hv
     have HNL := hid hnl
     have hnlb : nl ≤ 20000001 := by rw [← hnl, List.length_append]; have := HD.out; have := HI.out; have := Z1e I gone; omega
     clear ho hgr hv hb4 hbv hnl))
 all_goals
  obtain ⟨F2, hF2, hG2⟩ := Z5w (m := m) (by rw [hgone]; exact H1.out) H2.out H3.out H4.out H5.out h6 h7 h8 h9 h10 h11 Y1.out (by rw [hgone]; exact HO.out) HG.out HV.out
  obtain ⟨g, x, hnp1, hA', hx, hxo, hLx, ⟨cur, hg⟩, hcx⟩ := Z2R HO.out HNL.out H0.out
  subst hA'
  have hgb : g ≠ b := (hF2.2.2.2.2.1 g (by obtain ⟨q, hq⟩ : ∃ q, c' = q + 1 := ⟨c' - 1, by have := HO.out.cap; have := HNL.out; omega⟩; rw [hq]; rfl)).2
  have hgb' : b ≠ g := fun e => hgb e.symm
  have hPF := hF2.2.2.2.2.2 x (by rw [hgone]; rw [hLx]; simp)
  obtain ⟨⟨xk, xn, xr, xs, xp⟩, Ar, cr, As, cs, Aq, cq⟩ := x
  obtain ⟨z0, z1, z2, z3, z4⟩ := Z0x hcx
  have e1 : (1 : Int) ≤ (nl : Int) := by omega
  have e2 : (nl : Int) - 1 < (nl : Int) := by omega
  have hzf : w4.frozen? ⟨g, (nl - 1) * 5 + 1, none⟩ = false := Z0d hg _
  have hko : xk = o.k := by rw [← hxo]
  have hpo : xp = o.p := by rw [← hxo]
  have rpE := rp.grow hG2 op
  have rqE := hPF.2.2.1
  have hqb : xp.length ≤ 1048576 := by rw [hpo]; exact hob
  have HCX := hid hcx
  have HLX := hid hLx
  have HX := hid hx
  have HXO := hid hxo
  clear hcx hPF hLx hx hxo
  have hk1 : xk = 1 := by rw [hko]; exact HK.out
  clear hko
  subst hk1
  have hfp : decide (xp = p) = false := by rw [hpo]; exact decide_eq_false HP.out
  clear hpo
  go_wp2_with (go_at_call 141; refine (Z7X Aq Ap xp.length np cq cp xp p _ rfl NP.out rqE rpE (by omega) (by omega)).mono ?_; rintro e w5 ⟨rfl, q, rfl⟩)
  have hF2 := hF2.below (Z0p _ q)
  have hG2 := hG2.trans (Grow.of (Z0p _ q))
  generalize (((w4.setCell ⟨b, 0, none⟩ (.slice (some ⟨g, 0, none⟩) nl c')).setCell ⟨b, 1, none⟩ (.slice none 0 0)).setCell ⟨b, 2, none⟩ (.int .i64 0)).drewN q = W at hF2 hG2 ⊢
  have rpW := rp.grow hG2 op
  rw [hgone] at hF2
  have hW := hF2.1
  obtain ⟨a0, a1, a2⟩ := Z0Z hW
  have haf := Z0d hW 0
  have hWlt := Z0b hW
  have HF2 := hid hF2
  have HW := hid hW
  clear hF2 hW
  go_region_law (first
   | (refine Z0E rfl 142 [.tmp 78] #[24] rfl Tryz.f142 (by kernel_rfl) (by kernel_rfl) (by kernel_rfl) [.slice Ap np cp] (by rfl) (Z4i Ap np cp p W.drew NP.out (rpW.ext (Z0v (Below.refl _ _))) (by omega)) ?_
      rintro e w5 ⟨A3, k3, rfl, o5, y5⟩
      refine ⟨_, rfl, ?_⟩
      have hb5 := (y5.block b hWlt).trans HW.out
      obtain ⟨d0, d1, d2⟩ := Z0Z hb5
      have hf5 := Z0d hb5 0
      have O5 := hid o5
      have Y5 : Hid (Below W.heap.size W w5) := hid ((Z0v (Below.refl _ _)).trans y5)
      have y6 := Z0c w5 (.cells #[.int .u8 1, .int .i64 n, .slice none 0 0, .slice none 0 0, .slice A3 p.length k3] 36)
      have hb6 := (y6.block b (Z0b hb5)).trans hb5
      obtain ⟨g0, g1, g2⟩ := Z0Z hb6
      have hf6 := Z0d hb6 0
      have HB6 := hid hb6
      have Y6 := hid y6
      clear hb5 hb6 o5 y5 y6)
   | (refine Z2E (m := [retS n p A3 k3]) rfl (.tmp 76) (.tmp 81) (by rfl) (by rfl) ((HF2.out.2.1.below Y5.out (Nat.le_refl _)).below Y6.out (Nat.le_refl _)) _ _ 1 1 (by rfl) rfl (Z1O (enc := OpS.enc) (size := 5) w5 _ (retS n p A3 k3) rfl) (by have := HNL.out; simp only [List.length_singleton]; omega) (Nat.zero_le _) ?_
      intro vd6 w6 ho hgr hv
      obtain ⟨A6, c6, hv6, _, _⟩ := ho.form
      subst hv6
      generalize hnl6 : (D ++ gapS I gone ++ [retS n p A3 k3]).length = nl6 at ho hv
      have hbv : wb (.slice (some ⟨g, 0, none⟩) nl c') ≠ some b := fun e => (HF2.out.2.2.2.2.1 b e).2 rfl
      have hb7 := (hgr.block b (Z0b HB6.out) (fun e => hbv e.symm)).trans HB6.out
      obtain ⟨q0', q1', q2'⟩ := Z0Z hb7
      have hf7 := Z0d hb7 0
      have HO6 := hid ho
      have HG6 := hid hgr
      have HV6 := hid hv
      clear ho hgr hv hb7 hbv hnl6))
  all_goals go_wp2_with (fail)
  all_goals
   refine bodyPost_ret (results_none rfl _ _ _) rfl ?_
   obtain ⟨F3, f1, f2⟩ := Z9n HF2.out Y5.out O5.out Y6.out HO6.out HG6.out HV6.out
   rw [HM.out]
   have e9 : osOf (D ++ gapS I gone ++ [retS n p A3 k3]) = m.done ++ Z03 m ++ [opR n p] := by rw [← HL0.out]; simp [osOf, retS]
   rw [← e9]
   exact ⟨rfl, F3, f1.mkr, hG2.trans f2⟩
theorem Y4x (b : Nat) (Ap : Option Addr) (n : Int) (np cp : Nat) (p : List Ch) (w : World) (F : Nat → Prop) (m : Mk) (h : Mkr w F b m)
 (hnp : np = p.length) (rp : RdCh w w.heap.size Ap p) (op : OffF F Ap p.length) (hb : np ≤ 1048576) (hn1 : ¬ n < 1) (hmb : m.done.length + m.ins.length ≤ 10000000) (o : Opd) (h0 : (m.done ++ Z03 m).getLast? = some o) (hob : o.p.length ≤ 1048576) (hk : o.k = 1) (hp : o.p = p) :
 Calls Tryz.prog 65 #[.pointer (some ⟨b, 0, none⟩), .int .i64 n, .slice Ap np cp] w (Z5j (Z0s m n p) w F b) := by
 obtain ⟨vd, vi, D, I, h1, h2, h3, h4, h5, h6, h7, h8, h9, h10, h11⟩ := h
 obtain ⟨Ad, cd, rfl, _, _⟩ := h2.form
 obtain ⟨Ai, ci, rfl, _, _⟩ := h3.form
 have HD := hid (show D.length ≤ 10000000 by rw [← h4, ← h5] at hmb; simp [osOf] at hmb; omega)
 have HI := hid (show I.length ≤ 10000000 by rw [← h4, ← h5] at hmb; simp [osOf] at hmb; omega)
 have NP := hid hnp
 have H1 := hid h1
 have H2 := hid h2
 have H3 := hid h3
 have hlt := Z0b h1
 obtain ⟨c0, c1, c2⟩ := Z0Z h1
 have hf := Z0d h1 0
 have H4 := hid h4
 have H5 := hid h5
 have HL0 : Hid (osOf (D ++ gapS I m.gone) = m.done ++ Z03 m) := hid (by
  unfold osOf; rw [List.map_append]; show osOf D ++ osOf (gapS I m.gone) = _; rw [Z3r, h4, h5]; rfl)
 have HM : Hid (Z0s m n p = ⟨(m.done ++ Z03 m).dropLast ++ [{ o with n := IntKind.i64.wrap (o.n + n) }], [], 0⟩) := hid (by unfold Z0s addR; rw [if_neg hn1, h0]; simp only; rw [if_pos ⟨hk, hp⟩])
 have H0 : Hid ((osOf (D ++ gapS I m.gone)).getLast? = some o) := hid (by rw [HL0.out]; exact h0)
 have HK := hid hk
 have HP := hid hp
 clear hnp h1 h2 h3 h4 h5 hmb h0 hk hp
 generalize hgone : m.gone = gone at *
 go_enter Tryz.func65, Tryz.ntmps65
 go_wp2_with (fail)
 go_region_law (first
  | (refine Z0E rfl 140 [.tmp 18] #[110] rfl Tryz.f140 (by kernel_rfl) (by kernel_rfl) (by kernel_rfl) [.pointer (some ⟨b, 0, none⟩)] (by rfl) (Z3s b (.slice Ad D.length cd) Ai I.length ci gone I w.drew H1.out rfl (H3.out.rd OpS.enc_len) (by have := HI.out; omega)) ?_
     rintro e w1 ⟨A1, k1, rfl, o1, y1⟩
     refine ⟨_, rfl, ?_⟩
     have hb1 := (y1.block b hlt).trans H1.out
     obtain ⟨d0, d1, d2⟩ := Z0Z hb1
     have hf1 := Z0d hb1 0
     have HB1 := hid hb1
     have O1 := hid o1
     have Y1 : Hid (Below w.heap.size w w1) := hid ((Z0v (Below.refl _ _)).trans y1)
     clear hb1 o1 y1)
  | (refine Z2E (m := gapS I gone) rfl (.tmp 17) (.tmp 19) (by rfl) (by rfl) (H2.out.below Y1.out (Nat.le_refl _)) w1.heap.size A1 k1 (gapS I gone).length (by rfl) rfl (O1.out.rd OpS.enc_len) (by have := HD.out; have := HI.out; have := Z1e I gone; omega) (Nat.zero_le _) ?_
     intro vd' w4 ho hgr hv
     obtain ⟨A', c', hv', _, _⟩ := ho.form
     subst hv'
     generalize hnl : (D ++ gapS I gone).length = nl at ho hv
     have hbv : wb (.slice Ad D.length cd) ≠ some b := fun e => (h8 b e).2.1 rfl
     have hb4 := (hgr.block b (Z0b HB1.out) (fun e => hbv e.symm)).trans HB1.out
     obtain ⟨q0, q1, q2⟩ := Z0Z hb4
     have hf4 := Z0d hb4 0
     have hf4b := Z0d hb4 1
     have hf4c := Z0d hb4 2
     have HB4 := hid hb4
     have HO := hid ho
     have HG := hid hgr
     have HV := hid hv
     have HNL := hid hnl
     have hnlb : nl ≤ 20000001 := by rw [← hnl, List.length_append]; have := HD.out; have := HI.out; have := Z1e I gone; omega
     clear ho hgr hv hb4 hbv hnl))
 all_goals
  obtain ⟨F2, hF2, hG2⟩ := Z5w (m := m) (by rw [hgone]; exact H1.out) H2.out H3.out H4.out H5.out h6 h7 h8 h9 h10 h11 Y1.out (by rw [hgone]; exact HO.out) HG.out HV.out
  obtain ⟨g, x, hnp1, hA', hx, hxo, hLx, ⟨cur, hg⟩, hcx⟩ := Z2R HO.out HNL.out H0.out
  subst hA'
  have hgb : g ≠ b := (hF2.2.2.2.2.1 g (by obtain ⟨q, hq⟩ : ∃ q, c' = q + 1 := ⟨c' - 1, by have := HO.out.cap; have := HNL.out; omega⟩; rw [hq]; rfl)).2
  have hgb' : b ≠ g := fun e => hgb e.symm
  have hPF := hF2.2.2.2.2.2 x (by rw [hgone]; rw [hLx]; simp)
  obtain ⟨⟨xk, xn, xr, xs, xp⟩, Ar, cr, As, cs, Aq, cq⟩ := x
  obtain ⟨z0, z1, z2, z3, z4⟩ := Z0x hcx
  have e1 : (1 : Int) ≤ (nl : Int) := by omega
  have e2 : (nl : Int) - 1 < (nl : Int) := by omega
  have hzf : w4.frozen? ⟨g, (nl - 1) * 5 + 1, none⟩ = false := Z0d hg _
  have hko : xk = o.k := by rw [← hxo]
  have hpo : xp = o.p := by rw [← hxo]
  have rpE := rp.grow hG2 op
  have rqE := hPF.2.2.1
  have hqb : xp.length ≤ 1048576 := by rw [hpo]; exact hob
  have HCX := hid hcx
  have HLX := hid hLx
  have HX := hid hx
  have HXO := hid hxo
  clear hcx hPF hLx hx hxo
  have hk1 : xk = 1 := by rw [hko]; exact HK.out
  clear hko
  subst hk1
  have hfp : decide (xp = p) = true := by rw [hpo]; exact decide_eq_true HP.out
  clear hpo
  go_wp2_with (go_at_call 141; refine (Z7X Aq Ap xp.length np cq cp xp p _ rfl NP.out rqE rpE (by omega) (by omega)).mono ?_; rintro e w5 ⟨rfl, q, rfl⟩)
  refine bodyPost_ret (results_none rfl _ _ _) rfl ?_
  have hF3 := hF2.below (Z0p _ q)
  have hG3 := hG2.trans (Grow.of (Z0p _ q))
  rw [hgone] at hF3
  have hw : IntKind.i64.wrap (xn + n) = wrap64 (xn + n) := by rw [IntWalk.i64_left]
  obtain ⟨f1, f2⟩ := Y52 hF3 HX.out HLX.out (wrap64 (xn + n))
  rw [HNL.out] at f1 f2
  have e9 : osOf ((D ++ gapS I gone).dropLast ++ [({ o := { k := 1, n := wrap64 (xn + n), r := xr, s := xs, p := xp }, Ar := Ar, cr := cr, As := As, cs := cs, Ap := Aq, cp := cq } : OpS)]) = (m.done ++ Z03 m).dropLast ++ [{ o with n := IntKind.i64.wrap (o.n + n) }] := by
   rw [← HL0.out, ← HXO.out]; simp [osOf, List.map_dropLast, hw]
  rw [HM.out, ← e9]
  exact ⟨rfl, F2, f1.mkr, hG3.trans f2⟩
theorem Z12 (b : Nat) (Ap : Option Addr) (n : Int) (np cp : Nat) (p : List Ch) (w : World) (F : Nat → Prop) (m : Mk) (h : Mkr w F b m)
 (hnp : np = p.length) (rp : RdCh w w.heap.size Ap p) (op : OffF F Ap p.length) (hb : np ≤ 1048576) (hmb : m.done.length + m.ins.length ≤ 10000000) (hpb : ∀ o ∈ m.done ++ Z03 m, o.p.length ≤ 1048576) :
 Calls Tryz.prog 65 #[.pointer (some ⟨b, 0, none⟩), .int .i64 n, .slice Ap np cp] w (Z5j (Z0s m n p) w F b) := by
 by_cases hn : n < 1
 ·exact Y4u b Ap n np cp p w F m h hn
 ·cases h0 : (m.done ++ Z03 m).getLast? with
  | none => exact Y4v b Ap n np cp p w F m h hnp rp op hb hn hmb (List.getLast?_eq_none_iff.1 h0)
  | some o =>
    have ho := hpb o (List.mem_of_getLast? h0)
    by_cases hk : o.k = 1
    ·by_cases hp : o.p = p
     ·exact Y4x b Ap n np cp p w F m h hnp rp op hb hn hmb o h0 ho hk hp
     ·exact Y2Q b Ap n np cp p w F m h hnp rp op hb hn hmb o h0 ho hk hp
    ·exact Y4w b Ap n np cp p w F m h hnp rp op hb hn hmb o h0 ho hk
def PartN (w : World) (B g : Nat) (x : OpS) : Prop :=
 (Z3S w B (.slice x.Ar x.o.r.length x.cr) x.o.r ∧ wb (.slice x.Ar x.o.r.length x.cr) ≠ some g) ∧
 (OwAt w B (.slice x.As x.o.s.length x.cs) x.o.s ∧ wb (.slice x.As x.o.s.length x.cs) ≠ some g) ∧
 (OwCh w B (.slice x.Ap x.o.p.length x.cp) x.o.p ∧ wb (.slice x.Ap x.o.p.length x.cp) ≠ some g)
theorem PartN.below {w w' : World} {B g : Nat} {x : OpS} (h : PartN w B g x) (y : Below w.heap.size w w') : PartN w' B g x :=
 ⟨⟨h.1.1.below y (Nat.le_refl _), h.1.2⟩, ⟨h.2.1.1.below y (Nat.le_refl _), h.2.1.2⟩, ⟨h.2.2.1.below y (Nat.le_refl _), h.2.2.2⟩⟩
theorem PartN.set {w : World} {B g j : Nat} {u : Value} {x : OpS} (h : PartN w B g x) : PartN (w.setCell ⟨g, j, none⟩ u) B g x :=
 ⟨⟨h.1.1.setCell (p := ⟨g, j, none⟩) h.1.2 u, h.1.2⟩, ⟨h.2.1.1.setCell (p := ⟨g, j, none⟩) h.2.1.2 u, h.2.1.2⟩, ⟨h.2.2.1.setCell (p := ⟨g, j, none⟩) h.2.2.2 u, h.2.2.2⟩⟩
theorem CellsAt.blk {w w' : World} {p : Addr} {cs : List Value} (h : CellsAt w p cs) (hb : w'.heap[p.block]? = w.heap[p.block]?) : CellsAt w' p cs :=
 h.keep fun q hq => by simp only [World.cell?]; rw [hq, hb]
def NewOps (o : List Opd) (w : World) (e : Ending) (w' : World) : Prop :=
 ∃ A c l, e = .returned (.slice A l.length c) ∧ osOf l = o ∧ OwOs w' w.heap.size (.slice A l.length c) l ∧ (∀ x ∈ l, ∃ g, PartN w' w.heap.size g x) ∧ Below w.heap.size w w'
theorem Y1p {w w1 : World} {B g n c m : Nat} {D T : List OpS} {x : OpS} {Ar As Ap : Option Addr} {cr cs cp : Nat}
 (ho : OwOs w B (.slice (some ⟨g, 0, none⟩) n c) (D ++ x :: T)) (hm : D.length = m) (hD : ∀ y ∈ D, PartN w B g y) (y1 : Below w.heap.size w w1)
 (hx : PartN w1 B g { x with Ar := Ar, cr := cr, As := As, cs := cs, Ap := Ap, cp := cp }) :
 let w2 := ((w1.setCell ⟨g, m * 5 + 2, none⟩ (.slice Ar x.o.r.length cr)).setCell ⟨g, m * 5 + 3, none⟩ (.slice As x.o.s.length cs)).setCell ⟨g, m * 5 + 4, none⟩ (.slice Ap x.o.p.length cp)
 OwOs w2 B (.slice (some ⟨g, 0, none⟩) n c) (D ++ { x with Ar := Ar, cr := cr, As := As, cs := cs, Ap := Ap, cp := cp } :: T) ∧ (∀ y ∈ D ++ [{ x with Ar := Ar, cr := cr, As := As, cs := cs, Ap := Ap, cp := cp }], PartN w2 B g y) := by
 subst hm
 have a0 := ho.below y1 (Nat.le_refl _)
 have step : ∀ (W : World) (x x' : OpS) (j : Nat) (u : Value), j < 5 → x'.enc = x.enc.set j u → OwOs W B (.slice (some ⟨g, 0, none⟩) n c) (D ++ x :: T) → OwOs (W.setCell ⟨g, D.length * 5 + j, none⟩ u) B (.slice (some ⟨g, 0, none⟩) n c) (D ++ x' :: T) := by
  intro W x x' j u hj he h
  have := Ow.setEl OpS.enc_len h (i := D.length) (j := j) (u := u) (a' := x') (by simp) hj (by simpa using he)
  rw [List.set_append_right _ _ (Nat.le_refl _), Nat.sub_self] at this
  exact this
 have a1 := step w1 x { x with Ar := Ar, cr := cr } 2 (.slice Ar x.o.r.length cr) (by omega) rfl a0
 have a2 := step _ { x with Ar := Ar, cr := cr } { x with Ar := Ar, cr := cr, As := As, cs := cs } 3 (.slice As x.o.s.length cs) (by omega) rfl a1
 have a3 := step _ { x with Ar := Ar, cr := cr, As := As, cs := cs } { x with Ar := Ar, cr := cr, As := As, cs := cs, Ap := Ap, cp := cp } 4 (.slice Ap x.o.p.length cp) (by omega) rfl a2
 refine ⟨a3, fun y hy => ?_⟩
 rcases List.mem_append.1 hy with hy | hy
 ·exact ((hD y hy).below y1).set.set.set
 ·simp at hy; subst hy; exact hx.set.set.set
theorem Y2R {w wr w5 w6 w7 : World} {g n c m : Nat} {D T : List OpS} {x : OpS} {A5 A6 A7 : Option Addr} {k5 k6 k7 : Nat} (y : Below w.heap.size w wr) (hg : w.heap.size ≤ g)
 (ho : OwOs wr w.heap.size (.slice (some ⟨g, 0, none⟩) n c) (D ++ x :: T)) (hm : D.length = m) (hD : ∀ y ∈ D, PartN wr w.heap.size g y) (hgl : g < wr.heap.size)
 (o5 : Z3S w5 wr.heap.size (.slice A5 x.o.r.length k5) x.o.r) (y5 : Below wr.heap.size wr w5)
 (o6 : OwAt w6 w5.heap.size (.slice A6 x.o.s.length k6) x.o.s) (y6 : Below w5.heap.size w5 w6)
 (o7 : OwCh w7 w6.heap.size (.slice A7 x.o.p.length k7) x.o.p) (y7 : Below w6.heap.size w6 w7) :
 let w8 := ((w7.setCell ⟨g, m * 5 + 2, none⟩ (.slice A5 x.o.r.length k5)).setCell ⟨g, m * 5 + 3, none⟩ (.slice A6 x.o.s.length k6)).setCell ⟨g, m * 5 + 4, none⟩ (.slice A7 x.o.p.length k7)
 OwOs w8 w.heap.size (.slice (some ⟨g, 0, none⟩) n c) ((D ++ [{ x with Ar := A5, cr := k5, As := A6, cs := k6, Ap := A7, cp := k7 }]) ++ T) ∧
  (∀ y ∈ D ++ [{ x with Ar := A5, cr := k5, As := A6, cs := k6, Ap := A7, cp := k7 }], ∀ b, (some ⟨g, 0, none⟩ : Option Addr) = some ⟨b, 0, none⟩ → PartN w8 w.heap.size b y) ∧ Below w.heap.size w w8 := by
 intro w8
 have sz := y.size
 have s5 := y5.size
 have s6 := y6.size
 have y67 := Z0a y6 y7
 have y57 := Z0a y5 y67
 have hx : PartN w7 w.heap.size g { x with Ar := A5, cr := k5, As := A6, cs := k6, Ap := A7, cp := k7 } :=
  ⟨⟨(o5.below y67 (Nat.le_refl _)).base_le sz, fun e => by have := (o5.wb_lt g e).1; omega⟩,
   ⟨(o6.below y7 (Nat.le_refl _)).base_le (by omega), fun e => by have := (o6.wb_lt g e).1; omega⟩,
   ⟨o7.base_le (by omega), fun e => by have := (o7.wb_lt g e).1; omega⟩⟩
 have r := Y1p ho hm hD y57 hx
 refine ⟨by rw [List.append_assoc]; exact r.1, fun y hy b hb => ?_, ?_⟩
 ·injection hb with hb
  injection hb with hb
  subst hb
  exact r.2 y hy
 ·exact (((Z0a y y57).setCell (p := ⟨g, m * 5 + 2, none⟩) hg _).setCell (p := ⟨g, m * 5 + 3, none⟩) hg _).setCell (p := ⟨g, m * 5 + 4, none⟩) hg _
theorem Z25 (A : Option Addr) (n c : Nat) (l : List OpS) (w : World) (hn : n = l.length) (h : RdOp w w.heap.size A l) (hb : n ≤ 100000000) (hs : ∀ x ∈ l, x.o.r.length ≤ 100000000 ∧ x.o.s.length ≤ 100000000 ∧ x.o.p.length ≤ 100000000) :
 Calls Tryz.prog 148 #[.slice A n c] w (NewOps (osOf l) w) := by
 have N := hid hn
 have HS := hid hs
 have HR := hid h.1
 have HP := hid h.2
 clear hn hs h
 go_enter Tryz.func148, Tryz.ntmps148
 go_wp2_with (go_at_call 226; refine Hid.out ?_)
 refine hid ?_
 refine (Z6a A n c l w N.out HR.out (by omega)).mono ?_
 rintro e w1 ⟨A1, k1, rfl, o1, y1⟩
 have O1 := hid o1
 have Y1 := hid y1
 have LB := hid (show l.length ≤ 100000000 by have := N.out; omega)
 clear o1 y1
 go_wp2_with (fail)
 go_loopg [9] l.length (fun g iv wr => ∃ (m : Nat) (D : List OpS), m ≤ l.length ∧ g = l.length - m ∧ iv = .int .i64 (m : Int) ∧ D.length = m ∧ osOf D = osOf (l.take m) ∧
  OwOs wr w.heap.size (.slice A1 l.length k1) (D ++ l.drop m) ∧ (∀ x ∈ D, ∀ b, A1 = some ⟨b, 0, none⟩ → PartN wr w.heap.size b x) ∧ Below w.heap.size w wr)
 case atStart => exact ⟨0, [], by omega, rfl, rfl, rfl, rfl, O1.out, fun x hx => (by cases hx), Y1.out⟩
 case round =>
  obtain ⟨m, D, hm, hg, rfl, hD, hDo, ho, hDp, y⟩ := hrel
  have HG := hid hg
  clear hg
  by_cases hlt : m < l.length
  ·obtain ⟨x, hxi⟩ : ∃ x, l[m]? = some x := ⟨l[m], by rw [List.getElem?_eq_getElem hlt]⟩
   have hdrop : l.drop m = x :: l.drop (m + 1) := by
    rw [List.drop_eq_getElem_cons hlt]; rw [List.getElem?_eq_getElem hlt] at hxi; injection hxi with hxi; rw [hxi]
   have hxm := List.mem_of_getElem? hxi
   rw [hdrop] at ho
   have hlen : (D ++ x :: l.drop (m + 1)).length = l.length := by rw [List.length_append, hD, List.length_cons, List.length_drop]; omega
   have hi : m < (D ++ x :: l.drop (m + 1)).length := by omega
   obtain ⟨g, cur, hA, hq1, hBg, hgb, hq2, hq3, hq4, hq5⟩ := ho.row (by omega)
   clear hq1 hq2 hq3 hq4 hq5
   subst hA
   obtain ⟨ad, hA2, _, hcx⟩ := (ho.rd OpS.enc_len).at_ hi
   injection hA2 with hA2
   subst hA2
   rw [Z52] at hcx
   have hx : (D ++ x :: l.drop (m + 1))[m] = x := by simp [List.getElem_append_right, hD]
   rw [hx] at hcx
   have hP := HP.out x hxm
   have p1 := hid (hP.1.ext y)
   have p2 := hid (hP.2.1.ext y)
   have p3 := hid (hP.2.2.ext y)
   have hS := hid (HS.out x hxm)
   have HDP := hid (fun y hy => hDp y hy g rfl : ∀ y ∈ D, PartN wr w.heap.size g y)
   have hglt := Z0b hgb
   have HT := hid (show osOf (D ++ [x]) = osOf (l.take (m + 1)) by
    rw [List.take_add_one, hxi]; unfold osOf at hDo ⊢; rw [List.map_append, List.map_append, hDo]; rfl)
   have HO := hid ho
   have HGB := hid hgb
   have HCX := hid hcx
   have HD := hid hD
   obtain ⟨⟨xk, xn, xr, xs, xp⟩, Ar, cr, As, cs, Ap, cp⟩ := x
   obtain ⟨z0, z1, z2, z3, z4⟩ := Z0x hcx
   have hfr : ∀ j, wr.frozen? ⟨g, j, none⟩ = false := fun j => Z0d hgb j
   have e1 : (m : Int) < (l.length : Int) := by omega
   have hw2 : IntKind.i64.wrap ((m:Int) + 1) = (m : Int) + 1 := IntWalk.i64_in _ (by have := LB.out; omega)
   clear hcx hx ho hDp hP hDo hxi hdrop hgb hD hlen hi hxm
   go_wp2_with (fail)
   go_region_law (first
    | (refine Z0E rfl 138 [.tmp 22] #[33] rfl Tryz.f138 (by kernel_rfl) (by kernel_rfl) (by kernel_rfl) [.slice Ar xr.length cr] (by rfl) (Z3q Ar xr.length cr xr wr.drew rfl (p1.out.ext (Z0v (Below.refl _ _))) hS.out.1) ?_
       rintro e w5 ⟨A5, k5, rfl, o5, y5⟩
       refine ⟨_, rfl, ?_⟩
       have O5 := hid o5
       have Y5 : Hid (Below wr.heap.size wr w5) := hid ((Z0v (Below.refl _ _)).trans y5)
       obtain ⟨z0a, z1a, z2a, z3a, z4a⟩ := Z0x (HCX.out.blk ((y5.block g hglt)))
       clear o5 y5)
    | (refine Z0E rfl 139 [.tmp 28] #[34] rfl Tryz.f139 (by kernel_rfl) (by kernel_rfl) (by kernel_rfl) [.slice As xs.length cs] (by rfl) (Z4f As xs.length cs xs w5 rfl (p2.out.ext Y5.out) hS.out.2.1) ?_
       rintro e w6 ⟨A6, k6, rfl, o6, y6⟩
       refine ⟨_, rfl, ?_⟩
       have O6 := hid o6
       have Y6 := hid y6
       have Y56 := hid (Z0a Y5.out y6)
       obtain ⟨z0b, z1b, z2b, z3b, z4b⟩ := Z0x (HCX.out.blk (Y56.out.block g hglt))
       clear o6 y6)
    | (refine Z0E rfl 142 [.tmp 34] #[24] rfl Tryz.f142 (by kernel_rfl) (by kernel_rfl) (by kernel_rfl) [.slice Ap xp.length cp] (by rfl) (Z4i Ap xp.length cp xp w6 rfl (p3.out.ext Y56.out) hS.out.2.2) ?_
       rintro e w7 ⟨A7, k7, rfl, o7, y7⟩
       refine ⟨_, rfl, ?_⟩
       have O7 := hid o7
       have Y7 := hid y7
       have Y57 := hid (Z0a Y56.out y7)
       obtain ⟨z0c, z1c, z2c, z3c, z4c⟩ := Z0x (HCX.out.blk (Y57.out.block g hglt))
       have hf2 : w7.frozen? ⟨g, m * 5 + 2, none⟩ = false := Z0d ((Y57.out.block g hglt).trans HGB.out) _
       have hf3 : w7.frozen? ⟨g, m * 5 + 3, none⟩ = false := Z0d ((Y57.out.block g hglt).trans HGB.out) _
       have hf4 : w7.frozen? ⟨g, m * 5 + 4, none⟩ = false := Z0d ((Y57.out.block g hglt).trans HGB.out) _
       clear o7 y7))
   all_goals go_wp2_with (fail)
   all_goals go_roundg (l.length - (m + 1))
   all_goals first
    | (have := HG.out; omega)
    | (obtain ⟨r1, r2, r3⟩ := Y2R (x := ⟨⟨xk, xn, xr, xs, xp⟩, Ar, cr, As, cs, Ap, cp⟩) y hBg HO.out HD.out HDP.out hglt O5.out Y5.out O6.out Y6.out O7.out Y7.out
       refine ⟨m + 1, D ++ [⟨⟨xk, xn, xr, xs, xp⟩, A5, k5, A6, k6, A7, k7⟩], by omega, rfl, by go_num, by rw [List.length_append, HD.out]; rfl, ?_, r1, r2, r3⟩
       rw [← HT.out]; simp [osOf])
  ·have hml : m = l.length := by omega
   subst hml
   have HO := hid ho
   have HDP := hid hDp
   have HDO := hid hDo
   have HD := hid hD
   clear ho hDp hDo hD
   go_wp2_with (fail)
   go_ret
   have hd : l.drop l.length = [] := by simp
   have ho := HO.out
   rw [hd, List.append_nil] at ho
   have hl : l.length = D.length := HD.out.symm
   rw [hl] at ho ⊢
   refine ⟨A1, k1, D, rfl, by rw [HDO.out, List.take_length], ho, fun x hx => ?_, y⟩
   have hpos : 0 < D.length := List.length_pos_of_mem hx
   obtain ⟨g, cur, hA, _⟩ := ho.row hpos
   exact ⟨g, HDP.out x hx g hA⟩
end Go.Proofs.YtnmedachaeanbaaGreatDoor
