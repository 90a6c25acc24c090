/- The walk of (*normal.Maker).Insert behind an insert with other attributes. -/
import Derived.Test.YtipoeidmblnbbaaGreatDoorMkInsPd
namespace Go.Proofs.YtipoeidmblnbbaaGreatDoor
open Go.RowKit
set_option linter.unusedVariables false
set_option linter.unusedSimpArgs false

/-- the last op of an own row of ops -/
theorem own_last {w : World} {base c : Nat} {A : Option Addr} {I : List OpS} {o : Opd} (h : OwOs w base (.slice A I.length c) I) (ho : (osOf I).getLast? = some o) :
    ∃ (g : Nat) (x : OpS), 0 < I.length ∧ A = some ⟨g, 0, none⟩ ∧ I.getLast? = some x ∧ x.o = o ∧ I = I.dropLast ++ [x] ∧
      (∃ cur, w.heap[g]? = some (.cells cur 46 (0, 0))) ∧ CellsAt w ⟨g, (I.length - 1) * 5, none⟩ x.enc := by
  rcases List.eq_nil_or_concat I with h0 | ⟨t, x, h0⟩
  · subst h0; cases ho
  · rw [List.concat_eq_append] at h0
    have hlen : I.length = t.length + 1 := by rw [h0]; simp
    obtain ⟨g, cur, hA, _, _, hg, _, _, _, _⟩ := h.row (by omega)
    have hi : t.length < I.length := by omega
    obtain ⟨ad, hA2, _, hc⟩ := (h.rd OpS.enc_len).at_ hi
    rw [hA] at hA2
    injection hA2 with hA2
    subst hA2
    rw [add_row] at hc
    have hx : I[t.length] = x := by simp [h0]
    rw [hx] at hc
    refine ⟨g, x, by omega, hA, by rw [h0]; simp, ?_, by rw [h0]; simp, ⟨cur, hg⟩, by rw [hlen, Nat.add_sub_cancel]; exact hc⟩
    rw [h0] at ho
    simpa [osOf] using ho

set_option maxRecDepth 100000 in
set_option maxHeartbeats 1600000 in
theorem ins_more (b : Nat) (A A2 : Option Addr) (n c n2 c2 : Nat) (l : List Int) (s : List At) (w : World) (F : Nat → Prop) (m : Mk) (h : Mkr w F b m)
    (hn : n = l.length) (hn2 : n2 = s.length) (r1 : RdI32 w w.heap.size A l) (r2 : RdAt w w.heap.size A2 s) (hb : n ≤ 10000000) (hb2 : n2 ≤ 10000000) (hl : l ≠ []) (o : Opd) (h0 : m.ins.getLast? = some o) (hne : ¬ o.s = s)
    (hmb : m.ins.length ≤ 10000000) (hob : o.s.length ≤ 10000000) :
    Calls Tryz.prog 53 #[.pointer (some ⟨b, 0, none⟩), .slice A n c, .slice A2 n2 c2] w (MkOut (mkInsert m l s) w F b) := by
  obtain ⟨vd, vi, D, I, h1, h2, h3, h4, h5, h6, h7, h8, h9, h10, h11⟩ := h
  obtain ⟨Ai, ci, rfl, hci, hcm⟩ := h3.form
  obtain ⟨g, x, hN0, hAi, hx, hxo, hI, ⟨cur, hg⟩, hcx⟩ := own_last h3 (by rw [h5]; exact h0)
  subst hAi
  have hml : I.length ≤ 10000000 := by rw [← h5] at hmb; simpa [osOf] using hmb
  have hnp : n ≠ 0 := by rw [hn]; intro e; exact hl (List.eq_nil_of_length_eq_zero e)
  have hn0 : ((n : Int) == 0) = false := beq_eq_false_iff_ne.2 (by omega)
  have N := Lib.hid hn
  have N2 := Lib.hid hn2
  have H1 := Lib.hid h1
  have H3 := Lib.hid h3
  have hlt := lt_of_some h1
  obtain ⟨c0, c1, c2'⟩ := box_3 h1
  have hf := box_thaw h1 1
  have HL := Lib.hid hl
  have H5 := Lib.hid h5
  have H0 := Lib.hid h0
  have HNE := Lib.hid hne
  have hpos : 0 < n := by omega
  have hL := h11.2 x hx
  obtain ⟨⟨k, nn, r, sx, p⟩, Ar, cr, As, cs, Ap, cp⟩ := x
  obtain ⟨z0, z1, z2, z3, z4⟩ := op_cells hcx
  have hs : o.s = sx := by rw [← hxo]
  have RS := Lib.hid hL.2.2.1.1
  have SL := Lib.hid (show sx.length ≤ 10000000 by rw [← hs]; exact hob)
  have hfn : decide (sx = s) = false := by rw [← hs]; exact decide_eq_false hne
  have HX := Lib.hid hx
  have HI := Lib.hid hI
  have e1 : (1 : Int) ≤ (I.length : Int) := by omega
  clear hn hn2 h1 h3 h5 h0 hl hnp hL hx hI hne hcx
  go_enter Tryz.func53, Tryz.ntmps53
  go_wp2_with (go_at_call 57; refine (attrsSame_any As A2 sx.length n2 cs c2 sx s _ rfl N2.out RS.out r2 (by have := SL.out; omega) (by omega)).mono ?_; rintro e w1 ⟨rfl, q, rfl⟩)
  have YQ : Hid (Below w.heap.size w (w.drewN q).drew) := Lib.hid (up_drew (ext_drew w q))
  go_region_law (first
      | (refine step_fn rfl 98 [.tmp 56] #[42] rfl Tryz.f98 (by kernel_rfl) (by kernel_rfl) (by kernel_rfl) [.slice A n c] (by rfl) (cloneI32_any A n c l (w.drewN q).drew N.out (r1.ext YQ.out) (by omega)) ?_
         rintro e w1 ⟨A1, k1, rfl, o1, y1⟩
         refine ⟨_, rfl, ?_⟩
         have hb1 := (y1.block b hlt).trans H1.out
         obtain ⟨d0, d1, d2⟩ := box_3 hb1
         have hf1 := box_thaw hb1 1
         have HB1 := Lib.hid hb1
         have O1 := Lib.hid o1
         have Y1 : Hid (Below w.heap.size w w1) := Lib.hid (YQ.out.trans y1)
         clear hb1 o1 y1)
      | (refine step_fn rfl 59 [.tmp 58] #[43] rfl Tryz.f59 (by kernel_rfl) (by kernel_rfl) (by kernel_rfl) [.slice A2 n2 c2] (by rfl) (copy_any A2 n2 c2 s w1 N2.out (r2.ext Y1.out) (by omega)) ?_
         rintro e w2 ⟨A3, k3, rfl, o2, y2⟩
         refine ⟨_, rfl, ?_⟩
         have hb2 := (y2.block b (lt_of_some HB1.out)).trans HB1.out
         obtain ⟨e0, e1, e2⟩ := box_3 hb2
         have hf2 := box_thaw hb2 1
         have y3 := ext_alloc w2 (.cells #[.int .u8 2, .int .i64 0, .slice A1 l.length k1, .slice A3 s.length k3, .slice none 0 0] 46)
         have hb3 := (y3.block b (lt_of_some hb2)).trans hb2
         obtain ⟨g0, g1, g2⟩ := box_3 hb3
         have hf3 := box_thaw hb3 1
         have HB3 := Lib.hid hb3
         have O2 := Lib.hid o2
         have Y2 := Lib.hid y2
         clear hb2 hb3 o2 y2)
      | (refine step_os (m := [insS l s A1 k1 A3 k3]) rfl (.tmp 55) (.tmp 61) (by rfl) (by rfl) ((H3.out.below Y1.out (Nat.le_refl _)).below (ext_trans Y2.out y3) (Nat.le_refl _)) _ _ 1 1 (by rfl) rfl (rd_one (enc := OpS.enc) (size := 5) w2 _ (insS l s A1 k1 A3 k3) rfl) (by simp only [List.length_singleton]; omega) (Nat.zero_le _) ?_
         intro vi' w4 ho hgr hv
         obtain ⟨A', c', hv', _, _⟩ := ho.form
         subst hv'
         have el : (I ++ [insS l s A1 k1 A3 k3]).length = I.length + 1 := by simp
         rw [el] at ho hv
         have hbv : wb (.slice (some ⟨g, 0, none⟩) I.length ci) ≠ some b := fun e => (h9 b e).2 rfl
         have hb4 := (hgr.block b (lt_of_some HB3.out) (fun e => hbv e.symm)).trans HB3.out
         obtain ⟨q0, q1, q2⟩ := box_3 hb4
         have hf4 := box_thaw hb4 1
         have HO := Lib.hid ho
         have HG := Lib.hid hgr
         have HV := Lib.hid hv
         clear ho hgr hv hb4 hbv))
  all_goals go_wp2_with (fail)
  all_goals
    refine bodyPost_ret (results_none rfl _ _ _) rfl ?_
    refine ⟨rfl, ins_new_mk H1.out h2 H3.out h4 H5.out h6 h7 h8 h9 h10 h11 HL.out (fun o' ho => by rw [H0.out] at ho; injection ho with ho; rw [← ho]; exact HNE.out) Y1.out O1.out Y2.out O2.out y3 HO.out HG.out ?_ (by simp)⟩
    rcases HV.out with ⟨h, h'⟩ | h | h
    · exact .inr (.inr ⟨h, h'⟩)
    · exact .inl h
    · exact .inr (.inl h)
end Go.Proofs.YtipoeidmblnbbaaGreatDoor
