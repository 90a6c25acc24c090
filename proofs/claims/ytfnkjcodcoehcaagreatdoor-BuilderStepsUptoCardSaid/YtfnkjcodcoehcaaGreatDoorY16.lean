/- Merged texts: MkFlat, MkRet, MkRetL, MkRetK, MkRetP, MkRetS, MkRetA. -/
import Derived.Test.YtfnkjcodcoehcaaGreatDoorY15
namespace Go.Proofs.YtfnkjcodcoehcaaGreatDoor
open Go.RowKit
set_option linter.unusedVariables false
set_option linter.unusedSimpArgs false

def FlatM (w : World) (F : Nat → Prop) (b : Nat) (vd : Value) (L : List OpS) : Prop :=
  w.heap[b]? = some (.cells #[vd, .slice none 0 0, .int .i64 0] 189 (0, 0)) ∧ OwOs w 0 vd L ∧
    (∀ k, F k → k < w.heap.size) ∧ F b ∧ (∀ k, wb vd = some k → F k ∧ k ≠ b) ∧ ∀ x ∈ L, PartF w F x
theorem FlatM.mkr {w : World} {F : Nat → Prop} {b : Nat} {vd : Value} {L : List OpS} (h : FlatM w F b vd L) : Mkr w F b ⟨osOf L, [], 0⟩ := by
  obtain ⟨h1, h2, h3, h4, h5, h6⟩ := h
  exact ⟨vd, .slice none 0 0, L, [], h1, h2, Ow.nil _ _, rfl, rfl, h3, h4, fun k hk => ⟨(h5 k hk).1, (h5 k hk).2, fun e => (by cases e)⟩, fun k hk => (by cases hk), h6, fun x hx => (by cases hx), fun x hx => (by cases hx)⟩
theorem FlatM.below {w w' : World} {F : Nat → Prop} {b : Nat} {vd : Value} {L : List OpS} (h : FlatM w F b vd L) (y : Below w.heap.size w w') : FlatM w' F b vd L := by
  obtain ⟨h1, h2, h3, h4, h5, h6⟩ := h
  exact ⟨(y.block b (lt_of_some h1)).trans h1, h2.below y (Nat.le_refl _), fun k hk => Nat.lt_of_lt_of_le (h3 k hk) y.size, h4, h5, fun x hx => (h6 x hx).grow (Grow.of y)⟩
theorem heap_set3 {w : World} {b : Nat} {c0 c1 c2 : Value} {t : TypeId} (h : w.heap[b]? = some (.cells #[c0, c1, c2] t (0, 0))) (u0 u1 u2 : Value) :
    (((w.setCell ⟨b, 0, none⟩ u0).setCell ⟨b, 1, none⟩ u1).setCell ⟨b, 2, none⟩ u2).heap[b]? = some (.cells #[u0, u1, u2] t (0, 0)) :=
  heap_setCell_self (heap_setCell_self (heap_setCell_self h u0) u1) u2

theorem flush_mk {w w1 w4 : World} {F : Nat → Prop} {b : Nat} {m : Mk} {vd vi : Value} {D I : List OpS} {n' c' : Nat} {A' : Option Addr}
    (h1 : w.heap[b]? = some (.cells #[vd, vi, .int .i64 m.gone] 189 (0, 0))) (h2 : OwOs w 0 vd D) (h3 : OwOs w 0 vi I) (h4 : osOf D = m.done) (h5 : osOf I = m.ins)
    (h6 : ∀ k, F k → k < w.heap.size) (h7 : F b) (h8 : ∀ k, wb vd = some k → F k ∧ k ≠ b ∧ wb vi ≠ some k) (h9 : ∀ k, wb vi = some k → F k ∧ k ≠ b) (h10 : ∀ x ∈ D, PartF w F x) (h11 : InsF w F b vd vi I)
    (y1 : Below w.heap.size w w1)
    (ho : OwOs w4 0 (.slice A' n' c') (D ++ gapS I m.gone)) (hgr : w1.grownBy w4 (wb vd)) (hv : (Value.slice A' n' c' = vd ∧ w4 = w1) ∨ wb (.slice A' n' c') = wb vd ∨ wb (.slice A' n' c') = some w1.heap.size) :
    ∃ F', FlatM (((w4.setCell ⟨b, 0, none⟩ (.slice A' n' c')).setCell ⟨b, 1, none⟩ (.slice none 0 0)).setCell ⟨b, 2, none⟩ (.int .i64 0)) F' b (.slice A' n' c') (D ++ gapS I m.gone) ∧
      Grow w F (((w4.setCell ⟨b, 0, none⟩ (.slice A' n' c')).setCell ⟨b, 1, none⟩ (.slice none 0 0)).setCell ⟨b, 2, none⟩ (.int .i64 0)) F' := by
  have hb := lt_of_some h1
  have hbvd : wb vd ≠ some b := fun e => (h8 b e).2.1 rfl
  have G1 : ∀ j, j < w.heap.size → wb vd ≠ some j → w4.heap[j]? = w.heap[j]? := fun j hj hn => (hgr.block j (Nat.lt_of_lt_of_le hj y1.size) (fun e => hn e.symm)).trans (y1.block j hj)
  have hwb' : ∀ k, wb (.slice A' n' c') = some k → wb vd = some k ∨ w.heap.size ≤ k := fun k hk => by
    rcases hv with ⟨h, _⟩ | h | h
    · rw [h] at hk; exact .inl hk
    · rw [h] at hk; exact .inl hk
    · rw [h] at hk; injection hk with hk; have := y1.size; exact .inr (by omega)
  let F' : Nat → Prop := fun k => k = b ∨ wb (.slice A' n' c') = some k
  have hF' : ∀ k, F' k → F k ∨ w.heap.size ≤ k := fun k hk => by
    rcases hk with rfl | hk
    · exact .inl h7
    · rcases hwb' k hk with h | h
      · exact .inl (h8 k h).1
      · exact .inr h
  have gr : Grow w F w4 F' := ⟨hgr.os.trans y1.os, hgr.tape.trans y1.tape, hgr.output.trans y1.output, Nat.le_trans y1.size hgr.size, fun j hj hn => G1 j hj (fun e => hn (h8 j e).1), hF'⟩
  have s0 := setCell_below (w := w4) b 0 (.slice A' n' c') (show F' b from .inl rfl) 0
  have s1 := setCell_below (w := w4.setCell ⟨b, 0, none⟩ (.slice A' n' c')) b 1 (.slice none 0 0) (show F' b from .inl rfl) 0
  have s2 := setCell_below (w := (w4.setCell ⟨b, 0, none⟩ (.slice A' n' c')).setCell ⟨b, 1, none⟩ (.slice none 0 0)) b 2 (.int .i64 0) (show F' b from .inl rfl) 0
  have g2 := gr.trans (s0.trans (s1.trans s2))
  have hne : ∀ k, wb (.slice A' n' c') = some k → k ≠ b := fun k hk e => by
    subst e
    rcases hwb' k hk with h | h
    · exact hbvd h
    · omega
  refine ⟨F', ⟨heap_set3 ((G1 b hb hbvd).trans h1) _ _ _, owOs_set (owOs_set (owOs_set ho hne _) hne _) hne _, ?_, .inl rfl, fun k hk => ⟨.inr hk, hne k hk⟩, fun x hx => ?_⟩, g2⟩
  · intro k hk
    rcases hk with rfl | hk
    · exact Nat.lt_of_lt_of_le hb g2.size
    · have := (ho.wb_lt k hk).2; exact Nat.lt_of_lt_of_le this (s0.trans (s1.trans s2)).size
  · have hlast : ∀ x, LastF w F b vd vi x → PartF w4 F' x := fun x hL => hL.part gr fun k hk => by
      obtain ⟨q1, q2, q3, q4⟩ := hL.2.1 k hk
      have hklt := (hL.1.wb_lt k hk).2
      refine ⟨G1 k hklt q3, fun hf => ?_⟩
      rcases hf with h | h
      · exact q2 h
      · rcases hwb' k h with h | h
        · exact q3 h
        · omega
    have h4x : PartF w4 F' x := by
      rcases List.mem_append.1 hx with hx | hx
      · exact (h10 x hx).grow gr
      · unfold gapS at hx
        rcases List.mem_append.1 hx with hx | hx
        · rcases List.eq_nil_or_concat I with h0 | ⟨t, z, h0⟩
          · rw [h0] at hx; cases hx
          · rw [List.concat_eq_append] at h0
            have hx' := hx
            rw [h0] at hx'
            rcases List.mem_append.1 hx' with hx' | hx'
            · exact (h11.1 x (by rw [h0]; simpa using hx')).grow gr
            · simp at hx'; subst hx'
              exact hlast x (h11.2 x (by rw [h0]; simp))
        · split at hx
          · simp at hx; subst hx
            exact ⟨⟨Rd.nil, OffF.zero⟩, ⟨Rd.nil, OffF.zero⟩, ⟨Rd.nil, OffF.zero⟩⟩
          · cases hx
    exact h4x.grow (s0.trans (s1.trans s2))

def retS (n : Int) (p : List Ch) (A : Option Addr) (c : Nat) : OpS := ⟨opR n p, none, 0, none, 0, A, c⟩
theorem push_mk {w w1 w3 w4 : World} {F : Nat → Prop} {b : Nat} {vd : Value} {L : List OpS} {n : Int} {p : List Ch} {A1 A' : Option Addr} {c1 n' c' : Nat} (h : FlatM w F b vd L)
    (y1 : Below w.heap.size w w1) (o1 : OwCh w1 w.heap.size (.slice A1 p.length c1) p) (y3 : Below w1.heap.size w1 w3)
    (ho : OwOs w4 0 (.slice A' n' c') (L ++ [retS n p A1 c1])) (hgr : w3.grownBy w4 (wb vd)) (hv : (Value.slice A' n' c' = vd ∧ w4 = w3) ∨ wb (.slice A' n' c') = wb vd ∨ wb (.slice A' n' c') = some w3.heap.size) :
    ∃ F', FlatM (w4.setCell ⟨b, 0, none⟩ (.slice A' n' c')) F' b (.slice A' n' c') (L ++ [retS n p A1 c1]) ∧ Grow w F (w4.setCell ⟨b, 0, none⟩ (.slice A' n' c')) F' := by
  obtain ⟨h1, h2, h6, h7, h8, h10⟩ := h
  have y13 := ext_trans y1 y3
  have hb := lt_of_some h1
  have hbvd : wb vd ≠ some b := fun e => (h8 b e).2 rfl
  have G1 : ∀ j, j < w.heap.size → wb vd ≠ some j → w4.heap[j]? = w.heap[j]? := fun j hj hn => (hgr.block j (Nat.lt_of_lt_of_le hj y13.size) (fun e => hn e.symm)).trans (y13.block j hj)
  have sz3 := y3.size
  have sz1 := y1.size
  have hwb' : ∀ k, wb (.slice A' n' c') = some k → wb vd = some k ∨ w3.heap.size ≤ k := fun k hk => by
    rcases hv with ⟨h, _⟩ | h | h
    · rw [h] at hk; exact .inl hk
    · rw [h] at hk; exact .inl hk
    · rw [h] at hk; injection hk with hk; exact .inr (by omega)
  let F' : Nat → Prop := fun k => k = b ∨ wb (.slice A' n' c') = some k
  have hF' : ∀ k, F' k → F k ∨ w.heap.size ≤ k := fun k hk => by
    rcases hk with rfl | hk
    · exact .inl h7
    · rcases hwb' k hk with h | h
      · exact .inl (h8 k h).1
      · exact .inr (by omega)
  have gr : Grow w F w4 F' := ⟨hgr.os.trans y13.os, hgr.tape.trans y13.tape, hgr.output.trans y13.output, Nat.le_trans y13.size hgr.size, fun j hj hn => G1 j hj (fun e => hn (h8 j e).1), hF'⟩
  have s0 := setCell_below (w := w4) b 0 (.slice A' n' c') (show F' b from .inl rfl) 0
  have hne : ∀ k, wb (.slice A' n' c') = some k → k ≠ b := fun k hk e => by
    subst e
    rcases hwb' k hk with h | h
    · exact hbvd h
    · omega
  refine ⟨F', ⟨heap_setCell_self ((G1 b hb hbvd).trans h1) _, owOs_set ho hne _, ?_, .inl rfl, fun k hk => ⟨.inr hk, hne k hk⟩, fun x hx => ?_⟩, gr.trans s0⟩
  · intro k hk
    rcases hk with rfl | hk
    · exact Nat.lt_of_lt_of_le hb (gr.trans s0).size
    · have := (ho.wb_lt k hk).2; exact Nat.lt_of_lt_of_le this s0.size
  · rcases List.mem_append.1 hx with hx | hx
    · exact (h10 x hx).grow (gr.trans s0)
    · simp at hx; subst hx
      have k1 : OwCh w4 0 (.slice A1 p.length c1) p := by
        refine ((o1.below y3 (Nat.le_refl _)).base_le (B := 0) (Nat.zero_le _)).keep fun k hk => ?_
        have := o1.wb_lt k hk
        exact hgr.block k (by omega) (fun e => by have := (h2.wb_lt k e.symm).2; omega)
      have k2 : PartF w4 F' (retS n p A1 c1) := ⟨⟨Rd.nil, OffF.zero⟩, ⟨Rd.nil, OffF.zero⟩, ⟨k1.rd Ch.enc_len, k1.offF Ch.enc_len rfl fun k hk hf => by
        have := o1.wb_lt k hk
        rcases hf with h | h
        · omega
        · rcases hwb' k h with h | h
          · have := (h2.wb_lt k h).2; omega
          · omega⟩⟩
      exact k2.grow s0

theorem grow_mk {w : World} {F : Nat → Prop} {b g n c : Nat} {L : List OpS} {x : OpS} (h : FlatM w F b (.slice (some ⟨g, 0, none⟩) n c) L) (hx : L.getLast? = some x) (hL : L = L.dropLast ++ [x]) (v : Int) :
    FlatM (w.setCell ⟨g, (L.length - 1) * 5 + 1, none⟩ (.int .i64 v)) F b (.slice (some ⟨g, 0, none⟩) n c) (L.dropLast ++ [{ x with o := { x.o with n := v } }]) ∧
      Grow w F (w.setCell ⟨g, (L.length - 1) * 5 + 1, none⟩ (.int .i64 v)) F := by
  obtain ⟨h1, h2, h6, h7, h8, h10⟩ := h
  have hpos : 0 < L.length := by rw [hL]; simp
  have hgF := h8 g (own_wb h2 hpos)
  have gs := setCell_below (w := w) g ((L.length - 1) * 5 + 1) (.int .i64 v) hgF.1 0
  have hset : OwOs (w.setCell ⟨g, (L.length - 1) * 5 + 1, none⟩ (.int .i64 v)) 0 (.slice (some ⟨g, 0, none⟩) n c) (L.dropLast ++ [{ x with o := { x.o with n := v } }]) := by
    have := Ow.setEl OpS.enc_len h2 (i := L.length - 1) (j := 1) (u := .int .i64 v) (a' := { x with o := { x.o with n := v } }) (by omega) (by omega) (by
      have e : L[L.length - 1]'(by omega) = x := by
        rw [List.getLast?_eq_getElem?] at hx
        rw [List.getElem?_eq_getElem (by omega)] at hx
        exact Option.some.inj hx
      rw [e]
      rfl)
    rw [set_last hL] at this
    exact this
  refine ⟨⟨(Below.heap_setCell w _ _ b (fun e => hgF.2 e.symm)).trans h1, hset, fun k hk => Nat.lt_of_lt_of_le (h6 k hk) gs.size, h7, h8, fun y hy => ?_⟩, gs⟩
  rcases List.mem_append.1 hy with hy | hy
  · exact (h10 y (by rw [hL]; exact List.mem_append.2 (.inl hy))).grow gs
  · simp at hy; subst hy
    have := (h10 x (by rw [hL]; simp)).grow gs
    exact this

theorem copyC_any (A : Option Addr) (n c : Nat) (l : List Ch) (w : World) (hn : n = l.length) (h : RdCh w w.heap.size A l) (hb : n ≤ 100000000) :
    Calls Tryz.prog 154 #[.slice A n c] w (NewCh l w) := by
  have N := Lib.hid hn
  clear hn
  go_enter Tryz.func154, Tryz.ntmps154
  go_wp2_with (go_at_call 168; refine Hid.out ?_)
  refine Lib.hid ?_
  refine (cloneCh_any A n c l w N.out h hb).mono ?_
  rintro e w1 ⟨A', c', rfl, hown, y⟩
  go_wp2_with (fail)
  go_ret
  exact ⟨A', c', rfl, hown, y⟩
theorem ret_less (b : Nat) (Ap : Option Addr) (n : Int) (np cp : Nat) (p : List Ch) (w : World) (F : Nat → Prop) (m : Mk) (h : Mkr w F b m) (hn : n < 1) :
    Calls Tryz.prog 75 #[.pointer (some ⟨b, 0, none⟩), .int .i64 n, .slice Ap np cp] w (MkOut (mkRetain m n p) w F b) := by
  have H := Lib.hid h
  have e : mkRetain m n p = m := by unfold mkRetain; rw [if_pos hn]
  rw [e]
  clear h e
  go_enter Tryz.func75, Tryz.ntmps75
  go_wp2_with (fail)
  refine bodyPost_ret (results_none rfl _ _ _) rfl ?_
  exact ⟨rfl, F, H.out, Grow.refl _ _⟩

set_option maxRecDepth 100000 in
set_option maxHeartbeats 1600000 in
theorem ret_none (b : Nat) (Ap : Option Addr) (n : Int) (np cp : Nat) (p : List Ch) (w : World) (F : Nat → Prop) (m : Mk) (h : Mkr w F b m)
    (hnp : np = p.length) (rp : RdCh w w.heap.size Ap p) (op : OffF F Ap p.length) (hb : np ≤ 1048576) (hn1 : ¬ n < 1) (hmb : m.done.length + m.ins.length ≤ 10000000) (h0 : m.done ++ mkGap m = []) :
    Calls Tryz.prog 75 #[.pointer (some ⟨b, 0, none⟩), .int .i64 n, .slice Ap np cp] w (MkOut (mkRetain m n p) w F b) := by
  obtain ⟨vd, vi, D, I, h1, h2, h3, h4, h5, h6, h7, h8, h9, h10, h11⟩ := h
  obtain ⟨Ad, cd, rfl, _, _⟩ := h2.form
  obtain ⟨Ai, ci, rfl, _, _⟩ := h3.form
  have HD := Lib.hid (show D.length ≤ 10000000 by rw [← h4, ← h5] at hmb; simp [osOf] at hmb; omega)
  have HI := Lib.hid (show I.length ≤ 10000000 by rw [← h4, ← h5] at hmb; simp [osOf] at hmb; omega)
  have NP := Lib.hid hnp
  have H1 := Lib.hid h1
  have H2 := Lib.hid h2
  have H3 := Lib.hid h3
  have hlt := lt_of_some h1
  obtain ⟨c0, c1, c2⟩ := box_3 h1
  have hf := box_thaw h1 0
  have H4 := Lib.hid h4
  have H5 := Lib.hid h5
  have HL0 : Hid (D ++ gapS I m.gone = []) := Lib.hid (by
    have e : osOf (D ++ gapS I m.gone) = [] := by rw [← h0]; unfold osOf; rw [List.map_append]; show osOf D ++ osOf (gapS I m.gone) = _; rw [gapS_os, h4, h5]; rfl
    unfold osOf at e
    simpa using e)
  have HM : Hid (mkRetain m n p = ⟨[opR n p], [], 0⟩) := Lib.hid (by unfold mkRetain addR; rw [if_neg hn1, h0]; rfl)
  clear hnp h1 h2 h3 h4 h5 hmb h0
  generalize hgone : m.gone = gone at *
  go_enter Tryz.func75, Tryz.ntmps75
  go_wp2_with (fail)
  go_region_law (first
      | (refine step_fn rfl 152 [.tmp 18] #[115] rfl Tryz.f152 (by kernel_rfl) (by kernel_rfl) (by kernel_rfl) [.pointer (some ⟨b, 0, none⟩)] (by rfl) (gap_any b (.slice Ad D.length cd) Ai I.length ci gone I w.drew H1.out rfl (H3.out.rd OpS.enc_len) (by have := HI.out; omega)) ?_
         rintro e w1 ⟨A1, k1, rfl, o1, y1⟩
         refine ⟨_, rfl, ?_⟩
         have hb1 := (y1.block b hlt).trans H1.out
         obtain ⟨d0, d1, d2⟩ := box_3 hb1
         have hf1 := box_thaw hb1 0
         have HB1 := Lib.hid hb1
         have O1 := Lib.hid o1
         have Y1 : Hid (Below w.heap.size w w1) := Lib.hid ((up_drew (Below.refl _ _)).trans y1)
         clear hb1 o1 y1)
      | (refine step_os (m := gapS I gone) rfl (.tmp 17) (.tmp 19) (by rfl) (by rfl) (H2.out.below Y1.out (Nat.le_refl _)) w1.heap.size A1 k1 (gapS I gone).length (by rfl) rfl (O1.out.rd OpS.enc_len) (by have := HD.out; have := HI.out; have := gapS_len I gone; omega) (Nat.zero_le _) ?_
         intro vd' w4 ho hgr hv
         obtain ⟨A', c', hv', _, _⟩ := ho.form
         subst hv'
         generalize hnl : (D ++ gapS I gone).length = nl at ho hv
         have hbv : wb (.slice Ad D.length cd) ≠ some b := fun e => (h8 b e).2.1 rfl
         have hb4 := (hgr.block b (lt_of_some HB1.out) (fun e => hbv e.symm)).trans HB1.out
         obtain ⟨q0, q1, q2⟩ := box_3 hb4
         have hf4 := box_thaw hb4 0
         have hf4b := box_thaw hb4 1
         have hf4c := box_thaw hb4 2
         have HB4 := Lib.hid hb4
         have HO := Lib.hid ho
         have HG := Lib.hid hgr
         have HV := Lib.hid hv
         have HNL := Lib.hid hnl
         have hnl0 : nl = 0 := by rw [← hnl, HL0.out]; rfl
         subst hnl0
         clear ho hgr hv hb4 hbv hnl))
  all_goals
    obtain ⟨F2, hF2, hG2⟩ := flush_mk (m := m) (by rw [hgone]; exact H1.out) H2.out H3.out H4.out H5.out h6 h7 h8 h9 h10 h11 Y1.out (by rw [hgone]; exact HO.out) HG.out HV.out
    go_wp2_with (fail)
    generalize ((w4.setCell ⟨b, 0, none⟩ (.slice A' 0 c')).setCell ⟨b, 1, none⟩ (.slice none 0 0)).setCell ⟨b, 2, none⟩ (.int .i64 0) = W at hF2 hG2 ⊢
    have rpW := rp.grow hG2 op
    rw [hgone, HL0.out] at hF2
    have hW := hF2.1
    obtain ⟨a0, a1, a2⟩ := box_3 hW
    have haf := box_thaw hW 0
    have hWlt := lt_of_some hW
    have HF2 := Lib.hid hF2
    have HW := Lib.hid hW
    clear hF2 hW
    go_region_law (first
        | (refine step_fn rfl 154 [.tmp 78] #[48] rfl Tryz.f154 (by kernel_rfl) (by kernel_rfl) (by kernel_rfl) [.slice Ap np cp] (by rfl) (copyC_any Ap np cp p W.drew NP.out (rpW.ext (up_drew (Below.refl _ _))) (by omega)) ?_
           rintro e w5 ⟨A3, k3, rfl, o5, y5⟩
           refine ⟨_, rfl, ?_⟩
           have hb5 := (y5.block b hWlt).trans HW.out
           obtain ⟨d0, d1, d2⟩ := box_3 hb5
           have hf5 := box_thaw hb5 0
           have O5 := Lib.hid o5
           have Y5 : Hid (Below W.heap.size W w5) := Lib.hid ((up_drew (Below.refl _ _)).trans y5)
           have y6 := ext_alloc w5 (.cells #[.int .u8 1, .int .i64 n, .slice none 0 0, .slice none 0 0, .slice A3 p.length k3] 50)
           have hb6 := (y6.block b (lt_of_some hb5)).trans hb5
           obtain ⟨g0, g1, g2⟩ := box_3 hb6
           have hf6 := box_thaw hb6 0
           have HB6 := Lib.hid hb6
           have Y6 := Lib.hid y6
           clear hb5 hb6 o5 y5 y6)
        | (refine step_os (m := [retS n p A3 k3]) rfl (.tmp 76) (.tmp 81) (by rfl) (by rfl) ((HF2.out.2.1.below Y5.out (Nat.le_refl _)).below Y6.out (Nat.le_refl _)) _ _ 1 1 (by rfl) rfl (rd_one (enc := OpS.enc) (size := 5) w5 _ (retS n p A3 k3) rfl) (by simp) (Nat.zero_le _) ?_
           intro vd6 w6 ho hgr hv
           obtain ⟨A6, c6, hv6, _, _⟩ := ho.form
           subst hv6
           generalize hnl6 : ([] ++ [retS n p A3 k3]).length = nl6 at ho hv
           have hbv : wb (.slice A' 0 c') ≠ some b := fun e => (HF2.out.2.2.2.2.1 b e).2 rfl
           have hb7 := (hgr.block b (lt_of_some HB6.out) (fun e => hbv e.symm)).trans HB6.out
           obtain ⟨q0', q1', q2'⟩ := box_3 hb7
           have hf7 := box_thaw hb7 0
           have HO6 := Lib.hid ho
           have HG6 := Lib.hid hgr
           have HV6 := Lib.hid hv
           clear ho hgr hv hb7 hbv hnl6))
    all_goals go_wp2_with (fail)
    all_goals
      refine bodyPost_ret (results_none rfl _ _ _) rfl ?_
      obtain ⟨F3, f1, f2⟩ := push_mk HF2.out Y5.out O5.out Y6.out HO6.out HG6.out HV6.out
      rw [HM.out]
      exact ⟨rfl, F3, f1.mkr, hG2.trans f2⟩
theorem own_lastN {w : World} {base n c : Nat} {A : Option Addr} {I : List OpS} {o : Opd} (h : OwOs w base (.slice A n c) I) (hn : I.length = n) (ho : (osOf I).getLast? = some o) :
    ∃ (g : Nat) (x : OpS), 0 < n ∧ A = some ⟨g, 0, none⟩ ∧ I.getLast? = some x ∧ x.o = o ∧ I = I.dropLast ++ [x] ∧
      (∃ cur, w.heap[g]? = some (.cells cur 50 (0, 0))) ∧ CellsAt w ⟨g, (n - 1) * 5, none⟩ x.enc := by
  subst hn
  exact own_last h ho

set_option maxRecDepth 100000 in
set_option maxHeartbeats 1600000 in
theorem ret_kind (b : Nat) (Ap : Option Addr) (n : Int) (np cp : Nat) (p : List Ch) (w : World) (F : Nat → Prop) (m : Mk) (h : Mkr w F b m)
    (hnp : np = p.length) (rp : RdCh w w.heap.size Ap p) (op : OffF F Ap p.length) (hb : np ≤ 1048576) (hn1 : ¬ n < 1) (hmb : m.done.length + m.ins.length ≤ 10000000) (o : Opd) (h0 : (m.done ++ mkGap m).getLast? = some o) (hob : o.p.length ≤ 1048576) (hk : ¬ o.k = 1) :
    Calls Tryz.prog 75 #[.pointer (some ⟨b, 0, none⟩), .int .i64 n, .slice Ap np cp] w (MkOut (mkRetain m n p) w F b) := by
  obtain ⟨vd, vi, D, I, h1, h2, h3, h4, h5, h6, h7, h8, h9, h10, h11⟩ := h
  obtain ⟨Ad, cd, rfl, _, _⟩ := h2.form
  obtain ⟨Ai, ci, rfl, _, _⟩ := h3.form
  have HD := Lib.hid (show D.length ≤ 10000000 by rw [← h4, ← h5] at hmb; simp [osOf] at hmb; omega)
  have HI := Lib.hid (show I.length ≤ 10000000 by rw [← h4, ← h5] at hmb; simp [osOf] at hmb; omega)
  have NP := Lib.hid hnp
  have H1 := Lib.hid h1
  have H2 := Lib.hid h2
  have H3 := Lib.hid h3
  have hlt := lt_of_some h1
  obtain ⟨c0, c1, c2⟩ := box_3 h1
  have hf := box_thaw h1 0
  have H4 := Lib.hid h4
  have H5 := Lib.hid h5
  have HL0 : Hid (osOf (D ++ gapS I m.gone) = m.done ++ mkGap m) := Lib.hid (by
    unfold osOf; rw [List.map_append]; show osOf D ++ osOf (gapS I m.gone) = _; rw [gapS_os, h4, h5]; rfl)
  have HM : Hid (mkRetain m n p = ⟨m.done ++ mkGap m ++ [opR n p], [], 0⟩) := Lib.hid (by unfold mkRetain addR; rw [if_neg hn1, h0]; simp only; rw [if_neg (fun h => hk h.1)])
  have H0 : Hid ((osOf (D ++ gapS I m.gone)).getLast? = some o) := Lib.hid (by rw [HL0.out]; exact h0)
  have HK := Lib.hid hk
  clear hnp h1 h2 h3 h4 h5 hmb h0 hk
  generalize hgone : m.gone = gone at *
  go_enter Tryz.func75, Tryz.ntmps75
  go_wp2_with (fail)
  go_region_law (first
      | (refine step_fn rfl 152 [.tmp 18] #[115] rfl Tryz.f152 (by kernel_rfl) (by kernel_rfl) (by kernel_rfl) [.pointer (some ⟨b, 0, none⟩)] (by rfl) (gap_any b (.slice Ad D.length cd) Ai I.length ci gone I w.drew H1.out rfl (H3.out.rd OpS.enc_len) (by have := HI.out; omega)) ?_
         rintro e w1 ⟨A1, k1, rfl, o1, y1⟩
         refine ⟨_, rfl, ?_⟩
         have hb1 := (y1.block b hlt).trans H1.out
         obtain ⟨d0, d1, d2⟩ := box_3 hb1
         have hf1 := box_thaw hb1 0
         have HB1 := Lib.hid hb1
         have O1 := Lib.hid o1
         have Y1 : Hid (Below w.heap.size w w1) := Lib.hid ((up_drew (Below.refl _ _)).trans y1)
         clear hb1 o1 y1)
      | (refine step_os (m := gapS I gone) rfl (.tmp 17) (.tmp 19) (by rfl) (by rfl) (H2.out.below Y1.out (Nat.le_refl _)) w1.heap.size A1 k1 (gapS I gone).length (by rfl) rfl (O1.out.rd OpS.enc_len) (by have := HD.out; have := HI.out; have := gapS_len I gone; omega) (Nat.zero_le _) ?_
         intro vd' w4 ho hgr hv
         obtain ⟨A', c', hv', _, _⟩ := ho.form
         subst hv'
         generalize hnl : (D ++ gapS I gone).length = nl at ho hv
         have hbv : wb (.slice Ad D.length cd) ≠ some b := fun e => (h8 b e).2.1 rfl
         have hb4 := (hgr.block b (lt_of_some HB1.out) (fun e => hbv e.symm)).trans HB1.out
         obtain ⟨q0, q1, q2⟩ := box_3 hb4
         have hf4 := box_thaw hb4 0
         have hf4b := box_thaw hb4 1
         have hf4c := box_thaw hb4 2
         have HB4 := Lib.hid hb4
         have HO := Lib.hid ho
         have HG := Lib.hid hgr
         have HV := Lib.hid hv
         have HNL := Lib.hid hnl
         have hnlb : nl ≤ 20000001 := by rw [← hnl, List.length_append]; have := HD.out; have := HI.out; have := gapS_len I gone; omega
         clear ho hgr hv hb4 hbv hnl))
  all_goals
    obtain ⟨F2, hF2, hG2⟩ := flush_mk (m := m) (by rw [hgone]; exact H1.out) H2.out H3.out H4.out H5.out h6 h7 h8 h9 h10 h11 Y1.out (by rw [hgone]; exact HO.out) HG.out HV.out
    obtain ⟨g, x, hnp1, hA', hx, hxo, hLx, ⟨cur, hg⟩, hcx⟩ := own_lastN HO.out HNL.out H0.out
    subst hA'
    have hgb : g ≠ b := (hF2.2.2.2.2.1 g (by obtain ⟨q, hq⟩ : ∃ q, c' = q + 1 := ⟨c' - 1, by have := HO.out.cap; have := HNL.out; omega⟩; rw [hq]; rfl)).2
    have hgb' : b ≠ g := fun e => hgb e.symm
    have hPF := hF2.2.2.2.2.2 x (by rw [hgone]; rw [hLx]; simp)
    obtain ⟨⟨xk, xn, xr, xs, xp⟩, Ar, cr, As, cs, Aq, cq⟩ := x
    obtain ⟨z0, z1, z2, z3, z4⟩ := op_cells hcx
    have e1 : (1 : Int) ≤ (nl : Int) := by omega
    have e2 : (nl : Int) - 1 < (nl : Int) := by omega
    have hzf : w4.frozen? ⟨g, (nl - 1) * 5 + 1, none⟩ = false := box_thaw hg _
    have hko : xk = o.k := by rw [← hxo]
    have hpo : xp = o.p := by rw [← hxo]
    have rpE := rp.grow hG2 op
    have rqE := hPF.2.2.1
    have hqb : xp.length ≤ 1048576 := by rw [hpo]; exact hob
    have HCX := Lib.hid hcx
    have HLX := Lib.hid hLx
    have HX := Lib.hid hx
    have HXO := Lib.hid hxo
    clear hcx hPF hLx hx hxo
    have hk1 : (xk == 1) = false := beq_eq_false_iff_ne.2 (by rw [hko]; exact HK.out)
    clear hko hpo
    go_wp2_with (fail)
    generalize ((w4.setCell ⟨b, 0, none⟩ (.slice (some ⟨g, 0, none⟩) nl c')).setCell ⟨b, 1, none⟩ (.slice none 0 0)).setCell ⟨b, 2, none⟩ (.int .i64 0) = W at hF2 hG2 ⊢
    have rpW := rp.grow hG2 op
    rw [hgone] at hF2
    have hW := hF2.1
    obtain ⟨a0, a1, a2⟩ := box_3 hW
    have haf := box_thaw hW 0
    have hWlt := lt_of_some hW
    have HF2 := Lib.hid hF2
    have HW := Lib.hid hW
    clear hF2 hW
    go_region_law (first
        | (refine step_fn rfl 154 [.tmp 78] #[48] rfl Tryz.f154 (by kernel_rfl) (by kernel_rfl) (by kernel_rfl) [.slice Ap np cp] (by rfl) (copyC_any Ap np cp p W.drew NP.out (rpW.ext (up_drew (Below.refl _ _))) (by omega)) ?_
           rintro e w5 ⟨A3, k3, rfl, o5, y5⟩
           refine ⟨_, rfl, ?_⟩
           have hb5 := (y5.block b hWlt).trans HW.out
           obtain ⟨d0, d1, d2⟩ := box_3 hb5
           have hf5 := box_thaw hb5 0
           have O5 := Lib.hid o5
           have Y5 : Hid (Below W.heap.size W w5) := Lib.hid ((up_drew (Below.refl _ _)).trans y5)
           have y6 := ext_alloc w5 (.cells #[.int .u8 1, .int .i64 n, .slice none 0 0, .slice none 0 0, .slice A3 p.length k3] 50)
           have hb6 := (y6.block b (lt_of_some hb5)).trans hb5
           obtain ⟨g0, g1, g2⟩ := box_3 hb6
           have hf6 := box_thaw hb6 0
           have HB6 := Lib.hid hb6
           have Y6 := Lib.hid y6
           clear hb5 hb6 o5 y5 y6)
        | (refine step_os (m := [retS n p A3 k3]) rfl (.tmp 76) (.tmp 81) (by rfl) (by rfl) ((HF2.out.2.1.below Y5.out (Nat.le_refl _)).below Y6.out (Nat.le_refl _)) _ _ 1 1 (by rfl) rfl (rd_one (enc := OpS.enc) (size := 5) w5 _ (retS n p A3 k3) rfl) (by have := HNL.out; simp only [List.length_singleton]; omega) (Nat.zero_le _) ?_
           intro vd6 w6 ho hgr hv
           obtain ⟨A6, c6, hv6, _, _⟩ := ho.form
           subst hv6
           generalize hnl6 : (D ++ gapS I gone ++ [retS n p A3 k3]).length = nl6 at ho hv
           have hbv : wb (.slice (some ⟨g, 0, none⟩) nl c') ≠ some b := fun e => (HF2.out.2.2.2.2.1 b e).2 rfl
           have hb7 := (hgr.block b (lt_of_some HB6.out) (fun e => hbv e.symm)).trans HB6.out
           obtain ⟨q0', q1', q2'⟩ := box_3 hb7
           have hf7 := box_thaw hb7 0
           have HO6 := Lib.hid ho
           have HG6 := Lib.hid hgr
           have HV6 := Lib.hid hv
           clear ho hgr hv hb7 hbv hnl6))
    all_goals go_wp2_with (fail)
    all_goals
      refine bodyPost_ret (results_none rfl _ _ _) rfl ?_
      obtain ⟨F3, f1, f2⟩ := push_mk HF2.out Y5.out O5.out Y6.out HO6.out HG6.out HV6.out
      rw [HM.out]
      have e9 : osOf (D ++ gapS I gone ++ [retS n p A3 k3]) = m.done ++ mkGap m ++ [opR n p] := by rw [← HL0.out]; simp [osOf, retS]
      rw [← e9]
      exact ⟨rfl, F3, f1.mkr, hG2.trans f2⟩

set_option maxRecDepth 100000 in
set_option maxHeartbeats 1600000 in
theorem ret_patch (b : Nat) (Ap : Option Addr) (n : Int) (np cp : Nat) (p : List Ch) (w : World) (F : Nat → Prop) (m : Mk) (h : Mkr w F b m)
    (hnp : np = p.length) (rp : RdCh w w.heap.size Ap p) (op : OffF F Ap p.length) (hb : np ≤ 1048576) (hn1 : ¬ n < 1) (hmb : m.done.length + m.ins.length ≤ 10000000) (o : Opd) (h0 : (m.done ++ mkGap m).getLast? = some o) (hob : o.p.length ≤ 1048576) (hk : o.k = 1) (hp : ¬ o.p = p) :
    Calls Tryz.prog 75 #[.pointer (some ⟨b, 0, none⟩), .int .i64 n, .slice Ap np cp] w (MkOut (mkRetain m n p) w F b) := by
  obtain ⟨vd, vi, D, I, h1, h2, h3, h4, h5, h6, h7, h8, h9, h10, h11⟩ := h
  obtain ⟨Ad, cd, rfl, _, _⟩ := h2.form
  obtain ⟨Ai, ci, rfl, _, _⟩ := h3.form
  have HD := Lib.hid (show D.length ≤ 10000000 by rw [← h4, ← h5] at hmb; simp [osOf] at hmb; omega)
  have HI := Lib.hid (show I.length ≤ 10000000 by rw [← h4, ← h5] at hmb; simp [osOf] at hmb; omega)
  have NP := Lib.hid hnp
  have H1 := Lib.hid h1
  have H2 := Lib.hid h2
  have H3 := Lib.hid h3
  have hlt := lt_of_some h1
  obtain ⟨c0, c1, c2⟩ := box_3 h1
  have hf := box_thaw h1 0
  have H4 := Lib.hid h4
  have H5 := Lib.hid h5
  have HL0 : Hid (osOf (D ++ gapS I m.gone) = m.done ++ mkGap m) := Lib.hid (by
    unfold osOf; rw [List.map_append]; show osOf D ++ osOf (gapS I m.gone) = _; rw [gapS_os, h4, h5]; rfl)
  have HM : Hid (mkRetain m n p = ⟨m.done ++ mkGap m ++ [opR n p], [], 0⟩) := Lib.hid (by unfold mkRetain addR; rw [if_neg hn1, h0]; simp only; rw [if_neg (fun h => hp h.2)])
  have H0 : Hid ((osOf (D ++ gapS I m.gone)).getLast? = some o) := Lib.hid (by rw [HL0.out]; exact h0)
  have HK := Lib.hid hk
  have HP := Lib.hid hp
  clear hnp h1 h2 h3 h4 h5 hmb h0 hk hp
  generalize hgone : m.gone = gone at *
  go_enter Tryz.func75, Tryz.ntmps75
  go_wp2_with (fail)
  go_region_law (first
      | (refine step_fn rfl 152 [.tmp 18] #[115] rfl Tryz.f152 (by kernel_rfl) (by kernel_rfl) (by kernel_rfl) [.pointer (some ⟨b, 0, none⟩)] (by rfl) (gap_any b (.slice Ad D.length cd) Ai I.length ci gone I w.drew H1.out rfl (H3.out.rd OpS.enc_len) (by have := HI.out; omega)) ?_
         rintro e w1 ⟨A1, k1, rfl, o1, y1⟩
         refine ⟨_, rfl, ?_⟩
         have hb1 := (y1.block b hlt).trans H1.out
         obtain ⟨d0, d1, d2⟩ := box_3 hb1
         have hf1 := box_thaw hb1 0
         have HB1 := Lib.hid hb1
         have O1 := Lib.hid o1
         have Y1 : Hid (Below w.heap.size w w1) := Lib.hid ((up_drew (Below.refl _ _)).trans y1)
         clear hb1 o1 y1)
      | (refine step_os (m := gapS I gone) rfl (.tmp 17) (.tmp 19) (by rfl) (by rfl) (H2.out.below Y1.out (Nat.le_refl _)) w1.heap.size A1 k1 (gapS I gone).length (by rfl) rfl (O1.out.rd OpS.enc_len) (by have := HD.out; have := HI.out; have := gapS_len I gone; omega) (Nat.zero_le _) ?_
         intro vd' w4 ho hgr hv
         obtain ⟨A', c', hv', _, _⟩ := ho.form
         subst hv'
         generalize hnl : (D ++ gapS I gone).length = nl at ho hv
         have hbv : wb (.slice Ad D.length cd) ≠ some b := fun e => (h8 b e).2.1 rfl
         have hb4 := (hgr.block b (lt_of_some HB1.out) (fun e => hbv e.symm)).trans HB1.out
         obtain ⟨q0, q1, q2⟩ := box_3 hb4
         have hf4 := box_thaw hb4 0
         have hf4b := box_thaw hb4 1
         have hf4c := box_thaw hb4 2
         have HB4 := Lib.hid hb4
         have HO := Lib.hid ho
         have HG := Lib.hid hgr
         have HV := Lib.hid hv
         have HNL := Lib.hid hnl
         have hnlb : nl ≤ 20000001 := by rw [← hnl, List.length_append]; have := HD.out; have := HI.out; have := gapS_len I gone; omega
         clear ho hgr hv hb4 hbv hnl))
  all_goals
    obtain ⟨F2, hF2, hG2⟩ := flush_mk (m := m) (by rw [hgone]; exact H1.out) H2.out H3.out H4.out H5.out h6 h7 h8 h9 h10 h11 Y1.out (by rw [hgone]; exact HO.out) HG.out HV.out
    obtain ⟨g, x, hnp1, hA', hx, hxo, hLx, ⟨cur, hg⟩, hcx⟩ := own_lastN HO.out HNL.out H0.out
    subst hA'
    have hgb : g ≠ b := (hF2.2.2.2.2.1 g (by obtain ⟨q, hq⟩ : ∃ q, c' = q + 1 := ⟨c' - 1, by have := HO.out.cap; have := HNL.out; omega⟩; rw [hq]; rfl)).2
    have hgb' : b ≠ g := fun e => hgb e.symm
    have hPF := hF2.2.2.2.2.2 x (by rw [hgone]; rw [hLx]; simp)
    obtain ⟨⟨xk, xn, xr, xs, xp⟩, Ar, cr, As, cs, Aq, cq⟩ := x
    obtain ⟨z0, z1, z2, z3, z4⟩ := op_cells hcx
    have e1 : (1 : Int) ≤ (nl : Int) := by omega
    have e2 : (nl : Int) - 1 < (nl : Int) := by omega
    have hzf : w4.frozen? ⟨g, (nl - 1) * 5 + 1, none⟩ = false := box_thaw hg _
    have hko : xk = o.k := by rw [← hxo]
    have hpo : xp = o.p := by rw [← hxo]
    have rpE := rp.grow hG2 op
    have rqE := hPF.2.2.1
    have hqb : xp.length ≤ 1048576 := by rw [hpo]; exact hob
    have HCX := Lib.hid hcx
    have HLX := Lib.hid hLx
    have HX := Lib.hid hx
    have HXO := Lib.hid hxo
    clear hcx hPF hLx hx hxo
    have hk1 : xk = 1 := by rw [hko]; exact HK.out
    clear hko
    subst hk1
    have hfp : decide (xp = p) = false := by rw [hpo]; exact decide_eq_false HP.out
    clear hpo
    go_wp2_with (go_at_call 153; refine (sameC_any Aq Ap xp.length np cq cp xp p _ rfl NP.out rqE rpE (by omega) (by omega)).mono ?_; rintro e w5 ⟨rfl, q, rfl⟩)
    have hF2 := hF2.below (ext_drew _ q)
    have hG2 := hG2.trans (Grow.of (ext_drew _ q))
    generalize (((w4.setCell ⟨b, 0, none⟩ (.slice (some ⟨g, 0, none⟩) nl c')).setCell ⟨b, 1, none⟩ (.slice none 0 0)).setCell ⟨b, 2, none⟩ (.int .i64 0)).drewN q = W at hF2 hG2 ⊢
    have rpW := rp.grow hG2 op
    rw [hgone] at hF2
    have hW := hF2.1
    obtain ⟨a0, a1, a2⟩ := box_3 hW
    have haf := box_thaw hW 0
    have hWlt := lt_of_some hW
    have HF2 := Lib.hid hF2
    have HW := Lib.hid hW
    clear hF2 hW
    go_region_law (first
        | (refine step_fn rfl 154 [.tmp 78] #[48] rfl Tryz.f154 (by kernel_rfl) (by kernel_rfl) (by kernel_rfl) [.slice Ap np cp] (by rfl) (copyC_any Ap np cp p W.drew NP.out (rpW.ext (up_drew (Below.refl _ _))) (by omega)) ?_
           rintro e w5 ⟨A3, k3, rfl, o5, y5⟩
           refine ⟨_, rfl, ?_⟩
           have hb5 := (y5.block b hWlt).trans HW.out
           obtain ⟨d0, d1, d2⟩ := box_3 hb5
           have hf5 := box_thaw hb5 0
           have O5 := Lib.hid o5
           have Y5 : Hid (Below W.heap.size W w5) := Lib.hid ((up_drew (Below.refl _ _)).trans y5)
           have y6 := ext_alloc w5 (.cells #[.int .u8 1, .int .i64 n, .slice none 0 0, .slice none 0 0, .slice A3 p.length k3] 50)
           have hb6 := (y6.block b (lt_of_some hb5)).trans hb5
           obtain ⟨g0, g1, g2⟩ := box_3 hb6
           have hf6 := box_thaw hb6 0
           have HB6 := Lib.hid hb6
           have Y6 := Lib.hid y6
           clear hb5 hb6 o5 y5 y6)
        | (refine step_os (m := [retS n p A3 k3]) rfl (.tmp 76) (.tmp 81) (by rfl) (by rfl) ((HF2.out.2.1.below Y5.out (Nat.le_refl _)).below Y6.out (Nat.le_refl _)) _ _ 1 1 (by rfl) rfl (rd_one (enc := OpS.enc) (size := 5) w5 _ (retS n p A3 k3) rfl) (by have := HNL.out; simp only [List.length_singleton]; omega) (Nat.zero_le _) ?_
           intro vd6 w6 ho hgr hv
           obtain ⟨A6, c6, hv6, _, _⟩ := ho.form
           subst hv6
           generalize hnl6 : (D ++ gapS I gone ++ [retS n p A3 k3]).length = nl6 at ho hv
           have hbv : wb (.slice (some ⟨g, 0, none⟩) nl c') ≠ some b := fun e => (HF2.out.2.2.2.2.1 b e).2 rfl
           have hb7 := (hgr.block b (lt_of_some HB6.out) (fun e => hbv e.symm)).trans HB6.out
           obtain ⟨q0', q1', q2'⟩ := box_3 hb7
           have hf7 := box_thaw hb7 0
           have HO6 := Lib.hid ho
           have HG6 := Lib.hid hgr
           have HV6 := Lib.hid hv
           clear ho hgr hv hb7 hbv hnl6))
    all_goals go_wp2_with (fail)
    all_goals
      refine bodyPost_ret (results_none rfl _ _ _) rfl ?_
      obtain ⟨F3, f1, f2⟩ := push_mk HF2.out Y5.out O5.out Y6.out HO6.out HG6.out HV6.out
      rw [HM.out]
      have e9 : osOf (D ++ gapS I gone ++ [retS n p A3 k3]) = m.done ++ mkGap m ++ [opR n p] := by rw [← HL0.out]; simp [osOf, retS]
      rw [← e9]
      exact ⟨rfl, F3, f1.mkr, hG2.trans f2⟩

set_option maxRecDepth 100000 in
set_option maxHeartbeats 1600000 in
theorem ret_same (b : Nat) (Ap : Option Addr) (n : Int) (np cp : Nat) (p : List Ch) (w : World) (F : Nat → Prop) (m : Mk) (h : Mkr w F b m)
    (hnp : np = p.length) (rp : RdCh w w.heap.size Ap p) (op : OffF F Ap p.length) (hb : np ≤ 1048576) (hn1 : ¬ n < 1) (hmb : m.done.length + m.ins.length ≤ 10000000) (o : Opd) (h0 : (m.done ++ mkGap m).getLast? = some o) (hob : o.p.length ≤ 1048576) (hk : o.k = 1) (hp : o.p = p) :
    Calls Tryz.prog 75 #[.pointer (some ⟨b, 0, none⟩), .int .i64 n, .slice Ap np cp] w (MkOut (mkRetain m n p) w F b) := by
  obtain ⟨vd, vi, D, I, h1, h2, h3, h4, h5, h6, h7, h8, h9, h10, h11⟩ := h
  obtain ⟨Ad, cd, rfl, _, _⟩ := h2.form
  obtain ⟨Ai, ci, rfl, _, _⟩ := h3.form
  have HD := Lib.hid (show D.length ≤ 10000000 by rw [← h4, ← h5] at hmb; simp [osOf] at hmb; omega)
  have HI := Lib.hid (show I.length ≤ 10000000 by rw [← h4, ← h5] at hmb; simp [osOf] at hmb; omega)
  have NP := Lib.hid hnp
  have H1 := Lib.hid h1
  have H2 := Lib.hid h2
  have H3 := Lib.hid h3
  have hlt := lt_of_some h1
  obtain ⟨c0, c1, c2⟩ := box_3 h1
  have hf := box_thaw h1 0
  have H4 := Lib.hid h4
  have H5 := Lib.hid h5
  have HL0 : Hid (osOf (D ++ gapS I m.gone) = m.done ++ mkGap m) := Lib.hid (by
    unfold osOf; rw [List.map_append]; show osOf D ++ osOf (gapS I m.gone) = _; rw [gapS_os, h4, h5]; rfl)
  have HM : Hid (mkRetain m n p = ⟨(m.done ++ mkGap m).dropLast ++ [{ o with n := IntKind.i64.wrap (o.n + n) }], [], 0⟩) := Lib.hid (by unfold mkRetain addR; rw [if_neg hn1, h0]; simp only; rw [if_pos ⟨hk, hp⟩])
  have H0 : Hid ((osOf (D ++ gapS I m.gone)).getLast? = some o) := Lib.hid (by rw [HL0.out]; exact h0)
  have HK := Lib.hid hk
  have HP := Lib.hid hp
  clear hnp h1 h2 h3 h4 h5 hmb h0 hk hp
  generalize hgone : m.gone = gone at *
  go_enter Tryz.func75, Tryz.ntmps75
  go_wp2_with (fail)
  go_region_law (first
      | (refine step_fn rfl 152 [.tmp 18] #[115] rfl Tryz.f152 (by kernel_rfl) (by kernel_rfl) (by kernel_rfl) [.pointer (some ⟨b, 0, none⟩)] (by rfl) (gap_any b (.slice Ad D.length cd) Ai I.length ci gone I w.drew H1.out rfl (H3.out.rd OpS.enc_len) (by have := HI.out; omega)) ?_
         rintro e w1 ⟨A1, k1, rfl, o1, y1⟩
         refine ⟨_, rfl, ?_⟩
         have hb1 := (y1.block b hlt).trans H1.out
         obtain ⟨d0, d1, d2⟩ := box_3 hb1
         have hf1 := box_thaw hb1 0
         have HB1 := Lib.hid hb1
         have O1 := Lib.hid o1
         have Y1 : Hid (Below w.heap.size w w1) := Lib.hid ((up_drew (Below.refl _ _)).trans y1)
         clear hb1 o1 y1)
      | (refine step_os (m := gapS I gone) rfl (.tmp 17) (.tmp 19) (by rfl) (by rfl) (H2.out.below Y1.out (Nat.le_refl _)) w1.heap.size A1 k1 (gapS I gone).length (by rfl) rfl (O1.out.rd OpS.enc_len) (by have := HD.out; have := HI.out; have := gapS_len I gone; omega) (Nat.zero_le _) ?_
         intro vd' w4 ho hgr hv
         obtain ⟨A', c', hv', _, _⟩ := ho.form
         subst hv'
         generalize hnl : (D ++ gapS I gone).length = nl at ho hv
         have hbv : wb (.slice Ad D.length cd) ≠ some b := fun e => (h8 b e).2.1 rfl
         have hb4 := (hgr.block b (lt_of_some HB1.out) (fun e => hbv e.symm)).trans HB1.out
         obtain ⟨q0, q1, q2⟩ := box_3 hb4
         have hf4 := box_thaw hb4 0
         have hf4b := box_thaw hb4 1
         have hf4c := box_thaw hb4 2
         have HB4 := Lib.hid hb4
         have HO := Lib.hid ho
         have HG := Lib.hid hgr
         have HV := Lib.hid hv
         have HNL := Lib.hid hnl
         have hnlb : nl ≤ 20000001 := by rw [← hnl, List.length_append]; have := HD.out; have := HI.out; have := gapS_len I gone; omega
         clear ho hgr hv hb4 hbv hnl))
  all_goals
    obtain ⟨F2, hF2, hG2⟩ := flush_mk (m := m) (by rw [hgone]; exact H1.out) H2.out H3.out H4.out H5.out h6 h7 h8 h9 h10 h11 Y1.out (by rw [hgone]; exact HO.out) HG.out HV.out
    obtain ⟨g, x, hnp1, hA', hx, hxo, hLx, ⟨cur, hg⟩, hcx⟩ := own_lastN HO.out HNL.out H0.out
    subst hA'
    have hgb : g ≠ b := (hF2.2.2.2.2.1 g (by obtain ⟨q, hq⟩ : ∃ q, c' = q + 1 := ⟨c' - 1, by have := HO.out.cap; have := HNL.out; omega⟩; rw [hq]; rfl)).2
    have hgb' : b ≠ g := fun e => hgb e.symm
    have hPF := hF2.2.2.2.2.2 x (by rw [hgone]; rw [hLx]; simp)
    obtain ⟨⟨xk, xn, xr, xs, xp⟩, Ar, cr, As, cs, Aq, cq⟩ := x
    obtain ⟨z0, z1, z2, z3, z4⟩ := op_cells hcx
    have e1 : (1 : Int) ≤ (nl : Int) := by omega
    have e2 : (nl : Int) - 1 < (nl : Int) := by omega
    have hzf : w4.frozen? ⟨g, (nl - 1) * 5 + 1, none⟩ = false := box_thaw hg _
    have hko : xk = o.k := by rw [← hxo]
    have hpo : xp = o.p := by rw [← hxo]
    have rpE := rp.grow hG2 op
    have rqE := hPF.2.2.1
    have hqb : xp.length ≤ 1048576 := by rw [hpo]; exact hob
    have HCX := Lib.hid hcx
    have HLX := Lib.hid hLx
    have HX := Lib.hid hx
    have HXO := Lib.hid hxo
    clear hcx hPF hLx hx hxo
    have hk1 : xk = 1 := by rw [hko]; exact HK.out
    clear hko
    subst hk1
    have hfp : decide (xp = p) = true := by rw [hpo]; exact decide_eq_true HP.out
    clear hpo
    go_wp2_with (go_at_call 153; refine (sameC_any Aq Ap xp.length np cq cp xp p _ rfl NP.out rqE rpE (by omega) (by omega)).mono ?_; rintro e w5 ⟨rfl, q, rfl⟩)
    refine bodyPost_ret (results_none rfl _ _ _) rfl ?_
    have hF3 := hF2.below (ext_drew _ q)
    have hG3 := hG2.trans (Grow.of (ext_drew _ q))
    rw [hgone] at hF3
    have hw : IntKind.i64.wrap (xn + n) = wrap64 (xn + n) := by rw [IntWalk.i64_left]
    obtain ⟨f1, f2⟩ := grow_mk hF3 HX.out HLX.out (wrap64 (xn + n))
    rw [HNL.out] at f1 f2
    have e9 : osOf ((D ++ gapS I gone).dropLast ++ [({ o := { k := 1, n := wrap64 (xn + n), r := xr, s := xs, p := xp }, Ar := Ar, cr := cr, As := As, cs := cs, Ap := Aq, cp := cq } : OpS)]) = (m.done ++ mkGap m).dropLast ++ [{ o with n := IntKind.i64.wrap (o.n + n) }] := by
      rw [← HL0.out, ← HXO.out]; simp [osOf, List.map_dropLast, hw]
    rw [HM.out, ← e9]
    exact ⟨rfl, F2, f1.mkr, hG3.trans f2⟩
theorem mkRetain_any (b : Nat) (Ap : Option Addr) (n : Int) (np cp : Nat) (p : List Ch) (w : World) (F : Nat → Prop) (m : Mk) (h : Mkr w F b m)
    (hnp : np = p.length) (rp : RdCh w w.heap.size Ap p) (op : OffF F Ap p.length) (hb : np ≤ 1048576) (hmb : m.done.length + m.ins.length ≤ 10000000) (hpb : ∀ o ∈ m.done ++ mkGap m, o.p.length ≤ 1048576) :
    Calls Tryz.prog 75 #[.pointer (some ⟨b, 0, none⟩), .int .i64 n, .slice Ap np cp] w (MkOut (mkRetain m n p) w F b) := by
  by_cases hn : n < 1
  · exact ret_less b Ap n np cp p w F m h hn
  · cases h0 : (m.done ++ mkGap m).getLast? with
    | none => exact ret_none b Ap n np cp p w F m h hnp rp op hb hn hmb (List.getLast?_eq_none_iff.1 h0)
    | some o =>
      have ho := hpb o (List.mem_of_getLast? h0)
      by_cases hk : o.k = 1
      · by_cases hp : o.p = p
        · exact ret_same b Ap n np cp p w F m h hnp rp op hb hn hmb o h0 ho hk hp
        · exact ret_patch b Ap n np cp p w F m h hnp rp op hb hn hmb o h0 ho hk hp
      · exact ret_kind b Ap n np cp p w F m h hnp rp op hb hn hmb o h0 ho hk
end Go.Proofs.YtfnkjcodcoehcaaGreatDoor
