/- Merged texts: MkIns3, Tell, MkFlat, MkRet, MkRetL. -/
import Derived.Test.YtfnkjcodcoehcaaGreatDoorS19
import Derived.Test.YtfnkjcodcoehcaaGreatDoorS16
namespace Go.Proofs.YtfnkjcodcoehcaaGreatDoor
open Go.RowKit
set_option linter.unusedVariables false
set_option linter.unusedSimpArgs false

/-- more runes behind the last insert -/
def addS (x : OpS) (l : List Int) (A : Option Addr) (c : Nat) : OpS := { x with o := { x.o with r := x.o.r ++ l }, Ar := A, cr := c }
theorem own_wb {w : World} {base g n c : Nat} {I : List OpS} (h : OwOs w base (.slice (some ⟨g, 0, none⟩) n c) I) (hpos : 0 < I.length) : wb (.slice (some ⟨g, 0, none⟩) n c) = some g := by
  obtain ⟨q, hq⟩ : ∃ q, c = q + 1 := ⟨c - 1, by have := h.cap; omega⟩
  rw [hq]; rfl
theorem set_last {α : Type} {I : List α} {x y : α} (h : I = I.dropLast ++ [x]) : I.set (I.length - 1) y = I.dropLast ++ [y] := by
  have hl : I.length = I.dropLast.length + 1 := by conv => lhs; rw [h]
                                                   simp
  conv => lhs; rw [h]
  rw [List.set_append_right _ _ (by simp)]
  simp
theorem ins_same_mk {w w4 : World} {F : Nat → Prop} {b g ci : Nat} {m : Mk} {vd : Value} {D I : List OpS} {x : OpS} {l : List Int} {s : List At} {A' : Option Addr} {c' nl : Nat}
    (h1 : w.heap[b]? = some (.cells #[vd, .slice (some ⟨g, 0, none⟩) I.length ci, .int .i64 m.gone] 189 (0, 0))) (h2 : OwOs w 0 vd D) (h3 : OwOs w 0 (.slice (some ⟨g, 0, none⟩) I.length ci) I) (h4 : osOf D = m.done) (h5 : osOf I = m.ins)
    (h6 : ∀ k, F k → k < w.heap.size) (h7 : F b) (h8 : ∀ k, wb vd = some k → F k ∧ k ≠ b ∧ wb (.slice (some ⟨g, 0, none⟩) I.length ci) ≠ some k) (h9 : ∀ k, wb (.slice (some ⟨g, 0, none⟩) I.length ci) = some k → F k ∧ k ≠ b) (h10 : ∀ x ∈ D, PartF w F x) (h11 : InsF w F b vd (.slice (some ⟨g, 0, none⟩) I.length ci) I)
    (hl : l ≠ []) (hx : I.getLast? = some x) (hI : I = I.dropLast ++ [x]) (hs : x.o.s = s)
    (hnl : nl = (x.o.r ++ l).length)
    (ho : OwI32 w4 0 (.slice A' nl c') (x.o.r ++ l)) (hgr : w.grownBy w4 (wb (.slice x.Ar x.o.r.length x.cr)))
    (hv : (.slice A' nl c' = Value.slice x.Ar x.o.r.length x.cr ∧ w4 = w) ∨ wb (.slice A' nl c') = wb (.slice x.Ar x.o.r.length x.cr) ∨ wb (.slice A' nl c') = some w.heap.size) :
    ∃ F', Mkr (w4.setCell ⟨g, (I.length - 1) * 5 + 2, none⟩ (.slice A' nl c')) F' b (mkInsert m l s) ∧ Grow w F (w4.setCell ⟨g, (I.length - 1) * 5 + 2, none⟩ (.slice A' nl c')) F' := by
  subst hnl
  have hpos : 0 < I.length := by rw [hI]; simp
  have hL := h11.2 x hx
  have hgw : wb (.slice (some ⟨g, 0, none⟩) I.length ci) = some g := by
    obtain ⟨q, hq⟩ : ∃ q, ci = q + 1 := ⟨ci - 1, by have := h3.cap; omega⟩
    rw [hq]; rfl
  have hgF := h9 g hgw
  have hglt := (h3.wb_lt g hgw).2
  have hblt := lt_of_some h1
  have hwbx : ∀ k, wb (.slice x.Ar x.o.r.length x.cr) = some k → F k ∧ k ≠ b ∧ wb vd ≠ some k ∧ k ≠ g := fun k hk => by
    obtain ⟨q1, q2, q3, q4⟩ := hL.2.1 k hk
    exact ⟨q1, q2, q3, fun e => q4 (by rw [e]; exact hgw)⟩
  have hwb' : ∀ k, wb (.slice A' (x.o.r ++ l).length c') = some k → wb (.slice x.Ar x.o.r.length x.cr) = some k ∨ k = w.heap.size := fun k hk => by
    rcases hv with ⟨h, _⟩ | h | h
    · rw [h] at hk; exact .inl hk
    · rw [h] at hk; exact .inl hk
    · rw [h] at hk; injection hk with hk; exact .inr hk.symm
  have hne : ∀ k, wb (.slice A' (x.o.r ++ l).length c') = some k → k ≠ b ∧ wb vd ≠ some k ∧ k ≠ g := fun k hk => by
    rcases hwb' k hk with h | h
    · exact (hwbx k h).2
    · subst h
      exact ⟨by omega, fun e => by have := (h2.wb_lt _ e).2; omega, by omega⟩
  have G1 : ∀ j, j < w.heap.size → wb (.slice x.Ar x.o.r.length x.cr) ≠ some j → w4.heap[j]? = w.heap[j]? := fun j hj hn => hgr.block j hj (fun e => hn e.symm)
  let F' : Nat → Prop := fun k => k = b ∨ wb vd = some k ∨ k = g ∨ wb (.slice A' (x.o.r ++ l).length c') = some k
  have hF' : ∀ k, F' k → F k ∨ w.heap.size ≤ k := fun k hk => by
    rcases hk with rfl | hk | rfl | hk
    · exact .inl h7
    · exact .inl (h8 k hk).1
    · exact .inl hgF.1
    · rcases hwb' k hk with h | h
      · exact .inl (hwbx k h).1
      · exact .inr (by omega)
  have gr : Grow w F w4 F' := ⟨hgr.os, hgr.tape, hgr.output, hgr.size, fun j hj hn => G1 j hj (fun e => hn (hwbx j e).1), hF'⟩
  have gs := setCell_below (w := w4) g ((I.length - 1) * 5 + 2) (.slice A' (x.o.r ++ l).length c') (show F' g from .inr (.inr (.inl rfl))) 0
  have g2 := gr.trans gs
  have hblk : ∀ j, j ≠ g → (w4.setCell ⟨g, (I.length - 1) * 5 + 2, none⟩ (.slice A' (x.o.r ++ l).length c')).heap[j]? = w4.heap[j]? := fun j hj => Below.heap_setCell w4 _ _ j (fun e => hj e)
  have hset : OwOs (w4.setCell ⟨g, (I.length - 1) * 5 + 2, none⟩ (.slice A' (x.o.r ++ l).length c')) 0 (.slice (some ⟨g, 0, none⟩) I.length ci) (I.dropLast ++ [addS x l A' c']) := by
    have h3' : OwOs w4 0 (.slice (some ⟨g, 0, none⟩) I.length ci) I := h3.keep fun k hk => by
      rw [hgw] at hk; injection hk with hk; subst hk
      exact G1 g hglt (fun e => (hwbx g e).2.2.2 rfl)
    have := Ow.setEl OpS.enc_len h3' (i := I.length - 1) (j := 2) (u := .slice A' (x.o.r ++ l).length c') (a' := addS x l A' c') (by omega) (by omega) (by
      have e : I[I.length - 1]'(by omega) = x := by
        rw [List.getLast?_eq_getElem?] at hx
        rw [List.getElem?_eq_getElem (by omega)] at hx
        exact Option.some.inj hx
      rw [e]
      rfl)
    rw [set_last hI] at this
    exact this
  have hbb : (w4.setCell ⟨g, (I.length - 1) * 5 + 2, none⟩ (.slice A' (x.o.r ++ l).length c')).heap[b]? = some (.cells #[vd, .slice (some ⟨g, 0, none⟩) I.length ci, .int .i64 m.gone] 189 (0, 0)) :=
    (hblk b (fun e => hgF.2 e.symm)).trans ((G1 b hblt (fun e => (hwbx b e).2.1 rfl)).trans h1)
  refine ⟨F', ⟨vd, .slice (some ⟨g, 0, none⟩) I.length ci, D, I.dropLast ++ [addS x l A' c'], ?_, ?_, hset, ?_, ?_, ?_, .inl rfl, ?_, ?_, fun y hy => (h10 y hy).grow g2, ?_, ?_⟩, g2⟩
  · unfold mkInsert; rw [if_neg hl]; exact hbb
  · exact h2.keep fun k hk => by
      obtain ⟨q1, q2, q3⟩ := h8 k hk
      exact (hblk k (fun e => q3 (by rw [e]; exact hgw))).trans (G1 k (h2.wb_lt k hk).2 (fun e => (hwbx k e).2.2.1 hk))
  · unfold mkInsert; rw [if_neg hl]; exact h4
  · unfold mkInsert addI
    rw [if_neg hl]
    have hg : m.ins.getLast? = some x.o := by rw [← h5, hI]; simp [osOf]
    simp only
    rw [hg]
    simp only
    rw [if_pos hs, ← h5]
    conv => rhs; rw [hI]
    simp [osOf, addS]
  · intro k hk
    rcases hk with rfl | hk | rfl | hk
    · exact Nat.lt_of_lt_of_le hblt g2.size
    · exact Nat.lt_of_lt_of_le (h2.wb_lt k hk).2 g2.size
    · exact Nat.lt_of_lt_of_le hglt g2.size
    · have := (ho.wb_lt k hk).2; exact Nat.lt_of_lt_of_le this gs.size
  · intro k hk
    exact ⟨.inr (.inl hk), (h8 k hk).2.1, (h8 k hk).2.2⟩
  · intro k hk
    rw [hgw] at hk; injection hk with hk; subst hk
    exact ⟨.inr (.inr (.inl rfl)), hgF.2⟩
  · intro y hy
    rw [List.dropLast_concat] at hy
    exact (h11.1 y hy).grow g2
  · intro y hy
    simp at hy
    subst hy
    refine ⟨ho.keep fun k hk => hblk k (hne k hk).2.2, fun k hk => ⟨.inr (.inr (.inr hk)), (hne k hk).1, (hne k hk).2.1, fun e => ?_⟩, ⟨hL.2.2.1.1.grow g2 hL.2.2.1.2, hL.2.2.1.2.grow hL.2.2.1.1 g2⟩, ⟨hL.2.2.2.1.grow g2 hL.2.2.2.2, hL.2.2.2.2.grow hL.2.2.2.1 g2⟩⟩
    rw [hgw] at e; injection e with e
    exact (hne k hk).2.2 e.symm
set_option maxRecDepth 100000 in
set_option maxHeartbeats 1600000 in
theorem ins_same (b : Nat) (A A2 : Option Addr) (n c n2 c2 : Nat) (l : List Int) (s : List At) (w : World) (F : Nat → Prop) (m : Mk) (h : Mkr w F b m)
    (hn : n = l.length) (hn2 : n2 = s.length) (r1 : RdI32 w w.heap.size A l) (r2 : RdAt w w.heap.size A2 s) (hb : n ≤ 10000000) (hb2 : n2 ≤ 10000000) (hl : l ≠ []) (o : Opd) (h0 : m.ins.getLast? = some o) (hne : o.s = s)
    (hmb : m.ins.length ≤ 10000000) (hob : o.s.length ≤ 10000000) (hrb : o.r.length ≤ 100000000) :
    Calls Tryz.prog 76 #[.pointer (some ⟨b, 0, none⟩), .slice A n c, .slice A2 n2 c2] w (MkOut (mkInsert m l s) w F b) := by
  obtain ⟨vd, vi, D, I, h1, h2, h3, h4, h5, h6, h7, h8, h9, h10, h11⟩ := h
  obtain ⟨Ai, ci, rfl, hci, hcm⟩ := h3.form
  obtain ⟨g, x, hN0, hAi, hx, hxo, hI, ⟨cur, hg⟩, hcx⟩ := own_last h3 (by rw [h5]; exact h0)
  subst hAi
  have hml : I.length ≤ 10000000 := by rw [← h5] at hmb; simpa [osOf] using hmb
  have hnp : n ≠ 0 := by rw [hn]; intro e; exact hl (List.eq_nil_of_length_eq_zero e)
  have hn0 : ((n : Int) == 0) = false := beq_eq_false_iff_ne.2 (by omega)
  have N := Lib.hid hn
  have N2 := Lib.hid hn2
  have H1 := Lib.hid h1
  have H3 := Lib.hid h3
  have hlt := lt_of_some h1
  obtain ⟨c0, c1, c2'⟩ := box_3 h1
  have hf := box_thaw h1 1
  have HL := Lib.hid hl
  have H5 := Lib.hid h5
  have H0 := Lib.hid h0
  have HNE := Lib.hid hne
  have hpos : 0 < n := by omega
  have hL := h11.2 x hx
  obtain ⟨⟨k, nn, r, sx, p⟩, Ar, cr, As, cs, Ap, cp⟩ := x
  obtain ⟨z0, z1, z2, z3, z4⟩ := op_cells hcx
  have hs : o.s = sx := by rw [← hxo]
  have RS := Lib.hid hL.2.2.1.1
  have SL := Lib.hid (show sx.length ≤ 10000000 by rw [← hs]; exact hob)
  have hfn : decide (sx = s) = true := by rw [← hs]; exact decide_eq_true hne
  have hs' := Lib.hid (show (⟨⟨k, nn, r, sx, p⟩, Ar, cr, As, cs, Ap, cp⟩ : OpS).o.s = s by rw [hxo]; exact hne)
  have RL := Lib.hid (show r.length ≤ 100000000 by rw [← hxo] at hrb; exact hrb)
  have LR := Lib.hid hL.1
  have hbr := Lib.hid (fun e => (hL.2.1 b e).2.1 rfl : wb (.slice Ar r.length cr) ≠ some b)
  have hgr' := Lib.hid (fun e => (hL.2.1 g e).2.2.2 (own_wb h3 (by omega)) : wb (.slice Ar r.length cr) ≠ some g)
  have hfg := box_thaw hg ((I.length - 1) * 5 + 2)
  have HGl := Lib.hid hg

  have HX := Lib.hid hx
  have HI := Lib.hid hI
  have e1 : (1 : Int) ≤ (I.length : Int) := by omega
  have e2 : (I.length : Int) - 1 < (I.length : Int) := by omega
  clear hn hn2 h1 h3 h5 h0 hl hnp hL hx hI hne hcx
  go_enter Tryz.func76, Tryz.ntmps76
  go_wp2_with (go_at_call 141; refine (attrsSame_any As A2 sx.length n2 cs c2 sx s _ rfl N2.out RS.out r2 (by have := SL.out; omega) (by omega)).mono ?_; rintro e w1 ⟨rfl, q, rfl⟩)
  have YQ : Hid (Below w.heap.size w (w.drewN q).drew) := Lib.hid (up_drew (ext_drew w q))
  go_region_law (first
      | (refine step_i32 (m := l) rfl (.tmp 46) (.tmp 47) (by rfl) (by rfl) (LR.out.below YQ.out (Nat.le_refl _)) w.heap.size A c n (by rfl) N.out (r1.below YQ.out (Nat.le_refl _)) (by have := RL.out; have := N.out; omega) (Nat.zero_le _) ?_
         intro vr w4 ho hgr hv
         obtain ⟨A', c', hv', _, _⟩ := ho.form
         subst hv'
         generalize hnl : (r ++ l).length = nl at ho hv
         have hb4 := (hgr.block b hlt (fun e => hbr.out e.symm)).trans (show (w.drewN q).drew.heap[b]? = _ from H1.out)
         obtain ⟨q0, q1, q2⟩ := box_3 hb4
         have hg4 := (hgr.block g (lt_of_some HGl.out) (fun e => hgr'.out e.symm)).trans (show (w.drewN q).drew.heap[g]? = _ from HGl.out)
         have hf4 := box_thaw hg4 ((I.length - 1) * 5 + 2)
         have z2' : w4.cell? { block := g, off := (I.length - 1) * 5 + 2 } = some (.slice Ar r.length cr) := by
           rw [← z2]; simp [World.cell?, hg4, HGl.out]
         have HO := Lib.hid ho
         have HG := Lib.hid hgr
         have HV := Lib.hid hv
         have HNL := Lib.hid hnl
         clear ho hgr hv hb4 hg4 hnl))
  all_goals go_wp2_with (fail)
  all_goals
    refine bodyPost_ret (results_none rfl _ _ _) rfl ?_
    obtain ⟨F', k1, k2⟩ := ins_same_mk (w := (w.drewN q).drew) H1.out h2 H3.out h4 H5.out h6 h7 h8 h9 h10 h11 HL.out HX.out HI.out hs'.out HNL.out.symm HO.out HG.out HV.out
    exact ⟨rfl, F', k1, (Grow.of YQ.out).trans k2⟩
/-- Insert, at whatever maker -/
theorem mkInsert_any (b : Nat) (A A2 : Option Addr) (n c n2 c2 : Nat) (l : List Int) (s : List At) (w : World) (F : Nat → Prop) (m : Mk) (h : Mkr w F b m)
    (hn : n = l.length) (hn2 : n2 = s.length) (r1 : RdI32 w w.heap.size A l) (r2 : RdAt w w.heap.size A2 s) (hb : n ≤ 10000000) (hb2 : n2 ≤ 10000000)
    (hmb : m.ins.length ≤ 10000000) (hob : ∀ o ∈ m.ins, o.s.length ≤ 10000000 ∧ o.r.length ≤ 100000000) :
    Calls Tryz.prog 76 #[.pointer (some ⟨b, 0, none⟩), .slice A n c, .slice A2 n2 c2] w (MkOut (mkInsert m l s) w F b) := by
  by_cases hl : l = []
  · subst hl
    simp at hn
    subst hn
    exact ins_nil b A A2 c n2 c2 w F m h s
  · cases h0 : m.ins.getLast? with
    | none => exact ins_first b A A2 n c n2 c2 l s w F m h hn hn2 r1 r2 hb hb2 hl (by simpa using h0)
    | some o =>
      have hm := hob o (List.mem_of_getLast? h0)
      by_cases hs : o.s = s
      · exact ins_same b A A2 n c n2 c2 l s w F m h hn hn2 r1 r2 hb hb2 hl o h0 hs hmb hm.1 hm.2
      · exact ins_more b A A2 n c n2 c2 l s w F m h hn hn2 r1 r2 hb hb2 hl o h0 hs hmb hm.1
end Go.Proofs.YtfnkjcodcoehcaaGreatDoor
namespace Go.Proofs.YtfnkjcodcoehcaaGreatDoor
open Go.RowKit
set_option linter.unusedVariables false
set_option linter.unusedSimpArgs false

/-- how much a maker's inserts hold -/
def InsB (m : Mk) (K : Nat) : Prop := m.ins.length ≤ K ∧ ∀ o ∈ m.ins, o.s.length ≤ 10000000 ∧ o.r.length ≤ K ∧ o.p = []
theorem InsB.insert {m : Mk} {K : Nat} (h : InsB m K) (r : Int) {s : List At} (hs : s.length ≤ 10000000) : InsB (mkInsert m [r] s) (K + 1) := by
  obtain ⟨h1, h2⟩ := h
  unfold mkInsert addI
  rw [if_neg (by simp)]
  have base : ∀ o ∈ m.ins, o.s.length ≤ 10000000 ∧ o.r.length ≤ K + 1 ∧ o.p = [] := fun o ho => ⟨(h2 o ho).1, Nat.le_succ_of_le (h2 o ho).2.1, (h2 o ho).2.2⟩
  have push : InsB { m with ins := m.ins ++ [opI [r] s] } (K + 1) := ⟨by simp; omega, fun o ho => by
    rcases List.mem_append.1 ho with ho | ho
    · exact base o ho
    · simp at ho; subst ho; exact ⟨hs, by simp [opI], rfl⟩⟩
  cases hg : m.ins.getLast? with
  | none => exact push
  | some o =>
    simp only
    by_cases hc : o.s = s
    · rw [if_pos hc]
      have hm := List.mem_of_getLast? hg
      have hpos := List.length_pos_of_mem hm
      refine ⟨by simp; omega, fun x hx => ?_⟩
      rcases List.mem_append.1 hx with hx | hx
      · exact base x ((List.dropLast_sublist _).subset hx)
      · simp at hx; subst hx
        exact ⟨(h2 o hm).1, by have := (h2 o hm).2.1; simp; omega, (h2 o hm).2.2⟩
    · rw [if_neg hc]; exact push
end Go.Proofs.YtfnkjcodcoehcaaGreatDoor
namespace Go.Proofs.YtfnkjcodcoehcaaGreatDoor
open Go.RowKit
set_option linter.unusedVariables false
set_option linter.unusedSimpArgs false

/-- block b holds a maker with L done and nothing behind it -/
def FlatM (w : World) (F : Nat → Prop) (b : Nat) (vd : Value) (L : List OpS) : Prop :=
  w.heap[b]? = some (.cells #[vd, .slice none 0 0, .int .i64 0] 189 (0, 0)) ∧ OwOs w 0 vd L ∧
    (∀ k, F k → k < w.heap.size) ∧ F b ∧ (∀ k, wb vd = some k → F k ∧ k ≠ b) ∧ ∀ x ∈ L, PartF w F x
theorem FlatM.mkr {w : World} {F : Nat → Prop} {b : Nat} {vd : Value} {L : List OpS} (h : FlatM w F b vd L) : Mkr w F b ⟨osOf L, [], 0⟩ := by
  obtain ⟨h1, h2, h3, h4, h5, h6⟩ := h
  exact ⟨vd, .slice none 0 0, L, [], h1, h2, Ow.nil _ _, rfl, rfl, h3, h4, fun k hk => ⟨(h5 k hk).1, (h5 k hk).2, fun e => (by cases e)⟩, fun k hk => (by cases hk), h6, fun x hx => (by cases hx), fun x hx => (by cases hx)⟩
theorem FlatM.below {w w' : World} {F : Nat → Prop} {b : Nat} {vd : Value} {L : List OpS} (h : FlatM w F b vd L) (y : Below w.heap.size w w') : FlatM w' F b vd L := by
  obtain ⟨h1, h2, h3, h4, h5, h6⟩ := h
  exact ⟨(y.block b (lt_of_some h1)).trans h1, h2.below y (Nat.le_refl _), fun k hk => Nat.lt_of_lt_of_le (h3 k hk) y.size, h4, h5, fun x hx => (h6 x hx).grow (Grow.of y)⟩
theorem heap_set3 {w : World} {b : Nat} {c0 c1 c2 : Value} {t : TypeId} (h : w.heap[b]? = some (.cells #[c0, c1, c2] t (0, 0))) (u0 u1 u2 : Value) :
    (((w.setCell ⟨b, 0, none⟩ u0).setCell ⟨b, 1, none⟩ u1).setCell ⟨b, 2, none⟩ u2).heap[b]? = some (.cells #[u0, u1, u2] t (0, 0)) :=
  heap_setCell_self (heap_setCell_self (heap_setCell_self h u0) u1) u2

/-- the inserts and the deletes go behind what is done -/
theorem flush_mk {w w1 w4 : World} {F : Nat → Prop} {b : Nat} {m : Mk} {vd vi : Value} {D I : List OpS} {n' c' : Nat} {A' : Option Addr}
    (h1 : w.heap[b]? = some (.cells #[vd, vi, .int .i64 m.gone] 189 (0, 0))) (h2 : OwOs w 0 vd D) (h3 : OwOs w 0 vi I) (h4 : osOf D = m.done) (h5 : osOf I = m.ins)
    (h6 : ∀ k, F k → k < w.heap.size) (h7 : F b) (h8 : ∀ k, wb vd = some k → F k ∧ k ≠ b ∧ wb vi ≠ some k) (h9 : ∀ k, wb vi = some k → F k ∧ k ≠ b) (h10 : ∀ x ∈ D, PartF w F x) (h11 : InsF w F b vd vi I)
    (y1 : Below w.heap.size w w1)
    (ho : OwOs w4 0 (.slice A' n' c') (D ++ gapS I m.gone)) (hgr : w1.grownBy w4 (wb vd)) (hv : (Value.slice A' n' c' = vd ∧ w4 = w1) ∨ wb (.slice A' n' c') = wb vd ∨ wb (.slice A' n' c') = some w1.heap.size) :
    ∃ F', FlatM (((w4.setCell ⟨b, 0, none⟩ (.slice A' n' c')).setCell ⟨b, 1, none⟩ (.slice none 0 0)).setCell ⟨b, 2, none⟩ (.int .i64 0)) F' b (.slice A' n' c') (D ++ gapS I m.gone) ∧
      Grow w F (((w4.setCell ⟨b, 0, none⟩ (.slice A' n' c')).setCell ⟨b, 1, none⟩ (.slice none 0 0)).setCell ⟨b, 2, none⟩ (.int .i64 0)) F' := by
  have hb := lt_of_some h1
  have hbvd : wb vd ≠ some b := fun e => (h8 b e).2.1 rfl
  have G1 : ∀ j, j < w.heap.size → wb vd ≠ some j → w4.heap[j]? = w.heap[j]? := fun j hj hn => (hgr.block j (Nat.lt_of_lt_of_le hj y1.size) (fun e => hn e.symm)).trans (y1.block j hj)
  have hwb' : ∀ k, wb (.slice A' n' c') = some k → wb vd = some k ∨ w.heap.size ≤ k := fun k hk => by
    rcases hv with ⟨h, _⟩ | h | h
    · rw [h] at hk; exact .inl hk
    · rw [h] at hk; exact .inl hk
    · rw [h] at hk; injection hk with hk; have := y1.size; exact .inr (by omega)
  let F' : Nat → Prop := fun k => k = b ∨ wb (.slice A' n' c') = some k
  have hF' : ∀ k, F' k → F k ∨ w.heap.size ≤ k := fun k hk => by
    rcases hk with rfl | hk
    · exact .inl h7
    · rcases hwb' k hk with h | h
      · exact .inl (h8 k h).1
      · exact .inr h
  have gr : Grow w F w4 F' := ⟨hgr.os.trans y1.os, hgr.tape.trans y1.tape, hgr.output.trans y1.output, Nat.le_trans y1.size hgr.size, fun j hj hn => G1 j hj (fun e => hn (h8 j e).1), hF'⟩
  have s0 := setCell_below (w := w4) b 0 (.slice A' n' c') (show F' b from .inl rfl) 0
  have s1 := setCell_below (w := w4.setCell ⟨b, 0, none⟩ (.slice A' n' c')) b 1 (.slice none 0 0) (show F' b from .inl rfl) 0
  have s2 := setCell_below (w := (w4.setCell ⟨b, 0, none⟩ (.slice A' n' c')).setCell ⟨b, 1, none⟩ (.slice none 0 0)) b 2 (.int .i64 0) (show F' b from .inl rfl) 0
  have g2 := gr.trans (s0.trans (s1.trans s2))
  have hne : ∀ k, wb (.slice A' n' c') = some k → k ≠ b := fun k hk e => by
    subst e
    rcases hwb' k hk with h | h
    · exact hbvd h
    · omega
  refine ⟨F', ⟨heap_set3 ((G1 b hb hbvd).trans h1) _ _ _, owOs_set (owOs_set (owOs_set ho hne _) hne _) hne _, ?_, .inl rfl, fun k hk => ⟨.inr hk, hne k hk⟩, fun x hx => ?_⟩, g2⟩
  · intro k hk
    rcases hk with rfl | hk
    · exact Nat.lt_of_lt_of_le hb g2.size
    · have := (ho.wb_lt k hk).2; exact Nat.lt_of_lt_of_le this (s0.trans (s1.trans s2)).size
  · have hlast : ∀ x, LastF w F b vd vi x → PartF w4 F' x := fun x hL => hL.part gr fun k hk => by
      obtain ⟨q1, q2, q3, q4⟩ := hL.2.1 k hk
      have hklt := (hL.1.wb_lt k hk).2
      refine ⟨G1 k hklt q3, fun hf => ?_⟩
      rcases hf with h | h
      · exact q2 h
      · rcases hwb' k h with h | h
        · exact q3 h
        · omega
    have h4x : PartF w4 F' x := by
      rcases List.mem_append.1 hx with hx | hx
      · exact (h10 x hx).grow gr
      · unfold gapS at hx
        rcases List.mem_append.1 hx with hx | hx
        · rcases List.eq_nil_or_concat I with h0 | ⟨t, z, h0⟩
          · rw [h0] at hx; cases hx
          · rw [List.concat_eq_append] at h0
            have hx' := hx
            rw [h0] at hx'
            rcases List.mem_append.1 hx' with hx' | hx'
            · exact (h11.1 x (by rw [h0]; simpa using hx')).grow gr
            · simp at hx'; subst hx'
              exact hlast x (h11.2 x (by rw [h0]; simp))
        · split at hx
          · simp at hx; subst hx
            exact ⟨⟨Rd.nil, OffF.zero⟩, ⟨Rd.nil, OffF.zero⟩, ⟨Rd.nil, OffF.zero⟩⟩
          · cases hx
    exact h4x.grow (s0.trans (s1.trans s2))

/-- a retain behind what is done -/
def retS (n : Int) (p : List Ch) (A : Option Addr) (c : Nat) : OpS := ⟨opR n p, none, 0, none, 0, A, c⟩
theorem push_mk {w w1 w3 w4 : World} {F : Nat → Prop} {b : Nat} {vd : Value} {L : List OpS} {n : Int} {p : List Ch} {A1 A' : Option Addr} {c1 n' c' : Nat} (h : FlatM w F b vd L)
    (y1 : Below w.heap.size w w1) (o1 : OwCh w1 w.heap.size (.slice A1 p.length c1) p) (y3 : Below w1.heap.size w1 w3)
    (ho : OwOs w4 0 (.slice A' n' c') (L ++ [retS n p A1 c1])) (hgr : w3.grownBy w4 (wb vd)) (hv : (Value.slice A' n' c' = vd ∧ w4 = w3) ∨ wb (.slice A' n' c') = wb vd ∨ wb (.slice A' n' c') = some w3.heap.size) :
    ∃ F', FlatM (w4.setCell ⟨b, 0, none⟩ (.slice A' n' c')) F' b (.slice A' n' c') (L ++ [retS n p A1 c1]) ∧ Grow w F (w4.setCell ⟨b, 0, none⟩ (.slice A' n' c')) F' := by
  obtain ⟨h1, h2, h6, h7, h8, h10⟩ := h
  have y13 := ext_trans y1 y3
  have hb := lt_of_some h1
  have hbvd : wb vd ≠ some b := fun e => (h8 b e).2 rfl
  have G1 : ∀ j, j < w.heap.size → wb vd ≠ some j → w4.heap[j]? = w.heap[j]? := fun j hj hn => (hgr.block j (Nat.lt_of_lt_of_le hj y13.size) (fun e => hn e.symm)).trans (y13.block j hj)
  have sz3 := y3.size
  have sz1 := y1.size
  have hwb' : ∀ k, wb (.slice A' n' c') = some k → wb vd = some k ∨ w3.heap.size ≤ k := fun k hk => by
    rcases hv with ⟨h, _⟩ | h | h
    · rw [h] at hk; exact .inl hk
    · rw [h] at hk; exact .inl hk
    · rw [h] at hk; injection hk with hk; exact .inr (by omega)
  let F' : Nat → Prop := fun k => k = b ∨ wb (.slice A' n' c') = some k
  have hF' : ∀ k, F' k → F k ∨ w.heap.size ≤ k := fun k hk => by
    rcases hk with rfl | hk
    · exact .inl h7
    · rcases hwb' k hk with h | h
      · exact .inl (h8 k h).1
      · exact .inr (by omega)
  have gr : Grow w F w4 F' := ⟨hgr.os.trans y13.os, hgr.tape.trans y13.tape, hgr.output.trans y13.output, Nat.le_trans y13.size hgr.size, fun j hj hn => G1 j hj (fun e => hn (h8 j e).1), hF'⟩
  have s0 := setCell_below (w := w4) b 0 (.slice A' n' c') (show F' b from .inl rfl) 0
  have hne : ∀ k, wb (.slice A' n' c') = some k → k ≠ b := fun k hk e => by
    subst e
    rcases hwb' k hk with h | h
    · exact hbvd h
    · omega
  refine ⟨F', ⟨heap_setCell_self ((G1 b hb hbvd).trans h1) _, owOs_set ho hne _, ?_, .inl rfl, fun k hk => ⟨.inr hk, hne k hk⟩, fun x hx => ?_⟩, gr.trans s0⟩
  · intro k hk
    rcases hk with rfl | hk
    · exact Nat.lt_of_lt_of_le hb (gr.trans s0).size
    · have := (ho.wb_lt k hk).2; exact Nat.lt_of_lt_of_le this s0.size
  · rcases List.mem_append.1 hx with hx | hx
    · exact (h10 x hx).grow (gr.trans s0)
    · simp at hx; subst hx
      have k1 : OwCh w4 0 (.slice A1 p.length c1) p := by
        refine ((o1.below y3 (Nat.le_refl _)).base_le (B := 0) (Nat.zero_le _)).keep fun k hk => ?_
        have := o1.wb_lt k hk
        exact hgr.block k (by omega) (fun e => by have := (h2.wb_lt k e.symm).2; omega)
      have k2 : PartF w4 F' (retS n p A1 c1) := ⟨⟨Rd.nil, OffF.zero⟩, ⟨Rd.nil, OffF.zero⟩, ⟨k1.rd Ch.enc_len, k1.offF Ch.enc_len rfl fun k hk hf => by
        have := o1.wb_lt k hk
        rcases hf with h | h
        · omega
        · rcases hwb' k h with h | h
          · have := (h2.wb_lt k h).2; omega
          · omega⟩⟩
      exact k2.grow s0

/-- the last retain grows -/
theorem grow_mk {w : World} {F : Nat → Prop} {b g n c : Nat} {L : List OpS} {x : OpS} (h : FlatM w F b (.slice (some ⟨g, 0, none⟩) n c) L) (hx : L.getLast? = some x) (hL : L = L.dropLast ++ [x]) (v : Int) :
    FlatM (w.setCell ⟨g, (L.length - 1) * 5 + 1, none⟩ (.int .i64 v)) F b (.slice (some ⟨g, 0, none⟩) n c) (L.dropLast ++ [{ x with o := { x.o with n := v } }]) ∧
      Grow w F (w.setCell ⟨g, (L.length - 1) * 5 + 1, none⟩ (.int .i64 v)) F := by
  obtain ⟨h1, h2, h6, h7, h8, h10⟩ := h
  have hpos : 0 < L.length := by rw [hL]; simp
  have hgF := h8 g (own_wb h2 hpos)
  have gs := setCell_below (w := w) g ((L.length - 1) * 5 + 1) (.int .i64 v) hgF.1 0
  have hset : OwOs (w.setCell ⟨g, (L.length - 1) * 5 + 1, none⟩ (.int .i64 v)) 0 (.slice (some ⟨g, 0, none⟩) n c) (L.dropLast ++ [{ x with o := { x.o with n := v } }]) := by
    have := Ow.setEl OpS.enc_len h2 (i := L.length - 1) (j := 1) (u := .int .i64 v) (a' := { x with o := { x.o with n := v } }) (by omega) (by omega) (by
      have e : L[L.length - 1]'(by omega) = x := by
        rw [List.getLast?_eq_getElem?] at hx
        rw [List.getElem?_eq_getElem (by omega)] at hx
        exact Option.some.inj hx
      rw [e]
      rfl)
    rw [set_last hL] at this
    exact this
  refine ⟨⟨(Below.heap_setCell w _ _ b (fun e => hgF.2 e.symm)).trans h1, hset, fun k hk => Nat.lt_of_lt_of_le (h6 k hk) gs.size, h7, h8, fun y hy => ?_⟩, gs⟩
  rcases List.mem_append.1 hy with hy | hy
  · exact (h10 y (by rw [hL]; exact List.mem_append.2 (.inl hy))).grow gs
  · simp at hy; subst hy
    have := (h10 x (by rw [hL]; simp)).grow gs
    exact this
end Go.Proofs.YtfnkjcodcoehcaaGreatDoor
namespace Go.Proofs.YtfnkjcodcoehcaaGreatDoor
open Go.RowKit
set_option linter.unusedVariables false
set_option linter.unusedSimpArgs false

theorem copyC_any (A : Option Addr) (n c : Nat) (l : List Ch) (w : World) (hn : n = l.length) (h : RdCh w w.heap.size A l) (hb : n ≤ 100000000) :
    Calls Tryz.prog 154 #[.slice A n c] w (NewCh l w) := by
  have N := Lib.hid hn
  clear hn
  go_enter Tryz.func154, Tryz.ntmps154
  go_wp2_with (go_at_call 168; refine Hid.out ?_)
  refine Lib.hid ?_
  refine (cloneCh_any A n c l w N.out h hb).mono ?_
  rintro e w1 ⟨A', c', rfl, hown, y⟩
  go_wp2_with (fail)
  go_ret
  exact ⟨A', c', rfl, hown, y⟩
theorem ret_less (b : Nat) (Ap : Option Addr) (n : Int) (np cp : Nat) (p : List Ch) (w : World) (F : Nat → Prop) (m : Mk) (h : Mkr w F b m) (hn : n < 1) :
    Calls Tryz.prog 75 #[.pointer (some ⟨b, 0, none⟩), .int .i64 n, .slice Ap np cp] w (MkOut (mkRetain m n p) w F b) := by
  have H := Lib.hid h
  have e : mkRetain m n p = m := by unfold mkRetain; rw [if_pos hn]
  rw [e]
  clear h e
  go_enter Tryz.func75, Tryz.ntmps75
  go_wp2_with (fail)
  refine bodyPost_ret (results_none rfl _ _ _) rfl ?_
  exact ⟨rfl, F, H.out, Grow.refl _ _⟩

set_option maxRecDepth 100000 in
set_option maxHeartbeats 1600000 in
theorem ret_none (b : Nat) (Ap : Option Addr) (n : Int) (np cp : Nat) (p : List Ch) (w : World) (F : Nat → Prop) (m : Mk) (h : Mkr w F b m)
    (hnp : np = p.length) (rp : RdCh w w.heap.size Ap p) (op : OffF F Ap p.length) (hb : np ≤ 1048576) (hn1 : ¬ n < 1) (hmb : m.done.length + m.ins.length ≤ 10000000) (h0 : m.done ++ mkGap m = []) :
    Calls Tryz.prog 75 #[.pointer (some ⟨b, 0, none⟩), .int .i64 n, .slice Ap np cp] w (MkOut (mkRetain m n p) w F b) := by
  obtain ⟨vd, vi, D, I, h1, h2, h3, h4, h5, h6, h7, h8, h9, h10, h11⟩ := h
  obtain ⟨Ad, cd, rfl, _, _⟩ := h2.form
  obtain ⟨Ai, ci, rfl, _, _⟩ := h3.form
  have HD := Lib.hid (show D.length ≤ 10000000 by rw [← h4, ← h5] at hmb; simp [osOf] at hmb; omega)
  have HI := Lib.hid (show I.length ≤ 10000000 by rw [← h4, ← h5] at hmb; simp [osOf] at hmb; omega)
  have NP := Lib.hid hnp
  have H1 := Lib.hid h1
  have H2 := Lib.hid h2
  have H3 := Lib.hid h3
  have hlt := lt_of_some h1
  obtain ⟨c0, c1, c2⟩ := box_3 h1
  have hf := box_thaw h1 0
  have H4 := Lib.hid h4
  have H5 := Lib.hid h5
  have HL0 : Hid (D ++ gapS I m.gone = []) := Lib.hid (by
    have e : osOf (D ++ gapS I m.gone) = [] := by rw [← h0]; unfold osOf; rw [List.map_append]; show osOf D ++ osOf (gapS I m.gone) = _; rw [gapS_os, h4, h5]; rfl
    unfold osOf at e
    simpa using e)
  have HM : Hid (mkRetain m n p = ⟨[opR n p], [], 0⟩) := Lib.hid (by unfold mkRetain addR; rw [if_neg hn1, h0]; rfl)
  clear hnp h1 h2 h3 h4 h5 hmb h0
  generalize hgone : m.gone = gone at *
  go_enter Tryz.func75, Tryz.ntmps75
  go_wp2_with (fail)
  go_region_law (first
      | (refine step_fn rfl 152 [.tmp 18] #[115] rfl Tryz.f152 (by kernel_rfl) (by kernel_rfl) (by kernel_rfl) [.pointer (some ⟨b, 0, none⟩)] (by rfl) (gap_any b (.slice Ad D.length cd) Ai I.length ci gone I w.drew H1.out rfl (H3.out.rd OpS.enc_len) (by have := HI.out; omega)) ?_
         rintro e w1 ⟨A1, k1, rfl, o1, y1⟩
         refine ⟨_, rfl, ?_⟩
         have hb1 := (y1.block b hlt).trans H1.out
         obtain ⟨d0, d1, d2⟩ := box_3 hb1
         have hf1 := box_thaw hb1 0
         have HB1 := Lib.hid hb1
         have O1 := Lib.hid o1
         have Y1 : Hid (Below w.heap.size w w1) := Lib.hid ((up_drew (Below.refl _ _)).trans y1)
         clear hb1 o1 y1)
      | (refine step_os (m := gapS I gone) rfl (.tmp 17) (.tmp 19) (by rfl) (by rfl) (H2.out.below Y1.out (Nat.le_refl _)) w1.heap.size A1 k1 (gapS I gone).length (by rfl) rfl (O1.out.rd OpS.enc_len) (by have := HD.out; have := HI.out; have := gapS_len I gone; omega) (Nat.zero_le _) ?_
         intro vd' w4 ho hgr hv
         obtain ⟨A', c', hv', _, _⟩ := ho.form
         subst hv'
         generalize hnl : (D ++ gapS I gone).length = nl at ho hv
         have hbv : wb (.slice Ad D.length cd) ≠ some b := fun e => (h8 b e).2.1 rfl
         have hb4 := (hgr.block b (lt_of_some HB1.out) (fun e => hbv e.symm)).trans HB1.out
         obtain ⟨q0, q1, q2⟩ := box_3 hb4
         have hf4 := box_thaw hb4 0
         have hf4b := box_thaw hb4 1
         have hf4c := box_thaw hb4 2
         have HB4 := Lib.hid hb4
         have HO := Lib.hid ho
         have HG := Lib.hid hgr
         have HV := Lib.hid hv
         have HNL := Lib.hid hnl
         have hnl0 : nl = 0 := by rw [← hnl, HL0.out]; rfl
         subst hnl0
         clear ho hgr hv hb4 hbv hnl))
  all_goals
    obtain ⟨F2, hF2, hG2⟩ := flush_mk (m := m) (by rw [hgone]; exact H1.out) H2.out H3.out H4.out H5.out h6 h7 h8 h9 h10 h11 Y1.out (by rw [hgone]; exact HO.out) HG.out HV.out
    go_wp2_with (fail)
    generalize ((w4.setCell ⟨b, 0, none⟩ (.slice A' 0 c')).setCell ⟨b, 1, none⟩ (.slice none 0 0)).setCell ⟨b, 2, none⟩ (.int .i64 0) = W at hF2 hG2 ⊢
    have rpW := rp.grow hG2 op
    rw [hgone, HL0.out] at hF2
    have hW := hF2.1
    obtain ⟨a0, a1, a2⟩ := box_3 hW
    have haf := box_thaw hW 0
    have hWlt := lt_of_some hW
    have HF2 := Lib.hid hF2
    have HW := Lib.hid hW
    clear hF2 hW
    go_region_law (first
        | (refine step_fn rfl 154 [.tmp 78] #[48] rfl Tryz.f154 (by kernel_rfl) (by kernel_rfl) (by kernel_rfl) [.slice Ap np cp] (by rfl) (copyC_any Ap np cp p W.drew NP.out (rpW.ext (up_drew (Below.refl _ _))) (by omega)) ?_
           rintro e w5 ⟨A3, k3, rfl, o5, y5⟩
           refine ⟨_, rfl, ?_⟩
           have hb5 := (y5.block b hWlt).trans HW.out
           obtain ⟨d0, d1, d2⟩ := box_3 hb5
           have hf5 := box_thaw hb5 0
           have O5 := Lib.hid o5
           have Y5 : Hid (Below W.heap.size W w5) := Lib.hid ((up_drew (Below.refl _ _)).trans y5)
           have y6 := ext_alloc w5 (.cells #[.int .u8 1, .int .i64 n, .slice none 0 0, .slice none 0 0, .slice A3 p.length k3] 50)
           have hb6 := (y6.block b (lt_of_some hb5)).trans hb5
           obtain ⟨g0, g1, g2⟩ := box_3 hb6
           have hf6 := box_thaw hb6 0
           have HB6 := Lib.hid hb6
           have Y6 := Lib.hid y6
           clear hb5 hb6 o5 y5 y6)
        | (refine step_os (m := [retS n p A3 k3]) rfl (.tmp 76) (.tmp 81) (by rfl) (by rfl) ((HF2.out.2.1.below Y5.out (Nat.le_refl _)).below Y6.out (Nat.le_refl _)) _ _ 1 1 (by rfl) rfl (rd_one (enc := OpS.enc) (size := 5) w5 _ (retS n p A3 k3) rfl) (by simp) (Nat.zero_le _) ?_
           intro vd6 w6 ho hgr hv
           obtain ⟨A6, c6, hv6, _, _⟩ := ho.form
           subst hv6
           generalize hnl6 : ([] ++ [retS n p A3 k3]).length = nl6 at ho hv
           have hbv : wb (.slice A' 0 c') ≠ some b := fun e => (HF2.out.2.2.2.2.1 b e).2 rfl
           have hb7 := (hgr.block b (lt_of_some HB6.out) (fun e => hbv e.symm)).trans HB6.out
           obtain ⟨q0', q1', q2'⟩ := box_3 hb7
           have hf7 := box_thaw hb7 0
           have HO6 := Lib.hid ho
           have HG6 := Lib.hid hgr
           have HV6 := Lib.hid hv
           clear ho hgr hv hb7 hbv hnl6))
    all_goals go_wp2_with (fail)
    all_goals
      refine bodyPost_ret (results_none rfl _ _ _) rfl ?_
      obtain ⟨F3, f1, f2⟩ := push_mk HF2.out Y5.out O5.out Y6.out HO6.out HG6.out HV6.out
      rw [HM.out]
      exact ⟨rfl, F3, f1.mkr, hG2.trans f2⟩
end Go.Proofs.YtfnkjcodcoehcaaGreatDoor
namespace Go.Proofs.YtfnkjcodcoehcaaGreatDoor
open Go.RowKit
set_option linter.unusedVariables false
theorem own_lastN {w : World} {base n c : Nat} {A : Option Addr} {I : List OpS} {o : Opd} (h : OwOs w base (.slice A n c) I) (hn : I.length = n) (ho : (osOf I).getLast? = some o) :
    ∃ (g : Nat) (x : OpS), 0 < n ∧ A = some ⟨g, 0, none⟩ ∧ I.getLast? = some x ∧ x.o = o ∧ I = I.dropLast ++ [x] ∧
      (∃ cur, w.heap[g]? = some (.cells cur 50 (0, 0))) ∧ CellsAt w ⟨g, (n - 1) * 5, none⟩ x.enc := by
  subst hn
  exact own_last h ho
end Go.Proofs.YtfnkjcodcoehcaaGreatDoor
