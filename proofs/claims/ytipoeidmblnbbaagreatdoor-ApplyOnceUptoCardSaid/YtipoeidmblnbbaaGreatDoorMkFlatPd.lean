/- A maker whose inserts are all among what is done: the memory laws of (*normal.Maker).Retain. -/
import Derived.Test.YtipoeidmblnbbaaGreatDoorMkIns3Pd
namespace Go.Proofs.YtipoeidmblnbbaaGreatDoor
open Go.RowKit
set_option linter.unusedVariables false
set_option linter.unusedSimpArgs false

/-- block b holds a maker with L done and nothing behind it -/
def FlatM (w : World) (F : Nat → Prop) (b : Nat) (vd : Value) (L : List OpS) : Prop :=
  w.heap[b]? = some (.cells #[vd, .slice none 0 0, .int .i64 0] 135 (0, 0)) ∧ OwOs w 0 vd L ∧
    (∀ k, F k → k < w.heap.size) ∧ F b ∧ (∀ k, wb vd = some k → F k ∧ k ≠ b) ∧ ∀ x ∈ L, PartF w F x
theorem FlatM.mkr {w : World} {F : Nat → Prop} {b : Nat} {vd : Value} {L : List OpS} (h : FlatM w F b vd L) : Mkr w F b ⟨osOf L, [], 0⟩ := by
  obtain ⟨h1, h2, h3, h4, h5, h6⟩ := h
  exact ⟨vd, .slice none 0 0, L, [], h1, h2, Ow.nil _ _, rfl, rfl, h3, h4, fun k hk => ⟨(h5 k hk).1, (h5 k hk).2, fun e => (by cases e)⟩, fun k hk => (by cases hk), h6, fun x hx => (by cases hx), fun x hx => (by cases hx)⟩
theorem FlatM.below {w w' : World} {F : Nat → Prop} {b : Nat} {vd : Value} {L : List OpS} (h : FlatM w F b vd L) (y : Below w.heap.size w w') : FlatM w' F b vd L := by
  obtain ⟨h1, h2, h3, h4, h5, h6⟩ := h
  exact ⟨(y.block b (lt_of_some h1)).trans h1, h2.below y (Nat.le_refl _), fun k hk => Nat.lt_of_lt_of_le (h3 k hk) y.size, h4, h5, fun x hx => (h6 x hx).grow (Grow.of y)⟩
theorem heap_set3 {w : World} {b : Nat} {c0 c1 c2 : Value} {t : TypeId} (h : w.heap[b]? = some (.cells #[c0, c1, c2] t (0, 0))) (u0 u1 u2 : Value) :
    (((w.setCell ⟨b, 0, none⟩ u0).setCell ⟨b, 1, none⟩ u1).setCell ⟨b, 2, none⟩ u2).heap[b]? = some (.cells #[u0, u1, u2] t (0, 0)) :=
  heap_setCell_self (heap_setCell_self (heap_setCell_self h u0) u1) u2

/-- the inserts and the deletes go behind what is done -/
theorem flush_mk {w w1 w4 : World} {F : Nat → Prop} {b : Nat} {m : Mk} {vd vi : Value} {D I : List OpS} {n' c' : Nat} {A' : Option Addr}
    (h1 : w.heap[b]? = some (.cells #[vd, vi, .int .i64 m.gone] 135 (0, 0))) (h2 : OwOs w 0 vd D) (h3 : OwOs w 0 vi I) (h4 : osOf D = m.done) (h5 : osOf I = m.ins)
    (h6 : ∀ k, F k → k < w.heap.size) (h7 : F b) (h8 : ∀ k, wb vd = some k → F k ∧ k ≠ b ∧ wb vi ≠ some k) (h9 : ∀ k, wb vi = some k → F k ∧ k ≠ b) (h10 : ∀ x ∈ D, PartF w F x) (h11 : InsF w F b vd vi I)
    (y1 : Below w.heap.size w w1)
    (ho : OwOs w4 0 (.slice A' n' c') (D ++ gapS I m.gone)) (hgr : w1.grownBy w4 (wb vd)) (hv : (Value.slice A' n' c' = vd ∧ w4 = w1) ∨ wb (.slice A' n' c') = wb vd ∨ wb (.slice A' n' c') = some w1.heap.size) :
    ∃ F', FlatM (((w4.setCell ⟨b, 0, none⟩ (.slice A' n' c')).setCell ⟨b, 1, none⟩ (.slice none 0 0)).setCell ⟨b, 2, none⟩ (.int .i64 0)) F' b (.slice A' n' c') (D ++ gapS I m.gone) ∧
      Grow w F (((w4.setCell ⟨b, 0, none⟩ (.slice A' n' c')).setCell ⟨b, 1, none⟩ (.slice none 0 0)).setCell ⟨b, 2, none⟩ (.int .i64 0)) F' := by
  have hb := lt_of_some h1
  have hbvd : wb vd ≠ some b := fun e => (h8 b e).2.1 rfl
  have G1 : ∀ j, j < w.heap.size → wb vd ≠ some j → w4.heap[j]? = w.heap[j]? := fun j hj hn => (hgr.block j (Nat.lt_of_lt_of_le hj y1.size) (fun e => hn e.symm)).trans (y1.block j hj)
  have hwb' : ∀ k, wb (.slice A' n' c') = some k → wb vd = some k ∨ w.heap.size ≤ k := fun k hk => by
    rcases hv with ⟨h, _⟩ | h | h
    · rw [h] at hk; exact .inl hk
    · rw [h] at hk; exact .inl hk
    · rw [h] at hk; injection hk with hk; have := y1.size; exact .inr (by omega)
  let F' : Nat → Prop := fun k => k = b ∨ wb (.slice A' n' c') = some k
  have hF' : ∀ k, F' k → F k ∨ w.heap.size ≤ k := fun k hk => by
    rcases hk with rfl | hk
    · exact .inl h7
    · rcases hwb' k hk with h | h
      · exact .inl (h8 k h).1
      · exact .inr h
  have gr : Grow w F w4 F' := ⟨hgr.os.trans y1.os, hgr.tape.trans y1.tape, hgr.output.trans y1.output, Nat.le_trans y1.size hgr.size, fun j hj hn => G1 j hj (fun e => hn (h8 j e).1), hF'⟩
  have s0 := setCell_below (w := w4) b 0 (.slice A' n' c') (show F' b from .inl rfl) 0
  have s1 := setCell_below (w := w4.setCell ⟨b, 0, none⟩ (.slice A' n' c')) b 1 (.slice none 0 0) (show F' b from .inl rfl) 0
  have s2 := setCell_below (w := (w4.setCell ⟨b, 0, none⟩ (.slice A' n' c')).setCell ⟨b, 1, none⟩ (.slice none 0 0)) b 2 (.int .i64 0) (show F' b from .inl rfl) 0
  have g2 := gr.trans (s0.trans (s1.trans s2))
  have hne : ∀ k, wb (.slice A' n' c') = some k → k ≠ b := fun k hk e => by
    subst e
    rcases hwb' k hk with h | h
    · exact hbvd h
    · omega
  refine ⟨F', ⟨heap_set3 ((G1 b hb hbvd).trans h1) _ _ _, owOs_set (owOs_set (owOs_set ho hne _) hne _) hne _, ?_, .inl rfl, fun k hk => ⟨.inr hk, hne k hk⟩, fun x hx => ?_⟩, g2⟩
  · intro k hk
    rcases hk with rfl | hk
    · exact Nat.lt_of_lt_of_le hb g2.size
    · have := (ho.wb_lt k hk).2; exact Nat.lt_of_lt_of_le this (s0.trans (s1.trans s2)).size
  · have hlast : ∀ x, LastF w F b vd vi x → PartF w4 F' x := fun x hL => hL.part gr fun k hk => by
      obtain ⟨q1, q2, q3, q4⟩ := hL.2.1 k hk
      have hklt := (hL.1.wb_lt k hk).2
      refine ⟨G1 k hklt q3, fun hf => ?_⟩
      rcases hf with h | h
      · exact q2 h
      · rcases hwb' k h with h | h
        · exact q3 h
        · omega
    have h4x : PartF w4 F' x := by
      rcases List.mem_append.1 hx with hx | hx
      · exact (h10 x hx).grow gr
      · unfold gapS at hx
        rcases List.mem_append.1 hx with hx | hx
        · rcases List.eq_nil_or_concat I with h0 | ⟨t, z, h0⟩
          · rw [h0] at hx; cases hx
          · rw [List.concat_eq_append] at h0
            have hx' := hx
            rw [h0] at hx'
            rcases List.mem_append.1 hx' with hx' | hx'
            · exact (h11.1 x (by rw [h0]; simpa using hx')).grow gr
            · simp at hx'; subst hx'
              exact hlast x (h11.2 x (by rw [h0]; simp))
        · split at hx
          · simp at hx; subst hx
            exact ⟨⟨Rd.nil, OffF.zero⟩, ⟨Rd.nil, OffF.zero⟩, ⟨Rd.nil, OffF.zero⟩⟩
          · cases hx
    exact h4x.grow (s0.trans (s1.trans s2))

/-- a retain behind what is done -/
def retS (n : Int) (p : List Ch) (A : Option Addr) (c : Nat) : OpS := ⟨opR n p, none, 0, none, 0, A, c⟩
theorem push_mk {w w1 w3 w4 : World} {F : Nat → Prop} {b : Nat} {vd : Value} {L : List OpS} {n : Int} {p : List Ch} {A1 A' : Option Addr} {c1 n' c' : Nat} (h : FlatM w F b vd L)
    (y1 : Below w.heap.size w w1) (o1 : OwCh w1 w.heap.size (.slice A1 p.length c1) p) (y3 : Below w1.heap.size w1 w3)
    (ho : OwOs w4 0 (.slice A' n' c') (L ++ [retS n p A1 c1])) (hgr : w3.grownBy w4 (wb vd)) (hv : (Value.slice A' n' c' = vd ∧ w4 = w3) ∨ wb (.slice A' n' c') = wb vd ∨ wb (.slice A' n' c') = some w3.heap.size) :
    ∃ F', FlatM (w4.setCell ⟨b, 0, none⟩ (.slice A' n' c')) F' b (.slice A' n' c') (L ++ [retS n p A1 c1]) ∧ Grow w F (w4.setCell ⟨b, 0, none⟩ (.slice A' n' c')) F' := by
  obtain ⟨h1, h2, h6, h7, h8, h10⟩ := h
  have y13 := ext_trans y1 y3
  have hb := lt_of_some h1
  have hbvd : wb vd ≠ some b := fun e => (h8 b e).2 rfl
  have G1 : ∀ j, j < w.heap.size → wb vd ≠ some j → w4.heap[j]? = w.heap[j]? := fun j hj hn => (hgr.block j (Nat.lt_of_lt_of_le hj y13.size) (fun e => hn e.symm)).trans (y13.block j hj)
  have sz3 := y3.size
  have sz1 := y1.size
  have hwb' : ∀ k, wb (.slice A' n' c') = some k → wb vd = some k ∨ w3.heap.size ≤ k := fun k hk => by
    rcases hv with ⟨h, _⟩ | h | h
    · rw [h] at hk; exact .inl hk
    · rw [h] at hk; exact .inl hk
    · rw [h] at hk; injection hk with hk; exact .inr (by omega)
  let F' : Nat → Prop := fun k => k = b ∨ wb (.slice A' n' c') = some k
  have hF' : ∀ k, F' k → F k ∨ w.heap.size ≤ k := fun k hk => by
    rcases hk with rfl | hk
    · exact .inl h7
    · rcases hwb' k hk with h | h
      · exact .inl (h8 k h).1
      · exact .inr (by omega)
  have gr : Grow w F w4 F' := ⟨hgr.os.trans y13.os, hgr.tape.trans y13.tape, hgr.output.trans y13.output, Nat.le_trans y13.size hgr.size, fun j hj hn => G1 j hj (fun e => hn (h8 j e).1), hF'⟩
  have s0 := setCell_below (w := w4) b 0 (.slice A' n' c') (show F' b from .inl rfl) 0
  have hne : ∀ k, wb (.slice A' n' c') = some k → k ≠ b := fun k hk e => by
    subst e
    rcases hwb' k hk with h | h
    · exact hbvd h
    · omega
  refine ⟨F', ⟨heap_setCell_self ((G1 b hb hbvd).trans h1) _, owOs_set ho hne _, ?_, .inl rfl, fun k hk => ⟨.inr hk, hne k hk⟩, fun x hx => ?_⟩, gr.trans s0⟩
  · intro k hk
    rcases hk with rfl | hk
    · exact Nat.lt_of_lt_of_le hb (gr.trans s0).size
    · have := (ho.wb_lt k hk).2; exact Nat.lt_of_lt_of_le this s0.size
  · rcases List.mem_append.1 hx with hx | hx
    · exact (h10 x hx).grow (gr.trans s0)
    · simp at hx; subst hx
      have k1 : OwCh w4 0 (.slice A1 p.length c1) p := by
        refine ((o1.below y3 (Nat.le_refl _)).base_le (B := 0) (Nat.zero_le _)).keep fun k hk => ?_
        have := o1.wb_lt k hk
        exact hgr.block k (by omega) (fun e => by have := (h2.wb_lt k e.symm).2; omega)
      have k2 : PartF w4 F' (retS n p A1 c1) := ⟨⟨Rd.nil, OffF.zero⟩, ⟨Rd.nil, OffF.zero⟩, ⟨k1.rd Ch.enc_len, k1.offF Ch.enc_len rfl fun k hk hf => by
        have := o1.wb_lt k hk
        rcases hf with h | h
        · omega
        · rcases hwb' k h with h | h
          · have := (h2.wb_lt k h).2; omega
          · omega⟩⟩
      exact k2.grow s0

/-- the last retain grows -/
theorem grow_mk {w : World} {F : Nat → Prop} {b g n c : Nat} {L : List OpS} {x : OpS} (h : FlatM w F b (.slice (some ⟨g, 0, none⟩) n c) L) (hx : L.getLast? = some x) (hL : L = L.dropLast ++ [x]) (v : Int) :
    FlatM (w.setCell ⟨g, (L.length - 1) * 5 + 1, none⟩ (.int .i64 v)) F b (.slice (some ⟨g, 0, none⟩) n c) (L.dropLast ++ [{ x with o := { x.o with n := v } }]) ∧
      Grow w F (w.setCell ⟨g, (L.length - 1) * 5 + 1, none⟩ (.int .i64 v)) F := by
  obtain ⟨h1, h2, h6, h7, h8, h10⟩ := h
  have hpos : 0 < L.length := by rw [hL]; simp
  have hgF := h8 g (own_wb h2 hpos)
  have gs := setCell_below (w := w) g ((L.length - 1) * 5 + 1) (.int .i64 v) hgF.1 0
  have hset : OwOs (w.setCell ⟨g, (L.length - 1) * 5 + 1, none⟩ (.int .i64 v)) 0 (.slice (some ⟨g, 0, none⟩) n c) (L.dropLast ++ [{ x with o := { x.o with n := v } }]) := by
    have := Ow.setEl OpS.enc_len h2 (i := L.length - 1) (j := 1) (u := .int .i64 v) (a' := { x with o := { x.o with n := v } }) (by omega) (by omega) (by
      have e : L[L.length - 1]'(by omega) = x := by
        rw [List.getLast?_eq_getElem?] at hx
        rw [List.getElem?_eq_getElem (by omega)] at hx
        exact Option.some.inj hx
      rw [e]
      rfl)
    rw [set_last hL] at this
    exact this
  refine ⟨⟨(Below.heap_setCell w _ _ b (fun e => hgF.2 e.symm)).trans h1, hset, fun k hk => Nat.lt_of_lt_of_le (h6 k hk) gs.size, h7, h8, fun y hy => ?_⟩, gs⟩
  rcases List.mem_append.1 hy with hy | hy
  · exact (h10 y (by rw [hL]; exact List.mem_append.2 (.inl hy))).grow gs
  · simp at hy; subst hy
    have := (h10 x (by rw [hL]; simp)).grow gs
    exact this
end Go.Proofs.YtipoeidmblnbbaaGreatDoor
