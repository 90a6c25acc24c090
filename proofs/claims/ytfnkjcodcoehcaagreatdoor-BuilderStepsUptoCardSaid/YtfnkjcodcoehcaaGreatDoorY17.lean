/- Merged texts: OpsCopy, MkOps, Delta, DeltaLaw, FragLaw, MkB, Made. -/
import Derived.Test.YtfnkjcodcoehcaaGreatDoorY16
import Derived.Test.YtfnkjcodcoehcaaGreatDoorY12
import Derived.Test.YtfnkjcodcoehcaaGreatDoorY15
import Derived.Test.YtfnkjcodcoehcaaGreatDoorY9
import Derived.Test.YtfnkjcodcoehcaaGreatDoorY6
import Derived.Test.YtfnkjcodcoehcaaGreatDoorY5
import Derived.Test.YtfnkjcodcoehcaaGreatDoorY13
namespace Go.Proofs.YtfnkjcodcoehcaaGreatDoor
open Go.RowKit
set_option linter.unusedVariables false
set_option linter.unusedSimpArgs false

def PartN (w : World) (B g : Nat) (x : OpS) : Prop :=
  (OwI32 w B (.slice x.Ar x.o.r.length x.cr) x.o.r ∧ wb (.slice x.Ar x.o.r.length x.cr) ≠ some g) ∧
  (OwAt w B (.slice x.As x.o.s.length x.cs) x.o.s ∧ wb (.slice x.As x.o.s.length x.cs) ≠ some g) ∧
  (OwCh w B (.slice x.Ap x.o.p.length x.cp) x.o.p ∧ wb (.slice x.Ap x.o.p.length x.cp) ≠ some g)
theorem PartN.below {w w' : World} {B g : Nat} {x : OpS} (h : PartN w B g x) (y : Below w.heap.size w w') : PartN w' B g x :=
  ⟨⟨h.1.1.below y (Nat.le_refl _), h.1.2⟩, ⟨h.2.1.1.below y (Nat.le_refl _), h.2.1.2⟩, ⟨h.2.2.1.below y (Nat.le_refl _), h.2.2.2⟩⟩
theorem PartN.set {w : World} {B g j : Nat} {u : Value} {x : OpS} (h : PartN w B g x) : PartN (w.setCell ⟨g, j, none⟩ u) B g x :=
  ⟨⟨h.1.1.setCell (p := ⟨g, j, none⟩) h.1.2 u, h.1.2⟩, ⟨h.2.1.1.setCell (p := ⟨g, j, none⟩) h.2.1.2 u, h.2.1.2⟩, ⟨h.2.2.1.setCell (p := ⟨g, j, none⟩) h.2.2.2 u, h.2.2.2⟩⟩
theorem CellsAt.blk {w w' : World} {p : Addr} {cs : List Value} (h : CellsAt w p cs) (hb : w'.heap[p.block]? = w.heap[p.block]?) : CellsAt w' p cs :=
  h.keep fun q hq => by simp only [World.cell?]; rw [hq, hb]
def NewOps (o : List Opd) (w : World) (e : Ending) (w' : World) : Prop :=
  ∃ A c l, e = .returned (.slice A l.length c) ∧ osOf l = o ∧ OwOs w' w.heap.size (.slice A l.length c) l ∧ (∀ x ∈ l, ∃ g, PartN w' w.heap.size g x) ∧ Below w.heap.size w w'

theorem copy_round {w w1 : World} {B g n c m : Nat} {D T : List OpS} {x : OpS} {Ar As Ap : Option Addr} {cr cs cp : Nat}
    (ho : OwOs w B (.slice (some ⟨g, 0, none⟩) n c) (D ++ x :: T)) (hm : D.length = m) (hD : ∀ y ∈ D, PartN w B g y) (y1 : Below w.heap.size w w1)
    (hx : PartN w1 B g { x with Ar := Ar, cr := cr, As := As, cs := cs, Ap := Ap, cp := cp }) :
    let w2 := ((w1.setCell ⟨g, m * 5 + 2, none⟩ (.slice Ar x.o.r.length cr)).setCell ⟨g, m * 5 + 3, none⟩ (.slice As x.o.s.length cs)).setCell ⟨g, m * 5 + 4, none⟩ (.slice Ap x.o.p.length cp)
    OwOs w2 B (.slice (some ⟨g, 0, none⟩) n c) (D ++ { x with Ar := Ar, cr := cr, As := As, cs := cs, Ap := Ap, cp := cp } :: T) ∧ (∀ y ∈ D ++ [{ x with Ar := Ar, cr := cr, As := As, cs := cs, Ap := Ap, cp := cp }], PartN w2 B g y) := by
  subst hm
  have a0 := ho.below y1 (Nat.le_refl _)
  have step : ∀ (W : World) (x x' : OpS) (j : Nat) (u : Value), j < 5 → x'.enc = x.enc.set j u → OwOs W B (.slice (some ⟨g, 0, none⟩) n c) (D ++ x :: T) → OwOs (W.setCell ⟨g, D.length * 5 + j, none⟩ u) B (.slice (some ⟨g, 0, none⟩) n c) (D ++ x' :: T) := by
    intro W x x' j u hj he h
    have := Ow.setEl OpS.enc_len h (i := D.length) (j := j) (u := u) (a' := x') (by simp) hj (by simpa using he)
    rw [List.set_append_right _ _ (Nat.le_refl _), Nat.sub_self] at this
    exact this
  have a1 := step w1 x { x with Ar := Ar, cr := cr } 2 (.slice Ar x.o.r.length cr) (by omega) rfl a0
  have a2 := step _ { x with Ar := Ar, cr := cr } { x with Ar := Ar, cr := cr, As := As, cs := cs } 3 (.slice As x.o.s.length cs) (by omega) rfl a1
  have a3 := step _ { x with Ar := Ar, cr := cr, As := As, cs := cs } { x with Ar := Ar, cr := cr, As := As, cs := cs, Ap := Ap, cp := cp } 4 (.slice Ap x.o.p.length cp) (by omega) rfl a2
  refine ⟨a3, fun y hy => ?_⟩
  rcases List.mem_append.1 hy with hy | hy
  · exact ((hD y hy).below y1).set.set.set
  · simp at hy; subst hy; exact hx.set.set.set

theorem copy_step {w wr w5 w6 w7 : World} {g n c m : Nat} {D T : List OpS} {x : OpS} {A5 A6 A7 : Option Addr} {k5 k6 k7 : Nat} (y : Below w.heap.size w wr) (hg : w.heap.size ≤ g)
    (ho : OwOs wr w.heap.size (.slice (some ⟨g, 0, none⟩) n c) (D ++ x :: T)) (hm : D.length = m) (hD : ∀ y ∈ D, PartN wr w.heap.size g y) (hgl : g < wr.heap.size)
    (o5 : OwI32 w5 wr.heap.size (.slice A5 x.o.r.length k5) x.o.r) (y5 : Below wr.heap.size wr w5)
    (o6 : OwAt w6 w5.heap.size (.slice A6 x.o.s.length k6) x.o.s) (y6 : Below w5.heap.size w5 w6)
    (o7 : OwCh w7 w6.heap.size (.slice A7 x.o.p.length k7) x.o.p) (y7 : Below w6.heap.size w6 w7) :
    let w8 := ((w7.setCell ⟨g, m * 5 + 2, none⟩ (.slice A5 x.o.r.length k5)).setCell ⟨g, m * 5 + 3, none⟩ (.slice A6 x.o.s.length k6)).setCell ⟨g, m * 5 + 4, none⟩ (.slice A7 x.o.p.length k7)
    OwOs w8 w.heap.size (.slice (some ⟨g, 0, none⟩) n c) ((D ++ [{ x with Ar := A5, cr := k5, As := A6, cs := k6, Ap := A7, cp := k7 }]) ++ T) ∧
      (∀ y ∈ D ++ [{ x with Ar := A5, cr := k5, As := A6, cs := k6, Ap := A7, cp := k7 }], ∀ b, (some ⟨g, 0, none⟩ : Option Addr) = some ⟨b, 0, none⟩ → PartN w8 w.heap.size b y) ∧ Below w.heap.size w w8 := by
  intro w8
  have sz := y.size
  have s5 := y5.size
  have s6 := y6.size
  have y67 := ext_trans y6 y7
  have y57 := ext_trans y5 y67
  have hx : PartN w7 w.heap.size g { x with Ar := A5, cr := k5, As := A6, cs := k6, Ap := A7, cp := k7 } :=
    ⟨⟨(o5.below y67 (Nat.le_refl _)).base_le sz, fun e => by have := (o5.wb_lt g e).1; omega⟩,
     ⟨(o6.below y7 (Nat.le_refl _)).base_le (by omega), fun e => by have := (o6.wb_lt g e).1; omega⟩,
     ⟨o7.base_le (by omega), fun e => by have := (o7.wb_lt g e).1; omega⟩⟩
  have r := copy_round ho hm hD y57 hx
  refine ⟨by rw [List.append_assoc]; exact r.1, fun y hy b hb => ?_, ?_⟩
  · injection hb with hb
    injection hb with hb
    subst hb
    exact r.2 y hy
  · exact (((ext_trans y y57).setCell (p := ⟨g, m * 5 + 2, none⟩) hg _).setCell (p := ⟨g, m * 5 + 3, none⟩) hg _).setCell (p := ⟨g, m * 5 + 4, none⟩) hg _

set_option maxRecDepth 100000 in
set_option maxHeartbeats 4000000 in
theorem copyOps_any (A : Option Addr) (n c : Nat) (l : List OpS) (w : World) (hn : n = l.length) (h : RdOp w w.heap.size A l) (hb : n ≤ 100000000) (hs : ∀ x ∈ l, x.o.r.length ≤ 100000000 ∧ x.o.s.length ≤ 100000000 ∧ x.o.p.length ≤ 100000000) :
    Calls Tryz.prog 157 #[.slice A n c] w (NewOps (osOf l) w) := by
  have N := Lib.hid hn
  have HS := Lib.hid hs
  have HR := Lib.hid h.1
  have HP := Lib.hid h.2
  clear hn hs h
  go_enter Tryz.func157, Tryz.ntmps157
  go_wp2_with (go_at_call 205; refine Hid.out ?_)
  refine Lib.hid ?_
  refine (cloneOs_any A n c l w N.out HR.out (by omega)).mono ?_
  rintro e w1 ⟨A1, k1, rfl, o1, y1⟩
  have O1 := Lib.hid o1
  have Y1 := Lib.hid y1
  have LB := Lib.hid (show l.length ≤ 100000000 by have := N.out; omega)
  clear o1 y1
  go_wp2_with (fail)
  go_loopg [9] l.length (fun g iv wr => ∃ (m : Nat) (D : List OpS), m ≤ l.length ∧ g = l.length - m ∧ iv = .int .i64 (m : Int) ∧ D.length = m ∧ osOf D = osOf (l.take m) ∧
    OwOs wr w.heap.size (.slice A1 l.length k1) (D ++ l.drop m) ∧ (∀ x ∈ D, ∀ b, A1 = some ⟨b, 0, none⟩ → PartN wr w.heap.size b x) ∧ Below w.heap.size w wr)
  case atStart => exact ⟨0, [], by omega, rfl, rfl, rfl, rfl, O1.out, fun x hx => (by cases hx), Y1.out⟩
  case round =>
    obtain ⟨m, D, hm, hg, rfl, hD, hDo, ho, hDp, y⟩ := hrel
    have HG := Lib.hid hg
    clear hg
    by_cases hlt : m < l.length
    · obtain ⟨x, hxi⟩ : ∃ x, l[m]? = some x := ⟨l[m], by rw [List.getElem?_eq_getElem hlt]⟩
      have hdrop : l.drop m = x :: l.drop (m + 1) := by
        rw [List.drop_eq_getElem_cons hlt]; rw [List.getElem?_eq_getElem hlt] at hxi; injection hxi with hxi; rw [hxi]
      have hxm := List.mem_of_getElem? hxi
      rw [hdrop] at ho
      have hlen : (D ++ x :: l.drop (m + 1)).length = l.length := by rw [List.length_append, hD, List.length_cons, List.length_drop]; omega
      have hi : m < (D ++ x :: l.drop (m + 1)).length := by omega
      obtain ⟨g, cur, hA, hq1, hBg, hgb, hq2, hq3, hq4, hq5⟩ := ho.row (by omega)
      clear hq1 hq2 hq3 hq4 hq5
      subst hA
      obtain ⟨ad, hA2, _, hcx⟩ := (ho.rd OpS.enc_len).at_ hi
      injection hA2 with hA2
      subst hA2
      rw [add_row] at hcx
      have hx : (D ++ x :: l.drop (m + 1))[m] = x := by simp [List.getElem_append_right, hD]
      rw [hx] at hcx
      have hP := HP.out x hxm
      have p1 := Lib.hid (hP.1.ext y)
      have p2 := Lib.hid (hP.2.1.ext y)
      have p3 := Lib.hid (hP.2.2.ext y)
      have hS := Lib.hid (HS.out x hxm)
      have HDP := Lib.hid (fun y hy => hDp y hy g rfl : ∀ y ∈ D, PartN wr w.heap.size g y)
      have hglt := lt_of_some hgb
      have HT := Lib.hid (show osOf (D ++ [x]) = osOf (l.take (m + 1)) by
        rw [List.take_add_one, hxi]; unfold osOf at hDo ⊢; rw [List.map_append, List.map_append, hDo]; rfl)
      have HO := Lib.hid ho
      have HGB := Lib.hid hgb
      have HCX := Lib.hid hcx
      have HD := Lib.hid hD
      obtain ⟨⟨xk, xn, xr, xs, xp⟩, Ar, cr, As, cs, Ap, cp⟩ := x
      obtain ⟨z0, z1, z2, z3, z4⟩ := op_cells hcx
      have hfr : ∀ j, wr.frozen? ⟨g, j, none⟩ = false := fun j => box_thaw hgb j
      have e1 : (m : Int) < (l.length : Int) := by omega
      have hw2 : IntKind.i64.wrap ((m:Int) + 1) = (m : Int) + 1 := IntWalk.i64_in _ (by have := LB.out; omega)
      clear hcx hx ho hDp hP hDo hxi hdrop hgb hD hlen hi hxm
      go_wp2_with (fail)
      go_region_law (first
        | (refine step_fn rfl 155 [.tmp 22] #[47] rfl Tryz.f155 (by kernel_rfl) (by kernel_rfl) (by kernel_rfl) [.slice Ar xr.length cr] (by rfl) (cloneI32_any Ar xr.length cr xr wr.drew rfl (p1.out.ext (up_drew (Below.refl _ _))) hS.out.1) ?_
           rintro e w5 ⟨A5, k5, rfl, o5, y5⟩
           refine ⟨_, rfl, ?_⟩
           have O5 := Lib.hid o5
           have Y5 : Hid (Below wr.heap.size wr w5) := Lib.hid ((up_drew (Below.refl _ _)).trans y5)
           obtain ⟨z0a, z1a, z2a, z3a, z4a⟩ := op_cells (HCX.out.blk ((y5.block g hglt)))
           clear o5 y5)
        | (refine step_fn rfl 143 [.tmp 28] #[36] rfl Tryz.f143 (by kernel_rfl) (by kernel_rfl) (by kernel_rfl) [.slice As xs.length cs] (by rfl) (copy_any As xs.length cs xs w5 rfl (p2.out.ext Y5.out) hS.out.2.1) ?_
           rintro e w6 ⟨A6, k6, rfl, o6, y6⟩
           refine ⟨_, rfl, ?_⟩
           have O6 := Lib.hid o6
           have Y6 := Lib.hid y6
           have Y56 := Lib.hid (ext_trans Y5.out y6)
           obtain ⟨z0b, z1b, z2b, z3b, z4b⟩ := op_cells (HCX.out.blk (Y56.out.block g hglt))
           clear o6 y6)
        | (refine step_fn rfl 154 [.tmp 34] #[48] rfl Tryz.f154 (by kernel_rfl) (by kernel_rfl) (by kernel_rfl) [.slice Ap xp.length cp] (by rfl) (copyC_any Ap xp.length cp xp w6 rfl (p3.out.ext Y56.out) hS.out.2.2) ?_
           rintro e w7 ⟨A7, k7, rfl, o7, y7⟩
           refine ⟨_, rfl, ?_⟩
           have O7 := Lib.hid o7
           have Y7 := Lib.hid y7
           have Y57 := Lib.hid (ext_trans Y56.out y7)
           obtain ⟨z0c, z1c, z2c, z3c, z4c⟩ := op_cells (HCX.out.blk (Y57.out.block g hglt))
           have hf2 : w7.frozen? ⟨g, m * 5 + 2, none⟩ = false := box_thaw ((Y57.out.block g hglt).trans HGB.out) _
           have hf3 : w7.frozen? ⟨g, m * 5 + 3, none⟩ = false := box_thaw ((Y57.out.block g hglt).trans HGB.out) _
           have hf4 : w7.frozen? ⟨g, m * 5 + 4, none⟩ = false := box_thaw ((Y57.out.block g hglt).trans HGB.out) _
           clear o7 y7))
      all_goals go_wp2_with (fail)
      all_goals go_roundg (l.length - (m + 1))
      all_goals first
        | (have := HG.out; omega)
        | (obtain ⟨r1, r2, r3⟩ := copy_step (x := ⟨⟨xk, xn, xr, xs, xp⟩, Ar, cr, As, cs, Ap, cp⟩) y hBg HO.out HD.out HDP.out hglt O5.out Y5.out O6.out Y6.out O7.out Y7.out
           refine ⟨m + 1, D ++ [⟨⟨xk, xn, xr, xs, xp⟩, A5, k5, A6, k6, A7, k7⟩], by omega, rfl, by go_num, by rw [List.length_append, HD.out]; rfl, ?_, r1, r2, r3⟩
           rw [← HT.out]; simp [osOf])
    · have hml : m = l.length := by omega
      subst hml
      have HO := Lib.hid ho
      have HDP := Lib.hid hDp
      have HDO := Lib.hid hDo
      have HD := Lib.hid hD
      clear ho hDp hDo hD
      go_wp2_with (fail)
      go_ret
      have hd : l.drop l.length = [] := by simp
      have ho := HO.out
      rw [hd, List.append_nil] at ho
      have hl : l.length = D.length := HD.out.symm
      rw [hl] at ho ⊢
      refine ⟨A1, k1, D, rfl, by rw [HDO.out, List.take_length], ho, fun x hx => ?_, y⟩
      have hpos : 0 < D.length := List.length_pos_of_mem hx
      obtain ⟨g, cur, hA, _⟩ := ho.row hpos
      exact ⟨g, HDP.out x hx g hA⟩

theorem PartN.base_le {w : World} {B B' g : Nat} {x : OpS} (h : PartN w B g x) (hb : B' ≤ B) : PartN w B' g x :=
  ⟨⟨h.1.1.base_le hb, h.1.2⟩, ⟨h.2.1.1.base_le hb, h.2.1.2⟩, ⟨h.2.2.1.base_le hb, h.2.2.2⟩⟩
theorem NewOps.late {o : List Opd} {w w2 : World} (y : Below w.heap.size w w2) {e : Ending} {w3 : World} (h : NewOps o w2 e w3) : NewOps o w e w3 := by
  obtain ⟨A, c, l, h1, h2, h3, h4, h5⟩ := h
  exact ⟨A, c, l, h1, h2, h3.base_le y.size, fun x hx => (h4 x hx).imp fun g p => p.base_le y.size, ext_trans y h5⟩
theorem Mkr.sub {w : World} {F : Nat → Prop} {b : Nat} {vd vi : Value} {D I : List OpS} (h10 : ∀ x ∈ D, PartF w F x) (h11 : InsF w F b vd vi I) (g : Int) : Sub w w.heap.size (D ++ gapS I g) := by
  intro x hx
  rcases List.mem_append.1 hx with hx | hx
  · have := h10 x hx; exact ⟨this.1.1, this.2.1.1, this.2.2.1⟩
  · unfold gapS at hx
    rcases List.mem_append.1 hx with hx | hx
    · rcases List.eq_nil_or_concat I with h0 | ⟨t, z, h0⟩
      · rw [h0] at hx; cases hx
      · rw [List.concat_eq_append] at h0
        have hx' := hx
        rw [h0] at hx'
        rcases List.mem_append.1 hx' with hx' | hx'
        · have := h11.1 x (by rw [h0]; simpa using hx'); exact ⟨this.1.1, this.2.1.1, this.2.2.1⟩
        · simp at hx'; subst hx'
          have := h11.2 x (by rw [h0]; simp)
          exact ⟨this.1.rd encI32_len, this.2.2.1.1, this.2.2.2.1⟩
    · split at hx
      · simp at hx; subst hx
        exact ⟨Rd.nil, Rd.nil, Rd.nil⟩
      · cases hx

set_option maxRecDepth 100000 in
set_option maxHeartbeats 1600000 in
theorem ops_nil (b : Nat) (w : World) (F : Nat → Prop) (m : Mk) (h : Mkr w F b m) (hmb : m.done.length + m.ins.length ≤ 10000000)
    (hs : ∀ o ∈ m.done ++ mkGap m, o.r.length ≤ 100000000 ∧ o.s.length ≤ 100000000 ∧ o.p.length ≤ 100000000) (h0 : m.done ++ mkGap m = []) :
    Calls Tryz.prog 77 #[.pointer (some ⟨b, 0, none⟩)] w (NewOps (mkOps m) w) := by
  obtain ⟨vd, vi, D, I, h1, h2, h3, h4, h5, h6, h7, h8, h9, h10, h11⟩ := h
  obtain ⟨Ad, cd, rfl, _, _⟩ := h2.form
  obtain ⟨Ai, ci, rfl, _, _⟩ := h3.form
  have HD := Lib.hid (show D.length ≤ 10000000 by rw [← h4, ← h5] at hmb; simp [osOf] at hmb; omega)
  have HI := Lib.hid (show I.length ≤ 10000000 by rw [← h4, ← h5] at hmb; simp [osOf] at hmb; omega)
  have H1 := Lib.hid h1
  have H2 := Lib.hid h2
  have H3 := Lib.hid h3
  have hlt := lt_of_some h1
  obtain ⟨c0, c1, c2⟩ := box_3 h1
  have HSUB := Lib.hid (Mkr.sub h10 h11 m.gone)
  have HL0 : Hid (osOf (D ++ gapS I m.gone) = m.done ++ mkGap m) := Lib.hid (by
    unfold osOf; rw [List.map_append]; show osOf D ++ osOf (gapS I m.gone) = _; rw [gapS_os, h4, h5]; rfl)
  have HSZ : Hid (∀ x ∈ D ++ gapS I m.gone, x.o.r.length ≤ 100000000 ∧ x.o.s.length ≤ 100000000 ∧ x.o.p.length ≤ 100000000) := Lib.hid (fun x hx => hs x.o (by
    rw [← HL0.out]; unfold osOf; exact List.mem_map_of_mem hx))
  have HL : Hid (D ++ gapS I m.gone = []) := Lib.hid (by have e := HL0.out; rw [h0] at e; unfold osOf at e; simpa using e)
  have HM : Hid (osOf (D ++ gapS I m.gone) = mkOps m) := Lib.hid (by rw [HL0.out]; unfold mkOps; rw [h0]; rfl)
  clear h1 h2 h3 h4 h5 hmb hs h6 h7 h8 h9 h10 h11 h0
  generalize hgone : m.gone = gone at *
  have HGO := Lib.hid hgone
  clear hgone
  go_enter Tryz.func77, Tryz.ntmps77
  go_wp2_with (fail)
  go_region_law (first
      | (refine step_fn rfl 152 [.tmp 11] #[115] rfl Tryz.f152 (by kernel_rfl) (by kernel_rfl) (by kernel_rfl) [.pointer (some ⟨b, 0, none⟩)] (by rfl) (gap_any b (.slice Ad D.length cd) Ai I.length ci gone I w.drew H1.out rfl (H3.out.rd OpS.enc_len) (by have := HI.out; omega)) ?_
         rintro e w1 ⟨A1, k1, rfl, o1, y1⟩
         refine ⟨_, rfl, ?_⟩
         have hb1 := (y1.block b hlt).trans H1.out
         obtain ⟨d0, d1, d2⟩ := box_3 hb1
         have O1 := Lib.hid o1
         have Y1 : Hid (Below w.heap.size w w1) := Lib.hid ((up_drew (Below.refl _ _)).trans y1)
         clear hb1 o1 y1)
      | (refine step_fn rfl 156 [.tmp 13] #[126] rfl Tryz.f156 (by kernel_rfl) (by kernel_rfl) (by kernel_rfl) [.slice (some ⟨w1.heap.size, 0, none⟩) 2 2] (by rfl) (concatOs_any (some ⟨w1.heap.size, 0, none⟩) 2 2 [⟨Ad, D, cd⟩, ⟨A1, gapS I gone, k1⟩] (w1.alloc (.cells #[.slice Ad D.length cd, .slice A1 (gapS I gone).length k1] 44)) rfl (Rd.new (enc := RwS.enc) (size := 1) (fun _ => rfl) w1 _ _ rfl rfl) (fun x hx => by
            have yy := ext_alloc w1 (.cells #[.slice Ad D.length cd, .slice A1 (gapS I gone).length k1] 44)
            rcases List.mem_cons.1 hx with rfl | hx
            · exact ((H2.out.below Y1.out (Nat.le_refl _)).rd OpS.enc_len).ext yy
            · simp at hx; subst hx; exact (O1.out.rd OpS.enc_len).ext yy) (by omega) (fun x hx => by
            have := HD.out; have := HI.out; have := gapS_len I gone
            rcases List.mem_cons.1 hx with rfl | hx
            · simp only; omega
            · simp at hx; subst hx; simp only; omega)) ?_
         rintro e w2 ⟨A2, k2, he, o2, y2⟩
         have eL : [(⟨Ad, D, cd⟩ : RwS), ⟨A1, gapS I gone, k1⟩].flatMap (fun x => x.l) = D ++ gapS I gone := by simp
         rw [eL] at he o2
         generalize hnl : (D ++ gapS I gone).length = nl at he o2
         subst he
         refine ⟨_, rfl, ?_⟩
         have hnlb : nl ≤ 20000001 := by rw [← hnl, List.length_append]; have := HD.out; have := HI.out; have := gapS_len I gone; omega
         have HNL := Lib.hid hnl
         have O2 := Lib.hid o2
         have Y2 : Hid (Below w.heap.size w w2) := Lib.hid (ext_trans Y1.out (ext_trans (ext_alloc w1 _) y2))
         clear o2 y2 hnl eL)
      )
  all_goals
    have hnl0 : nl = 0 := by have := HNL.out; rw [HL.out] at this; exact this.symm
    subst hnl0
    go_wp2_with (go_at_call 157; refine Hid.out ?_)
    refine Lib.hid ?_
    refine (copyOps_any _ _ k2 (D ++ gapS I gone) _ HNL.out.symm ⟨O2.out.rd OpS.enc_len, fun x hx => (HSUB.out.ext Y2.out) x hx⟩ (by omega) (fun x hx => HSZ.out x hx)).mono ?_
    intro e w3 hN
    have hM := NewOps.late Y2.out hN
    clear hN
    rw [HM.out] at hM
    obtain ⟨A3, k3, l3, rfl, hM2⟩ := hM
    go_wp2_with (fail)
    go_ret
    exact ⟨A3, k3, l3, rfl, hM2⟩

set_option maxRecDepth 100000 in
set_option maxHeartbeats 1600000 in
theorem ops_kind (b : Nat) (w : World) (F : Nat → Prop) (m : Mk) (h : Mkr w F b m) (hmb : m.done.length + m.ins.length ≤ 10000000)
    (hs : ∀ o ∈ m.done ++ mkGap m, o.r.length ≤ 100000000 ∧ o.s.length ≤ 100000000 ∧ o.p.length ≤ 100000000) (o : Opd) (h0 : (m.done ++ mkGap m).getLast? = some o) (hk : ¬ o.k = 1) :
    Calls Tryz.prog 77 #[.pointer (some ⟨b, 0, none⟩)] w (NewOps (mkOps m) w) := by
  obtain ⟨vd, vi, D, I, h1, h2, h3, h4, h5, h6, h7, h8, h9, h10, h11⟩ := h
  obtain ⟨Ad, cd, rfl, _, _⟩ := h2.form
  obtain ⟨Ai, ci, rfl, _, _⟩ := h3.form
  have HD := Lib.hid (show D.length ≤ 10000000 by rw [← h4, ← h5] at hmb; simp [osOf] at hmb; omega)
  have HI := Lib.hid (show I.length ≤ 10000000 by rw [← h4, ← h5] at hmb; simp [osOf] at hmb; omega)
  have H1 := Lib.hid h1
  have H2 := Lib.hid h2
  have H3 := Lib.hid h3
  have hlt := lt_of_some h1
  obtain ⟨c0, c1, c2⟩ := box_3 h1
  have HSUB := Lib.hid (Mkr.sub h10 h11 m.gone)
  have HL0 : Hid (osOf (D ++ gapS I m.gone) = m.done ++ mkGap m) := Lib.hid (by
    unfold osOf; rw [List.map_append]; show osOf D ++ osOf (gapS I m.gone) = _; rw [gapS_os, h4, h5]; rfl)
  have HSZ : Hid (∀ x ∈ D ++ gapS I m.gone, x.o.r.length ≤ 100000000 ∧ x.o.s.length ≤ 100000000 ∧ x.o.p.length ≤ 100000000) := Lib.hid (fun x hx => hs x.o (by
    rw [← HL0.out]; unfold osOf; exact List.mem_map_of_mem hx))
  have H0 : Hid ((osOf (D ++ gapS I m.gone)).getLast? = some o) := Lib.hid (by rw [HL0.out]; exact h0)
  have HM : Hid (osOf (D ++ gapS I m.gone) = mkOps m) := Lib.hid (by rw [HL0.out]; unfold mkOps cutR; rw [h0]; simp only; rw [if_neg (fun h => hk h.1)])
  have HK := Lib.hid hk
  clear h1 h2 h3 h4 h5 hmb hs h6 h7 h8 h9 h10 h11 h0 hk
  generalize hgone : m.gone = gone at *
  have HGO := Lib.hid hgone
  clear hgone
  go_enter Tryz.func77, Tryz.ntmps77
  go_wp2_with (fail)
  go_region_law (first
      | (refine step_fn rfl 152 [.tmp 11] #[115] rfl Tryz.f152 (by kernel_rfl) (by kernel_rfl) (by kernel_rfl) [.pointer (some ⟨b, 0, none⟩)] (by rfl) (gap_any b (.slice Ad D.length cd) Ai I.length ci gone I w.drew H1.out rfl (H3.out.rd OpS.enc_len) (by have := HI.out; omega)) ?_
         rintro e w1 ⟨A1, k1, rfl, o1, y1⟩
         refine ⟨_, rfl, ?_⟩
         have hb1 := (y1.block b hlt).trans H1.out
         obtain ⟨d0, d1, d2⟩ := box_3 hb1
         have O1 := Lib.hid o1
         have Y1 : Hid (Below w.heap.size w w1) := Lib.hid ((up_drew (Below.refl _ _)).trans y1)
         clear hb1 o1 y1)
      | (refine step_fn rfl 156 [.tmp 13] #[126] rfl Tryz.f156 (by kernel_rfl) (by kernel_rfl) (by kernel_rfl) [.slice (some ⟨w1.heap.size, 0, none⟩) 2 2] (by rfl) (concatOs_any (some ⟨w1.heap.size, 0, none⟩) 2 2 [⟨Ad, D, cd⟩, ⟨A1, gapS I gone, k1⟩] (w1.alloc (.cells #[.slice Ad D.length cd, .slice A1 (gapS I gone).length k1] 44)) rfl (Rd.new (enc := RwS.enc) (size := 1) (fun _ => rfl) w1 _ _ rfl rfl) (fun x hx => by
            have yy := ext_alloc w1 (.cells #[.slice Ad D.length cd, .slice A1 (gapS I gone).length k1] 44)
            rcases List.mem_cons.1 hx with rfl | hx
            · exact ((H2.out.below Y1.out (Nat.le_refl _)).rd OpS.enc_len).ext yy
            · simp at hx; subst hx; exact (O1.out.rd OpS.enc_len).ext yy) (by omega) (fun x hx => by
            have := HD.out; have := HI.out; have := gapS_len I gone
            rcases List.mem_cons.1 hx with rfl | hx
            · simp only; omega
            · simp at hx; subst hx; simp only; omega)) ?_
         rintro e w2 ⟨A2, k2, he, o2, y2⟩
         have eL : [(⟨Ad, D, cd⟩ : RwS), ⟨A1, gapS I gone, k1⟩].flatMap (fun x => x.l) = D ++ gapS I gone := by simp
         rw [eL] at he o2
         generalize hnl : (D ++ gapS I gone).length = nl at he o2
         subst he
         refine ⟨_, rfl, ?_⟩
         have hnlb : nl ≤ 20000001 := by rw [← hnl, List.length_append]; have := HD.out; have := HI.out; have := gapS_len I gone; omega
         have HNL := Lib.hid hnl
         have O2 := Lib.hid o2
         have Y2 : Hid (Below w.heap.size w w2) := Lib.hid (ext_trans Y1.out (ext_trans (ext_alloc w1 _) y2))
         clear o2 y2 hnl eL)
      )
  all_goals
    obtain ⟨g, x, hnp1, hA', hx, hxo, hLx, ⟨cur, hg⟩, hcx⟩ := own_lastN O2.out HNL.out H0.out
    subst hA'
    obtain ⟨⟨xk, xn, xr, xs, xp⟩, Ar, cr, As, cs, Aq, cq⟩ := x
    obtain ⟨z0, z1, z2, z3, z4⟩ := op_cells hcx
    have e1 : (1 : Int) ≤ (nl : Int) := by omega
    have e2 : (nl : Int) - 1 < (nl : Int) := by omega
    have hko : xk = o.k := by rw [← hxo]
    have hpo : xp = o.p := by rw [← hxo]
    clear hcx hLx hx hxo hg
    have hk1 : (xk == 1) = false := beq_eq_false_iff_ne.2 (by rw [hko]; exact HK.out)
    clear hko hpo
    go_wp2_with (go_at_call 157; refine Hid.out ?_)
    refine Lib.hid ?_
    refine (copyOps_any _ _ k2 (D ++ gapS I gone) _ HNL.out.symm ⟨O2.out.rd OpS.enc_len, fun x hx => (HSUB.out.ext Y2.out) x hx⟩ (by omega) (fun x hx => HSZ.out x hx)).mono ?_
    intro e w3 hN
    have hM := NewOps.late Y2.out hN
    clear hN
    rw [HM.out] at hM
    obtain ⟨A3, k3, l3, rfl, hM2⟩ := hM
    go_wp2_with (fail)
    go_ret
    exact ⟨A3, k3, l3, rfl, hM2⟩

set_option maxRecDepth 100000 in
set_option maxHeartbeats 1600000 in
theorem ops_patch (b : Nat) (w : World) (F : Nat → Prop) (m : Mk) (h : Mkr w F b m) (hmb : m.done.length + m.ins.length ≤ 10000000)
    (hs : ∀ o ∈ m.done ++ mkGap m, o.r.length ≤ 100000000 ∧ o.s.length ≤ 100000000 ∧ o.p.length ≤ 100000000) (o : Opd) (h0 : (m.done ++ mkGap m).getLast? = some o) (hk : o.k = 1) (hp : ¬ o.p = []) :
    Calls Tryz.prog 77 #[.pointer (some ⟨b, 0, none⟩)] w (NewOps (mkOps m) w) := by
  obtain ⟨vd, vi, D, I, h1, h2, h3, h4, h5, h6, h7, h8, h9, h10, h11⟩ := h
  obtain ⟨Ad, cd, rfl, _, _⟩ := h2.form
  obtain ⟨Ai, ci, rfl, _, _⟩ := h3.form
  have HD := Lib.hid (show D.length ≤ 10000000 by rw [← h4, ← h5] at hmb; simp [osOf] at hmb; omega)
  have HI := Lib.hid (show I.length ≤ 10000000 by rw [← h4, ← h5] at hmb; simp [osOf] at hmb; omega)
  have H1 := Lib.hid h1
  have H2 := Lib.hid h2
  have H3 := Lib.hid h3
  have hlt := lt_of_some h1
  obtain ⟨c0, c1, c2⟩ := box_3 h1
  have HSUB := Lib.hid (Mkr.sub h10 h11 m.gone)
  have HL0 : Hid (osOf (D ++ gapS I m.gone) = m.done ++ mkGap m) := Lib.hid (by
    unfold osOf; rw [List.map_append]; show osOf D ++ osOf (gapS I m.gone) = _; rw [gapS_os, h4, h5]; rfl)
  have HSZ : Hid (∀ x ∈ D ++ gapS I m.gone, x.o.r.length ≤ 100000000 ∧ x.o.s.length ≤ 100000000 ∧ x.o.p.length ≤ 100000000) := Lib.hid (fun x hx => hs x.o (by
    rw [← HL0.out]; unfold osOf; exact List.mem_map_of_mem hx))
  have H0 : Hid ((osOf (D ++ gapS I m.gone)).getLast? = some o) := Lib.hid (by rw [HL0.out]; exact h0)
  have HM : Hid (osOf (D ++ gapS I m.gone) = mkOps m) := Lib.hid (by rw [HL0.out]; unfold mkOps cutR; rw [h0]; simp only; rw [if_neg (fun h => hp h.2)])
  have HK := Lib.hid hk
  have HP := Lib.hid hp
  clear h1 h2 h3 h4 h5 hmb hs h6 h7 h8 h9 h10 h11 h0 hk hp
  generalize hgone : m.gone = gone at *
  have HGO := Lib.hid hgone
  clear hgone
  go_enter Tryz.func77, Tryz.ntmps77
  go_wp2_with (fail)
  go_region_law (first
      | (refine step_fn rfl 152 [.tmp 11] #[115] rfl Tryz.f152 (by kernel_rfl) (by kernel_rfl) (by kernel_rfl) [.pointer (some ⟨b, 0, none⟩)] (by rfl) (gap_any b (.slice Ad D.length cd) Ai I.length ci gone I w.drew H1.out rfl (H3.out.rd OpS.enc_len) (by have := HI.out; omega)) ?_
         rintro e w1 ⟨A1, k1, rfl, o1, y1⟩
         refine ⟨_, rfl, ?_⟩
         have hb1 := (y1.block b hlt).trans H1.out
         obtain ⟨d0, d1, d2⟩ := box_3 hb1
         have O1 := Lib.hid o1
         have Y1 : Hid (Below w.heap.size w w1) := Lib.hid ((up_drew (Below.refl _ _)).trans y1)
         clear hb1 o1 y1)
      | (refine step_fn rfl 156 [.tmp 13] #[126] rfl Tryz.f156 (by kernel_rfl) (by kernel_rfl) (by kernel_rfl) [.slice (some ⟨w1.heap.size, 0, none⟩) 2 2] (by rfl) (concatOs_any (some ⟨w1.heap.size, 0, none⟩) 2 2 [⟨Ad, D, cd⟩, ⟨A1, gapS I gone, k1⟩] (w1.alloc (.cells #[.slice Ad D.length cd, .slice A1 (gapS I gone).length k1] 44)) rfl (Rd.new (enc := RwS.enc) (size := 1) (fun _ => rfl) w1 _ _ rfl rfl) (fun x hx => by
            have yy := ext_alloc w1 (.cells #[.slice Ad D.length cd, .slice A1 (gapS I gone).length k1] 44)
            rcases List.mem_cons.1 hx with rfl | hx
            · exact ((H2.out.below Y1.out (Nat.le_refl _)).rd OpS.enc_len).ext yy
            · simp at hx; subst hx; exact (O1.out.rd OpS.enc_len).ext yy) (by omega) (fun x hx => by
            have := HD.out; have := HI.out; have := gapS_len I gone
            rcases List.mem_cons.1 hx with rfl | hx
            · simp only; omega
            · simp at hx; subst hx; simp only; omega)) ?_
         rintro e w2 ⟨A2, k2, he, o2, y2⟩
         have eL : [(⟨Ad, D, cd⟩ : RwS), ⟨A1, gapS I gone, k1⟩].flatMap (fun x => x.l) = D ++ gapS I gone := by simp
         rw [eL] at he o2
         generalize hnl : (D ++ gapS I gone).length = nl at he o2
         subst he
         refine ⟨_, rfl, ?_⟩
         have hnlb : nl ≤ 20000001 := by rw [← hnl, List.length_append]; have := HD.out; have := HI.out; have := gapS_len I gone; omega
         have HNL := Lib.hid hnl
         have O2 := Lib.hid o2
         have Y2 : Hid (Below w.heap.size w w2) := Lib.hid (ext_trans Y1.out (ext_trans (ext_alloc w1 _) y2))
         clear o2 y2 hnl eL)
      )
  all_goals
    obtain ⟨g, x, hnp1, hA', hx, hxo, hLx, ⟨cur, hg⟩, hcx⟩ := own_lastN O2.out HNL.out H0.out
    subst hA'
    obtain ⟨⟨xk, xn, xr, xs, xp⟩, Ar, cr, As, cs, Aq, cq⟩ := x
    obtain ⟨z0, z1, z2, z3, z4⟩ := op_cells hcx
    have e1 : (1 : Int) ≤ (nl : Int) := by omega
    have e2 : (nl : Int) - 1 < (nl : Int) := by omega
    have hko : xk = o.k := by rw [← hxo]
    have hpo : xp = o.p := by rw [← hxo]
    clear hcx hLx hx hxo hg
    have hk1 : xk = 1 := by rw [hko]; exact HK.out
    clear hko
    subst hk1
    have hp1 : ((xp.length : Int) == 0) = false := beq_eq_false_iff_ne.2 (by rw [hpo]; intro e; exact HP.out (List.eq_nil_of_length_eq_zero (by omega)))
    clear hpo
    go_wp2_with (go_at_call 157; refine Hid.out ?_)
    refine Lib.hid ?_
    refine (copyOps_any _ _ k2 (D ++ gapS I gone) _ HNL.out.symm ⟨O2.out.rd OpS.enc_len, fun x hx => (HSUB.out.ext Y2.out) x hx⟩ (by omega) (fun x hx => HSZ.out x hx)).mono ?_
    intro e w3 hN
    have hM := NewOps.late Y2.out hN
    clear hN
    rw [HM.out] at hM
    obtain ⟨A3, k3, l3, rfl, hM2⟩ := hM
    go_wp2_with (fail)
    go_ret
    exact ⟨A3, k3, l3, rfl, hM2⟩

set_option maxRecDepth 100000 in
set_option maxHeartbeats 1600000 in
theorem ops_cut (b : Nat) (w : World) (F : Nat → Prop) (m : Mk) (h : Mkr w F b m) (hmb : m.done.length + m.ins.length ≤ 10000000)
    (hs : ∀ o ∈ m.done ++ mkGap m, o.r.length ≤ 100000000 ∧ o.s.length ≤ 100000000 ∧ o.p.length ≤ 100000000) (o : Opd) (h0 : (m.done ++ mkGap m).getLast? = some o) (hk : o.k = 1) (hp : o.p = []) :
    Calls Tryz.prog 77 #[.pointer (some ⟨b, 0, none⟩)] w (NewOps (mkOps m) w) := by
  obtain ⟨vd, vi, D, I, h1, h2, h3, h4, h5, h6, h7, h8, h9, h10, h11⟩ := h
  obtain ⟨Ad, cd, rfl, _, _⟩ := h2.form
  obtain ⟨Ai, ci, rfl, _, _⟩ := h3.form
  have HD := Lib.hid (show D.length ≤ 10000000 by rw [← h4, ← h5] at hmb; simp [osOf] at hmb; omega)
  have HI := Lib.hid (show I.length ≤ 10000000 by rw [← h4, ← h5] at hmb; simp [osOf] at hmb; omega)
  have H1 := Lib.hid h1
  have H2 := Lib.hid h2
  have H3 := Lib.hid h3
  have hlt := lt_of_some h1
  obtain ⟨c0, c1, c2⟩ := box_3 h1
  have HSUB := Lib.hid (Mkr.sub h10 h11 m.gone)
  have HL0 : Hid (osOf (D ++ gapS I m.gone) = m.done ++ mkGap m) := Lib.hid (by
    unfold osOf; rw [List.map_append]; show osOf D ++ osOf (gapS I m.gone) = _; rw [gapS_os, h4, h5]; rfl)
  have HSZ : Hid (∀ x ∈ D ++ gapS I m.gone, x.o.r.length ≤ 100000000 ∧ x.o.s.length ≤ 100000000 ∧ x.o.p.length ≤ 100000000) := Lib.hid (fun x hx => hs x.o (by
    rw [← HL0.out]; unfold osOf; exact List.mem_map_of_mem hx))
  have H0 : Hid ((osOf (D ++ gapS I m.gone)).getLast? = some o) := Lib.hid (by rw [HL0.out]; exact h0)
  have HM : Hid (osOf ((D ++ gapS I m.gone).take ((D ++ gapS I m.gone).length - 1)) = mkOps m) := Lib.hid (by rw [← List.dropLast_eq_take]; unfold osOf; rw [List.map_dropLast]; show (osOf _).dropLast = _; rw [HL0.out]; unfold mkOps cutR; rw [h0]; simp only; rw [if_pos ⟨hk, hp⟩])
  have HK := Lib.hid hk
  have HP := Lib.hid hp
  clear h1 h2 h3 h4 h5 hmb hs h6 h7 h8 h9 h10 h11 h0 hk hp
  generalize hgone : m.gone = gone at *
  have HGO := Lib.hid hgone
  clear hgone
  go_enter Tryz.func77, Tryz.ntmps77
  go_wp2_with (fail)
  go_region_law (first
      | (refine step_fn rfl 152 [.tmp 11] #[115] rfl Tryz.f152 (by kernel_rfl) (by kernel_rfl) (by kernel_rfl) [.pointer (some ⟨b, 0, none⟩)] (by rfl) (gap_any b (.slice Ad D.length cd) Ai I.length ci gone I w.drew H1.out rfl (H3.out.rd OpS.enc_len) (by have := HI.out; omega)) ?_
         rintro e w1 ⟨A1, k1, rfl, o1, y1⟩
         refine ⟨_, rfl, ?_⟩
         have hb1 := (y1.block b hlt).trans H1.out
         obtain ⟨d0, d1, d2⟩ := box_3 hb1
         have O1 := Lib.hid o1
         have Y1 : Hid (Below w.heap.size w w1) := Lib.hid ((up_drew (Below.refl _ _)).trans y1)
         clear hb1 o1 y1)
      | (refine step_fn rfl 156 [.tmp 13] #[126] rfl Tryz.f156 (by kernel_rfl) (by kernel_rfl) (by kernel_rfl) [.slice (some ⟨w1.heap.size, 0, none⟩) 2 2] (by rfl) (concatOs_any (some ⟨w1.heap.size, 0, none⟩) 2 2 [⟨Ad, D, cd⟩, ⟨A1, gapS I gone, k1⟩] (w1.alloc (.cells #[.slice Ad D.length cd, .slice A1 (gapS I gone).length k1] 44)) rfl (Rd.new (enc := RwS.enc) (size := 1) (fun _ => rfl) w1 _ _ rfl rfl) (fun x hx => by
            have yy := ext_alloc w1 (.cells #[.slice Ad D.length cd, .slice A1 (gapS I gone).length k1] 44)
            rcases List.mem_cons.1 hx with rfl | hx
            · exact ((H2.out.below Y1.out (Nat.le_refl _)).rd OpS.enc_len).ext yy
            · simp at hx; subst hx; exact (O1.out.rd OpS.enc_len).ext yy) (by omega) (fun x hx => by
            have := HD.out; have := HI.out; have := gapS_len I gone
            rcases List.mem_cons.1 hx with rfl | hx
            · simp only; omega
            · simp at hx; subst hx; simp only; omega)) ?_
         rintro e w2 ⟨A2, k2, he, o2, y2⟩
         have eL : [(⟨Ad, D, cd⟩ : RwS), ⟨A1, gapS I gone, k1⟩].flatMap (fun x => x.l) = D ++ gapS I gone := by simp
         rw [eL] at he o2
         generalize hnl : (D ++ gapS I gone).length = nl at he o2
         subst he
         refine ⟨_, rfl, ?_⟩
         have hnlb : nl ≤ 20000001 := by rw [← hnl, List.length_append]; have := HD.out; have := HI.out; have := gapS_len I gone; omega
         have HNL := Lib.hid hnl
         have O2 := Lib.hid o2
         have Y2 : Hid (Below w.heap.size w w2) := Lib.hid (ext_trans Y1.out (ext_trans (ext_alloc w1 _) y2))
         clear o2 y2 hnl eL)
      )
  all_goals
    obtain ⟨g, x, hnp1, hA', hx, hxo, hLx, ⟨cur, hg⟩, hcx⟩ := own_lastN O2.out HNL.out H0.out
    subst hA'
    obtain ⟨⟨xk, xn, xr, xs, xp⟩, Ar, cr, As, cs, Aq, cq⟩ := x
    obtain ⟨z0, z1, z2, z3, z4⟩ := op_cells hcx
    have e1 : (1 : Int) ≤ (nl : Int) := by omega
    have e2 : (nl : Int) - 1 < (nl : Int) := by omega
    have hko : xk = o.k := by rw [← hxo]
    have hpo : xp = o.p := by rw [← hxo]
    clear hcx hLx hx hxo hg
    have hk1 : xk = 1 := by rw [hko]; exact HK.out
    clear hko
    subst hk1
    have hp1 : xp = [] := by rw [hpo]; exact HP.out
    clear hpo
    subst hp1
    have hcap : nl ≤ k2 := by have := O2.out.cap; have := HNL.out; omega
    go_wp2_with (go_at_call 157; refine Hid.out ?_)
    refine Lib.hid ?_
    refine (copyOps_any _ _ k2 ((D ++ gapS I gone).take (nl - 1)) _ (by rw [List.length_take, HNL.out]; omega) ⟨(O2.out.rd OpS.enc_len).take (nl - 1), fun x hx => (HSUB.out.ext Y2.out) x (List.mem_of_mem_take hx)⟩ (by omega) (fun x hx => HSZ.out x (List.mem_of_mem_take hx))).mono ?_
    intro e w3 hN
    have hM := NewOps.late Y2.out hN
    clear hN
    rw [← HNL.out, HM.out] at hM
    obtain ⟨A3, k3, l3, rfl, hM2⟩ := hM
    go_wp2_with (fail)
    go_ret
    exact ⟨A3, k3, l3, rfl, hM2⟩

theorem mkOps_any (b : Nat) (w : World) (F : Nat → Prop) (m : Mk) (h : Mkr w F b m) (hmb : m.done.length + m.ins.length ≤ 10000000)
    (hs : ∀ o ∈ m.done ++ mkGap m, o.r.length ≤ 100000000 ∧ o.s.length ≤ 100000000 ∧ o.p.length ≤ 100000000) :
    Calls Tryz.prog 77 #[.pointer (some ⟨b, 0, none⟩)] w (NewOps (mkOps m) w) := by
  cases h0 : (m.done ++ mkGap m).getLast? with
  | none => exact ops_nil b w F m h hmb hs (List.getLast?_eq_none_iff.1 h0)
  | some o =>
    by_cases hk : o.k = 1
    · by_cases hp : o.p = []
      · exact ops_cut b w F m h hmb hs o h0 hk hp
      · exact ops_patch b w F m h hmb hs o h0 hk hp
    · exact ops_kind b w F m h hmb hs o h0 hk

def deltaM (d : List Cl) : Mk :=
  match d.getLast? with
  | none => Mk.new
  | some c => mkRetain (tellM Mk.new d.dropLast) 1 (diffP [] c.s)

theorem diff_new (s : List At) : diffP [] s = s.map chg := by
  induction s with
  | nil => rfl
  | cons x s ih => rw [diffP_cons, diffAt_nil, ih]; rfl
theorem chg_inj {a b : At} (h : chg a = chg b) : a = b := by
  unfold chg at h
  injection h with h1 h2 h3
  cases a; cases b
  simp only at h1 h3
  rw [h1, h3]
theorem map_chg_inj {s t : List At} (h : s.map chg = t.map chg) : s = t := by
  induction s generalizing t with
  | nil => cases t with
    | nil => rfl
    | cons b t => cases h
  | cons a s ih => cases t with
    | nil => cases h
    | cons b t =>
      simp only [List.map_cons, List.cons.injEq] at h
      rw [chg_inj h.1, ih h.2]
def insU (c : Cl) : Un := .ins c.r c.s
theorem insU_inj {a b : Cl} (h : insU a = insU b) : a = b := by
  unfold insU at h
  injection h with h1 h2
  cases a; cases b
  simp only at h1 h2
  rw [h1, h2]
theorem map_insU_inj {s t : List Cl} (h : s.map insU = t.map insU) : s = t := by
  induction s generalizing t with
  | nil => cases t with
    | nil => rfl
    | cons b t => cases h
  | cons a s ih => cases t with
    | nil => cases h
    | cons b t =>
      simp only [List.map_cons, List.cons.injEq] at h
      rw [insU_inj h.1, ih h.2]
theorem MkAt.tell {m : Mk} {K I : List Un} {g : Nat} (h : MkAt m K I g) (d : List Cl) : MkAt (tellM m d) K (I ++ d.map insU) g := by
  induction d generalizing m I with
  | nil => simpa [tellM] using h
  | cons c d ih =>
    have := ih (h.insert [c.r] c.s)
    rw [List.append_assoc] at this
    exact this
theorem delta_at (t : List Cl) (c : Cl) (hb : t.length ≤ 1000000) : MkAt (deltaM (t ++ [c])) (t.map insU ++ [.ret (c.s.map chg)]) [] 0 := by
  have h1 := (MkAt.new.tell t).retain (n := 1) (p := diffP [] c.s) (by omega) (by simp; omega)
  have e : deltaM (t ++ [c]) = mkRetain (tellM Mk.new t) 1 (diffP [] c.s) := by unfold deltaM; simp
  rw [e, diff_new] at *
  simpa using h1
theorem delta_units (t : List Cl) (c : Cl) (hb : t.length ≤ 1000000) : tight (mkOps (deltaM (t ++ [c]))) ∧ units (mkOps (deltaM (t ++ [c]))) = trim (t.map insU ++ [.ret (c.s.map chg)]) := by
  have h := (delta_at t c hb).ops
  simpa using h
theorem trim_ins (t : List Cl) : trim (t.map insU) = t.map insU := trim_last fun u hu => by
  have hm := List.mem_of_getLast? hu
  obtain ⟨c, _, rfl⟩ := List.mem_map.1 hm
  intro h; cases h
theorem delta_trim (t : List Cl) (s : List At) : trim (t.map insU ++ [.ret (s.map chg)]) = if s = [] then t.map insU else t.map insU ++ [.ret (s.map chg)] := by
  by_cases h : s = []
  · subst h
    rw [if_pos rfl]
    show trim (t.map insU ++ [.ret []]) = _
    rw [trim_snoc, trim_ins]
  · rw [if_neg h, trim_snoc_ne]
    intro e
    injection e with e
    exact h (by simpa using e)
theorem last_ret {t t' : List Cl} {p : List Ch} (h : t.map insU = t'.map insU ++ [.ret p]) : False := by
  have : (t.map insU).getLast? = some (.ret p) := by rw [h]; simp
  have hm := List.mem_of_getLast? this
  obtain ⟨c, _, e⟩ := List.mem_map.1 hm
  cases e
theorem delta_inj {t t' : List Cl} {c c' : Cl} (hb : t.length ≤ 1000000) (hb' : t'.length ≤ 1000000) (hr : c.r = c'.r) (h : mkOps (deltaM (t ++ [c])) = mkOps (deltaM (t' ++ [c']))) : t ++ [c] = t' ++ [c'] := by
  have h1 := (delta_units t c hb).2
  have h2 := (delta_units t' c' hb').2
  rw [h, h2, delta_trim, delta_trim] at h1
  have key : t = t' ∧ c.s = c'.s := by
    by_cases e : c.s = [] <;> by_cases e' : c'.s = []
    · rw [if_pos e, if_pos e'] at h1
      exact ⟨(map_insU_inj h1).symm, e.trans e'.symm⟩
    · rw [if_pos e, if_neg e'] at h1
      exact (last_ret h1.symm).elim
    · rw [if_neg e, if_pos e'] at h1
      exact (last_ret h1).elim
    · rw [if_neg e, if_neg e'] at h1
      have h2 := List.append_inj' h1 rfl
      injection h2.2 with h3 _
      injection h3 with h3
      exact ⟨(map_insU_inj h2.1).symm, (map_chg_inj h3).symm⟩
  obtain ⟨rfl, hs⟩ := key
  cases c; cases c'
  simp only at hr hs
  rw [hr, hs]
theorem mayD_last {l : List Ky} {d : List Cl} (h : mayD l d = 0) : ∃ t c, d = t ++ [c] ∧ c.r = 10 := by
  unfold mayD at h
  split at h
  · cases h
  · split at h
    · cases h
    · split at h
      · cases h
      · split at h
        · cases h
        · rename_i hl
          rcases List.eq_nil_or_concat d with h0 | ⟨t, c, h0⟩
          · subst h0; simp at hl
          · rw [List.concat_eq_append] at h0
            subst h0
            refine ⟨t, c, rfl, ?_⟩
            simpa using hl
theorem apart {l : List Ky} {d o : List Cl} (hd : mayD l d = 0) (ho : mayD l o = 0) (bd : d.length ≤ 1000000) (bo : o.length ≤ 1000000) : decide (mkOps (deltaM d) = mkOps (deltaM o)) = decide (d = o) := by
  obtain ⟨t, c, rfl, hr⟩ := mayD_last hd
  obtain ⟨t', c', rfl, hr'⟩ := mayD_last ho
  by_cases h : t ++ [c] = t' ++ [c']
  · rw [decide_eq_true h, decide_eq_true (congrArg (fun x => mkOps (deltaM x)) h)]
  · rw [decide_eq_false h]
    refine decide_eq_false fun e => h (delta_inj ?_ ?_ (hr.trans hr'.symm) e)
    · simp at bd; omega
    · simp at bo; omega

theorem tight_isOp : ∀ {x : List Opd}, tight x → ∀ o ∈ x, isOp o
  | [], _ => fun o h => by cases h
  | a :: x, h => fun o ho => by
    rcases List.mem_cons.1 ho with rfl | ho
    · exact h.1
    · exact tight_isOp h.2.2 o ho

structure MkB (m : Mk) (K S : Nat) : Prop where
  len : m.done.length + m.ins.length ≤ K
  prt : ∀ o ∈ m.done ++ m.ins, o.r.length ≤ K ∧ o.s.length ≤ S ∧ o.p.length ≤ S
theorem MkB.new (S : Nat) : MkB Mk.new 0 S := ⟨Nat.le_refl _, fun o h => by simp [Mk.new] at h⟩
theorem MkB.mono {m : Mk} {K K' S S' : Nat} (h : MkB m K S) (hK : K ≤ K') (hS : S ≤ S') : MkB m K' S' :=
  ⟨Nat.le_trans h.len hK, fun o ho => by obtain ⟨h1, h2, h3⟩ := h.prt o ho; exact ⟨by omega, by omega, by omega⟩⟩
theorem MkB.gap {m : Mk} {K S : Nat} (h : MkB m K S) : (m.done ++ mkGap m).length ≤ K + 1 ∧ ∀ o ∈ m.done ++ mkGap m, o.r.length ≤ K ∧ o.s.length ≤ S ∧ o.p.length ≤ S := by
  have h1 := h.len
  refine ⟨?_, fun o ho => ?_⟩
  · unfold mkGap
    split <;> simp <;> omega
  · unfold mkGap at ho
    rw [← List.append_assoc] at ho
    rcases List.mem_append.1 ho with ho | ho
    · exact h.prt o ho
    · split at ho
      · simp at ho; subst ho; exact ⟨Nat.zero_le _, Nat.zero_le _, Nat.zero_le _⟩
      · cases ho
theorem addR_bnd {d : List Opd} {n : Int} {p : List Ch} {K S : Nat} (h : ∀ o ∈ d, o.r.length ≤ K ∧ o.s.length ≤ S ∧ o.p.length ≤ S) (hp : p.length ≤ S) :
    (addR d n p).length ≤ d.length + 1 ∧ ∀ o ∈ addR d n p, o.r.length ≤ K ∧ o.s.length ≤ S ∧ o.p.length ≤ S := by
  have push : (d ++ [opR n p]).length ≤ d.length + 1 ∧ ∀ o ∈ d ++ [opR n p], o.r.length ≤ K ∧ o.s.length ≤ S ∧ o.p.length ≤ S := ⟨by simp, fun o ho => by
    rcases List.mem_append.1 ho with ho | ho
    · exact h o ho
    · simp at ho; subst ho; exact ⟨Nat.zero_le _, Nat.zero_le _, hp⟩⟩
  unfold addR
  cases hg : d.getLast? with
  | none => exact push
  | some o =>
    simp only
    by_cases hc : o.k = 1 ∧ o.p = p
    · rw [if_pos hc]
      have hm := List.mem_of_getLast? hg
      refine ⟨by simp, fun x hx => ?_⟩
      rcases List.mem_append.1 hx with hx | hx
      · exact h x ((List.dropLast_sublist _).subset hx)
      · simp at hx; subst hx; exact h o hm
    · rw [if_neg hc]; exact push
theorem MkB.retain {m : Mk} {K S : Nat} (h : MkB m K S) (n : Int) {p : List Ch} (hp : p.length ≤ S) : MkB (mkRetain m n p) (K + 2) S := by
  unfold mkRetain
  split
  · exact h.mono (by omega) (Nat.le_refl _)
  · obtain ⟨g1, g2⟩ := h.gap
    obtain ⟨a1, a2⟩ := addR_bnd (n := n) (p := p) g2 hp
    refine ⟨by show (addR _ n p).length + 0 ≤ _; omega, fun o ho => ?_⟩
    have ho' : o ∈ addR (m.done ++ mkGap m) n p := by simpa using ho
    obtain ⟨h1, h2, h3⟩ := a2 o ho'
    exact ⟨by omega, h2, h3⟩
theorem MkB.delete {m : Mk} {K S : Nat} (h : MkB m K S) (n : Int) : MkB (mkDelete m n) K S := ⟨h.len, h.prt⟩
theorem cutR_sub (d : List Opd) : (cutR d).length ≤ d.length ∧ ∀ o ∈ cutR d, o ∈ d := by
  unfold cutR
  split
  · split
    · exact ⟨(List.dropLast_sublist _).length_le, fun o ho => (List.dropLast_sublist _).subset ho⟩
    · exact ⟨Nat.le_refl _, fun o ho => ho⟩
  · exact ⟨Nat.le_refl _, fun o ho => ho⟩
theorem MkB.ops {m : Mk} {K S : Nat} (h : MkB m K S) : (mkOps m).length ≤ K + 1 ∧ ∀ o ∈ mkOps m, o.r.length ≤ K ∧ o.s.length ≤ S ∧ o.p.length ≤ S := by
  obtain ⟨g1, g2⟩ := h.gap
  obtain ⟨c1, c2⟩ := cutR_sub (m.done ++ mkGap m)
  exact ⟨Nat.le_trans c1 g1, fun o ho => g2 o (c2 o ho)⟩

theorem nf_all {P : Un → Prop} (hd : P .del) {us : List Un} (h : ∀ u ∈ us, P u) : ∀ u ∈ nf us, P u := fun u hu => by
  obtain ⟨k, hk⟩ := trim_pre (canon us)
  refine cn_all hd us [] 0 (by simp) h u ?_
  show u ∈ canon us
  rw [hk]; exact List.mem_append_left _ hu
theorem ok_made {x : List OpS} {m : Mk} {us : List Un} {K S : Nat} (hx : osOf x = mkOps m) (ht : Told m us) (hu : ∀ u ∈ us, okUn u) (hB : MkB m K S) (hK : K ≤ 100000000) (hS : S ≤ 100000000) : (∀ o ∈ x, okOp o.o) ∧ x.length ≤ K + 1 := by
  obtain ⟨h1, h2⟩ := ht.ops
  rw [← hx] at h1 h2
  obtain ⟨b1, b2⟩ := hB.ops
  rw [← hx] at b1 b2
  have hn := nf_all (P := okUn) trivial hu
  rw [← h2] at hn
  refine ⟨fun o ho => ?_, by unfold osOf at b1; simpa using b1⟩
  have hom : o.o ∈ osOf x := by unfold osOf; exact List.mem_map_of_mem ho
  obtain ⟨l1, l2, l3⟩ := b2 o.o hom
  have hop := tight_isOp h1 o.o hom
  have hsub : ∀ u ∈ unitsO o.o, okUn u := fun u hu => hn u (units_mem.2 ⟨o, ho, hu⟩)
  have nilr : okVr ([] : List At) := fun c hc => by cases hc
  have nils : okVs ([] : List Ch) := fun c hc => by cases hc
  refine ⟨?_, ?_, by omega, by omega, by omega⟩
  · rcases isOp_kind hop with hk | hk | hk
    · obtain ⟨e, hr⟩ := opI_of hop hk
      cases hr' : o.o.r with
      | nil => exact absurd hr' hr
      | cons r rs => exact hsub (.ins r o.o.s) (by unfold unitsO; rw [if_pos hk, hr']; simp)
    · obtain ⟨e, hr⟩ := opD_of hop hk
      rw [e]; exact nilr
    · obtain ⟨e, hr⟩ := opR_of hop hk
      rw [e]; exact nilr
  · rcases isOp_kind hop with hk | hk | hk
    · obtain ⟨e, hr⟩ := opI_of hop hk
      rw [e]; exact nils
    · obtain ⟨e, hr⟩ := opD_of hop hk
      rw [e]; exact nils
    · obtain ⟨e, hr⟩ := opR_of hop hk
      obtain ⟨k, hk2⟩ : ∃ k, o.o.n.toNat = k + 1 := ⟨o.o.n.toNat - 1, by omega⟩
      exact hsub (.ret o.o.p) (by unfold unitsO; rw [if_neg (by rw [hk]; decide), if_pos hk, hk2]; simp [List.replicate_succ])
theorem rd_made {w : World} {B : Nat} {A : Option Addr} {c : Nat} {x : List OpS} (ho : OwOs w B (.slice A x.length c) x) (hp : ∀ z ∈ x, ∃ g, PartN w B g z) : RdOp w w.heap.size A x := ⟨ho.rd OpS.enc_len, fun z hz => by
  obtain ⟨g, h1, h2, h3⟩ := hp z hz
  exact ⟨h1.1.rd encI32_len, h2.1.rd At.enc_len, h3.1.rd Ch.enc_len⟩⟩
theorem rd_cells {w : World} {B B2 : Nat} {A : Option Addr} {c : Nat} {v : Value} {L : List ClS} (ho : OwCs w B (.slice A L.length c) L) (hp : ∀ z ∈ L, PartC w B2 v z) : RdCl w w.heap.size A L ∧ (∀ z ∈ L, z.c.s.length ≤ z.cs ∧ z.cs ≤ maxLen) ∧ L.length ≤ c := ⟨⟨ho.rd ClS.enc_len, fun z hz => (hp z hz).1.rd At.enc_len⟩, fun z hz => by
    obtain ⟨_, _, hv, hc1, hc2⟩ := (hp z hz).1.form
    injection hv with _ _ hcc
    subst hcc
    exact ⟨hc1, hc2⟩, ho.cap.1⟩
end Go.Proofs.YtfnkjcodcoehcaaGreatDoor
