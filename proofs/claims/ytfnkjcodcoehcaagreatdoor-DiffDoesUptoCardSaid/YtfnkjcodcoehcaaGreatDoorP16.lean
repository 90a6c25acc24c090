/- Merged texts: Mkr, CellNew, EachW, RangeGrow, ApplyNew, ApplyOk, CellsMay2, ApplyW, FitNf, MkGap. -/
import Derived.Deep.RegionHeld3
import Derived.IntWalk
import Derived.Test.YtfnkjcodcoehcaaGreatDoorP15
import Derived.Test.YtfnkjcodcoehcaaGreatDoorP9
import Derived.Test.YtfnkjcodcoehcaaGreatDoorP13
import Derived.Test.YtfnkjcodcoehcaaGreatDoorP12
import Derived.Test.YtfnkjcodcoehcaaGreatDoorP10
import Derived.RangeFuncBox
import Derived.RangeFuncCalls
import Derived.RangeFuncLeaves
import Derived.Shelf.Abstract
import Derived.OwnWalkIn
import Derived.TacticsInMore
import Derived.LoopNIn
import Derived.LoopIn
import Derived.Sort.LoopGhostIn
import Derived.Sort.QuietIn
import Derived.BigRegionIn
import Derived.Laws.Rows
import Derived.Test.YtfnkjcodcoehcaaGreatDoorP14
import Derived.Test.YtfnkjcodcoehcaaGreatDoorP3
namespace Go.Proofs.YtfnkjcodcoehcaaGreatDoor
open Go.RowKit
set_option linter.unusedVariables false
set_option linter.unusedSimpArgs false

/-- the parts of an op read, and lie where is not written -/
def PartF (w : World) (F : Nat → Prop) (x : OpS) : Prop :=
  (RdI32 w w.heap.size x.Ar x.o.r ∧ OffF F x.Ar x.o.r.length) ∧ (RdAt w w.heap.size x.As x.o.s ∧ OffF F x.As x.o.s.length) ∧ (RdCh w w.heap.size x.Ap x.o.p ∧ OffF F x.Ap x.o.p.length)
theorem PartF.grow {w w' : World} {F G : Nat → Prop} {x : OpS} (h : PartF w F x) (g : Grow w F w' G) : PartF w' G x :=
  ⟨⟨h.1.1.grow g h.1.2, h.1.2.grow h.1.1 g⟩, ⟨h.2.1.1.grow g h.2.1.2, h.2.1.2.grow h.2.1.1 g⟩, ⟨h.2.2.1.grow g h.2.2.2, h.2.2.2.grow h.2.2.1 g⟩⟩
theorem PartF.less {w : World} {F G : Nat → Prop} {x : OpS} (h : PartF w F x) (hs : ∀ k, G k → F k) : PartF w G x :=
  ⟨⟨h.1.1, h.1.2.less hs⟩, ⟨h.2.1.1, h.2.1.2.less hs⟩, ⟨h.2.2.1, h.2.2.2.less hs⟩⟩
/-- the runes of the last insert are the maker's own -/
def LastF (w : World) (F : Nat → Prop) (b : Nat) (vd vi : Value) (x : OpS) : Prop :=
  OwI32 w 0 (.slice x.Ar x.o.r.length x.cr) x.o.r ∧ (∀ k, wb (.slice x.Ar x.o.r.length x.cr) = some k → F k ∧ k ≠ b ∧ wb vd ≠ some k ∧ wb vi ≠ some k) ∧
  (RdAt w w.heap.size x.As x.o.s ∧ OffF F x.As x.o.s.length) ∧ (RdCh w w.heap.size x.Ap x.o.p ∧ OffF F x.Ap x.o.p.length)
/-- what the parts of the inserts are -/
def InsF (w : World) (F : Nat → Prop) (b : Nat) (vd vi : Value) (I : List OpS) : Prop :=
  (∀ x ∈ I.dropLast, PartF w F x) ∧ ∀ x, I.getLast? = some x → LastF w F b vd vi x
/-- block b holds a maker m; F: what it may write -/
def Mkr (w : World) (F : Nat → Prop) (b : Nat) (m : Mk) : Prop :=
  ∃ (vd vi : Value) (D I : List OpS), w.heap[b]? = some (.cells #[vd, vi, .int .i64 m.gone] 189 (0, 0)) ∧
    OwOs w 0 vd D ∧ OwOs w 0 vi I ∧ osOf D = m.done ∧ osOf I = m.ins ∧
    (∀ k, F k → k < w.heap.size) ∧ F b ∧ (∀ k, wb vd = some k → F k ∧ k ≠ b ∧ wb vi ≠ some k) ∧ (∀ k, wb vi = some k → F k ∧ k ≠ b) ∧
    (∀ x ∈ D, PartF w F x) ∧ InsF w F b vd vi I
theorem box_3 {w : World} {b : Nat} {t : TypeId} {c0 c1 c2 : Value} (h : w.heap[b]? = some (.cells #[c0, c1, c2] t (0, 0))) : w.cell? ⟨b, 0, none⟩ = some c0 ∧ w.cell? ⟨b, 1, none⟩ = some c1 ∧ w.cell? ⟨b, 2, none⟩ = some c2 := by
  simp [World.cell?, h]
theorem Mkr.lt {w : World} {F : Nat → Prop} {b : Nat} {m : Mk} (h : Mkr w F b m) : ∀ k, F k → k < w.heap.size := by
  obtain ⟨_, _, _, _, _, _, _, _, _, h1, _⟩ := h; exact h1
/-- a maker stays while nothing of it is written -/
theorem Mkr.below {w w' : World} {F : Nat → Prop} {b : Nat} {m : Mk} (h : Mkr w F b m) (y : Below w.heap.size w w') : Mkr w' F b m := by
  obtain ⟨vd, vi, D, I, h1, h2, h3, h4, h5, h6, h7, h8, h9, h10, h11, h12⟩ := h
  have g := Grow.of (F := F) y
  refine ⟨vd, vi, D, I, (y.block b (lt_of_some h1)).trans h1, h2.below y (Nat.le_refl _), h3.below y (Nat.le_refl _), h4, h5, fun k hk => Nat.lt_of_lt_of_le (h6 k hk) y.size, h7, h8, h9, fun x hx => (h10 x hx).grow g, fun x hx => (h11 x hx).grow g, fun x hx => ?_⟩
  obtain ⟨e1, e2, e3, e4⟩ := h12 x hx
  exact ⟨e1.below y (Nat.le_refl _), e2, ⟨e3.1.grow g e3.2, e3.2.grow e3.1 g⟩, ⟨e4.1.grow g e4.2, e4.2.grow e4.1 g⟩⟩

set_option maxHeartbeats 800000 in
theorem mkNew_any (w : World) : Calls Tryz.prog 74 #[] w fun e w' => e = .returned (.pointer (some ⟨w.heap.size, 0, none⟩)) ∧ Mkr w' (fun k => k = w.heap.size) w.heap.size Mk.new ∧ Below w.heap.size w w' := by
  have y := ext_alloc w (.cells #[.slice none 0 0, .slice none 0 0, .int .i64 0] 189)
  have hb := heap_alloc_new w (.cells #[.slice none 0 0, .slice none 0 0, .int .i64 0] 189)
  have HB := Lib.hid hb
  clear hb
  go_enter Tryz.func74, Tryz.ntmps74
  go_wp2_with (fail)
  go_ret
  refine ⟨rfl, ⟨.slice none 0 0, .slice none 0 0, [], [], HB.out, Ow.nil _ _, Ow.nil _ _, rfl, rfl, fun k hk => (by subst hk; simp), rfl, fun k hk => (by cases hk), fun k hk => (by cases hk), fun x hx => (by cases hx), fun x hx => (by cases hx), fun x hx => (by cases hx)⟩, y⟩

theorem setCell_below {w : World} (b j : Nat) (u : Value) {F : Nat → Prop} (hF : F b) (t : TypeId) : Grow w F (w.setCell ⟨b, j, none⟩ u) F :=
  ⟨rfl, rfl, rfl, by simp [World.setCell], fun k _ hk => Below.heap_setCell w ⟨b, j, none⟩ u k (fun e => hk (e ▸ hF)), fun k h => .inl h⟩
/-- what a call on a maker leaves -/
def MkOut (m : Mk) (w : World) (F : Nat → Prop) (b : Nat) (e : Ending) (w' : World) : Prop :=
  e = .returned (.tuple #[]) ∧ ∃ F', Mkr w' F' b m ∧ Grow w F w' F'
theorem owOs_set {w : World} {v : Value} {l : List OpS} (h : OwOs w 0 v l) {b j : Nat} (hp : ∀ k, wb v = some k → k ≠ b) (u : Value) : OwOs (w.setCell ⟨b, j, none⟩ u) 0 v l :=
  h.setCell (p := ⟨b, j, none⟩) (fun e => hp b e rfl) u
theorem Mkr.setGone {w : World} {F : Nat → Prop} {b : Nat} {m : Mk} (h : Mkr w F b m) (g : Int) : Mkr (w.setCell ⟨b, 2, none⟩ (.int .i64 g)) F b { m with gone := g } := by
  obtain ⟨vd, vi, D, I, h1, h2, h3, h4, h5, h6, h7, h8, h9, h10, h11, h12⟩ := h
  have gr := setCell_below (w := w) b 2 (.int .i64 g) h7 0
  refine ⟨vd, vi, D, I, ?_, owOs_set h2 (fun k hk => (h8 k hk).2.1) _, owOs_set h3 (fun k hk => (h9 k hk).2) _, h4, h5, fun k hk => Nat.lt_of_lt_of_le (h6 k hk) gr.size, h7, h8, h9, fun x hx => (h10 x hx).grow gr, fun x hx => (h11 x hx).grow gr, fun x hx => ?_⟩
  · rw [heap_setCell_self h1]; rfl
  · obtain ⟨e1, e2, e3, e4⟩ := h12 x hx
    exact ⟨e1.setCell (p := ⟨b, 2, none⟩) (fun e => (e2 b e).2.1 rfl) _, e2, ⟨e3.1.grow gr e3.2, e3.2.grow e3.1 gr⟩, ⟨e4.1.grow gr e4.2, e4.2.grow e4.1 gr⟩⟩
theorem Mkr.box {w : World} {F : Nat → Prop} {b : Nat} {m : Mk} (h : Mkr w F b m) : ∃ vd vi : Value, w.heap[b]? = some (.cells #[vd, vi, .int .i64 m.gone] 189 (0, 0)) ∧ F b := by
  obtain ⟨vd, vi, _, _, h1, _, _, _, _, _, h7, _⟩ := h
  exact ⟨vd, vi, h1, h7⟩
theorem box_thaw {w : World} {b : Nat} {cs : Array Value} {t : TypeId} (h : w.heap[b]? = some (.cells cs t (0, 0))) (j : Nat) : w.frozen? ⟨b, j, none⟩ = false := by simp [World.frozen?, h]

set_option maxHeartbeats 800000 in
theorem mkDelete_any (b : Nat) (n : Int) (w : World) (F : Nat → Prop) (m : Mk) (h : Mkr w F b m) :
    Calls Tryz.prog 82 #[.pointer (some ⟨b, 0, none⟩), .int .i64 n] w (MkOut (mkDelete m n) w F b) := by
  obtain ⟨vd, vi, h1, h7⟩ := h.box
  obtain ⟨W, hW⟩ : ∃ X, IntKind.i64.wrap (m.gone + (if n < 0 then 0 else n)) = X := ⟨_, rfl⟩
  have hs := h.setGone W
  have hm : ({ m with gone := W } : Mk) = mkDelete m n := by unfold mkDelete; rw [hW]
  rw [hm] at hs
  have gr := setCell_below (w := w) b 2 (.int .i64 W) h7 0
  have HS := Lib.hid hs
  have HW := Lib.hid hW
  obtain ⟨c0, c1, c2⟩ := box_3 h1
  have hf := box_thaw h1 2
  have hlt := lt_of_some h1
  generalize hg : m.gone = g at *
  clear hm hs hW h1 h
  have e : Hid (wrap64 (g + max n 0) = W) := Lib.hid (by
    have e0 : g + max n 0 = g + (if n < 0 then 0 else n) := by split <;> omega
    rw [e0, ← HW.out, IntWalk.i64_left])
  go_enter Tryz.func82, Tryz.ntmps82
  go_wp2_with (fail)
  refine bodyPost_ret (results_none rfl _ _ _) rfl ?_
  rw [e.out]
  exact ⟨rfl, F, HS.out, gr⟩
end Go.Proofs.YtfnkjcodcoehcaaGreatDoor
namespace Go.Proofs.YtfnkjcodcoehcaaGreatDoor
open Go.RowKit
set_option linter.unusedVariables false
set_option linter.unusedSimpArgs false

/-- a cell's set is the call's own, and lies in another block than the row v -/
def PartC (w : World) (B : Nat) (v : Value) (x : ClS) : Prop :=
  OwAt w B (.slice x.As x.c.s.length x.cs) x.c.s ∧ ∀ k, wb (.slice x.As x.c.s.length x.cs) = some k → wb v ≠ some k
theorem PartC.below {w w' : World} {B : Nat} {v : Value} {x : ClS} (h : PartC w B v x) (y : Below w.heap.size w w') : PartC w' B v x := ⟨h.1.below y (Nat.le_refl _), h.2⟩
theorem PartC.base_le {w : World} {B B' : Nat} {v : Value} {x : ClS} (h : PartC w B v x) (hb : B' ≤ B) : PartC w B' v x := ⟨h.1.base_le hb, h.2⟩
/-- across an append to the row -/
theorem PartC.app {w w' : World} {B : Nat} {v v' : Value} {x : ClS} (h : PartC w B v x) (hg : w.grownBy w' (wb v)) (hv : v' = v ∧ w' = w ∨ wb v' = wb v ∨ wb v' = some w.heap.size) : PartC w' B v' x := by
  refine ⟨h.1.keep fun k hk => hg.block k (h.1.wb_lt k hk).2 (fun e => h.2 k hk e.symm), fun k hk => ?_⟩
  have hlt := (h.1.wb_lt k hk).2
  rcases hv with ⟨rfl, _⟩ | hv | hv
  · exact h.2 k hk
  · rw [hv]; exact h.2 k hk
  · rw [hv]; intro e; injection e with e; omega
/-- across a write into the row -/
theorem PartC.set {w : World} {B g n c j : Nat} {u : Value} {x : ClS} (h : PartC w B (.slice (some ⟨g, 0, none⟩) n (c + 1)) x) : PartC (w.setCell ⟨g, j, none⟩ u) B (.slice (some ⟨g, 0, none⟩) n (c + 1)) x :=
  ⟨h.1.setCell (p := ⟨g, j, none⟩) (fun e => h.2 g e rfl) u, h.2⟩
/-- cells of the call's own, down to their sets -/
def NewCls (o : List Cl) (w : World) (e : Ending) (w' : World) : Prop :=
  ∃ A c l, e = .returned (.slice A l.length c) ∧ clsOf l = o ∧ OwCs w' w.heap.size (.slice A l.length c) l ∧ (∀ x ∈ l, PartC w' w.heap.size (.slice A l.length c) x) ∧ Below w.heap.size w w'

set_option maxRecDepth 100000 in
set_option maxHeartbeats 1600000 in
theorem copyCells_any (A : Option Addr) (n c : Nat) (l : List ClS) (w : World) (hn : n = l.length) (h : RdCl w w.heap.size A l) (hb : n ≤ 100000000) (hs : ∀ x ∈ l, x.c.s.length ≤ 100000000) :
    Calls Tryz.prog 63 #[.slice A n c] w (NewCls (clsOf l) w) := by
  have N := Lib.hid hn
  have HS := Lib.hid hs
  have HR := Lib.hid h.1
  have HP := Lib.hid h.2
  clear hn hs h
  go_enter Tryz.func63, Tryz.ntmps63
  go_wp2_with (go_at_call 142; refine Hid.out ?_)
  refine Lib.hid ?_
  refine (cloneCs_any A n c l w N.out HR.out (by omega)).mono ?_
  rintro e w1 ⟨A1, k1, rfl, o1, y1⟩
  have O1 := Lib.hid o1
  have Y1 := Lib.hid y1
  have LB := Lib.hid (show l.length ≤ 100000000 by have := N.out; omega)
  clear o1 y1
  go_wp2_with (fail)
  go_loopg [9] l.length (fun g iv wr => ∃ (m : Nat) (D : List ClS), m ≤ l.length ∧ g = l.length - m ∧ iv = .int .i64 (m : Int) ∧ D.length = m ∧ clsOf D = clsOf (l.take m) ∧
    OwCs wr w.heap.size (.slice A1 l.length k1) (D ++ l.drop m) ∧ (∀ x ∈ D, PartC wr w.heap.size (.slice A1 l.length k1) x) ∧ Below w.heap.size w wr)
  case atStart => exact ⟨0, [], by omega, rfl, rfl, rfl, rfl, O1.out, fun x hx => (by cases hx), Y1.out⟩
  case round =>
    obtain ⟨m, D, hm, hg, rfl, hD, hDo, ho, hDp, y⟩ := hrel
    have HG := Lib.hid hg
    clear hg
    by_cases hlt : m < l.length
    · obtain ⟨x, hxi⟩ : ∃ x, l[m]? = some x := ⟨l[m], by rw [List.getElem?_eq_getElem hlt]⟩
      have hdrop : l.drop m = x :: l.drop (m + 1) := by
        rw [List.drop_eq_getElem_cons hlt]; rw [List.getElem?_eq_getElem hlt] at hxi; injection hxi with hxi; rw [hxi]
      have hxm := List.mem_of_getElem? hxi
      rw [hdrop] at ho
      have hlen : (D ++ x :: l.drop (m + 1)).length = l.length := by rw [List.length_append, hD, List.length_cons, List.length_drop]; omega
      have hi : m < (D ++ x :: l.drop (m + 1)).length := by omega
      obtain ⟨g, cur, hA, hq1, hBg, hgb, hq2, hq3, hq4, hq5⟩ := ho.row (by omega)
      have hk1 : 0 < k1 := by omega
      clear hq1 hq2 hq3 hq4 hq5
      subst hA
      obtain ⟨ad, hA2, _, hcx⟩ := (ho.rd ClS.enc_len).at_ hi
      injection hA2 with hA2
      subst hA2
      rw [add_row] at hcx
      have hx : (D ++ x :: l.drop (m + 1))[m] = x := by simp [List.getElem_append_right, hD]
      rw [hx] at hcx
      have p1 := Lib.hid ((HP.out x hxm).ext y)
      have hS := Lib.hid (HS.out x hxm)
      obtain ⟨k2, rfl⟩ : ∃ k2, k1 = k2 + 1 := ⟨k1 - 1, by omega⟩
      have HDP := Lib.hid hDp
      have hglt := lt_of_some hgb
      have HT := Lib.hid (show clsOf (D ++ [x]) = clsOf (l.take (m + 1)) by
        rw [List.take_add_one, hxi]; unfold clsOf at hDo ⊢; rw [List.map_append, List.map_append, hDo]; rfl)
      have HO := Lib.hid ho
      have HGB := Lib.hid hgb
      have HD := Lib.hid hD
      obtain ⟨⟨r, s⟩, As, cs⟩ := x
      obtain ⟨z0, z1⟩ := cl_cells hcx
      have hfr : ∀ j, wr.frozen? ⟨g, j, none⟩ = false := fun j => box_thaw hgb j
      have e1 : (m : Int) < (l.length : Int) := by omega
      have hw2 : IntKind.i64.wrap ((m:Int) + 1) = (m : Int) + 1 := IntWalk.i64_in _ (by have := LB.out; omega)
      clear hcx hx ho hDp hDo hxi hdrop hgb hD hlen hi hxm z0
      go_wp2_with (go_at_call 143; refine Hid.out ?_)
      refine Lib.hid ?_
      refine (copy_any As s.length cs s wr rfl p1.out hS.out).mono ?_
      rintro e w2 ⟨A2, c2, rfl, o2, y2⟩
      have O2 := Lib.hid o2
      have Y2 := Lib.hid y2
      have hgb2 := (y2.block g hglt).trans HGB.out
      have hf2 : w2.frozen? ⟨g, m * 2 + 1, none⟩ = false := box_thaw hgb2 _
      have HC2 : Hid (∃ cur', w2.heap[g]? = some (.cells cur' 38 (0, 0))) := Lib.hid ⟨_, hgb2⟩
      have z1' : w2.cell? ⟨g, m * 2 + 1, none⟩ = some (.slice As s.length cs) := (y2.cell (p := ⟨g, m * 2 + 1, none⟩) hglt).trans z1
      clear o2 y2 hgb2
      go_wp2_with (fail)
      have ho2 := HO.out.below Y2.out (Nat.le_refl _)
      have hS3 := Ow.setEl ClS.enc_len ho2 (i := m) (j := 1) (u := .slice A2 s.length c2) (a' := ⟨⟨r, s⟩, A2, c2⟩) (by simp; have := HD.out; omega) (by omega) (by simp [List.getElem_append_right, HD.out, ClS.enc])
      rw [List.set_append_right _ _ (by have := HD.out; omega), show m - D.length = 0 by have := HD.out; omega, List.set_cons_zero] at hS3
      have yz := (ext_trans y Y2.out).setCell (p := ⟨g, m * 2 + 1, none⟩) hBg (.slice A2 s.length c2)
      have hP3 : ∀ x ∈ D ++ [(⟨⟨r, s⟩, A2, c2⟩ : ClS)], PartC (w2.setCell ⟨g, m * 2 + 1, none⟩ (.slice A2 s.length c2)) w.heap.size (.slice (some ⟨g, 0, none⟩) l.length (k2 + 1)) x := fun x hx => by
        rcases List.mem_append.1 hx with hx | hx
        · exact ((HDP.out x hx).below Y2.out).set
        · simp at hx; subst hx
          refine PartC.set ⟨O2.out.base_le y.size, fun k hk e => ?_⟩
          have h1 := (O2.out.wb_lt k hk).1
          injection e with e
          have e : g = k := e
          omega
      go_roundg (l.length - (m + 1))
      case measure => have := HG.out; omega
      case rel => exact ⟨m + 1, D ++ [⟨⟨r, s⟩, A2, c2⟩], by omega, rfl, by go_num, by rw [List.length_append, HD.out]; rfl, by rw [← HT.out]; simp [clsOf], by rw [List.append_assoc]; exact hS3, hP3, yz⟩
    · have hml : m = l.length := by omega
      subst hml
      have HO := Lib.hid ho
      have HDP := Lib.hid hDp
      have HDO := Lib.hid hDo
      have HD := Lib.hid hD
      clear ho hDp hDo hD
      go_wp2_with (fail)
      go_ret
      have hd : l.drop l.length = [] := by simp
      have ho := HO.out
      have hp := HDP.out
      rw [hd, List.append_nil] at ho
      have hl : l.length = D.length := HD.out.symm
      rw [hl] at ho hp ⊢
      exact ⟨A1, k1, D, rfl, by rw [HDO.out, List.take_length], ho, hp, y⟩
end Go.Proofs.YtfnkjcodcoehcaaGreatDoor
namespace Go.Proofs.YtfnkjcodcoehcaaGreatDoor
open Go.RowKit Go.Shelf
set_option linter.unusedVariables false
set_option linter.unusedSimpArgs false
attribute [local go_sem] Oper.semAt_some

/-- what a round is handed of a cell -/
structure ClGive (w0 W : World) (G : Nat → Prop) (Bd : Nat) (z : ClS) : Prop where
  ow : OwAt W w0.heap.size (.slice z.As z.c.s.length z.cs) z.c.s
  off : ∀ k, wb (.slice z.As z.c.s.length z.cs) = some k → ¬ G k ∧ k ≠ Bd
/-- the iterator's boxes, and what is left of the cells -/
structure EachSt (w0 wr : World) (Bs Bd Bx sc : Nat) (Ax : Option Addr) (nx cx : Nat) (r : List ClS) : Prop where
  y : Below w0.heap.size w0 wr
  s : wr.heap[Bs]? = some (.cells #[.pointer (some ⟨sc, 0, none⟩)] 26 (0, 0))
  x : wr.heap[Bx]? = some (.cells #[.slice Ax nx cx] 44 (0, 0))
  d : ∃ A n c, wr.heap[Bd]? = some (.cells #[.slice A n c] 23 (0, 0)) ∧ n = r.length ∧ n ≤ c ∧ RdCl w0 w0.heap.size A r
theorem EachSt.grow {w0 wr w2 : World} {Bs Bd Bx sc nx cx : Nat} {Ax : Option Addr} {r : List ClS} {G G' : Nat → Prop} (h : EachSt w0 wr Bs Bd Bx sc Ax nx cx r) (g : Grow wr G w2 G') (hG : ∀ k, G k → k ≠ Bd ∧ k ≠ Bs ∧ k ≠ Bx ∧ w0.heap.size ≤ k) : EachSt w0 w2 Bs Bd Bx sc Ax nx cx r := by
  have hy := h.y
  refine ⟨hy.trans (g.below (fun k hk => (hG k hk).2.2.2) hy.size), ?_, ?_, ?_⟩
  · exact (g.block Bs (lt_of_some h.s) (fun e => (hG _ e).2.1 rfl)).trans h.s
  · exact (g.block Bx (lt_of_some h.x) (fun e => (hG _ e).2.2.1 rfl)).trans h.x
  · obtain ⟨A, n, c, h1, h2⟩ := h.d
    exact ⟨A, n, c, (g.block Bd (lt_of_some h1) (fun e => (hG _ e).1 rfl)).trans h1, h2⟩
theorem EachSt.ext {w0 wr w2 : World} {Bs Bd Bx sc nx cx : Nat} {Ax : Option Addr} {r : List ClS} (h : EachSt w0 wr Bs Bd Bx sc Ax nx cx r) (y : Below wr.heap.size wr w2) : EachSt w0 w2 Bs Bd Bx sc Ax nx cx r :=
  h.grow (G := fun _ => False) (G' := fun _ => False) ⟨y.os, y.tape, y.output, y.size, fun j hj _ => y.block j hj, fun _ h => h.elim⟩ (fun _ h => h.elim)
end Go.Proofs.YtfnkjcodcoehcaaGreatDoor
namespace Go.Proofs.YtfnkjcodcoehcaaGreatDoor
open Go.RowKit Go.Shelf
set_option linter.unusedVariables false
set_option linter.unusedSimpArgs false

/-- the footprint with the loop's two blocks -/
def Un2 (G : Nat → Prop) (B : Nat) (k : Nat) : Prop := G k ∨ k = B ∨ k = B + 1
end Go.Proofs.YtfnkjcodcoehcaaGreatDoor
namespace Go.Proofs.YtfnkjcodcoehcaaGreatDoor
open Go.RowKit Go.Shelf
set_option linter.unusedVariables false
set_option linter.unusedSimpArgs false

/-- what has come lies in a slice of the call's own, whose value stands in box m -/
def ApI (w0 : World) (m : Nat) (p : List Cl) (G : Nat → Prop) (W : World) : Prop :=
  ∃ v L, W.heap[m]? = some (.cells #[v] 23 (0, 0)) ∧ clsOf L = p ∧ OwCs W (m + 6) v L ∧ (∀ z ∈ L, PartC W w0.heap.size v z ∧ ∀ k, wb (.slice z.As z.c.s.length z.cs) = some k → k ≠ m ∧ k ≠ m + 2 ∧ k ≠ m + 4 ∧ k ≠ m + 5) ∧
    Below w0.heap.size w0 W ∧ ∀ k, G k ↔ k = m ∨ wb v = some k
theorem ApI.keep {w0 A B : World} {m : Nat} {p : List Cl} {G : Nat → Prop} (hm : w0.heap.size ≤ m) (h : ApI w0 m p G A) (g : Grow A (fun k => k = m + 4 ∨ k = m + 4 + 1 ∨ k = m + 2) B (fun k => k = m + 4 ∨ k = m + 4 + 1 ∨ k = m + 2)) : ApI w0 m p G B := by
  obtain ⟨v, L, hb, hL, ho, hp, y, hG⟩ := h
  refine ⟨v, L, (g.block m (lt_of_some hb) (by omega)).trans hb, hL, ho.keep fun k hk => g.block k (ho.wb_lt k hk).2 (by have := (ho.wb_lt k hk).1; omega), fun z hz => ?_, y.trans (g.below (fun k hk => by omega) y.size), hG⟩
  obtain ⟨hz1, hz2⟩ := hp z hz
  exact ⟨⟨hz1.1.keep fun k hk => g.block k (hz1.1.wb_lt k hk).2 (by have := hz2 k hk; omega), hz1.2⟩, hz2⟩
theorem ApI.foot {w0 A : World} {m : Nat} {p : List Cl} {G : Nat → Prop} (hm : w0.heap.size ≤ m) (h : ApI w0 m p G A) : ∀ k, G k → k < A.heap.size ∧ (k = m ∨ m + 6 ≤ k) := fun k hk => by
  obtain ⟨v, L, hb, hL, ho, hp, y, hG⟩ := h
  rcases (hG k).1 hk with rfl | h1
  · exact ⟨lt_of_some hb, .inl rfl⟩
  · exact ⟨(ho.wb_lt k h1).2, .inr (ho.wb_lt k h1).1⟩
theorem ApI.app {w0 W W2 w3 : World} {m : Nat} {p : List Cl} {G : Nat → Prop} {v v' : Value} {L : List ClS} {z : ClS} (hm : w0.heap.size ≤ m) (hb : W.heap[m]? = some (.cells #[v] 23 (0, 0))) (hL : clsOf L = p) (ho : OwCs W (m + 6) v L)
    (hp : ∀ z ∈ L, PartC W w0.heap.size v z ∧ ∀ k, wb (.slice z.As z.c.s.length z.cs) = some k → k ≠ m ∧ k ≠ m + 2 ∧ k ≠ m + 4 ∧ k ≠ m + 5) (y : Below w0.heap.size w0 W) (hG : ∀ k, G k ↔ k = m ∨ wb v = some k)
    (hz : OwAt W w0.heap.size (.slice z.As z.c.s.length z.cs) z.c.s) (hzo : ∀ k, wb (.slice z.As z.c.s.length z.cs) = some k → ¬ Un2 G (m + 4) k ∧ k ≠ m + 2) (hs : m + 6 ≤ W.heap.size)
    (y2 : Below W.heap.size W W2) (hgr : W2.grownBy w3 (wb v)) (hown' : OwCs w3 (m + 6) v' (L ++ [z])) (hv' : v' = v ∧ w3 = W2 ∨ wb v' = wb v ∨ wb v' = some W2.heap.size) :
    w3.heap[m]? = some (.cells #[v] 23 (0, 0)) ∧ ∃ G', ApI w0 m (p ++ [z.c]) G' (w3.setCell ⟨m, 0, none⟩ v') ∧ Grow W G (w3.setCell ⟨m, 0, none⟩ v') G' := by
  have b2 := (y2.block m (lt_of_some hb)).trans hb
  have nm : wb v ≠ some m := fun e => by have := (ho.wb_lt m e).1; omega
  have b3 := (hgr.block m (lt_of_some b2) (fun e => nm e.symm)).trans b2
  refine ⟨b3, fun k => k = m ∨ wb v' = some k, ?_, ?_⟩
  · have b4 := heap_setCell_self (j := 0) b3 v'
    have gs := setCell_below (w := w3) m 0 v' (F := fun k => k = m) rfl 0
    have nm' : wb v' ≠ some m := fun e => by have := (hown'.wb_lt m e).1; omega
    refine ⟨v', L ++ [z], by simpa using b4, ?_, hown'.setCell (p := ⟨m, 0, none⟩) nm' v', ?_, ?_, fun _ => Iff.rfl⟩
    · rw [← hL]; unfold clsOf; simp
    · intro x hx
      have hx2 : PartC W w0.heap.size v x ∧ ∀ k, wb (.slice x.As x.c.s.length x.cs) = some k → k ≠ m ∧ k ≠ m + 2 ∧ k ≠ m + 4 ∧ k ≠ m + 5 := by
        rcases List.mem_append.1 hx with hx | hx
        · exact hp x hx
        · simp at hx; subst hx
          refine ⟨⟨hz, fun k hk e => (hzo k hk).1 (.inl ((hG k).2 (.inr e)))⟩, fun k hk => ⟨fun e => (hzo k hk).1 (.inl ((hG k).2 (.inl e))), (hzo k hk).2, fun e => (hzo k hk).1 (.inr (.inl e)), fun e => (hzo k hk).1 (.inr (.inr (by omega)))⟩⟩
      have h3 := (hx2.1.below y2).app hgr hv'
      exact ⟨⟨h3.1.setCell (p := ⟨m, 0, none⟩) (fun e => (hx2.2 m e).1 rfl) v', h3.2⟩, hx2.2⟩
    · have y3 : Below w0.heap.size w0 w3 := (y.trans (y2.mono y.size)).grown hgr (by have := y.size; have := y2.size; omega) (fun k e => by have := (ho.wb_lt k e).1; omega)
      exact y3.trans (gs.below (fun k hk => by omega) y3.size)
  · have gs := setCell_below (w := w3) m 0 v' (F := fun k => k = m ∨ wb v' = some k) (.inl rfl) 0
    have g3 : Grow W G w3 (fun k => k = m ∨ wb v' = some k) := ⟨hgr.os.trans y2.os, hgr.tape.trans y2.tape, hgr.output.trans y2.output, Nat.le_trans y2.size hgr.size,
      fun j hj hn => (hgr.block j (Nat.lt_of_lt_of_le hj y2.size) (fun e => hn ((hG j).2 (.inr e.symm)))).trans (y2.block j hj),
      fun k hk => by
        rcases hk with rfl | hk
        · exact .inl ((hG _).2 (.inl rfl))
        · rcases hv' with ⟨rfl, _⟩ | h1 | h1
          · exact .inl ((hG k).2 (.inr hk))
          · exact .inl ((hG k).2 (.inr (by rw [← h1]; exact hk)))
          · rw [h1] at hk; injection hk with hk; have := y2.size; exact .inr (by omega)⟩
    exact g3.trans gs
end Go.Proofs.YtfnkjcodcoehcaaGreatDoor
namespace Go.Proofs.YtfnkjcodcoehcaaGreatDoor
set_option linter.unusedVariables false
set_option linter.unusedSimpArgs false

/-- the fields' ranges of a unit's values -/
def okUn : Un → Prop
  | .ins r s => okVr s
  | .del => True
  | .ret p => okVs p
/-- what comes may be, and has values in their ranges -/
structure Came (l : List Ky) (us : List Un) (d : List Cl) (o : List Cl) : Prop where
  eq : o = app l us d
  may : mayD l o = 0
  len : o.length + takesU us = d.length + makesU us
  s64 : ∀ c ∈ o, c.s.length ≤ 64
  vr : ∀ c ∈ o, okVr c.s
end Go.Proofs.YtfnkjcodcoehcaaGreatDoor
namespace Go.Proofs.YtfnkjcodcoehcaaGreatDoor
open Go.RowKit
set_option linter.unusedVariables false
set_option linter.unusedSimpArgs false

theorem lastIs {d : List ClS} {x : ClS} (h : d[d.length - 1]? = some x) : (clsOf d).getLast? = some x.c := by
  rw [List.getLast?_eq_getElem?]
  unfold clsOf
  rw [List.length_map, List.getElem?_map, h]
  rfl
set_option maxRecDepth 100000 in
set_option maxHeartbeats 1600000 in
theorem mayCells_any (s : Nat) (l : List Ky) (A : Option Addr) (n c : Nat) (d : List ClS) (w : World) (hn : n = d.length) (h : RdCl w w.heap.size A d) (hb : n ≤ 100000) (hS : Sch w s l)
    (hcs : ∀ x ∈ d, x.c.s.length ≤ 100000000 ∧ okVr x.c.s) (hT : Lib.Utf8Tabs 1 2 w) :
    Calls Tryz.prog 56 #[.pointer (some ⟨s, 0, none⟩), .slice A n c] w fun e w' => e = .returned (.int .i64 (mayD l (clsOf d))) ∧ Below w.heap.size w w' := by
  have ya := ext_alloc w (.cells #[.pointer (some ⟨s, 0, none⟩)] 26)
  have yb := ext_alloc (w.alloc (.cells #[.pointer (some ⟨s, 0, none⟩)] 26)) (.cells #[.slice A n c] 23)
  have g1 := heap_alloc_new w (.cells #[.pointer (some ⟨s, 0, none⟩)] 26)
  have g2 := heap_alloc_new (w.alloc (.cells #[.pointer (some ⟨s, 0, none⟩)] 26)) (.cells #[.slice A n c] 23)
  have G1 := (yb.block w.heap.size (by simp)).trans g1
  rw [World.size_alloc] at g2
  have y := ext_trans ya yb
  have k1 : ∀ w', Below ((w.alloc (.cells #[.pointer (some ⟨s, 0, none⟩)] 26)).alloc (.cells #[.slice A n c] 23)).heap.size ((w.alloc (.cells #[.pointer (some ⟨s, 0, none⟩)] 26)).alloc (.cells #[.slice A n c] 23)) w' →
      Below w.heap.size w w' ∧ RdCs w' w'.heap.size A d ∧ (∀ x ∈ d, ClIn w' w.heap.size s l x) ∧ w'.heap[w.heap.size + 1]? = some (.cells #[.slice A n c] 23 (0, 0)) := fun w' z => by
    have yz := ext_trans y z
    have g1' := (z.block w.heap.size (lt_of_some G1)).trans G1
    exact ⟨yz, h.1.ext yz, fun x hx => ⟨hS.ext yz, g1', (h.2 x hx).ext yz, (hcs x hx).1, (hcs x hx).2, Utf8Tabs_below hT yz⟩, (z.block _ (lt_of_some g2)).trans g2⟩
  have K := Lib.hid k1
  have N := Lib.hid hn
  have c0 := box_1 g2
  have hsz : Hid (((w.alloc (.cells #[.pointer (some ⟨s, 0, none⟩)] 26)).alloc (.cells #[.slice A n c] 23)).heap.size = w.heap.size + 2) := Lib.hid (by simp)
  have HH := Lib.hid h
  generalize hm : mayD l (clsOf d) = m
  unfold mayD at hm
  have hlen : (clsOf d).length = n := by rw [hn]; unfold clsOf; rw [List.length_map]
  rw [hlen] at hm
  clear ya yb g1 g2 G1 k1 hS hcs hT h
  by_cases h1 : n < 1
  · rw [if_pos (.inl h1)] at hm
    subst hm
    have h2 : ((n : Int) < 1) := by omega
    clear hlen hn
    go_enter Tryz.func56, Tryz.ntmps56
    go_wp2_with (fail)
    go_ret
    exact ⟨rfl, y⟩
  · rw [if_neg (by omega)] at hm
    have h2 : ¬ ((n : Int) < 1) := by omega
    obtain ⟨x, hx⟩ : ∃ x, d[d.length - 1]? = some x := ⟨d[d.length - 1]'(by omega), by rw [List.getElem?_eq_getElem]⟩
    have hlast := lastIs hx
    rw [hlast] at hm
    have HM := Lib.hid hm
    have HX := Lib.hid hx
    have e1 : (1 : Int) ≤ (n : Int) := by omega
    have e2 : (n : Int) - 1 < (n : Int) := by omega
    have hnd : n - 1 = d.length - 1 := by rw [hn]
    have HND := Lib.hid hnd
    clear hm hlen hlast hx hnd hn
    go_enter Tryz.func56, Tryz.ntmps56
    go_wp2_with (go_at_call 127; refine Hid.out ?_)
    refine Lib.hid ?_
    obtain ⟨_, q1, q2, q3⟩ := K.out _ (Below.refl _ _)
    refine (csome2_any w.heap.size (w.heap.size + 1) s l A n c d _ N.out q1 (by omega) q2 q3).mono ?_
    clear q1 q2 q3
    rintro e w1 ⟨rfl, y1⟩
    cases ha : (clsOf d).any (badR l) with
    | true =>
      have hm := HM.out
      rw [if_pos ha] at hm
      subst hm
      clear ha
      have yy := ext_trans y y1
      go_wp2_with (fail)
      go_ret
      exact ⟨rfl, yy⟩
    | false =>
      have hm := HM.out
      rw [if_neg (by rw [ha]; simp)] at hm
      have HM2 := Lib.hid hm
      clear ha hm HM
      go_wp2_with (go_at_call 127; refine Hid.out ?_)
      refine Lib.hid ?_
      obtain ⟨_, q1, q2, q3⟩ := K.out w1 y1
      refine (csome3_any w.heap.size (w.heap.size + 1) s l A n c d _ N.out q1 (by omega) q2 q3).mono ?_
      clear q1 q2 q3
      rintro e w2 ⟨rfl, y2⟩
      have y12 := ext_trans y1 y2
      obtain ⟨yy, q1, q2, q3⟩ := K.out w2 y12
      cases ha : (clsOf d).any (badK l) with
      | true =>
        have hm := HM2.out
        rw [if_pos ha] at hm
        subst hm
        clear ha q1 q2 q3
        go_wp2_with (fail)
        go_ret
        exact ⟨rfl, yy⟩
      | false =>
        have hm := HM2.out
        rw [if_neg (by rw [ha]; simp)] at hm
        obtain ⟨ad, x', rfl, _, _, hx', hcx⟩ := q1.el (i := d.length - 1) (by have := N.out; omega)
        rw [HX.out] at hx'
        injection hx' with hx'
        subst hx'
        obtain ⟨⟨r, p⟩, As, cs⟩ := x
        rw [← HND.out] at hcx
        obtain ⟨z0, z1⟩ := cl_cells hcx
        have d0 := box_1 q3
        have HM3 := Lib.hid hm
        clear ha hm q1 q2 q3 hcx HM2
        by_cases hr : r = 10
        · subst hr
          have hm := HM3.out
          rw [if_neg (by simp)] at hm
          have HM4 := Lib.hid hm
          clear hm HM3
          go_wp2_with (go_at_call 127; refine Hid.out ?_)
          refine Lib.hid ?_
          obtain ⟨_, q1, q2, q3⟩ := K.out w2 y12
          refine (csome4_any w.heap.size (w.heap.size + 1) s l _ n c d _ N.out q1 (by omega) q2 q3).mono ?_
          clear q1 q2 q3
          rintro e w3 ⟨rfl, y3⟩
          have yz := (K.out w3 (ext_trans y12 y3)).1
          cases ha : (clsOf d).any (badP l) with
          | true =>
            have hm := HM4.out
            rw [if_pos ha] at hm
            subst hm
            clear ha
            go_wp2_with (fail)
            go_ret
            exact ⟨rfl, yz⟩
          | false =>
            have hm := HM4.out
            rw [if_neg (by rw [ha]; simp)] at hm
            subst hm
            clear ha
            go_wp2_with (fail)
            go_ret
            exact ⟨rfl, yz⟩
        · have hm := HM3.out
          rw [if_pos (by simp [hr])] at hm
          subst hm
          have hne : (r == 10) = false := beq_eq_false_iff_ne.2 hr
          clear hr
          go_wp2_with (fail)
          go_ret
          exact ⟨rfl, yy⟩
end Go.Proofs.YtfnkjcodcoehcaaGreatDoor
namespace Go.Proofs.YtfnkjcodcoehcaaGreatDoor
open Go.RowKit Go.Shelf
set_option linter.unusedVariables false
set_option linter.unusedSimpArgs false
attribute [local go_sem] Oper.semAt_some

end Go.Proofs.YtfnkjcodcoehcaaGreatDoor
namespace Go.Proofs.YtfnkjcodcoehcaaGreatDoor
set_option linter.unusedVariables false
set_option linter.unusedSimpArgs false

theorem trim_pre (us : List Un) : ∃ k, us = trim us ++ List.replicate k (.ret []) := by
  induction us with
  | nil => exact ⟨0, rfl⟩
  | cons u us ih =>
    obtain ⟨k, hk⟩ := ih
    rw [trim]
    cases ht : trim us with
    | nil =>
      rw [ht, List.nil_append] at hk
      simp only
      by_cases hu : u = .ret []
      · rw [if_pos hu]; exact ⟨k + 1, by rw [hu, List.replicate_succ, List.nil_append, ← hk]⟩
      · rw [if_neg hu]; exact ⟨k, by rw [← hk]; rfl⟩
    | cons v vs =>
      rw [ht] at hk
      exact ⟨k, by simp only [List.cons_append]; rw [List.cons_append] at hk; rw [← hk]⟩
theorem cn_all {P : Un → Prop} (hd : P .del) : ∀ (us I : List Un) (g : Nat), (∀ u ∈ I, P u) → (∀ u ∈ us, P u) → ∀ u ∈ cn us I g, P u
  | [], I, g, hI, _ => fun u hu => by
    rcases List.mem_append.1 hu with hu | hu
    · exact hI u hu
    · rw [(List.mem_replicate.1 hu).2]; exact hd
  | .ins r s :: us, I, g, hI, hu => by
    have h1 : ∀ u ∈ I ++ [Un.ins r s], P u := fun u h => by
      rcases List.mem_append.1 h with h | h
      · exact hI u h
      · simp at h; subst h; exact hu _ (by simp)
    rw [cn]
    exact cn_all hd us (I ++ [.ins r s]) g h1 (fun u h => hu u (List.mem_cons_of_mem _ h))
  | .del :: us, I, g, hI, hu => by
    rw [cn]
    exact cn_all hd us I (g + 1) hI (fun u h => hu u (List.mem_cons_of_mem _ h))
  | .ret p :: us, I, g, hI, hu => fun u h => by
    rw [cn] at h
    rcases List.mem_append.1 h with h | h
    · rcases List.mem_append.1 h with h | h
      · exact hI u h
      · rw [(List.mem_replicate.1 h).2]; exact hd
    · rcases List.mem_cons.1 h with rfl | h
      · exact hu _ (by simp)
      · exact cn_all hd us [] 0 (by simp) (fun u h => hu u (List.mem_cons_of_mem _ h)) u h
end Go.Proofs.YtfnkjcodcoehcaaGreatDoor
namespace Go.Proofs.YtfnkjcodcoehcaaGreatDoor
open Go.RowKit
set_option linter.unusedVariables false
set_option linter.unusedSimpArgs false

def delS (g : Int) : OpS := ⟨opD g, none, 0, none, 0, none, 0⟩
def gapS (I : List OpS) (g : Int) : List OpS := I ++ (if 0 < g then [delS g] else [])
theorem gapS_os (I : List OpS) (g : Int) : osOf (gapS I g) = osOf I ++ (if 0 < g then [opD g] else []) := by
  unfold gapS osOf
  split <;> simp [delS]
theorem gapS_len (I : List OpS) (g : Int) : (gapS I g).length ≤ I.length + 1 := by unfold gapS; split <;> simp

set_option maxRecDepth 100000 in
set_option maxHeartbeats 800000 in
theorem gap_any (b : Nat) (vd : Value) (Ai : Option Addr) (ni ci : Nat) (g : Int) (I : List OpS) (w : World) (h1 : w.heap[b]? = some (.cells #[vd, .slice Ai ni ci, .int .i64 g] 189 (0, 0)))
    (hn : ni = I.length) (hr : RdOs w w.heap.size Ai I) (hb : ni ≤ 10000000) :
    Calls Tryz.prog 152 #[.pointer (some ⟨b, 0, none⟩)] w (NewOs (gapS I g) w) := by
  have N := Lib.hid hn
  have H1 := Lib.hid h1
  obtain ⟨c0, c1, c2⟩ := box_3 h1
  clear hn h1
  go_enter Tryz.func152, Tryz.ntmps152
  go_wp2_with (go_at_call 205; refine Hid.out ?_)
  refine Lib.hid ?_
  refine (cloneOs_any Ai ni ci I w N.out hr (by omega)).mono ?_
  rintro e w1 ⟨A1, k1, rfl, ho, y⟩
  obtain ⟨d0, d1, d2⟩ := box_3 ((y.block b (lt_of_some H1.out)).trans H1.out)
  have HO := Lib.hid ho
  clear ho c0 c1 c2
  by_cases hg : 0 < g
  · have e1 : gapS I g = I ++ [delS g] := by unfold gapS; rw [if_pos hg]
    have E1 := Lib.hid e1
    clear e1
    go_wp2_with (at_builtin; refine app_os (m := [delS g]) rfl (.tmp 14) (.tmp 20) rfl rfl (by exact HO.out.alloc _) _ _ 1 1 rfl rfl (by exact rd_one (enc := OpS.enc) (size := 5) _ _ (delS g) rfl) (by have := N.out; simp only [List.length_singleton]; omega) (by exact Nat.le_trans y.size (le_alloc _ _)) ?_; intro v' w' hown' hgr hv')
    have s1 := below_app (y.alloc y.size _) (by exact Nat.le_trans y.size (le_alloc _ _)) (HO.out.alloc _) (Nat.le_refl _) hgr
    rw [← E1.out] at hown'
    obtain ⟨A', c', rfl, _, _⟩ := hown'.form
    have HOW := Lib.hid hown'
    clear hown'
    go_ret
    exact ⟨A', c', rfl, HOW.out, s1⟩
  · have e1 : gapS I g = I := by unfold gapS; rw [if_neg hg]; simp
    have E1 := Lib.hid e1
    clear e1
    go_wp2_with (fail)
    go_ret
    unfold NewOs
    rw [E1.out]
    exact ⟨A1, k1, rfl, HO.out, y⟩
end Go.Proofs.YtfnkjcodcoehcaaGreatDoor
