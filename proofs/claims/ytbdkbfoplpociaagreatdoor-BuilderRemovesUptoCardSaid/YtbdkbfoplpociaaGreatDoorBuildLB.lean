/- Merged texts: BuildL. -/
import Derived.Test.YtbdkbfoplpociaaGreatDoorLinesWB
namespace Go.Proofs.YtbdkbfoplpociaaGreatDoor
open Go.RowKit
set_option linter.unusedVariables false
set_option linter.unusedSimpArgs false

/-- a slice of changes in a slice of slices -/
structure CX where
  A : Option Addr
  c : Nat
  l : List Ch
def CX.enc (x : CX) : List Value := [.slice x.A x.l.length x.c]
/-- the k-th of some lists; none, if there is none -/
def atX (L : List CX) (k : Nat) : List Ch := ((L[k]?).map (·.l)).getD []
/-- where it lies -/
def inX (L : List CX) (k : Nat) (A : Option Addr) : Prop := (A = none ∧ atX L k = []) ∨ ∃ z ∈ L, A = z.A ∧ atX L k = z.l
/-- what nth answers -/
def NthOut (L : List CX) (k : Nat) (w : World) (e : Ending) (w' : World) : Prop := ∃ A' c', e = .returned (.slice A' (atX L k).length c') ∧ inX L k A' ∧ Below w.heap.size w w'
theorem nthC_any (A : Option Addr) (n c k : Nat) (L : List CX) (w : World) (hn : n = L.length) (h : Rd CX.enc 1 w w.heap.size A L) (hb : n ≤ 1000000) (hk : k ≤ 1000000) :
    Calls Tryz.prog 209 #[.slice A n c, .int .i64 (k : Int)] w (NthOut L k w) := by
  by_cases hlt : k < n
  · have hlt' : (k : Int) < (n : Int) := by omega
    obtain ⟨ad, z, rfl, _, _, hx, hc⟩ := h.el (i := k) (by omega)
    have r0 : w.cell? (ad.add (k * 1)) = some (.slice z.A z.l.length z.c) := by have := hc 0 _ rfl; rwa [add_zero'] at this
    rw [Nat.mul_one] at r0
    have ha : atX L k = z.l := by unfold atX; rw [hx]; rfl
    have HA := Lib.hid ha
    have HX := Lib.hid (List.mem_of_getElem? hx)
    have N := Lib.hid hn
    clear hx hc ha hn h
    go_enter Tryz.func209, Tryz.ntmps209
    go_wp2_with (fail)
    go_ret
    unfold NthOut
    refine ⟨z.A, z.c, ?_, .inr ⟨z, HX.out, rfl, HA.out⟩, Below.refl _ _⟩
    rw [HA.out]
    rfl
  · have hlt' : ¬ (k : Int) < (n : Int) := by omega
    have ha : atX L k = [] := by unfold atX; rw [List.getElem?_eq_none (by omega)]; rfl
    have HA := Lib.hid ha
    clear ha hn h
    go_enter Tryz.func209, Tryz.ntmps209
    go_wp2_with (fail)
    go_ret
    unfold NthOut
    refine ⟨none, 0, ?_, .inl ⟨rfl, HA.out⟩, Below.refl _ _⟩
    rw [HA.out]
    rfl
theorem linesC_any (b0 : Nat) (A : Option Addr) (n c k : Nat) (L : List CX) (w : World) (hx : w.heap[b0]? = some (.cells #[.slice A n c] 186 (0, 0))) (hn : n = L.length) (h : Rd CX.enc 1 w w.heap.size A L) (hb : n ≤ 1000000) (hk : k ≤ 1000000) :
    Calls Tryz.prog 208 #[.int .i64 (k : Int), .pointer (some ⟨b0, 0, none⟩)] w (NthOut L k w) := by
  have d0 := box_1 hx
  have H := Lib.hid h
  have N := Lib.hid hn
  clear hx h hn
  go_enter Tryz.func208, Tryz.ntmps208
  go_wp2_with (go_at_call 209; refine Hid.out ?_)
  refine Lib.hid ?_
  refine (nthC_any A n c k L w N.out H.out hb hk).mono ?_
  rintro e w2 ⟨A', c', rfl, hi, y⟩
  have HI := Lib.hid hi
  clear hi
  go_wp2_with (fail)
  go_ret
  unfold NthOut
  exact ⟨A', c', rfl, HI.out, y⟩
set_option maxHeartbeats 1600000 in
theorem lines_any (A A2 : Option Addr) (n c n2 c2 : Nat) (l : List Nat) (L : List CX) (w : World) (hn : n = l.length) (hr : RdInt w w.heap.size A (l.map (fun p : Nat => (p : Int)))) (hb : n ≤ 100000) (hl : ∀ p ∈ l, p ≤ 2000000000000)
    (hn2 : n2 = L.length) (h2 : Rd CX.enc 1 w w.heap.size A2 L) (hb2 : n2 ≤ 1000000) (hp : ∀ z ∈ L, RdCh w w.heap.size z.A z.l ∧ z.l.length ≤ 64 ∧ okVs z.l) :
    Calls Tryz.prog 152 #[.slice A n c, .slice A2 n2 c2] w (NewOpC (mkU (linesU (atX L) 0 0 l)) w) := by
  have y := ext_alloc w (.cells #[.slice A2 n2 c2] 186)
  have hbx := heap_alloc_new w (.cells #[.slice A2 n2 c2] 186)
  have at_all : ∀ k, (atX L k).length ≤ 64 ∧ okVs (atX L k) := fun k => by
    unfold atX
    cases e : L[k]? with
    | none => exact ⟨Nat.zero_le _, fun c hc => by cases hc⟩
    | some z => exact (hp z (List.mem_of_getElem? e)).2
  have AA := Lib.hid at_all
  have HBX := Lib.hid hbx
  have HR := Lib.hid (hr.ext y)
  have H2 := Lib.hid (h2.ext y)
  have HP := Lib.hid hp
  have Y := Lib.hid y
  have N := Lib.hid hn
  have N2 := Lib.hid hn2
  have HL := Lib.hid hl
  clear hbx hr h2 hp y at_all hn hn2 hl
  go_enter Tryz.func152, Tryz.ntmps152
  go_wp2_with (go_at_call 161; refine Hid.out ?_)
  refine Lib.hid ?_
  refine (linesL_any w.heap.size A n c l (atX L) _ N.out HR.out hb HL.out (fun k => (AA.out k).1) (fun k => (AA.out k).2) (fun k w' hk yk => ?_)).mono ?_
  · have hx := (yk.block _ (lt_of_some HBX.out)).trans HBX.out
    refine (linesC_any w.heap.size A2 n2 c2 k L w' hx N2.out (H2.out.ext yk) hb2 (by omega)).mono ?_
    rintro e w'' ⟨A', c', rfl, hi, y2⟩
    have yw := Y.out.trans (yk.mono Y.out.size)
    rcases hi with ⟨rfl, h0⟩ | ⟨z, hz, rfl, hz2⟩
    · exact ⟨none, c', rfl, by rw [h0]; exact Rd.nil, fun ad e => (by cases e), y2⟩
    · have hpz := (HP.out z hz).1
      refine ⟨z.A, c', rfl, by rw [hz2]; exact (hpz.ext yw).ext y2, fun ad e hl => ?_, y2⟩
      rw [hz2] at hl
      obtain ⟨ad', e', hb', _⟩ := hpz hl
      rw [e] at e'; injection e' with e'; subst e'
      exact .inl (by have := Y.out.size; omega)
  · intro e w4 hN
    obtain ⟨A8, c8, x8, rfl, hx, ox, yx⟩ := hN
    have HN : Hid (NewOpC (mkU (linesU (atX L) 0 0 l)) w (.returned (.slice A8 x8.length c8)) w4) := Lib.hid ⟨A8, c8, x8, rfl, hx, ox, Y.out.trans (yx.mono Y.out.size)⟩
    clear hx ox yx
    go_wp2_with (fail)
    go_ret
    exact HN.out
end Go.Proofs.YtbdkbfoplpociaaGreatDoor
