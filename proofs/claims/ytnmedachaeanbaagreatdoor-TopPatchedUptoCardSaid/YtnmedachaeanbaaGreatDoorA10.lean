/- Merged texts. -/
import Derived.Test.YtnmedachaeanbaaGreatDoorA9
namespace Go.Proofs.YtnmedachaeanbaaGreatDoor
set_option maxRecDepth 100000
set_option maxHeartbeats 1600000
open Go.RowKit
open Go.Lib (hid Utf8Tabs)
set_option linter.unusedVariables false
set_option linter.unusedSimpArgs false
theorem Z6U (r : Int) (w : World) : Calls Tryz.prog 323 #[.int .i32 r] w fun e w' => e = .returned (.bool (!mayR r)) ∧ w = w' := by
 go_enter Tryz.func323, Tryz.ntmps323
 go_wp2_with (go_at_call 51; refine Hid.out ?_)
 refine hid ?_
 refine (Z80 r w).mono ?_
 rintro e w' ⟨rfl, rfl⟩
 go_wp2_with (fail)
 go_ret
 exact ⟨rfl, rfl⟩
theorem Y09 (A : Option Addr) (n c : Nat) (l : List Int) (w : World) (hn : n = l.length) (h : Z3i w w.heap.size A l) (hb : n ≤ 140737488355328) :
 Calls Tryz.prog 351 #[.slice A n c, .func (.func 323) #[] #[]] w fun e w' => ∃ i : Int, e = .returned (.int .i64 i) ∧ IdxOut (fun r => !mayR r) l i ∧ w = w' := by
 have N := hid hn
 clear hn
 go_enter Tryz.func351, Tryz.ntmps351
 go_wp2_with (fail)
 go_loopg [8] n (fun g iv wr => ∃ i : Nat, i ≤ n ∧ g = n - i ∧ iv = .int .i64 i ∧ w = wr ∧ Hid (∀ x ∈ l.take i, (!mayR x) = false))
 case atStart => exact ⟨0, by omega, rfl, rfl, rfl, hid (by simp)⟩
 case round =>
  obtain ⟨i, hi, hg, rfl, rfl, HI⟩ := hrel
  have HG := hid hg
  clear hg
  by_cases hlt : i < n
  ·have hil : i < l.length := by have := N.out; omega
   obtain ⟨ad, x, rfl, _, _, hx, hc1⟩ := h.el hil
   have HT : Hid (l.take (i + 1) = l.take i ++ [x]) := hid (by rw [List.take_add_one, hx]; rfl)
   have HX := hid hx
   have r0 := hc1 0 _ rfl
   rw [Z0o, Nat.mul_one] at r0
   clear hx hil hc1
   have hw2 : IntKind.i64.wrap ((i:Int) + 1) = (i : Int) + 1 := IntWalk.i64_in _ (by omega)
   cases hp : mayR x with
   | false =>
     have HP := hid hp
     clear hp
     go_wp2_with (go_at_call 323; refine Hid.out ?_)
     refine hid ?_
     refine (Z6U x w).mono ?_
     rintro e w' ⟨rfl, rfl⟩
     rw [HP.out]
     go_wp2_with (fail)
     go_ret
     exact ⟨i, rfl, .inr ⟨i, rfl, by have := N.out; omega, HI.out, _, HX.out, by show (!mayR x) = true; rw [HP.out]; rfl⟩, rfl⟩
   | true =>
     have HP := hid hp
     clear hp
     go_wp2_with (go_at_call 323; refine Hid.out ?_)
     refine hid ?_
     refine (Z6U x w).mono ?_
     rintro e w' ⟨rfl, rfl⟩
     rw [HP.out]
     go_wp2_with (fail)
     go_roundg (n - (i + 1))
     case measure => have := HG.out; omega
     case rel =>
      refine ⟨i + 1, by omega, rfl, by go_num, rfl, hid ?_⟩
      intro y hy
      rw [HT.out] at hy
      rcases List.mem_append.1 hy with hy | hy
      ·exact HI.out y hy
      ·simp at hy; rw [hy, HP.out]; rfl
  ·go_wp2_with (fail)
   go_ret
   refine ⟨-1, rfl, .inl ⟨rfl, ?_⟩, rfl⟩
   have h1 := HI.out
   rw [List.take_of_length_le (by have := N.out; omega)] at h1
   exact h1
theorem Z7z {α : Type} {pr : α → Bool} {l : List α} {i : Int} (h : IdxOut pr l i) : decide (0 ≤ i) = l.any pr := by
 rcases h with ⟨rfl, h⟩ | ⟨j, rfl, hj, _, x, hx, hp⟩
 ·have : l.any pr = false := List.any_eq_false.2 (fun x hx => by simp [h x hx])
  rw [this]; rfl
 ·have : l.any pr = true := List.any_eq_true.2 ⟨x, List.mem_of_getElem? hx, hp⟩
  rw [this]
  simp
theorem Z24 (A : Option Addr) (n c : Nat) (l : List Int) (w : World) (hn : n = l.length) (h : Z3i w w.heap.size A l) (hb : n ≤ 140737488355328) :
 Calls Tryz.prog 322 #[.slice A n c, .func (.func 323) #[] #[]] w fun e w' => e = .returned (.bool (l.any (fun r => !mayR r))) ∧ w = w' := by
 have N := hid hn
 clear hn
 generalize hr : l.any (fun r => !mayR r) = r
 have HR := hid hr
 clear hr
 go_enter Tryz.func322, Tryz.ntmps322
 go_wp2_with (go_at_call 351; refine Hid.out ?_)
 refine hid ?_
 refine (Y09 A n c l w N.out h hb).mono ?_
 rintro e w1 ⟨i, rfl, hi, rfl⟩
 have hd := Z7z hi
 rw [HR.out] at hd
 clear hi
 go_wp2_with (fail)
 go_ret
 exact ⟨by first | rfl | exact Z0g hd, rfl⟩
def Z4d (o : Opd) : Bool :=
 if o.k = 1 then decide (o.r.length = 0 ∧ o.s.length = 0)
 else if o.k = 3 then decide ((o.r.length = 0 ∧ o.s.length = 0) ∧ o.p.length = 0)
 else if o.k = 2 then decide (o.n = 0 ∧ o.p.length = 0) && !o.r.any (fun r => !mayR r)
 else false
theorem Y2n (k n : Int) (Ar As Ap : Option Addr) (r : List Int) (s : List At) (p : List Ch) (cr cs cp : Nat) (w : World) (h : Z3i w w.heap.size Ar r) (hb : r.length ≤ 140737488355328) :
 Calls Tryz.prog 252 #[.agg #[.int .u8 k, .int .i64 n, .slice Ar r.length cr, .slice As s.length cs, .slice Ap p.length cp]] w fun e w' => e = .returned (.bool (Z4d ⟨k, n, r, s, p⟩)) ∧ Below w.heap.size w w' := by
 have y0 := Z0c w (.cells #[.int .u8 k, .int .i64 n, .slice Ar r.length cr, .slice As s.length cs, .slice Ap p.length cp] 36)
 have HH := hid (h.ext y0)
 obtain ⟨R, hR⟩ : ∃ X, Z4d ⟨k, n, r, s, p⟩ = X := ⟨_, rfl⟩
 rw [hR]
 unfold Z4d at hR
 have HR := hid hR
 obtain ⟨nr, hnr⟩ : ∃ X, r.length = X := ⟨_, rfl⟩
 obtain ⟨ns, hns⟩ : ∃ X, s.length = X := ⟨_, rfl⟩
 obtain ⟨np, hnp⟩ : ∃ X, p.length = X := ⟨_, rfl⟩
 have NR := hid hnr
 have NS := hid hns
 have NP := hid hnp
 rw [hnr, hns, hnp]
 rw [hnr, hns, hnp] at y0 HH
 rw [hnr] at hb
 clear hR hnr hns hnp h
 rcases Nat.eq_zero_or_pos nr with e1 | e1
 ·subst e1
  rcases Nat.eq_zero_or_pos ns with e2 | e2
  ·subst e2
   by_cases k1 : k = 1
   ·subst k1
    go_enter Tryz.func252, Tryz.ntmps252
    go_wp2_with (fail)
    go_ret
    exact ⟨Z0g (by rw [← HR.out]; simp only [NR.out, NS.out, NP.out]; first | (simp; done) | (simp <;> omega)), y0⟩
   have kb1 : (k == 1) = false := beq_eq_false_iff_ne.2 k1
   by_cases k3 : k = 3
   ·subst k3
    by_cases hp : np = 0
    ·subst hp
     go_enter Tryz.func252, Tryz.ntmps252
     go_wp2_with (fail)
     go_ret
     exact ⟨Z0g (by rw [← HR.out]; simp only [NR.out, NS.out, NP.out]; first | (simp; done) | (simp <;> omega)), y0⟩
    ·have hpb : ((np : Int) == 0) = false := beq_eq_false_iff_ne.2 (by omega)
     go_enter Tryz.func252, Tryz.ntmps252
     go_wp2_with (fail)
     go_ret
     exact ⟨Z0g (by rw [← HR.out]; simp only [NR.out, NS.out, NP.out]; first | (simp [hp]; done) | (simp [hp] <;> omega)), y0⟩
   have kb3 : (k == 3) = false := beq_eq_false_iff_ne.2 k3
   by_cases k2 : k = 2
   ·subst k2
    by_cases hn : n = 0
    ·subst hn
     by_cases hp : np = 0
     ·subst hp
      go_enter Tryz.func252, Tryz.ntmps252
      go_wp2_with (go_at_call 322; refine Hid.out ?_)
      refine hid ?_
      refine (Z24 Ar _ cr r _ ?hn HH.out (by omega)).mono ?_
      case hn => first | exact NR.out.symm | (have := NR.out; omega)
      rintro e w' ⟨rfl, rfl⟩
      generalize hca : r.any (fun r => !mayR r) = C
      have HCA := hid hca
      clear hca
      go_wp2_with (fail)
      go_ret
      exact ⟨Z0g (by rw [← HR.out]; simp [NP.out, HCA.out]), y0⟩
     ·have hpb : ((np : Int) == 0) = false := beq_eq_false_iff_ne.2 (by omega)
      go_enter Tryz.func252, Tryz.ntmps252
      go_wp2_with (fail)
      go_ret
      exact ⟨Z0g (by rw [← HR.out]; simp only [NR.out, NS.out, NP.out]; first | (simp [hp]; done) | (simp [hp] <;> omega)), y0⟩
    ·have hnb : (n == 0) = false := beq_eq_false_iff_ne.2 hn
     go_enter Tryz.func252, Tryz.ntmps252
     go_wp2_with (fail)
     go_ret
     exact ⟨Z0g (by rw [← HR.out]; simp only [NR.out, NS.out, NP.out]; first | (simp [hn]; done) | (simp [hn] <;> omega)), y0⟩
   have kb2 : (k == 2) = false := beq_eq_false_iff_ne.2 k2
   have HK1 := hid k1
   have HK2 := hid k2
   have HK3 := hid k3
   clear k1 k2 k3
   go_enter Tryz.func252, Tryz.ntmps252
   go_wp2_with (fail)
   go_ret
   exact ⟨Z0g (by rw [← HR.out]; simp [HK1.out, HK2.out, HK3.out]), y0⟩
  ·have hs0 : (0 : Int) < (ns : Int) := by omega
   by_cases k1 : k = 1
   ·subst k1
    go_enter Tryz.func252, Tryz.ntmps252
    go_wp2_with (fail)
    go_ret
    exact ⟨Z0g (by rw [← HR.out]; simp only [NR.out, NS.out, NP.out]; first | (simp; done) | (simp <;> omega)), y0⟩
   have kb1 : (k == 1) = false := beq_eq_false_iff_ne.2 k1
   by_cases k3 : k = 3
   ·subst k3
    by_cases hp : np = 0
    ·subst hp
     go_enter Tryz.func252, Tryz.ntmps252
     go_wp2_with (fail)
     go_ret
     exact ⟨Z0g (by rw [← HR.out]; simp only [NR.out, NS.out, NP.out]; first | (simp; done) | (simp <;> omega)), y0⟩
    ·have hpb : ((np : Int) == 0) = false := beq_eq_false_iff_ne.2 (by omega)
     go_enter Tryz.func252, Tryz.ntmps252
     go_wp2_with (fail)
     go_ret
     exact ⟨Z0g (by rw [← HR.out]; simp only [NR.out, NS.out, NP.out]; first | (simp [hp]; done) | (simp [hp] <;> omega)), y0⟩
   have kb3 : (k == 3) = false := beq_eq_false_iff_ne.2 k3
   by_cases k2 : k = 2
   ·subst k2
    by_cases hn : n = 0
    ·subst hn
     by_cases hp : np = 0
     ·subst hp
      go_enter Tryz.func252, Tryz.ntmps252
      go_wp2_with (go_at_call 322; refine Hid.out ?_)
      refine hid ?_
      refine (Z24 Ar _ cr r _ ?hn HH.out (by omega)).mono ?_
      case hn => first | exact NR.out.symm | (have := NR.out; omega)
      rintro e w' ⟨rfl, rfl⟩
      generalize hca : r.any (fun r => !mayR r) = C
      have HCA := hid hca
      clear hca
      go_wp2_with (fail)
      go_ret
      exact ⟨Z0g (by rw [← HR.out]; simp [NP.out, HCA.out]), y0⟩
     ·have hpb : ((np : Int) == 0) = false := beq_eq_false_iff_ne.2 (by omega)
      go_enter Tryz.func252, Tryz.ntmps252
      go_wp2_with (fail)
      go_ret
      exact ⟨Z0g (by rw [← HR.out]; simp only [NR.out, NS.out, NP.out]; first | (simp [hp]; done) | (simp [hp] <;> omega)), y0⟩
    ·have hnb : (n == 0) = false := beq_eq_false_iff_ne.2 hn
     go_enter Tryz.func252, Tryz.ntmps252
     go_wp2_with (fail)
     go_ret
     exact ⟨Z0g (by rw [← HR.out]; simp only [NR.out, NS.out, NP.out]; first | (simp [hn]; done) | (simp [hn] <;> omega)), y0⟩
   have kb2 : (k == 2) = false := beq_eq_false_iff_ne.2 k2
   have HK1 := hid k1
   have HK2 := hid k2
   have HK3 := hid k3
   clear k1 k2 k3
   go_enter Tryz.func252, Tryz.ntmps252
   go_wp2_with (fail)
   go_ret
   exact ⟨Z0g (by rw [← HR.out]; simp [HK1.out, HK2.out, HK3.out]), y0⟩
 ·have hr0 : (0 : Int) < (nr : Int) := by omega
  by_cases k1 : k = 1
  ·subst k1
   go_enter Tryz.func252, Tryz.ntmps252
   go_wp2_with (fail)
   go_ret
   exact ⟨Z0g (by rw [← HR.out]; simp only [NR.out, NS.out, NP.out]; first | (simp; done) | (simp <;> omega)), y0⟩
  have kb1 : (k == 1) = false := beq_eq_false_iff_ne.2 k1
  by_cases k3 : k = 3
  ·subst k3
   by_cases hp : np = 0
   ·subst hp
    go_enter Tryz.func252, Tryz.ntmps252
    go_wp2_with (fail)
    go_ret
    exact ⟨Z0g (by rw [← HR.out]; simp only [NR.out, NS.out, NP.out]; first | (simp; done) | (simp <;> omega)), y0⟩
   ·have hpb : ((np : Int) == 0) = false := beq_eq_false_iff_ne.2 (by omega)
    go_enter Tryz.func252, Tryz.ntmps252
    go_wp2_with (fail)
    go_ret
    exact ⟨Z0g (by rw [← HR.out]; simp only [NR.out, NS.out, NP.out]; first | (simp [hp]; done) | (simp [hp] <;> omega)), y0⟩
  have kb3 : (k == 3) = false := beq_eq_false_iff_ne.2 k3
  by_cases k2 : k = 2
  ·subst k2
   by_cases hn : n = 0
   ·subst hn
    by_cases hp : np = 0
    ·subst hp
     go_enter Tryz.func252, Tryz.ntmps252
     go_wp2_with (go_at_call 322; refine Hid.out ?_)
     refine hid ?_
     refine (Z24 Ar _ cr r _ ?hn HH.out (by omega)).mono ?_
     case hn => first | exact NR.out.symm | (have := NR.out; omega)
     rintro e w' ⟨rfl, rfl⟩
     generalize hca : r.any (fun r => !mayR r) = C
     have HCA := hid hca
     clear hca
     go_wp2_with (fail)
     go_ret
     exact ⟨Z0g (by rw [← HR.out]; simp [NP.out, HCA.out]), y0⟩
    ·have hpb : ((np : Int) == 0) = false := beq_eq_false_iff_ne.2 (by omega)
     go_enter Tryz.func252, Tryz.ntmps252
     go_wp2_with (fail)
     go_ret
     exact ⟨Z0g (by rw [← HR.out]; simp only [NR.out, NS.out, NP.out]; first | (simp [hp]; done) | (simp [hp] <;> omega)), y0⟩
   ·have hnb : (n == 0) = false := beq_eq_false_iff_ne.2 hn
    go_enter Tryz.func252, Tryz.ntmps252
    go_wp2_with (fail)
    go_ret
    exact ⟨Z0g (by rw [← HR.out]; simp only [NR.out, NS.out, NP.out]; first | (simp [hn]; done) | (simp [hn] <;> omega)), y0⟩
  have kb2 : (k == 2) = false := beq_eq_false_iff_ne.2 k2
  have HK1 := hid k1
  have HK2 := hid k2
  have HK3 := hid k3
  clear k1 k2 k3
  go_enter Tryz.func252, Tryz.ntmps252
  go_wp2_with (fail)
  go_ret
  exact ⟨Z0g (by rw [← HR.out]; simp [HK1.out, HK2.out, HK3.out]), y0⟩
def oneP (l : List Ky) (o : Opd) : Int :=
 if Z4d o = true ∧ 1 ≤ Z1d o ∧ Z1d o ≤ 536870912 then (if mayS l o.s = 0 then mayP l o.p else mayS l o.s) else 3
def okOp (o : Opd) : Prop := okVr o.s ∧ okVs o.p ∧ o.r.length ≤ 100000000 ∧ o.s.length ≤ 100000000 ∧ o.p.length ≤ 100000000
theorem Y2o (sc : Nat) (l : List Ky) (k n : Int) (Ar As Ap : Option Addr) (r : List Int) (s : List At) (p : List Ch) (cr cs cp : Nat) (w : World) (hS : Sch w sc l) (h1 : Z3i w w.heap.size Ar r) (h2 : RdAt w w.heap.size As s) (h3 : RdCh w w.heap.size Ap p) (ho : okOp ⟨k, n, r, s, p⟩) (hT : Utf8Tabs 0 1 w) :
 Calls Tryz.prog 168 #[.pointer (some ⟨sc, 0, none⟩), .agg #[.int .u8 k, .int .i64 n, .slice Ar r.length cr, .slice As s.length cs, .slice Ap p.length cp]] w fun e w' => e = .returned (.int .i64 (oneP l ⟨k, n, r, s, p⟩)) ∧ Below w.heap.size w w' := by
 obtain ⟨v1, v2, b1, b2, b3⟩ := ho
 simp only at v1 v2 b1 b2 b3
 have y := Z0c w (.cells #[.int .u8 k, .int .i64 n, .slice Ar r.length cr, .slice As s.length cs, .slice Ap p.length cp] 36)
 have hbx := heap_alloc_new w (.cells #[.int .u8 k, .int .i64 n, .slice Ar r.length cr, .slice As s.length cs, .slice Ap p.length cp] 36)
 obtain ⟨R, hR⟩ : ∃ X, oneP l ⟨k, n, r, s, p⟩ = X := ⟨_, rfl⟩
 rw [hR]
 unfold oneP at hR
 have HR := hid hR
 have HBX := hid hbx
 clear hR hbx
 go_enter Tryz.func168, Tryz.ntmps168
 go_wp2_with (go_at_call 252; refine Hid.out ?_)
 refine hid ?_
 refine (Y2n k n Ar As Ap r s p cr cs cp _ (h1.ext y) (by omega)).mono ?_
 rintro e w1 ⟨rfl, y1⟩
 have HBX := hid ((y1.block _ (Z0b HBX.out)).trans HBX.out)
 replace y := Z0a y y1
 clear y1
 generalize hF : Z4d ⟨k, n, r, s, p⟩ = F
 have HF := hid hF
 clear hF
 cases F with
 | false =>
   go_wp2_with (fail)
   go_ret
   exact ⟨Z0t (by rw [← HR.out, HF.out]; rfl), y⟩
 | true =>
   obtain ⟨c0, c1, c2, c3, c4⟩ := Z0V HBX.out
   go_wp2_with (go_at_call 160; refine Hid.out ?_)
   refine hid ?_
   refine (Z5O k n Ar As Ap r.length s.length p.length cr cs cp _).mono ?_
   rintro e w2 ⟨rfl, y2⟩
   have HBX := hid ((y2.block _ (Z0b HBX.out)).trans HBX.out)
   replace y := Z0a y y2
   clear y2 c0 c1 c2 c3 c4
   obtain ⟨Z, hZ⟩ : ∃ Z : Int, (if k = 2 then (r.length : Int) else n) = Z := ⟨_, rfl⟩
   rw [hZ]
   have HZ : Hid (Z1d ⟨k, n, r, s, p⟩ = Z) := hid hZ
   have HZ2 := hid hZ
   clear hZ
   by_cases z1 : Z < 1
   ·go_wp2_with (fail)
    go_ret
    exact ⟨Z0t (by rw [← HR.out, HZ.out, if_neg (show ¬ (_ ∧ 1 ≤ Z ∧ _) by omega)]), y⟩
   ·obtain ⟨c0, c1, c2, c3, c4⟩ := Z0V HBX.out
    go_wp2_with (go_at_call 160; refine Hid.out ?_)
    refine hid ?_
    refine (Z5O k n Ar As Ap r.length s.length p.length cr cs cp _).mono ?_
    rintro e w2 ⟨rfl, y2⟩
    have HBX := hid ((y2.block _ (Z0b HBX.out)).trans HBX.out)
    replace y := Z0a y y2
    clear y2 c0 c1 c2 c3 c4
    rw [HZ2.out]
    by_cases z2 : 536870912 < Z
    ·go_wp2_with (fail)
     go_ret
     exact ⟨Z0t (by rw [← HR.out, HZ.out, if_neg (show ¬ (_ ∧ 1 ≤ Z ∧ Z ≤ 536870912) by omega)]), y⟩
    ·have HR2 : Hid ((if mayS l s = 0 then mayP l p else mayS l s) = R) := hid (by rw [← HR.out, HZ.out, HF.out, if_pos (show true = true ∧ 1 ≤ Z ∧ Z ≤ 536870912 from ⟨rfl, by omega, by omega⟩)])
     obtain ⟨c0, c1, c2, c3, c4⟩ := Z0V HBX.out
     go_wp2_with (go_at_call 52; refine Hid.out ?_)
     refine hid ?_
     refine (Z7y sc l As s.length cs s _ rfl (h2.ext y) (by omega) (hS.ext y) v1 (Utf8Tabs_below hT y)).mono ?_
     rintro e w3 ⟨rfl, y3⟩
     have HBX := hid ((y3.block _ (Z0b HBX.out)).trans HBX.out)
     replace y := Z0a y y3
     clear y3 c0 c1 c2 c3 c4
     generalize mayS l s = E at HR2 ⊢
     by_cases hE : E = 0
     ·subst hE
      have HR3 : Hid (mayP l p = R) := hid (by rw [← HR2.out, if_pos rfl])
      obtain ⟨c0, c1, c2, c3, c4⟩ := Z0V HBX.out
      go_wp2_with (go_at_call 107; refine Hid.out ?_)
      refine hid ?_
      refine (Y39 sc l Ap p.length cp p _ rfl (h3.ext y) (by omega) (hS.ext y) v2 (Utf8Tabs_below hT y)).mono ?_
      rintro e w4 ⟨rfl, y4⟩
      rw [HR3.out]
      replace y := Z0a y y4
      go_wp2_with (fail)
      go_ret
      exact ⟨rfl, y⟩
     ·have hne : (E == 0) = false := beq_eq_false_iff_ne.2 hE
      have HE : Hid (E = R) := hid (by rw [← HR2.out, if_neg hE])
      clear hE
      go_wp2_with (fail)
      go_ret
      exact ⟨Z0t HE.out, y⟩
def Z07 (l : List Ky) (st : Bool × Int) (x : OpS) : Bool × Int :=
 if st.1 = true then st else if oneP l x.o = 3 then (true, 3) else (false, if oneP l x.o = 0 then st.2 else oneP l x.o)
def mayO (l : List Ky) (x : List OpS) : Int :=
 if (x.foldl (Z07 l) (false, 0)).1 = true then 3 else if Z1k x ≤ 536870912 ∧ Z1F x ≤ 536870912 then (x.foldl (Z07 l) (false, 0)).2 else 3
theorem Z3p (l : List Ky) (a : Int) : ∀ x : List OpS, x.foldl (Z07 l) (true, a) = (true, a)
 | [] => rfl
 | x :: r => by rw [List.foldl_cons]; unfold Z07; simp only [if_true]; exact Z3p l a r
theorem Y1a {l : List Ky} {x : List OpS} {m : Nat} {o : OpS} {a : Int} {R : Bool × Int} (hd : x.drop m = o :: x.drop (m + 1)) (h : (x.drop m).foldl (Z07 l) (false, a) = R) : (x.drop (m + 1)).foldl (Z07 l) (Z07 l (false, a) o) = R := by
 rw [hd] at h; exact h
theorem Z5t (sc : Nat) (l : List Ky) (A : Option Addr) (n c : Nat) (x : List OpS) (w : World) (hn : n = x.length) (h : RdOp w w.heap.size A x) (hb : n ≤ 140737488355328) (hS : Sch w sc l) (ho : ∀ o ∈ x, okOp o.o) (hT : Utf8Tabs 0 1 w) :
 Calls Tryz.prog 86 #[.pointer (some ⟨sc, 0, none⟩), .slice A n c] w fun e w' => e = .returned (.int .i64 (mayO l x)) ∧ Below w.heap.size w w' := by
 have N := hid hn
 obtain ⟨R, hR⟩ : ∃ X, mayO l x = X := ⟨_, rfl⟩
 rw [hR]
 unfold mayO at hR
 obtain ⟨ST, hST⟩ : ∃ X, x.foldl (Z07 l) (false, 0) = X := ⟨_, rfl⟩
 rw [hST] at hR
 have HR := hid hR
 have HST := hid hST
 clear hR hST hn
 go_enter Tryz.func86, Tryz.ntmps86
 go_wp2_with (fail)
 go_loopg [5, 11] n (fun g av iv wr => ∃ (m : Nat) (a : Int), m ≤ n ∧ g = n - m ∧ av = .int .i64 a ∧ iv = .int .i64 (m : Int) ∧ Below w.heap.size w wr ∧ Hid ((x.drop m).foldl (Z07 l) (false, a) = ST))
 case atStart => exact ⟨0, 0, by omega, rfl, rfl, rfl, Below.refl _ _, hid (by rw [List.drop_zero]; exact HST.out)⟩
 case round =>
  obtain ⟨m, a, hm, hg, rfl, rfl, y, HI⟩ := hrel
  have HG := hid hg
  clear hg
  by_cases hlt : m < n
  ·have hl1 : m < x.length := by have := N.out; omega
   obtain ⟨ad, o, had0, had, hd1, hx1, hc0⟩ := (h.1.below y (Nat.le_refl _)).el hl1
   subst had0
   have hmem := List.mem_of_getElem? hx1
   have hok := ho o hmem
   obtain ⟨g1, g2, g3⟩ := h.2 o hmem
   have HI2 := hid (Y1a hd1 HI.out)
   obtain ⟨⟨k, nn, r, s, p⟩, Ar, cr, As, cs, Ap, cp⟩ := o
   obtain ⟨r0, r1, r2, r3, r4⟩ := Z0x hc0
   simp only at g1 g2 g3
   have y2 := Z0a y (Z0c wr (.cells #[.int .u8 k, .int .i64 nn, .slice Ar r.length cr, .slice As s.length cs, .slice Ap p.length cp] 36))
   have hw2 : IntKind.i64.wrap ((m:Int) + 1) = (m : Int) + 1 := IntWalk.i64_in _ (by omega)
   clear hc0 hd1 hx1 hmem HI
   go_wp2_with (go_at_call 168; refine Hid.out ?_)
   refine hid ?_
   refine (Y2o sc l k nn Ar As Ap r s p cr cs cp _ (hS.ext y2) (g1.ext y2) (g2.ext y2) (g3.ext y2) hok (Utf8Tabs_below hT y2)).mono ?_
   rintro e w3 ⟨rfl, y3⟩
   have yy := Z0a y2 y3
   have HI3 : Hid ((x.drop (m + 1)).foldl (Z07 l) (if oneP l ⟨k, nn, r, s, p⟩ = 3 then (true, 3) else (false, if oneP l ⟨k, nn, r, s, p⟩ = 0 then a else oneP l ⟨k, nn, r, s, p⟩)) = ST) := hid HI2.out
   generalize oneP l ⟨k, nn, r, s, p⟩ = E at HI3 ⊢
   clear HI2
   by_cases e3 : E = 3
   ·subst e3
    have HS3 : Hid (ST = (true, 3)) := hid (by rw [← HI3.out, if_pos rfl, Z3p])
    go_wp2_with (fail)
    go_ret
    exact ⟨Z0t (by rw [← HR.out, HS3.out]; rfl), yy⟩
   ·have e3b : (E == 3) = false := beq_eq_false_iff_ne.2 e3
    by_cases e0 : E = 0
    ·subst e0
     have HI4 : Hid ((x.drop (m + 1)).foldl (Z07 l) (false, a) = ST) := hid (by rw [← HI3.out, if_neg e3, if_pos rfl])
     clear e3 e3b
     go_wp2_with (fail)
     go_roundg (n - (m + 1))
     case measure => have := HG.out; omega
     case rel => exact ⟨m + 1, a, by omega, rfl, rfl, by go_num, yy, HI4⟩
    ·have e0b : (E == 0) = false := beq_eq_false_iff_ne.2 e0
     have HI4 : Hid ((x.drop (m + 1)).foldl (Z07 l) (false, E) = ST) := hid (by rw [← HI3.out, if_neg e3, if_neg e0])
     clear e3 e0
     go_wp2_with (fail)
     go_roundg (n - (m + 1))
     case measure => have := HG.out; omega
     case rel => exact ⟨m + 1, E, by omega, rfl, rfl, by go_num, yy, HI4⟩
  ·have HS4 : Hid (ST = (false, a)) := hid (by rw [← HI.out, List.drop_eq_nil_of_le (by have := N.out; omega)]; rfl)
   have HR2 : Hid ((if Z1k x ≤ 536870912 ∧ Z1F x ≤ 536870912 then a else 3) = R) := hid (by rw [← HR.out, HS4.out]; rfl)
   clear HI HG
   go_wp2_with (go_at_call 81; refine Hid.out ?_)
   refine hid ?_
   refine (Z38 A n c x _ N.out (h.ext y).1 hb).mono ?_
   rintro e w3 ⟨rfl, y3⟩
   replace y := Z0a y y3
   generalize Z1k x = T at HR2 ⊢
   by_cases t1 : 536870912 < T
   ·go_wp2_with (fail)
    go_ret
    exact ⟨Z0t (by rw [← HR2.out, if_neg (by omega)]), y⟩
   ·go_wp2_with (go_at_call 82; refine Hid.out ?_)
    refine hid ?_
    refine (Z5P A n c x _ N.out (h.ext y).1 hb).mono ?_
    rintro e w4 ⟨rfl, y4⟩
    replace y := Z0a y y4
    generalize Z1F x = U at HR2 ⊢
    by_cases u1 : 536870912 < U
    ·go_wp2_with (fail)
     go_ret
     exact ⟨Z0t (by rw [← HR2.out, if_neg (by omega)]), y⟩
    ·have HR3 : Hid (a = R) := hid (by rw [← HR2.out, if_pos ⟨by omega, by omega⟩])
     go_wp2_with (fail)
     go_ret
     exact ⟨Z0t HR3.out, y⟩
def Z9d (r : List At) (w : World) (e : Ending) (w' : World) : Prop :=
 ∃ A c, e = .returned (.slice A r.length c) ∧ OwAt w' w.heap.size (.slice A r.length c) r ∧ Below w.heap.size w w'
def Y2p (r : List Ch) (w : World) (e : Ending) (w' : World) : Prop :=
 ∃ A c, e = .returned (.slice A r.length c) ∧ OwCh w' w.heap.size (.slice A r.length c) r ∧ Below w.heap.size w w'
theorem Y2q (A1 A2 : Option Addr) (n1 n2 c1 c2 : Nat) (set : List At) (p : List Ch) (w : World)
 (hn1 : n1 = set.length) (hn2 : n2 = p.length) (h1 : RdAt w w.heap.size A1 set) (h2 : RdCh w w.heap.size A2 p)
 (hb1 : n1 ≤ 100000000) (hb2 : n2 ≤ 100000000) (hc1 : n1 ≤ c1) (hcm : c1 ≤ maxLen) :
 Calls Tryz.prog 247 #[.slice A1 n1 c1, .slice A2 n2 c2] w (Z9d (Z0K p set) w) := by
 unfold maxLen at hcm
 have N1 := hid hn1
 have N2 := hid hn2
 generalize hR : Z0K p set = R
 have HR := hid hR
 clear hn1 hn2 hR
 go_enter Tryz.func247, Tryz.ntmps247
 go_wp2
 go_step3
 go_wp2
 go_step3
 go_wp2
 go_loopg [5, 6, 11] n2 (fun g ov iv kv wr => ∃ (k i : Nat) (o : List At), k ≤ n2 ∧ i ≤ n1 ∧ g = n2 - k ∧ iv = .int .i64 i ∧ kv = .int .i64 k ∧ OwAt wr w.heap.size ov o ∧ o.length ≤ i + k ∧
  Below w.heap.size w wr ∧ Hid (o ++ Z0K (p.drop k) (set.drop i) = R))
 case atStart => exact ⟨0, 0, [], by omega, by omega, rfl, rfl, rfl, Ow.nil _ _, by simp, Below.refl _ _, hid (by simpa using HR.out)⟩
 case round =>
  obtain ⟨k, i, o, hk, hi, hg, rfl, rfl, hown, hol, hbw, HI⟩ := hrel
  have HG := hid hg
  clear hg HR
  by_cases hlt : k < n2
  ·have hkp : k < p.length := by have := N2.out; omega
   obtain ⟨ad2, c, rfl, _, hd2, _, hc2⟩ := (h2.below hbw (Nat.le_refl _)).el hkp
   have HI' : Hid (o ++ Z2h c (p.drop (k+1)) (set.drop i) = R) := hid (by rw [← HI.out, hd2]; rfl)
   clear HI hkp hd2
   obtain ⟨ck, cg, va, vn, vf, vs⟩ := c
   obtain ⟨q0, q1, q2, q3, q4, q5⟩ := Z0w hc2
   clear hc2
   go_wp2_with (fail)
   obtain ⟨wo, rfl⟩ : ∃ wo : World, wo = wr := ⟨_, rfl⟩
   go_loopg [5, 6] (n1 - i) (fun g ov iv wi => ∃ (i : Nat) (o : List At), i ≤ n1 ∧ g = n1 - i ∧ iv = .int .i64 i ∧ OwAt wi w.heap.size ov o ∧ o.length ≤ i + k ∧
    Below w.heap.size w wi ∧ wi.heap[wo.heap.size]? = some (.cells #[.int .i64 ck, .bool cg, .int .u8 va, .int .i64 vn, .int .u64 vf, .string vs] 75 (0, 0)) ∧ wb ov ≠ some wo.heap.size ∧
    Hid (o ++ Z2h ⟨ck, cg, ⟨va, vn, vf, vs⟩⟩ (p.drop (k+1)) (set.drop i) = R))
   case atStart =>
    refine ⟨i, o, hi, rfl, rfl, hown.alloc _, hol, hbw.alloc hbw.size _, heap_alloc_new _ _, fun e => ?_, HI'⟩
    have := (hown.wb_lt _ e).2; omega
   case round =>
    clear q0 q1 q2 q3 q4 q5 hi hown hol hbw HI'
    obtain ⟨i, o, hi, hg, rfl, hown, hol, hbw, hbx, hwb, HI⟩ := hrel
    have HG2 := hid hg
    clear hg
    obtain ⟨b0, b1, b2, b3, b4, b5⟩ := Z5G hbx
    have HBX := hid hbx
    have HWB := hid hwb
    clear hbx hwb
    by_cases hil : i < n1
    ·have hip : i < set.length := by have := N1.out; omega
     obtain ⟨ad1, a, rfl, _, hd1, _, hc1⟩ := (h1.below hbw (Nat.le_refl _)).el hip
     obtain ⟨ek, ea, en, ef, es⟩ := a
     obtain ⟨r0, r1, r2, r3, r4⟩ := Z1b hc1
     by_cases hak : ek < ck
     ·go_wp2_with (first
       | go_quiet (fail)
       | (at_builtin; refine Z2G (m := [⟨ek, ⟨ea, en, ef, es⟩⟩]) rfl (.tmp 30) (.tmp 35) rfl rfl (by first | exact (hown.drewN _).alloc _ | exact hown.alloc _) _ _ 1 1 rfl rfl (by exact Z1O _ _ _ rfl) (by simp only [List.length_singleton]; omega) (by have := hbw.size; simp; omega) ?_; intro v' w' hown' hgr hv'))
      obtain ⟨s1, s2, s3⟩ := Z31 hown hbw (Nat.le_refl _) hgr hv'
      go_roundg (n1 - (i + 1))
      case measure => have := HG2.out; omega
      case rel =>
       exact ⟨i + 1, o ++ [⟨ek, ⟨ea, en, ef, es⟩⟩], by omega, rfl, by go_num, hown', by simp; omega, s1, s2 _ _ HBX.out HWB.out, s3 _ (Z40 HBX.out) HWB.out,
        hid (by rw [← HI.out, hd1, Z77 _ _ _ _ hak, List.append_assoc]; rfl)⟩
     ·by_cases hek : ek = ck
      ·subst hek
       cases cg
       ·go_wp2_with (first
         | go_quiet (fail)
         | (at_builtin; refine Z2G (m := [⟨ek, ⟨va, vn, vf, vs⟩⟩]) rfl (.tmp 51) (.tmp 57) rfl rfl (by first | exact (hown.drewN _).alloc _ | exact hown.alloc _) _ _ 1 1 rfl rfl (by exact Z1O _ _ _ rfl) (by simp only [List.length_singleton]; omega) (by have := hbw.size; simp; omega) ?_; intro v' w' hown' hgr hv'))
        obtain ⟨s1, s2, s3⟩ := Z31 hown hbw (Nat.le_refl _) hgr hv'
        go_roundg (n2 - (k + 1))
        case measure => have := HG.out; omega
        case rel =>
         exact ⟨k + 1, i + 1, o ++ [⟨ek, ⟨va, vn, vf, vs⟩⟩], by omega, by omega, rfl, by go_num, by go_num, hown', by simp; omega, s1,
          hid (by rw [← HI.out, hd1, Z6Q _ _ _ _ rfl, List.append_assoc]; rfl)⟩
       ·go_wp2_with (go_quiet (fail))
        go_roundg (n2 - (k + 1))
        case measure => have := HG.out; omega
        case rel =>
         exact ⟨k + 1, i + 1, o, by omega, by omega, rfl, by go_num, by go_num, hown, by omega, Z0L hbw _,
          hid (by rw [← HI.out, hd1, Z6Q _ _ _ _ rfl]; rfl)⟩
      ·have hek' : (ek == ck) = false := beq_eq_false_iff_ne.2 hek
       cases cg
       ·go_wp2_with (first
         | go_quiet (fail)
         | (at_builtin; refine Z2G (m := [⟨ck, ⟨va, vn, vf, vs⟩⟩]) rfl (.tmp 51) (.tmp 57) rfl rfl (by first | exact (hown.drewN _).alloc _ | exact hown.alloc _) _ _ 1 1 rfl rfl (by exact Z1O _ _ _ rfl) (by simp only [List.length_singleton]; omega) (by have := hbw.size; simp; omega) ?_; intro v' w' hown' hgr hv'))
        obtain ⟨s1, s2, s3⟩ := Z31 hown hbw (Nat.le_refl _) hgr hv'
        go_roundg (n2 - (k + 1))
        case measure => have := HG.out; omega
        case rel =>
         exact ⟨k + 1, i, o ++ [⟨ck, ⟨va, vn, vf, vs⟩⟩], by omega, by omega, rfl, rfl, by go_num, hown', by simp; omega, s1,
          hid (by rw [← HI.out, hd1, Z45 _ _ _ _ (by show ck < ek; omega), List.append_assoc]; rfl)⟩
       ·go_wp2_with (go_quiet (fail))
        go_roundg (n2 - (k + 1))
        case measure => have := HG.out; omega
        case rel =>
         exact ⟨k + 1, i, o, by omega, by omega, rfl, rfl, by go_num, hown, by omega, Z0L hbw _,
          hid (by rw [← HI.out, hd1, Z45 _ _ _ _ (by show ck < ek; omega)]; rfl)⟩
    ·have hd1 : set.drop i = [] := List.drop_eq_nil_of_le (by have := N1.out; omega)
     have HD1 := hid hd1
     clear hd1
     cases cg
     ·go_wp2_with (first
       | go_quiet (fail)
       | (at_builtin; refine Z2G (m := [⟨ck, ⟨va, vn, vf, vs⟩⟩]) rfl (.tmp 62) (.tmp 68) rfl rfl (by first | exact (hown.drewN _).alloc _ | exact hown.alloc _) _ _ 1 1 rfl rfl (by exact Z1O _ _ _ rfl) (by simp only [List.length_singleton]; omega) (by have := hbw.size; simp; omega) ?_; intro v' w' hown' hgr hv'))
      obtain ⟨s1, s2, s3⟩ := Z31 (nq := 0) hown hbw (Nat.le_refl _) hgr hv'
      go_roundg (n2 - (k + 1))
      case measure => have := HG.out; omega
      case rel =>
       exact ⟨k + 1, i, o ++ [⟨ck, ⟨va, vn, vf, vs⟩⟩], by omega, by omega, rfl, rfl, by go_num, hown', by simp; omega, s1,
        hid (by rw [← HI.out, HD1.out, Z5W, List.append_assoc]; rfl)⟩
     ·go_wp2_with (go_quiet (fail))
      go_roundg (n2 - (k + 1))
      case measure => have := HG.out; omega
      case rel =>
       exact ⟨k + 1, i, o, by omega, by omega, rfl, rfl, by go_num, hown, by omega, hbw,
        hid (by rw [← HI.out, HD1.out, Z5W]; rfl)⟩
  ·have hkn : k = n2 := by omega
   have hdp : p.drop k = [] := List.drop_eq_nil_of_le (by have := N2.out; omega)
   have HDP := hid hdp
   clear hdp hkn
   go_wp2_with (first
    | (at_builtin; refine Z2G (m := set.drop i) rfl (.tmp 71) (.tmp 74) rfl rfl (by exact hown) _ _ _ _ rfl (by rw [List.length_drop, ← N1.out]) (by have hx := (h1.below hbw (Nat.le_refl _)).cut (k := i) (cap := c1) (by have := N1.out; omega) (by have := N1.out; omega); exact hx) (by have := N1.out; rw [List.length_drop]; omega) (by exact hbw.size) ?_; intro v' w' hown' hgr hv'))
   all_goals
    have e : o ++ set.drop i = R := by have := HI.out; rw [HDP.out] at this; exact this
    rw [e] at hown'
    obtain ⟨A', c', rfl, _, _⟩ := hown'.form
    go_ret
    exact ⟨A', c', rfl, hown', Z1h hbw hbw.size hown (Nat.le_refl _) hgr⟩
theorem Z6C (b1 b2 : Nat) (pr : At → Bool) (A : Option Addr) (n c : Nat) (l : List At) (w : World) (hn : n = l.length) (h : RdAt w w.heap.size A l) (hb : n ≤ 140737488355328)
 (hcl : ∀ (x1 x2 x3 x4 : Int) (x5 : ByteArray) (w' : World), Below w.heap.size w w' → Calls Tryz.prog 126 #[.agg #[.int .i64 x1, .int .u8 x2, .int .i64 x3, .int .u64 x4, .string x5], .pointer (some ⟨b1, 0, none⟩), .pointer (some ⟨b2, 0, none⟩)] w' fun e w'' => e = .returned (.bool (pr ⟨x1, ⟨x2, x3, x4, x5⟩⟩)) ∧ Below w'.heap.size w' w'') :
 Calls Tryz.prog 219 #[.slice A n c, .func (.func 126) #[] #[.pointer (some ⟨b1, 0, none⟩), .pointer (some ⟨b2, 0, none⟩)]] w fun e w' => ∃ i : Int, e = .returned (.int .i64 i) ∧ IdxOut pr l i ∧ Below w.heap.size w w' := by
 have N := hid hn
 have HCL := hid hcl
 clear hn hcl
 go_enter Tryz.func219, Tryz.ntmps219
 go_wp2_with (fail)
 go_loopg [8] n (fun g iv wr => ∃ i : Nat, i ≤ n ∧ g = n - i ∧ iv = .int .i64 i ∧ Below w.heap.size w wr ∧ Hid (∀ x ∈ l.take i, pr x = false))
 case atStart => exact ⟨0, by omega, rfl, rfl, Below.refl _ _, hid (by simp)⟩
 case round =>
  obtain ⟨i, hi, hg, rfl, hbw, HI⟩ := hrel
  have HG := hid hg
  clear hg
  by_cases hlt : i < n
  ·have hil : i < l.length := by have := N.out; omega
   obtain ⟨ad, x, rfl, _, _, hx, hc1⟩ := (h.below hbw (Nat.le_refl _)).el hil
   have HT : Hid (l.take (i + 1) = l.take i ++ [x]) := hid (by rw [List.take_add_one, hx]; rfl)
   have HX := hid hx
   clear hx hil
   obtain ⟨x1, x2, x3, x4, x5⟩ := x
   obtain ⟨r0, r1, r2, r3, r4⟩ := Z1b hc1
   clear hc1
   by_cases hp : pr ⟨x1, ⟨x2, x3, x4, x5⟩⟩ = true
   ·go_wp2_with (go_at_call 126; refine (HCL.out _ _ _ _ _ _ hbw).mono ?_; rintro e w' ⟨rfl, hb'⟩)
    go_ret
    exact ⟨i, rfl, .inr ⟨i, rfl, by have := N.out; omega, HI.out, _, HX.out, hp⟩, hbw.trans (hb'.mono hbw.size)⟩
   ·have hp' : pr ⟨x1, ⟨x2, x3, x4, x5⟩⟩ = false := by simpa using hp
    clear hp
    go_wp2_with (go_at_call 126; refine (HCL.out _ _ _ _ _ _ hbw).mono ?_; rintro e w' ⟨rfl, hb'⟩)
    have hbw' := hbw.trans (hb'.mono hbw.size)
    go_roundg (n - (i + 1))
    case measure => have := HG.out; omega
    case rel =>
     refine ⟨i + 1, by omega, rfl, by go_num, hbw', hid ?_⟩
     intro y hy
     rw [HT.out] at hy
     rcases List.mem_append.1 hy with hy | hy
     ·exact HI.out y hy
     ·simp at hy; rw [hy]; exact hp'
  ·go_wp2_with (fail)
   go_ret
   refine ⟨-1, rfl, .inl ⟨rfl, ?_⟩, hbw⟩
   have h1 := HI.out
   rw [List.take_of_length_le (by have := N.out; omega)] at h1
   exact h1
theorem Z53 (b1 b2 : Nat) (pr : At → Bool) (A : Option Addr) (n c base : Nat) (l : List At) (w : World) (hown : OwAt w base (.slice A n c) l) (hbase : base ≤ w.heap.size) (hb : n ≤ 100000000) (hn : n = l.length)
 (hcl : ∀ (x1 x2 x3 x4 : Int) (x5 : ByteArray) (w' : World), Below base w w' → Calls Tryz.prog 126 #[.agg #[.int .i64 x1, .int .u8 x2, .int .i64 x3, .int .u64 x4, .string x5], .pointer (some ⟨b1, 0, none⟩), .pointer (some ⟨b2, 0, none⟩)] w' fun e w'' => e = .returned (.bool (pr ⟨x1, ⟨x2, x3, x4, x5⟩⟩)) ∧ Below w'.heap.size w' w'') :
 Calls Tryz.prog 124 #[.slice A n c, .func (.func 126) #[] #[.pointer (some ⟨b1, 0, none⟩), .pointer (some ⟨b2, 0, none⟩)]] w fun e w' =>
  ∃ A' c', e = .returned (.slice A' (l.filter (fun x => !pr x)).length c') ∧ OwAt w' base (.slice A' (l.filter (fun x => !pr x)).length c') (l.filter (fun x => !pr x)) ∧ Below base w w' := by
 have N := hid hn
 have HCL := hid hcl
 have hcap := hown.cap
 have hlc : n ≤ c := by rw [hn]; exact hcap.1
 have hcm : c ≤ 2 ^ 63 - 1 := hcap.2
 clear hn hcl hcap
 generalize hR : l.filter (fun x => !pr x) = R
 have HR := hid hR
 clear hR
 go_enter Tryz.func124, Tryz.ntmps124
 go_wp2_with (go_at_call 219; refine Hid.out ?_)
 refine hid ?_
 refine (Z6C b1 b2 pr A n c l w N.out (hown.rd At.enc_len) (by omega) (fun x1 x2 x3 x4 x5 w' hb' => HCL.out x1 x2 x3 x4 x5 w' (hb'.mono hbase))).mono ?_
 rintro e w1 ⟨ix, rfl, hix, hb1⟩
 have hbw1 : Below base w w1 := hb1.mono hbase
 have hown1 := hown.below hb1 (Nat.le_refl _)
 have hbase1 : base ≤ w1.heap.size := Nat.le_trans hbase hb1.size
 clear hown hb1
 rcases hix with ⟨rfl, hall⟩ | ⟨i0, rfl, hi0, hpre, x0, hx0, hpx0⟩
 ·have hRl : R = l := by
   rw [← HR.out]
   exact List.filter_eq_self.2 (fun x hx => by simp [hall x hx])
  have HRL := hid hRl
  clear hRl hall
  go_wp2_with (fail)
  go_ret
  refine ⟨A, c, ?_, ?_, hbw1⟩
  ·rw [HRL.out, ← N.out]; rfl
  ·rw [HRL.out, ← N.out]; exact hown1
 ·have hne : ((i0 : Int) == -1) = false := beq_eq_false_iff_ne.2 (by omega)
  have hi0n : i0 < n := by rw [N.out]; exact hi0
  have hst : Hid (l.take i0 = (l.take (i0 + 1)).filter (fun x => !pr x)) := hid (by
   rw [List.take_add_one, hx0, List.filter_append, List.filter_eq_self.2 (fun x hx => by simp [hpre x hx])]
   simp [hpx0])
  clear hpre hx0 hpx0 hi0
  go_wp2_with (fail)
  go_loopg [5, 6] (n - (i0 + 1)) (fun g iv jv wr => ∃ (i j : Nat) (m : List At), i < j ∧ j ≤ n ∧ g = n - j ∧ iv = .int .i64 i ∧ jv = .int .i64 j ∧ OwAt wr base (.slice A n c) m ∧ base ≤ wr.heap.size ∧ Below base w wr ∧
   Hid (m.length = n ∧ m.drop j = l.drop j ∧ m.take i = (l.take j).filter (fun x => !pr x)))
  case atStart => exact ⟨i0, i0 + 1, l, by omega, by omega, rfl, rfl, by go_num, hown1, hbase1, hbw1, hid ⟨N.out.symm, rfl, hst.out⟩⟩
  case round =>
   clear hown1 hbase1 hbw1 hst hne hi0n
   obtain ⟨i, j, m, hij, hj, hg, rfl, rfl, hown, hbs, hbw, HI⟩ := hrel
   have HG := hid hg
   clear hg
   by_cases hlt : j < n
   ·have hjm : j < m.length := by have := HI.out.1; omega
    obtain ⟨ad, x, rfl, _, hdm, hx, hc1⟩ := (hown.rd At.enc_len).el hjm
    have HX : Hid (l.take (j + 1) = l.take j ++ [x] ∧ m.drop (j + 1) = l.drop (j + 1)) := hid (by
     obtain ⟨h1, h2, h3⟩ := HI.out
     have h4 : l[j]? = some x := by
      have := congrArg (fun t => t[0]?) h2
      simp only [List.getElem?_drop, Nat.add_zero] at this
      rw [← this, hx]
     refine ⟨by rw [List.take_add_one, h4]; rfl, ?_⟩
     have := congrArg (fun t => t.drop 1) h2
     simpa [List.drop_drop] using this)
    clear hdm hx hjm
    obtain ⟨x1, x2, x3, x4, x5⟩ := x
    obtain ⟨r0, r1, r2, r3, r4⟩ := Z1b hc1
    clear hc1
    have hbx0 := heap_alloc_new wr (.cells #[.int .i64 x1, .int .u8 x2, .int .i64 x3, .int .u64 x4, .string x5] 108)
    have hbwA := hbw.alloc hbs (.cells #[.int .i64 x1, .int .u8 x2, .int .i64 x3, .int .u64 x4, .string x5] 108)
    have hownA := hown.alloc (.cells #[.int .i64 x1, .int .u8 x2, .int .i64 x3, .int .u64 x4, .string x5] 108)
    have hsz := Z1R wr (.cells #[.int .i64 x1, .int .u8 x2, .int .i64 x3, .int .u64 x4, .string x5] 108)
    have hwbA : ∀ k, wb (.slice (some ad) n c) = some k → k < wr.heap.size := fun k hk => (hown.wb_lt k hk).2
    by_cases hp : pr ⟨x1, ⟨x2, x3, x4, x5⟩⟩ = true
    ·have HBX0 := hid hbx0
     have HWB := hid hwbA
     have HSZ := hid hsz
     clear hbx0 hwbA hsz
     go_wp2_with (go_at_call 126; refine (HCL.out _ _ _ _ _ _ hbwA).mono ?_; rintro e w2 ⟨rfl, hb2⟩)
     have hbw2 : Below base w w2 := hbwA.trans (hb2.mono (by rw [← HSZ.out]; omega))
     have hown2 := hownA.below hb2 (Nat.le_refl _)
     have hbs2 : base ≤ w2.heap.size := by have := hb2.size; rw [← HSZ.out] at this; omega
     go_roundg (n - (j + 1))
     case measure => have := HG.out; omega
     case rel =>
      obtain ⟨h1, h2, h3⟩ := HI.out
      obtain ⟨h4, h5⟩ := HX.out
      exact ⟨i, j + 1, m, by omega, by omega, rfl, rfl, by go_num, hown2, hbs2, hbw2, hid ⟨h1, h5, by rw [h4, List.filter_append, h3]; simp [hp]⟩⟩
    ·have hp' : pr ⟨x1, ⟨x2, x3, x4, x5⟩⟩ = false := by simpa using hp
     clear hp
     have HBX0 := hid hbx0
     have HWB := hid hwbA
     have HSZ := hid hsz
     clear hbx0 hwbA hsz
     go_wp2_with (go_at_call 126; refine Hid.out ?_)
     refine hid ?_
     refine (HCL.out _ _ _ _ _ _ hbwA).mono ?_
     rintro e w2 ⟨rfl, hb2⟩
     have hbw2 : Below base w w2 := hbwA.trans (hb2.mono (by rw [← HSZ.out]; omega))
     have hown2 := hownA.below hb2 (Nat.le_refl _)
     have hbs2 : base ≤ w2.heap.size := by have := hb2.size; rw [← HSZ.out] at this; omega
     have hbx2 := (hb2.block wr.heap.size (by rw [← HSZ.out]; omega)).trans HBX0.out
     obtain ⟨b0, b1, b2, b3, b4⟩ := Z0V hbx2
     have him : i < m.length := by have := HI.out.1; omega
     have hin : i < n := by omega
     clear hbx2
     obtain ⟨i1, hi1, hz1, hz2, hz3⟩ := info_parts Tryz.infoAt
     have I1 := hid hi1
     have Z2 := hid hz2
     clear hi1 hz1 hz2 hz3 hownA hbwA
     go_wp2_with (refine Z2D rfl 108 (.tmp 33) (.tmp 32) rfl rfl i1 I1.out Z2.out At.enc_len At.enc_one hown2 him ⟨x1, ⟨x2, x3, x4, x5⟩⟩ (cs := #[.int .i64 x1, .int .u8 x2, .int .i64 x3, .int .u64 x4, .string x5]) rfl (p := ad.add (i * 5)) rfl rfl rfl ?_; intro w3 hown3 hg3)
     have hbw3 : Below base w w3 := hbw2.grown hg3 hbs2 (fun k hk => (hown2.wb_lt k hk).1)
     have hbs3 : base ≤ w3.heap.size := Nat.le_trans hbs2 hg3.size
     go_roundg (n - (j + 1))
     case measure => have := HG.out; omega
     case rel =>
      obtain ⟨h1, h2, h3⟩ := HI.out
      obtain ⟨h4, h5⟩ := HX.out
      refine ⟨i + 1, j + 1, m.set i ⟨x1, ⟨x2, x3, x4, x5⟩⟩, by omega, by omega, rfl, by go_num, by go_num, hown3, hbs3, hbw3, hid ⟨by rw [List.length_set]; exact h1, by rw [List.drop_set_of_lt (by omega)]; exact h5, ?_⟩⟩
      rw [h4, List.filter_append, List.take_add_one, List.getElem?_set_self him, List.take_set_of_le (Nat.le_refl i), h3]
      simp [hp']
   ·have hjn : j = n := by omega
    have hm0 := HI.out
    obtain ⟨i1, hi1, hz1, hz2, hz3⟩ := info_parts Tryz.infoAt
    have I1 := hid hi1
    have Z1 := hid hz1
    have hmR : m.take i = R := by
     obtain ⟨h1, h2, h3⟩ := hm0
     rw [h3, ← HR.out, List.take_of_length_le (by have := N.out; omega)]
    have him : i ≤ m.length := by have := hm0.1; omega
    have hiR : i = R.length := by rw [← hmR, List.length_take, Nat.min_eq_left him]
    have HIR := hid hiR
    have HMR := hid hmR
    have HML : Hid (m.length = n) := hid hm0.1
    clear hi1 hz1 hz2 hz3 hmR hiR hm0 hjn
    rcases Nat.lt_or_ge i c with hci | hci
    ·have hne : ¬ c = i := by omega
     go_wp2_with (refine Z02 (i := i) (X := A.map (fun x => x.add (i * 5))) rfl (.tmp 38) _ rfl rfl Tryz.slAt i1 _ I1.out Z1.out rfl (by intro u hu; exact At.enc_one ⟨0, V.zero⟩ u hu) At.enc_len hown him (by exact .inr rfl) (by rw [HML.out]) rfl ?_; intro w3 hown3 hg3)
     have hbw3 : Below base w w3 := hbw.grown hg3 hbs (fun k hk => (hown.wb_lt k hk).1)
     rw [HMR.out] at hown3
     have hri := HIR.out
     subst hri
     go_ret
     exact ⟨A, c, rfl, hown3, hbw3⟩
    ·go_wp2_with (refine Z02 (i := i) (X := A) rfl (.tmp 38) _ rfl rfl Tryz.slAt i1 _ I1.out Z1.out rfl (by intro u hu; exact At.enc_one ⟨0, V.zero⟩ u hu) At.enc_len hown him (by have := HML.out; left; omega) (by rw [HML.out]) rfl ?_; intro w3 hown3 hg3)
     have hbw3 : Below base w w3 := hbw.grown hg3 hbs (fun k hk => (hown.wb_lt k hk).1)
     rw [HMR.out] at hown3
     have hri := HIR.out
     subst hri
     go_ret
     exact ⟨A, c, rfl, hown3, hbw3⟩
end Go.Proofs.YtnmedachaeanbaaGreatDoor
