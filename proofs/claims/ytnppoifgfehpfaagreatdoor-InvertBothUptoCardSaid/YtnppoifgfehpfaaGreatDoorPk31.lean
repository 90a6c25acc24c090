/- Merged texts: NormOf, SameOs, NormIs. -/
import Derived.Test.YtnppoifgfehpfaaGreatDoorPk26
import Derived.Test.YtnppoifgfehpfaaGreatDoorMkIns3Pd
import Derived.Test.YtnppoifgfehpfaaGreatDoorPk23
import Derived.Test.YtnppoifgfehpfaaGreatDoorMkOpsPd
import Derived.Test.YtnppoifgfehpfaaGreatDoorPk25
import Derived.Test.YtnppoifgfehpfaaGreatDoorPk7
import Derived.Test.YtnppoifgfehpfaaGreatDoorPk29
/- The walk of normal.Of. -/
namespace Go.Proofs.YtnppoifgfehpfaaGreatDoor
open Go.RowKit
set_option linter.unusedVariables false
set_option linter.unusedSimpArgs false

set_option maxRecDepth 100000 in
set_option maxHeartbeats 3200000 in
theorem normOfN_any (A : Option Addr) (n c : Nat) (x : List OpS) (w : World) (hn : n = x.length) (h : RdOp w w.heap.size A x) (hz : szN x ≤ 2000000) (hz2 : ∀ o ∈ x, o.o.s.length ≤ 1000000 ∧ o.o.p.length ≤ 1000000) :
    Calls Tryz.prog 19 #[.slice A n c] w (NewOps (mkOps (ofM (osOf x))) w) := by
  have N := Lib.hid hn
  have HR := Lib.hid h.1
  have HP := Lib.hid h.2
  have SZ : Hid (∀ o ∈ x, o.o.r.length ≤ 2000000 ∧ o.o.s.length ≤ 1000000 ∧ o.o.p.length ≤ 1000000) := Lib.hid (fun o ho => by
    have h1 := szN_mem ho
    have h2 := hz2 o ho
    omega)
  have NB : Hid (n ≤ 2000000) := Lib.hid (by
    have h1 := szN_len x
    omega)
  have HB : Hid (∀ i, MkB (ofM (osOf (x.take i))) 4000000 1000000) := Lib.hid (fun i => by
    have h1 := ofM_bndN (S := 1000000) (x.take i) (fun o ho => ⟨(SZ.out o (List.mem_of_mem_take ho)).2.1, (SZ.out o (List.mem_of_mem_take ho)).2.2⟩)
    have h2 := szN_take x i
    exact h1.mono (by omega) (Nat.le_refl _))
  clear hz2
  clear hn h hz
  go_enter Tryz.func19, Tryz.ntmps19
  go_wp2_with (fail)
  go_step3
  go_wp2_with (go_at_call 57; refine Hid.out ?_)
  refine Lib.hid ?_
  refine (mkNew_any w).mono ?_
  rintro e w1 ⟨rfl, hm, y1⟩
  have HM := Lib.hid hm
  have Y1 := Lib.hid y1
  clear hm y1
  have hF : ∀ k, k = w.heap.size → w.heap.size ≤ k := fun k hk => by omega
  have HR1 : Hid (Rd OpS.enc 5 w1 w1.heap.size A x ∧ OffF (fun k => k = w.heap.size) A x.length ∧ ∀ o ∈ x, (RdI32 w1 w1.heap.size o.Ar o.o.r ∧ OffF (fun k => k = w.heap.size) o.Ar o.o.r.length) ∧ (RdAt w1 w1.heap.size o.As o.o.s ∧ OffF (fun k => k = w.heap.size) o.As o.o.s.length) ∧ (RdCh w1 w1.heap.size o.Ap o.o.p ∧ OffF (fun k => k = w.heap.size) o.Ap o.o.p.length)) :=
    Lib.hid ⟨HR.out.ext Y1.out, HR.out.offF hF, fun o ho => ⟨⟨(HP.out o ho).1.ext Y1.out, (HP.out o ho).1.offF hF⟩, ⟨(HP.out o ho).2.1.ext Y1.out, (HP.out o ho).2.1.offF hF⟩, ⟨(HP.out o ho).2.2.ext Y1.out, (HP.out o ho).2.2.offF hF⟩⟩⟩
  go_wp2_with (fail)
  go_step3
  go_wp2_with (fail)
  go_loopg [9] n (fun g iv wr => ∃ (i : Nat) (F' : Nat → Prop), i ≤ n ∧ g = n - i ∧ iv = .int .i64 (i : Int) ∧ Mkr wr F' w.heap.size (ofM (osOf (x.take i))) ∧ Grow w1 (fun k => k = w.heap.size) wr F')
  case atStart => exact ⟨0, fun k => k = w.heap.size, by omega, rfl, rfl, HM.out, Grow.refl _ _⟩
  case round =>
    obtain ⟨i, F', hi, hg, rfl, hm, gr⟩ := hrel
    have HG := Lib.hid hg
    have HM := Lib.hid hm
    clear hg hm
    by_cases hlt : i < n
    · have hl1 : i < x.length := by have := N.out; omega
      have hlt' : (i : Int) < (n : Int) := by omega
      obtain ⟨ad, o, rfl, had, _, hx1, hc1⟩ := (HR1.out.1.grow gr HR1.out.2.1).el hl1
      have hom := List.mem_of_getElem? hx1
      have HT : Hid (ofM (osOf (x.take (i + 1))) = tellO (ofM (osOf (x.take i))) o.o) := Lib.hid (by
        have e : osOf (x.take (i + 1)) = osOf (x.take i) ++ [o.o] := by unfold osOf; rw [List.take_add_one, hx1]; simp
        rw [e, ofM_snoc])
      obtain ⟨⟨p1, f1⟩, ⟨p2, f2⟩, ⟨p3, f3⟩⟩ := HR1.out.2.2 o hom
      have PR := Lib.hid (p1.grow gr f1)
      have PS := Lib.hid (p2.grow gr f2)
      have PP := Lib.hid (p3.grow gr f3)
      have FP := Lib.hid (f3.grow p3 gr)
      have SO := Lib.hid (SZ.out o hom)
      have MB := Lib.hid (HB.out i)
      obtain ⟨⟨k, nn, r, s, q⟩, Ar, cr, As, cs, Ap, cp⟩ := o
      obtain ⟨z0, z1, z2, z3, z4⟩ := op_cells hc1
      have yb := ext_alloc wr (.cells #[.int .u8 k, .int .i64 nn, .slice Ar r.length cr, .slice As s.length cs, .slice Ap q.length cp] 54)
      have hbx := heap_alloc_new wr (.cells #[.int .u8 k, .int .i64 nn, .slice Ar r.length cr, .slice As s.length cs, .slice Ap q.length cp] 54)
      obtain ⟨q0, q1, q2, q3, q4⟩ := box_at hbx
      have Y := Lib.hid yb
      have hw2 : IntKind.i64.wrap ((i:Int) + 1) = (i : Int) + 1 := IntWalk.i64_in _ (by have := NB.out; omega)
      clear hx1 hom hl1 hc1 had yb hbx p1 f1 p2 f2 p3 f3
      by_cases hk : k = 1
      · subst hk
        have HT2 : Hid (ofM (osOf (x.take (i + 1))) = mkRetain (ofM (osOf (x.take i))) nn q) := Lib.hid HT.out
        go_wp2_with (go_at_call 60; refine Hid.out ?_)
        refine Lib.hid ?_
        refine (mkRetain_any w.heap.size Ap nn q.length cp q _ F' (ofM (osOf (x.take i))) (HM.out.below Y.out) rfl (PP.out.ext Y.out) FP.out (by have := SO.out.2.2; omega) (by have := MB.out.len; omega) (fun o ho => by have := (MB.out.gap.2 o ho).2.2; omega)).mono ?_
        rintro e w3 ⟨rfl, F3, hm3, g3⟩
        have gg := gr.trans ((Grow.of Y.out).trans g3)
        rw [← HT2.out] at hm3
        have HM3 := Lib.hid hm3
        clear hm3
        go_wp2_with (fail)
        go_roundg (n - (i + 1))
        case measure => have := HG.out; omega
        case rel => exact ⟨i + 1, F3, by omega, rfl, by go_num, HM3.out, gg⟩
      by_cases hk2 : k = 2
      · have hk := hk2
        clear hk2
        have hk1 : ¬ (2 : Int) = 1 := by decide
        subst hk
        have HT2 : Hid (ofM (osOf (x.take (i + 1))) = mkInsert (ofM (osOf (x.take i))) r s) := Lib.hid HT.out
        go_wp2_with (go_at_call 59; refine Hid.out ?_)
        refine Lib.hid ?_
        refine (mkInsert_any w.heap.size Ar As r.length cr s.length cs r s _ F' (ofM (osOf (x.take i))) (HM.out.below Y.out) rfl rfl (PR.out.ext Y.out) (PS.out.ext Y.out) (by have := SO.out.1; omega) (by have := SO.out.2.1; omega) (by have := MB.out.len; omega) (fun o ho => by obtain ⟨h1, h2, h3⟩ := MB.out.prt o (List.mem_append_right _ ho); exact ⟨by omega, by omega⟩)).mono ?_
        rintro e w3 ⟨rfl, F3, hm3, g3⟩
        have gg := gr.trans ((Grow.of Y.out).trans g3)
        rw [← HT2.out] at hm3
        have HM3 := Lib.hid hm3
        clear hm3
        go_wp2_with (fail)
        go_roundg (n - (i + 1))
        case measure => have := HG.out; omega
        case rel => exact ⟨i + 1, F3, by omega, rfl, by go_num, HM3.out, gg⟩
      · have HT2 : Hid (ofM (osOf (x.take (i + 1))) = mkDelete (ofM (osOf (x.take i))) nn) := Lib.hid (HT.out.trans (by unfold tellO; rw [if_neg hk, if_neg hk2]))
        have hk' : (k == 1) = false := beq_eq_false_iff_ne.2 hk
        have hk2' : (k == 2) = false := beq_eq_false_iff_ne.2 hk2
        go_wp2_with (go_at_call 58; refine Hid.out ?_)
        refine Lib.hid ?_
        refine (mkDelete_any w.heap.size nn _ F' (ofM (osOf (x.take i))) (HM.out.below Y.out)).mono ?_
        rintro e w3 ⟨rfl, F3, hm3, g3⟩
        have gg := gr.trans ((Grow.of Y.out).trans g3)
        rw [← HT2.out] at hm3
        have HM3 := Lib.hid hm3
        clear hm3
        go_wp2_with (fail)
        go_roundg (n - (i + 1))
        case measure => have := HG.out; omega
        case rel => exact ⟨i + 1, F3, by omega, rfl, by go_num, HM3.out, gg⟩
    · have hin : i = n := by omega
      subst hin
      have hlt' : ¬ (i : Int) < (i : Int) := by omega
      have hm := HM.out
      rw [List.take_of_length_le (by rw [← N.out]; exact Nat.le_refl _)] at hm
      have HMF : Hid (Mkr wr F' w.heap.size (ofM (osOf x))) := Lib.hid hm
      have BF := Lib.hid (HB.out i)
      have EX : Hid (x.take i = x) := Lib.hid (List.take_of_length_le (by rw [← N.out]; exact Nat.le_refl _))
      rw [EX.out] at BF
      have y34 := Lib.hid (Y1.out.trans (gr.below (B := w.heap.size) hF Y1.out.size))
      clear hm gr
      go_wp2_with (go_at_call 63; refine Hid.out ?_)
      refine Lib.hid ?_
      refine (mkOps_any _ wr F' (ofM (osOf x)) HMF.out (by have := BF.out.len; omega) (fun o ho => by obtain ⟨h1, h2, h3⟩ := BF.out.gap.2 o ho; exact ⟨by omega, by omega, by omega⟩)).mono ?_
      intro e w5 hN
      have hN2 := hN.late y34.out
      obtain ⟨A2, c2, l2, rfl, hM⟩ := hN2
      go_wp2_with (fail)
      go_ret
      exact ⟨A2, c2, l2, rfl, hM⟩
theorem normOf_any (A : Option Addr) (n c : Nat) (x : List OpS) (w : World) (hn : n = x.length) (h : RdOp w w.heap.size A x) (hz : szX x ≤ 500000) :
    Calls Tryz.prog 19 #[.slice A n c] w (NewOps (mkOps (ofM (osOf x))) w) :=
  normOfN_any A n c x w hn h (by have := szN_le x; omega) (fun o ho => by
    have h1 := szX_mem ho
    unfold szO at h1
    omega)
end Go.Proofs.YtnppoifgfehpfaaGreatDoor
/- The walks of slices.Equal over runes and of ops.Same. -/
namespace Go.Proofs.YtnppoifgfehpfaaGreatDoor
open Go.RowKit
set_option linter.unusedVariables false
set_option linter.unusedSimpArgs false

set_option maxRecDepth 100000 in
set_option maxHeartbeats 400000 in
theorem equalI_any (A B : Option Addr) (n m c d : Nat) (l k : List Int) (w : World) (hn : n = l.length) (hm : m = k.length) (h1 : RdI32 w w.heap.size A l) (h2 : RdI32 w w.heap.size B k) (hb : n ≤ 140737488355328) (hb2 : m ≤ 140737488355328) :
    Calls Tryz.prog 133 #[.slice A n c, .slice B m d] w fun e w' => e = .returned (.bool (decide (l = k))) ∧ Below w.heap.size w w' := by
  have N := Lib.hid hn
  have M := Lib.hid hm
  generalize hR : decide (l = k) = R
  have HR := Lib.hid hR
  clear hn hR hm
  by_cases hnm : (n : Int) = m
  · have hnm' : n = m := by omega
    subst hnm'
    clear hnm
    go_enter Tryz.func133, Tryz.ntmps133
    go_wp2_with (fail)
    go_loopg [13] n (fun g iv wr => ∃ i : Nat, i ≤ n ∧ g = n - i ∧ iv = .int .i64 (i : Int) ∧ (∃ q, wr = w.drewN q) ∧ Hid (decide (l.drop i = k.drop i) = R))
    case atStart => exact ⟨0, by omega, rfl, rfl, ⟨0, rfl⟩, Lib.hid (by rw [List.drop_zero, List.drop_zero]; exact HR.out)⟩
    case round =>
      obtain ⟨i, hi, hg, rfl, ⟨q, rfl⟩, HI⟩ := hrel
      have HG := Lib.hid hg
      clear hg HR
      by_cases hlt : i < n
      · have hl1 : i < l.length := by have := N.out; omega
        have hl2 : i < k.length := by have := M.out; omega
        obtain ⟨ad, x, rfl, _, hd1, _, hc1⟩ := h1.el hl1
        obtain ⟨ad2, y, rfl, _, hd2, _, hc2⟩ := h2.el hl2
        have HI' : Hid (decide (x :: l.drop (i + 1) = y :: k.drop (i + 1)) = R) := Lib.hid (by rw [← HI.out, hd1, hd2])
        have r0 := hc1 0 _ rfl
        rw [add_zero', Nat.mul_one] at r0
        have s0 := hc2 0 _ rfl
        rw [add_zero', Nat.mul_one] at s0
        clear HI hd1 hd2 hc1 hc2
        by_cases hxy : x = y
        · subst hxy
          go_wp2_with (go_quiet (fail))
          go_roundg (n - (i + 1))
          case measure => have := HG.out; omega
          case rel => exact ⟨i + 1, by omega, rfl, by go_num, ⟨_, rfl⟩, Lib.hid (by rw [← HI'.out]; simp only [List.cons.injEq, true_and])⟩
        · have HXY := Lib.hid hxy
          have hne : (x == y) = false := beq_eq_false_iff_ne.2 hxy
          clear hxy
          go_wp2_with (go_quiet (fail))
          go_ret
          exact ⟨ret_bool (by rw [← HI'.out]; exact (decide_eq_false fun e => HXY.out (List.cons.inj e).1).symm), by rw [World.drewN_drewN]; exact ext_drew w _⟩
      · go_wp2_with (fail)
        go_ret
        exact ⟨ret_bool (by rw [← HI.out, List.drop_eq_nil_of_le (by have := N.out; omega), List.drop_eq_nil_of_le (by have := M.out; omega)]; rfl), ext_drew w _⟩
  · have hne : ((n : Int) == m) = false := beq_eq_false_iff_ne.2 hnm
    go_enter Tryz.func133, Tryz.ntmps133
    go_wp2_with (fail)
    go_ret
    refine ⟨ret_bool ?_, Below.refl _ _⟩
    rw [← HR.out]
    refine (decide_eq_false fun e => ?_).symm
    have h3 := N.out
    have h4 := M.out
    rw [e] at h3
    omega

/-- an op's parts can be read and are no longer than Go bears -/
def OpIn (w : World) (x : OpS) : Prop :=
  RdI32 w w.heap.size x.Ar x.o.r ∧ RdAt w w.heap.size x.As x.o.s ∧ RdCh w w.heap.size x.Ap x.o.p ∧ x.o.r.length ≤ 140737488355328 ∧ x.o.s.length ≤ 140737488355328 ∧ x.o.p.length ≤ 140737488355328
theorem OpIn.ext {w w' : World} {x : OpS} (h : OpIn w x) (y : Below w.heap.size w w') : OpIn w' x := ⟨h.1.ext y, h.2.1.ext y, h.2.2.1.ext y, h.2.2.2⟩
theorem box_op {w : World} {b : Nat} {t : TypeId} {c0 c1 c2 c3 c4 : Value} (h : w.heap[b]? = some (.cells #[c0, c1, c2, c3, c4] t (0, 0))) :
    w.cell? ⟨b, 0, none⟩ = some c0 ∧ w.cell? ⟨b, 1, none⟩ = some c1 ∧ w.cell? ⟨b, 2, none⟩ = some c2 ∧ w.cell? ⟨b, 3, none⟩ = some c3 ∧ w.cell? ⟨b, 4, none⟩ = some c4 := by
  simp [World.cell?, h]

def OpS.val (x : OpS) : Value := .agg #[.int .u8 x.o.k, .int .i64 x.o.n, .slice x.Ar x.o.r.length x.cr, .slice x.As x.o.s.length x.cs, .slice x.Ap x.o.p.length x.cp]
set_option maxRecDepth 100000 in
set_option maxHeartbeats 1600000 in
theorem sameOs1_any (x z : OpS) (w : World) (h1 : OpIn w x) (h2 : OpIn w z) :
    Calls Tryz.prog 132 #[x.val, z.val] w fun e w' => e = .returned (.bool (decide (x.o = z.o))) ∧ Below w.heap.size w w' := by
  obtain ⟨⟨k, nn, r, s, p⟩, Ar, cr, As, cs, Ap, cp⟩ := x
  obtain ⟨⟨k', nn', r', s', p'⟩, Ar', cr', As', cs', Ap', cp'⟩ := z
  have y1 := ext_alloc w (.cells #[.int .u8 k, .int .i64 nn, .slice Ar r.length cr, .slice As s.length cs, .slice Ap p.length cp] 54)
  have y2 := ext_alloc (w.alloc (.cells #[.int .u8 k, .int .i64 nn, .slice Ar r.length cr, .slice As s.length cs, .slice Ap p.length cp] 54)) (.cells #[.int .u8 k', .int .i64 nn', .slice Ar' r'.length cr', .slice As' s'.length cs', .slice Ap' p'.length cp'] 54)
  have yy := ext_trans y1 y2
  have HB1 := Lib.hid ((y2.block w.heap.size (by simp)).trans (heap_alloc_new w (.cells #[.int .u8 k, .int .i64 nn, .slice Ar r.length cr, .slice As s.length cs, .slice Ap p.length cp] 54)))
  have hb2 := heap_alloc_new (w.alloc (.cells #[.int .u8 k, .int .i64 nn, .slice Ar r.length cr, .slice As s.length cs, .slice Ap p.length cp] 54)) (.cells #[.int .u8 k', .int .i64 nn', .slice Ar' r'.length cr', .slice As' s'.length cs', .slice Ap' p'.length cp'] 54)
  rw [World.size_alloc] at hb2
  have HB2 := Lib.hid hb2
  obtain ⟨a0, a1, a2, a3, a4⟩ := box_op HB1.out
  have Q1 := Lib.hid (h1.ext yy)
  have Q2 := Lib.hid (h2.ext yy)
  have YY := Lib.hid yy
  clear y1 y2 h1 h2 hb2 yy
  simp only [OpS.val]
  generalize hR : decide ((⟨k, nn, r, s, p⟩ : Opd) = ⟨k', nn', r', s', p'⟩) = R
  have HR := Lib.hid hR
  clear hR
  by_cases hk : k = k'
  · subst hk
    by_cases hn : nn = nn'
    · subst hn
      cases hr : decide (r = r') with
      | false =>
        have hne : R = false := by rw [← HR.out]; exact decide_eq_false (fun e => absurd (Opd.mk.inj e).2.2.1 (of_decide_eq_false hr))
        subst hne
        have H := Lib.hid hr
        clear hr
        go_enter Tryz.func132, Tryz.ntmps132
        go_wp2_with (go_at_call 133; refine (equalI_any Ar Ar' r.length r'.length cr cr' r r' _ rfl rfl Q1.out.1 Q2.out.1 Q1.out.2.2.2.1 Q2.out.2.2.2.1).mono ?_; rintro e w1 ⟨rfl, y1⟩; rw [H.out])
        go_ret
        exact ⟨rfl, ext_trans YY.out y1⟩
      | true =>
        have er : r = r' := of_decide_eq_true hr
        subst er
        clear hr
        cases hs : decide (s = s') with
        | false =>
          have hne : R = false := by rw [← HR.out]; exact decide_eq_false (fun e => absurd (Opd.mk.inj e).2.2.2.1 (of_decide_eq_false hs))
          subst hne
          have H := Lib.hid hs
          clear hs
          go_enter Tryz.func132, Tryz.ntmps132
          go_wp2_with (go_at_call 133; refine Hid.out ?_)
          refine Lib.hid ?_
          refine (equalI_any Ar Ar' r.length r.length cr cr' r r _ rfl rfl Q1.out.1 Q2.out.1 Q1.out.2.2.2.1 Q2.out.2.2.2.1).mono ?_
          rintro e w1 ⟨rfl, y1⟩
          rw [decide_eq_true (rfl : r = r)]
          have b2 := Lib.hid ((y1.block w.heap.size (lt_of_some HB1.out)).trans HB1.out)
          have b3 := Lib.hid ((y1.block (w.heap.size + 1) (lt_of_some HB2.out)).trans HB2.out)
          obtain ⟨d0, d1, d2, d3, d4⟩ := box_op b2.out
          obtain ⟨f0, f1, f2, f3, f4⟩ := box_op b3.out
          have P1 := Lib.hid (Q1.out.ext y1)
          have P2 := Lib.hid (Q2.out.ext y1)
          have YZ := Lib.hid (ext_trans YY.out y1)
          go_wp2_with (go_at_call 72; refine Hid.out ?_)
          refine Lib.hid ?_
          refine (attrsSame_any As As' s.length s'.length cs cs' s s' _ rfl rfl P1.out.2.1 P2.out.2.1 P1.out.2.2.2.2.1 P2.out.2.2.2.2.1).mono ?_
          rintro e w2 ⟨rfl, q, rfl⟩
          rw [H.out]
          go_wp2_with (fail)
          go_ret
          exact ⟨rfl, below_drewN YZ.out q⟩
        | true =>
          have es : s = s' := of_decide_eq_true hs
          subst es
          clear hs
          have hp : R = decide (p = p') := by
            rw [← HR.out]
            by_cases h : p = p'
            · subst h; simp
            · rw [decide_eq_false h]; exact decide_eq_false (fun e => h (Opd.mk.inj e).2.2.2.2)
          have HP := Lib.hid hp
          clear hp HR
          go_enter Tryz.func132, Tryz.ntmps132
          go_wp2_with (go_at_call 133; refine Hid.out ?_)
          refine Lib.hid ?_
          refine (equalI_any Ar Ar' r.length r.length cr cr' r r _ rfl rfl Q1.out.1 Q2.out.1 Q1.out.2.2.2.1 Q2.out.2.2.2.1).mono ?_
          rintro e w1 ⟨rfl, y1⟩
          rw [decide_eq_true (rfl : r = r)]
          have b2 := Lib.hid ((y1.block w.heap.size (lt_of_some HB1.out)).trans HB1.out)
          have b3 := Lib.hid ((y1.block (w.heap.size + 1) (lt_of_some HB2.out)).trans HB2.out)
          obtain ⟨d0, d1, d2, d3, d4⟩ := box_op b2.out
          obtain ⟨f0, f1, f2, f3, f4⟩ := box_op b3.out
          have P1 := Lib.hid (Q1.out.ext y1)
          have P2 := Lib.hid (Q2.out.ext y1)
          have YZ := Lib.hid (ext_trans YY.out y1)
          go_wp2_with (go_at_call 72; refine Hid.out ?_)
          refine Lib.hid ?_
          refine (attrsSame_any As As' s.length s.length cs cs' s s _ rfl rfl P1.out.2.1 P2.out.2.1 P1.out.2.2.2.2.1 P2.out.2.2.2.2.1).mono ?_
          rintro e w2 ⟨rfl, q, rfl⟩
          rw [decide_eq_true (rfl : s = s)]
          go_wp2_with (go_at_call 107; refine Hid.out ?_)
          refine Lib.hid ?_
          refine (sameC_any Ap Ap' p.length p'.length cp cp' p p' (w1.drewN q) rfl rfl (P1.out.2.2.1.drewN q) (P2.out.2.2.1.drewN q) P1.out.2.2.2.2.2 P2.out.2.2.2.2.2).mono ?_
          rintro e w3 ⟨rfl, q2, rfl⟩
          rw [← HP.out]
          cases R
          all_goals
            go_wp2_with (fail)
            go_ret
            exact ⟨rfl, below_drewN YZ.out (q + q2)⟩
    · have hne : R = false := by rw [← HR.out]; exact decide_eq_false (fun e => hn (Opd.mk.inj e).2.1)
      subst hne
      have hnn : (nn == nn') = false := beq_eq_false_iff_ne.2 hn
      clear hn
      go_enter Tryz.func132, Tryz.ntmps132
      go_wp2_with (fail)
      go_ret
      exact ⟨rfl, YY.out⟩
  · have hne : R = false := by rw [← HR.out]; exact decide_eq_false (fun e => hk (Opd.mk.inj e).1)
    subst hne
    have hkk : (k == k') = false := beq_eq_false_iff_ne.2 hk
    clear hk
    go_enter Tryz.func132, Tryz.ntmps132
    go_wp2_with (fail)
    go_ret
    exact ⟨rfl, YY.out⟩
set_option maxRecDepth 100000 in
set_option maxHeartbeats 800000 in
theorem equalOs_any (A B : Option Addr) (n m c d : Nat) (l k : List OpS) (w : World) (hn : n = l.length) (hm : m = k.length) (h1 : RdOp w w.heap.size A l) (h2 : RdOp w w.heap.size B k) (hb : n ≤ 100000000) (hb2 : m ≤ 100000000)
    (hs1 : ∀ x ∈ l, x.o.r.length ≤ 140737488355328 ∧ x.o.s.length ≤ 140737488355328 ∧ x.o.p.length ≤ 140737488355328) (hs2 : ∀ x ∈ k, x.o.r.length ≤ 140737488355328 ∧ x.o.s.length ≤ 140737488355328 ∧ x.o.p.length ≤ 140737488355328) :
    Calls Tryz.prog 131 #[.slice A n c, .slice B m d, .func (.func 132) #[] #[]] w fun e w' => e = .returned (.bool (decide (osOf l = osOf k))) ∧ Below w.heap.size w w' := by
  have N := Lib.hid hn
  have M := Lib.hid hm
  have H1 := Lib.hid h1
  have H2 := Lib.hid h2
  have S1 := Lib.hid hs1
  have S2 := Lib.hid hs2
  generalize hR : decide (osOf l = osOf k) = R
  have HR := Lib.hid hR
  clear hn hR hm h1 h2 hs1 hs2
  have HL : Hid (∀ x : List OpS, (osOf x).length = x.length) := Lib.hid (fun x => by unfold osOf; simp)
  by_cases hnm : (n : Int) = m
  · have hnm' : n = m := by omega
    subst hnm'
    clear hnm
    go_enter Tryz.func131, Tryz.ntmps131
    go_wp2_with (fail)
    go_loopg [17] n (fun g iv wr => ∃ i : Nat, i ≤ n ∧ g = n - i ∧ iv = .int .i64 (i : Int) ∧ Below w.heap.size w wr ∧ Hid (decide (osOf (l.drop i) = osOf (k.drop i)) = R))
    case atStart => exact ⟨0, by omega, rfl, rfl, Below.refl _ _, Lib.hid (by rw [List.drop_zero, List.drop_zero]; exact HR.out)⟩
    case round =>
      obtain ⟨i, hi, hg, rfl, y, HI⟩ := hrel
      have HG := Lib.hid hg
      clear hg HR
      by_cases hlt : i < n
      · have hl1 : i < l.length := by have := N.out; omega
        have hl2 : i < k.length := by have := M.out; omega
        obtain ⟨ad, x, rfl, _, hd1, hx1, hc1⟩ := (H1.out.ext y).1.el hl1
        obtain ⟨ad2, x', rfl, had2, hd2, hx2, hc2⟩ := (H2.out.ext y).1.el hl2
        have hm1 := List.mem_of_getElem? hx1
        have hm2 := List.mem_of_getElem? hx2
        have p1 := Lib.hid (show OpIn w x from ⟨(H1.out.2 x hm1).1, (H1.out.2 x hm1).2.1, (H1.out.2 x hm1).2.2, S1.out x hm1⟩)
        have p2 := Lib.hid (show OpIn w x' from ⟨(H2.out.2 x' hm2).1, (H2.out.2 x' hm2).2.1, (H2.out.2 x' hm2).2.2, S2.out x' hm2⟩)
        have HI' : Hid (decide (x.o :: osOf (l.drop (i + 1)) = x'.o :: osOf (k.drop (i + 1))) = R) := Lib.hid (by rw [← HI.out, hd1, hd2]; rfl)
        clear HI hd1 hd2 hx1 hx2 hm1 hm2
        obtain ⟨⟨k1, n1, r1, s1, q1⟩, Ar1, cr1, As1, cs1, Ap1, cp1⟩ := x
        obtain ⟨⟨k2, n2, r2, s2, q2⟩, Ar2, cr2, As2, cs2, Ap2, cp2⟩ := x'
        obtain ⟨z0, z1, z2, z3, z4⟩ := op_cells hc1
        have ya := ext_alloc wr (.cells #[.int .u8 k1, .int .i64 n1, .slice Ar1 r1.length cr1, .slice As1 s1.length cs1, .slice Ap1 q1.length cp1] 54)
        obtain ⟨u0, u1, u2, u3, u4⟩ := op_cells (hc2.keep (w' := wr.alloc (.cells #[.int .u8 k1, .int .i64 n1, .slice Ar1 r1.length cr1, .slice As1 s1.length cs1, .slice Ap1 q1.length cp1] 54)) fun q hq => ya.cell (by rw [hq, add_block]; exact had2))
        clear hc1 hc2 hl1 hl2 had2
        have yb := ext_alloc (wr.alloc (.cells #[.int .u8 k1, .int .i64 n1, .slice Ar1 r1.length cr1, .slice As1 s1.length cs1, .slice Ap1 q1.length cp1] 54)) (.cells #[.int .u8 k2, .int .i64 n2, .slice Ar2 r2.length cr2, .slice As2 s2.length cs2, .slice Ap2 q2.length cp2] 54)
        have y3 := Lib.hid (ext_trans y (ext_trans ya yb))
        clear ya yb
        go_wp2_with (go_at_call 132; refine Hid.out ?_)
        refine Lib.hid ?_
        refine (sameOs1_any ⟨⟨k1, n1, r1, s1, q1⟩, Ar1, cr1, As1, cs1, Ap1, cp1⟩ ⟨⟨k2, n2, r2, s2, q2⟩, Ar2, cr2, As2, cs2, Ap2, cp2⟩ _ (p1.out.ext y3.out) (p2.out.ext y3.out)).mono ?_
        rintro e w' ⟨he, y4⟩
        simp only at he
        subst he
        have yy := ext_trans y3.out y4
        have hw2 : IntKind.i64.wrap ((i:Int) + 1) = (i : Int) + 1 := IntWalk.i64_in _ (by omega)
        by_cases hxy : (⟨k1, n1, r1, s1, q1⟩ : Opd) = ⟨k2, n2, r2, s2, q2⟩
        · have HXY := Lib.hid hxy
          rw [decide_eq_true hxy]
          clear hxy
          go_wp2_with (fail)
          go_roundg (n - (i + 1))
          case measure => have := HG.out; omega
          case rel => exact ⟨i + 1, by omega, rfl, by go_num, yy, Lib.hid (by rw [← HI'.out]; simp only [List.cons.injEq, HXY.out, true_and])⟩
        · have HXY := Lib.hid hxy
          rw [decide_eq_false hxy]
          clear hxy
          go_wp2_with (fail)
          go_ret
          exact ⟨ret_bool (by rw [← HI'.out]; exact (decide_eq_false fun e => HXY.out (List.cons.inj e).1).symm), yy⟩
      · go_wp2_with (fail)
        go_ret
        exact ⟨ret_bool (by rw [← HI.out, List.drop_eq_nil_of_le (by have := N.out; omega), List.drop_eq_nil_of_le (by have := M.out; omega)]; rfl), y⟩
  · have hne : ((n : Int) == m) = false := beq_eq_false_iff_ne.2 hnm
    go_enter Tryz.func131, Tryz.ntmps131
    go_wp2_with (fail)
    go_ret
    refine ⟨ret_bool ?_, Below.refl _ _⟩
    rw [← HR.out]
    refine (decide_eq_false fun e => ?_).symm
    have h3 := N.out
    have h4 := M.out
    have h5 := congrArg List.length e
    rw [HL.out, HL.out] at h5
    omega
set_option maxHeartbeats 400000 in
theorem opsSame_any (A B : Option Addr) (n m c d : Nat) (l k : List OpS) (w : World) (hn : n = l.length) (hm : m = k.length) (h1 : RdOp w w.heap.size A l) (h2 : RdOp w w.heap.size B k) (hb : n ≤ 100000000) (hb2 : m ≤ 100000000)
    (hs1 : ∀ x ∈ l, x.o.r.length ≤ 140737488355328 ∧ x.o.s.length ≤ 140737488355328 ∧ x.o.p.length ≤ 140737488355328) (hs2 : ∀ x ∈ k, x.o.r.length ≤ 140737488355328 ∧ x.o.s.length ≤ 140737488355328 ∧ x.o.p.length ≤ 140737488355328) :
    Calls Tryz.prog 73 #[.slice A n c, .slice B m d] w fun e w' => e = .returned (.bool (decide (osOf l = osOf k))) ∧ Below w.heap.size w w' := by
  have H := Lib.hid (equalOs_any A B n m c d l k w hn hm h1 h2 hb hb2 hs1 hs2)
  clear hn hm h1 h2 hs1 hs2
  generalize decide (osOf l = osOf k) = R at *
  go_enter Tryz.func73, Tryz.ntmps73
  go_wp2_with (go_at_call 131; refine Hid.out ?_)
  refine Lib.hid ?_
  refine H.out.mono ?_
  rintro e w' ⟨rfl, y⟩
  go_wp2_with (fail)
  go_ret
  exact ⟨rfl, y⟩

end Go.Proofs.YtnppoifgfehpfaaGreatDoor
/- The walk of normal.Is, and normal forms at hand. -/
namespace Go.Proofs.YtnppoifgfehpfaaGreatDoor
open Go.RowKit
set_option linter.unusedVariables false
set_option linter.unusedSimpArgs false

theorem szN_units {x : List OpS} (h : ∀ o ∈ x, isOp o.o) : szN x ≤ 2 * (units (osOf x)).length := by
  induction x with
  | nil => exact Nat.zero_le _
  | cons a x ih =>
    have h1 := unitsO_len (h a (by simp))
    have h2 := ih (fun o ho => h o (List.mem_cons_of_mem _ ho))
    have e : units (osOf (a :: x)) = unitsO a.o ++ units (osOf x) := rfl
    rw [szN_cons, e, List.length_append]; omega
/-- the sets and patches of ops made of units that may be are small -/
theorem mkU_small {l : List Ky} {x : List OpS} {us : List Un} (hx : osOf x = mkU us) (hm : ∀ u ∈ us, mU l u) : ∀ o ∈ x, o.o.s.length ≤ 64 ∧ o.o.p.length ≤ 64 := fun o ho => by
  have hop := mkU_isOp hx o ho
  have hn := nf_all (P := mU l) trivial hm
  rw [← mkU_units hx] at hn
  have hsub : ∀ u ∈ unitsO o.o, mU l u := fun u hu => hn u (units_mem.2 ⟨o, ho, hu⟩)
  rcases isOp_kind hop with hk | hk | hk
  · obtain ⟨e, hr⟩ := opI_of hop hk
    obtain ⟨r, hr⟩ := List.exists_mem_of_ne_nil _ hr
    have h1 : mU l (.ins r o.o.s) := hsub _ (by unfold unitsO; rw [if_pos hk]; exact List.mem_map.2 ⟨r, hr, rfl⟩)
    exact ⟨(mayS_zero h1.2).1, by rw [e]; exact Nat.zero_le _⟩
  · obtain ⟨e, hn⟩ := opD_of hop hk
    rw [e]; exact ⟨Nat.zero_le _, Nat.zero_le _⟩
  · obtain ⟨e, hn⟩ := opR_of hop hk
    obtain ⟨k, hk2⟩ : ∃ k, o.o.n.toNat = k + 1 := ⟨o.o.n.toNat - 1, by omega⟩
    have h1 : mU l (.ret o.o.p) := hsub _ (by unfold unitsO; rw [if_neg (by rw [hk]; decide), if_pos hk, hk2]; simp [List.replicate_succ])
    exact ⟨by rw [e]; exact Nat.zero_le _, (mayP_zero h1).1⟩
theorem sameO {w : World} {A B : Option Addr} {n c n2 c2 : Nat} {x z : List OpS} (h1 : OpsAt w A n x) (h2 : OpsAt w B n2 z) {b : Bool} (hb : decide (osOf x = osOf z) = b) :
    Calls Tryz.prog 73 #[.slice A n c, .slice B n2 c2] w fun e w' => e = .returned (.bool b) ∧ Below w.heap.size w w' := by
  have h := opsSame_any A B n n2 c c2 x z w h1.len h2.len h1.rd h2.rd (by have := h1.b; omega) (by have := h2.b; omega) (fun o ho => by obtain ⟨_, _, a, b, c⟩ := h1.ok o ho; omega) (fun o ho => by obtain ⟨_, _, a, b, c⟩ := h2.ok o ho; omega)
  rw [hb] at h
  exact h
/-- the normal form of ops at hand -/
theorem normDoc {w : World} {A : Option Addr} {n c : Nat} {x : List OpS} (h : OpsAt w A n x) (hi : ∀ o ∈ x, isOp o.o) (hz : szN x ≤ 400000) (hs : ∀ o ∈ x, o.o.s.length ≤ 1000000 ∧ o.o.p.length ≤ 1000000) (hl : (units (osOf x)).length ≤ 4000000000) :
    Calls Tryz.prog 19 #[.slice A n c] w (NewOp (mkU (units (osOf x))) w) := by
  have ht := ofM_told (osOf x) (fun o ho => by obtain ⟨z, hz, rfl⟩ := List.mem_map.1 ho; exact hi z hz) hl
  rw [← told_mkU ht]
  refine (normOfN_any A n c x w h.len h.rd (by omega) hs).mono fun e w' hN => hN.op ht (fun u hu => ?_) (ofM_bndN x hs) (by omega) (by omega)
  obtain ⟨o, ho, hu⟩ := units_mem.1 hu
  exact okUn_of (h.ok o ho) u hu
set_option maxHeartbeats 1600000 in
theorem normIs_any {w : World} {A : Option Addr} {n c : Nat} {x : List OpS} (h : OpsAt w A n x) (hi : ∀ o ∈ x, isOp o.o) (hz : szN x ≤ 400000) (hs : ∀ o ∈ x, o.o.s.length ≤ 1000000 ∧ o.o.p.length ≤ 1000000) (hl : (units (osOf x)).length ≤ 4000000000) {b : Bool} (hb : decide (mkU (units (osOf x)) = osOf x) = b) :
    Calls Tryz.prog 23 #[.slice A n c] w fun e w' => e = .returned (.bool b) ∧ Below w.heap.size w w' := by
  have H := Lib.hid h
  have HC := Lib.hid (normDoc (c := c) h hi hz hs hl)
  have HB := Lib.hid hb
  clear h hi hz hs hl hb
  go_enter Tryz.func23, Tryz.ntmps23
  go_wp2_with (go_at_call 19; refine Hid.out ?_)
  refine Lib.hid ?_
  refine HC.out.mono ?_
  rintro e w1 ⟨A2, c2, z, rfl, ez, oz, y⟩
  have OZ := Lib.hid oz
  have Y := Lib.hid y
  have EZ := Lib.hid ez
  clear oz y ez
  go_wp2_with (go_at_call 73; refine Hid.out ?_)
  refine Lib.hid ?_
  refine (sameO (b := b) OZ.out (H.out.ext Y.out) (by rw [EZ.out]; exact HB.out)).mono ?_
  rintro e w2 ⟨rfl, y2⟩
  have Y2 := Lib.hid (ext_trans Y.out y2)
  clear y2
  go_wp2_with (fail)
  go_ret
  exact ⟨rfl, Y2.out⟩
/-- ops that a maker has made are normal -/
theorem isNormal {w : World} {A : Option Addr} {n c : Nat} {x : List OpS} {us : List Un} (h : OpsAt w A n x) (hx : osOf x = mkU us) (hu : us.length ≤ 200000) {l : List Ky} (hm : ∀ u ∈ us, mU l u) :
    Calls Tryz.prog 23 #[.slice A n c] w fun e w' => e = .returned (.bool true) ∧ Below w.heap.size w w' := by
  have hi := mkU_isOp hx
  have hn := nf_len us
  have hl := szN_units hi
  rw [mkU_units hx] at hl
  refine normIs_any h hi (by omega) (fun o ho => by have := mkU_small hx hm o ho; omega) (by rw [mkU_units hx]; omega) (decide_eq_true ?_)
  rw [mkU_units hx, mkU_nf, hx]
end Go.Proofs.YtnppoifgfehpfaaGreatDoor
