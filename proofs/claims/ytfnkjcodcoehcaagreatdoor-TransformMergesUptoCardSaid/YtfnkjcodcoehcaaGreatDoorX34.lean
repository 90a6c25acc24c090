/- Merged texts. -/
import Derived.Test.YtfnkjcodcoehcaaGreatDoorX33
namespace Go.Proofs.YtfnkjcodcoehcaaGreatDoor
set_option maxRecDepth 100000
set_option maxHeartbeats 3200000
open Go.RowKit
open Go.Lib (hid Utf8Tabs)
set_option linter.unusedVariables false
set_option linter.unusedSimpArgs false
theorem Z4N (A B : Option Addr) (n c n2 c2 : Nat) (l : List Ky) (p : List At) (w : World) (hn : n = l.length) (h : RdKy w w.heap.size A l) (hb : n ≤ 140737488355328) (hn2 : n2 = p.length) (h2 : RdAt w w.heap.size B p) (hb2 : n2 ≤ 140737488355328) (hv : okVa p) (hT : Utf8Tabs 1 2 w) :
 Calls Tryz.prog 107 #[.slice A n c, .slice B n2 c2] w fun e w' => e = .returned (.int .i64 (mayS l p)) ∧ Below w.heap.size w w' := by
 have N := hid hn
 have N2 := hid hn2
 generalize hR : mayS l p = R
 have HR := hid hR
 clear hn hn2 hR
 go_enter Tryz.func107, Tryz.ntmps107
 go_wp2_with (go_at_call 35; refine Hid.out ?_)
 refine hid ?_
 refine (Z8V B n2 c2 p w N2.out h2 hb2).mono ?_
 rintro e w1 ⟨rfl, d, rfl⟩
 generalize hrr : Z1H p = Q
 have HQ := hid hrr
 clear hrr
 cases Q with
 | false =>
   go_wp2_with (fail)
   go_ret
   refine ⟨Z0r ?_, Z0m _ _⟩
   rw [← HR.out]
   unfold mayS
   rw [HQ.out]
   by_cases h : 64 < p.length <;> simp [h]
 | true =>
   by_cases h64 : (64 : Int) < (n2 : Int)
   ·go_wp2_with (fail)
    go_ret
    refine ⟨Z0r ?_, Z0m _ _⟩
    rw [← HR.out]
    unfold mayS
    rw [if_pos (by have := N2.out; omega)]
   have HP : Hid ((if p.all okA = true then (if p.all (Z1u l) = true then 0 else 4) else 3) = R) := hid (by
    rw [← HR.out]
    unfold mayS
    rw [if_neg (show ¬ (64 < p.length) by have := N2.out; omega), HQ.out]
    simp)
   obtain ⟨R1, hR1⟩ : ∃ X, p.all okA = X := ⟨_, rfl⟩
   have HR1 := hid hR1
   clear hR1
   go_wp2_with (fail)
   go_loopg [5] n2 (fun g iv wr => ∃ m : Nat, m ≤ n2 ∧ g = n2 - m ∧ iv = .int .i64 (m : Int) ∧ Below w.heap.size w wr ∧ Hid ((p.drop m).all okA = R1))
   case atStart => exact ⟨0, by omega, rfl, rfl, Z0m _ _, hid (by rw [List.drop_zero]; exact HR1.out)⟩
   case round =>
    obtain ⟨m, hm, hg, rfl, y, HI⟩ := hrel
    have HG := hid hg
    clear hg HR
    by_cases hlt : m < n2
    ·have hl1 : m < p.length := by have := N2.out; omega
     obtain ⟨ad, x, rfl, had, hd1, hx1, hc0⟩ := (h2.below y (Nat.le_refl _)).el hl1
     have hxv := hv x (List.mem_of_getElem? hx1)
     have HI2 := hid (Z5O hd1 HI.out)
     obtain ⟨x1, x2, x3, x4, x5⟩ := x
     obtain ⟨r0, r1, r2, r3, r4⟩ := Z0P hc0
     obtain ⟨f0, f1⟩ : 0 ≤ x4 ∧ x4 < 18446744073709551616 := ⟨hxv.1.f0, hxv.1.f1⟩
     have hsz : x5.size ≤ 100000000 := hxv.2
     clear hc0 hd1 hx1 hxv HI
     have hw2 : IntKind.i64.wrap ((m:Int) + 1) = (m : Int) + 1 := IntWalk.i64_in _ (by omega)
     go_wp2_with (go_at_call 174; refine Hid.out ?_)
     refine hid ?_
     refine (Z38 x2 x3 x4 x5 _ f0 f1 hsz ?tb).mono ?_
     case tb => exact Z4Y hT y rfl
     rintro e w6 ⟨rfl, y6⟩
     have HOK : Hid (okA ⟨x1, x2, x3, x4, x5⟩ = mayV ⟨x2, x3, x4, x5⟩) := hid rfl
     generalize mayV ⟨x2, x3, x4, x5⟩ = M at HOK ⊢
     have yy6 := Z2H y y6 rfl rfl rfl rfl
     cases M with
     | false =>
       have HF : Hid (p.all okA = false) := hid (by rw [HR1.out, ← HI2.out, HOK.out]; rfl)
       go_wp2_with (fail)
       go_ret
       exact ⟨Z0r (by rw [← HP.out, HF.out]; rfl), yy6⟩
     | true =>
       go_wp2_with (fail)
       go_roundg (n2 - (m + 1))
       case measure => have := HG.out; omega
       case rel => exact ⟨m + 1, by omega, rfl, by go_num, yy6, hid (by rw [← HI2.out, HOK.out, Bool.true_and])⟩
    ·have HF : Hid (p.all okA = true) := hid (by rw [HR1.out, ← HI.out, List.drop_eq_nil_of_le (by have := N2.out; omega)]; rfl)
     clear HI HR1
     obtain ⟨R2, hR2⟩ : ∃ X, p.all (Z1u l) = X := ⟨_, rfl⟩
     have HR2 := hid hR2
     clear hR2
     go_wp2_with (fail)
     go_loopg [6] n2 (fun g iv wr => ∃ m : Nat, m ≤ n2 ∧ g = n2 - m ∧ iv = .int .i64 (m : Int) ∧ Below w.heap.size w wr ∧ Hid ((p.drop m).all (Z1u l) = R2))
     case atStart => exact ⟨0, by omega, rfl, rfl, y, hid (by rw [List.drop_zero]; exact HR2.out)⟩
     case round =>
      obtain ⟨m, hm, hg, rfl, y, HI⟩ := hrel
      have HG := hid hg
      clear hg
      by_cases hlt : m < n2
      ·have hl1 : m < p.length := by have := N2.out; omega
       obtain ⟨ad, x, rfl, had, hd1, hx1, hcw⟩ := h2.el hl1
       have hxv := hv x (List.mem_of_getElem? hx1)
       have HI2 := hid (Z5O hd1 HI.out)
       obtain ⟨x1, x2, x3, x4, x5⟩ := x
       have HCW := hid hcw
       obtain ⟨f0, f1⟩ : 0 ≤ x4 ∧ x4 < 18446744073709551616 := ⟨hxv.1.f0, hxv.1.f1⟩
       have hsz : x5.size ≤ 100000000 := hxv.2
       clear hd1 hx1 hxv HI hcw
       have hw2 : IntKind.i64.wrap ((m:Int) + 1) = (m : Int) + 1 := IntWalk.i64_in _ (by omega)
       have gg : GoodB w [] wr := ⟨y, by intro p hp; cases hp⟩
       have hx : ∀ x : GW w [], CellsAt x.val (ad.add (m * 5)) (At.enc ⟨x1, x2, x3, x4, x5⟩) := fun x => HCW.out.keep fun q hq => x.ok.1.cell (by rw [hq, Z0q]; exact had)
       have r0 : ∀ x : GW w [], _ := fun x => (Z0P (hx x)).1
       have r1 : ∀ x : GW w [], _ := fun x => (Z0P (hx x)).2.1
       have r2 : ∀ x : GW w [], _ := fun x => (Z0P (hx x)).2.2.1
       have r3 : ∀ x : GW w [], _ := fun x => (Z0P (hx x)).2.2.2.1
       have r4 : ∀ x : GW w [], _ := fun x => (Z0P (hx x)).2.2.2.2
       clear hx
       haveI : Nonempty (GW w []) := ⟨⟨_, gg⟩⟩
       obtain ⟨FI, hFI⟩ : ∃ X, Z2C l x1 ⟨x2, x3, x4, x5⟩ = X := ⟨_, rfl⟩
       have HFI := hid hFI
       have HTH : Hid (Z1u l ⟨x1, x2, x3, x4, x5⟩ = FI) := hid hFI
       clear hFI
       cases FI with
       | false =>
         go_wp2_with (fail)
         refine Z0H (by kernel_rfl) (by kernel_rfl) gg ?_
         repeat (go_big_quiet_step (first | (go_at_call 175; with_reducible exact Z3j hT N.out h hb f0 f1 hsz _ HFI.out)))
         refine wpQuiet_nil ?_
         intro _ hw'
         obtain ⟨xx, rfl⟩ := hw'
         have yx := xx.ok.1
         generalize xx.val = w8 at *
         clear r0 r1 r2 r3 r4
         go_wp2_with (fail)
         go_ret
         exact ⟨Z0r (by rw [← HP.out, HF.out, show p.all (Z1u l) = false by rw [HR2.out, ← HI2.out, HTH.out]; rfl]; rfl), yx⟩
       | true =>
         go_wp2_with (fail)
         refine Z0H (by kernel_rfl) (by kernel_rfl) gg ?_
         repeat (go_big_quiet_step (first | (go_at_call 175; with_reducible exact Z3j hT N.out h hb f0 f1 hsz _ HFI.out)))
         refine wpQuiet_nil ?_
         intro _ hw'
         obtain ⟨xx, rfl⟩ := hw'
         have yx := xx.ok.1
         generalize xx.val = w8 at *
         clear r0 r1 r2 r3 r4
         go_wp2_with (fail)
         go_roundg (n2 - (m + 1))
         case measure => have := HG.out; omega
         case rel => exact ⟨m + 1, by omega, rfl, by go_num, yx, hid (by rw [← HI2.out, HTH.out, Bool.true_and])⟩
      ·have HF2 : Hid (p.all (Z1u l) = true) := hid (by rw [HR2.out, ← HI.out, List.drop_eq_nil_of_le (by have := N2.out; omega)]; rfl)
       go_wp2_with (fail)
       go_ret
       exact ⟨Z0r (by rw [← HP.out, HF.out, HF2.out]; rfl), y⟩
theorem Z8L (A B : Option Addr) (n c n2 c2 : Nat) (l : List Ky) (p : List Ch) (w : World) (hn : n = l.length) (h : RdKy w w.heap.size A l) (hb : n ≤ 140737488355328) (hn2 : n2 = p.length) (h2 : RdCh w w.heap.size B p) (hb2 : n2 ≤ 140737488355328) (hv : okVs p) (hT : Utf8Tabs 1 2 w) :
 Calls Tryz.prog 108 #[.slice A n c, .slice B n2 c2] w fun e w' => e = .returned (.int .i64 (mayP l p)) ∧ Below w.heap.size w w' := by
 have N := hid hn
 have N2 := hid hn2
 generalize hR : mayP l p = R
 have HR := hid hR
 clear hn hn2 hR
 go_enter Tryz.func108, Tryz.ntmps108
 go_wp2_with (go_at_call 36; refine Hid.out ?_)
 refine hid ?_
 refine (Z8W B n2 c2 p w N2.out h2 hb2).mono ?_
 rintro e w1 ⟨rfl, d, rfl⟩
 generalize hrr : Z1W p = Q
 have HQ := hid hrr
 clear hrr
 cases Q with
 | false =>
   go_wp2_with (fail)
   go_ret
   refine ⟨Z0r ?_, Z0m _ _⟩
   rw [← HR.out]
   unfold mayP
   rw [HQ.out]
   by_cases h : 64 < p.length <;> simp [h]
 | true =>
   by_cases h64 : (64 : Int) < (n2 : Int)
   ·go_wp2_with (fail)
    go_ret
    refine ⟨Z0r ?_, Z0m _ _⟩
    rw [← HR.out]
    unfold mayP
    rw [if_pos (by have := N2.out; omega)]
   have HP : Hid ((if p.all okC = true then (if p.all (Z0T l) = true then 0 else 4) else 3) = R) := hid (by
    rw [← HR.out]
    unfold mayP
    rw [if_neg (show ¬ (64 < p.length) by have := N2.out; omega), HQ.out]
    simp)
   obtain ⟨R1, hR1⟩ : ∃ X, p.all okC = X := ⟨_, rfl⟩
   have HR1 := hid hR1
   clear hR1
   go_wp2_with (fail)
   go_loopg [5] n2 (fun g iv wr => ∃ m : Nat, m ≤ n2 ∧ g = n2 - m ∧ iv = .int .i64 (m : Int) ∧ Below w.heap.size w wr ∧ Hid ((p.drop m).all okC = R1))
   case atStart => exact ⟨0, by omega, rfl, rfl, Z0m _ _, hid (by rw [List.drop_zero]; exact HR1.out)⟩
   case round =>
    obtain ⟨m, hm, hg, rfl, y, HI⟩ := hrel
    have HG := hid hg
    clear hg HR
    by_cases hlt : m < n2
    ·have hl1 : m < p.length := by have := N2.out; omega
     obtain ⟨ad, x, rfl, had, hd1, hx1, hc0⟩ := (h2.below y (Nat.le_refl _)).el hl1
     have hxv := hv x (List.mem_of_getElem? hx1)
     have HI2 := hid (Z5O hd1 HI.out)
     obtain ⟨x1, g, x2, x3, x4, x5⟩ := x
     obtain ⟨r0, r1, r2, r3, r4, r5⟩ := Z0I hc0
     obtain ⟨f0, f1⟩ : 0 ≤ x4 ∧ x4 < 18446744073709551616 := ⟨hxv.1.f0, hxv.1.f1⟩
     have hsz : x5.size ≤ 100000000 := hxv.2
     clear hc0 hd1 hx1 hxv HI
     have hw2 : IntKind.i64.wrap ((m:Int) + 1) = (m : Int) + 1 := IntWalk.i64_in _ (by omega)
     cases g with
     | true =>
       cases hz : beqV ⟨x2, x3, x4, x5⟩ ⟨0, 0, 0, ⟨#[]⟩⟩ with
       | false =>
         have HOK : Hid (okC ⟨x1, true, x2, x3, x4, x5⟩ = false) := hid hz
         have HF : Hid (p.all okC = false) := hid (by rw [HR1.out, ← HI2.out, HOK.out]; rfl)
         go_wp2_with (fail)
         go_ret
         exact ⟨Z0r (by rw [← HP.out, HF.out]; rfl), y⟩
       | true =>
         have HOK : Hid (okC ⟨x1, true, x2, x3, x4, x5⟩ = true) := hid hz
         go_wp2_with (fail)
         go_roundg (n2 - (m + 1))
         case measure => have := HG.out; omega
         case rel => exact ⟨m + 1, by omega, rfl, by go_num, y, hid (by rw [← HI2.out, HOK.out, Bool.true_and])⟩
     | false =>
       go_wp2_with (go_at_call 174; refine Hid.out ?_)
       refine hid ?_
       refine (Z38 x2 x3 x4 x5 _ f0 f1 hsz ?tb).mono ?_
       case tb => exact Z4Y hT y rfl
       rintro e w6 ⟨rfl, y6⟩
       have HOK : Hid (okC ⟨x1, false, x2, x3, x4, x5⟩ = mayV ⟨x2, x3, x4, x5⟩) := hid rfl
       generalize mayV ⟨x2, x3, x4, x5⟩ = M at HOK ⊢
       have yy6 := Z2H y y6 rfl rfl rfl rfl
       cases M with
       | false =>
         have HF : Hid (p.all okC = false) := hid (by rw [HR1.out, ← HI2.out, HOK.out]; rfl)
         go_wp2_with (fail)
         go_ret
         exact ⟨Z0r (by rw [← HP.out, HF.out]; rfl), yy6⟩
       | true =>
         go_wp2_with (fail)
         go_roundg (n2 - (m + 1))
         case measure => have := HG.out; omega
         case rel => exact ⟨m + 1, by omega, rfl, by go_num, yy6, hid (by rw [← HI2.out, HOK.out, Bool.true_and])⟩
    ·have HF : Hid (p.all okC = true) := hid (by rw [HR1.out, ← HI.out, List.drop_eq_nil_of_le (by have := N2.out; omega)]; rfl)
     clear HI HR1
     obtain ⟨R2, hR2⟩ : ∃ X, p.all (Z0T l) = X := ⟨_, rfl⟩
     have HR2 := hid hR2
     clear hR2
     go_wp2_with (fail)
     go_loopg [6] n2 (fun g iv wr => ∃ m : Nat, m ≤ n2 ∧ g = n2 - m ∧ iv = .int .i64 (m : Int) ∧ Below w.heap.size w wr ∧ Hid ((p.drop m).all (Z0T l) = R2))
     case atStart => exact ⟨0, by omega, rfl, rfl, y, hid (by rw [List.drop_zero]; exact HR2.out)⟩
     case round =>
      obtain ⟨m, hm, hg, rfl, y, HI⟩ := hrel
      have HG := hid hg
      clear hg
      by_cases hlt : m < n2
      ·have hl1 : m < p.length := by have := N2.out; omega
       obtain ⟨ad, x, rfl, had, hd1, hx1, hc0⟩ := (h2.below y (Nat.le_refl _)).el hl1
       obtain ⟨ad', x', e', _, _, hx1', hcw⟩ := h2.el hl1
       injection e' with e'
       subst e'
       rw [hx1] at hx1'
       injection hx1' with hx1'
       subst hx1'
       have hxv := hv x (List.mem_of_getElem? hx1)
       have HI2 := hid (Z5O hd1 HI.out)
       obtain ⟨x1, g, x2, x3, x4, x5⟩ := x
       obtain ⟨r0, r1, r2, r3, r4, r5⟩ := Z0I hc0
       have HCW := hid hcw
       obtain ⟨f0, f1⟩ : 0 ≤ x4 ∧ x4 < 18446744073709551616 := ⟨hxv.1.f0, hxv.1.f1⟩
       have hsz : x5.size ≤ 100000000 := hxv.2
       clear hc0 hd1 hx1 hxv HI hcw
       have hw2 : IntKind.i64.wrap ((m:Int) + 1) = (m : Int) + 1 := IntWalk.i64_in _ (by omega)
       go_wp2_with (go_at_call 151; refine Hid.out ?_)
       refine hid ?_
       refine (Z3v A n c l x1 wr N.out ((h.below y (Nat.le_refl _)).more y.size) hb).mono ?_
       rintro e w3 ⟨k1, k2, k3, k4, k5, k6, q, rfl, hq1, hq2, y3⟩
       have HQ2 := hid hq2
       have y4 := Z0b w3 (.cells #[.int .i64 k1, .bool k2, .int .u8 k3, .bool k4, .bool k5, .int .i64 k6] 97)
       have y5 := Z0a y (Z0a y3 y4)
       clear hq1 hq2 r0 r1 r2 r3 r4 r5
       have gg : GoodB w [] _ := ⟨y5, by intro p hp; cases hp⟩
       have hx : ∀ x : GW w [], CellsAt x.val (ad.add (m * 6)) (Ch.enc ⟨x1, g, x2, x3, x4, x5⟩) := fun x => HCW.out.keep fun q hq => x.ok.1.cell (by rw [hq, Z0q]; exact had)
       have r0 : ∀ x : GW w [], _ := fun x => (Z0I (hx x)).1
       have r1 : ∀ x : GW w [], _ := fun x => (Z0I (hx x)).2.1
       have r2 : ∀ x : GW w [], _ := fun x => (Z0I (hx x)).2.2.1
       have r3 : ∀ x : GW w [], _ := fun x => (Z0I (hx x)).2.2.2.1
       have r4 : ∀ x : GW w [], _ := fun x => (Z0I (hx x)).2.2.2.2.1
       have r5 : ∀ x : GW w [], _ := fun x => (Z0I (hx x)).2.2.2.2.2
       clear hx
       haveI : Nonempty (GW w []) := ⟨⟨_, gg⟩⟩
       cases q with
       | false =>
         have HTH : Hid (Z0T l ⟨x1, g, x2, x3, x4, x5⟩ = false) := hid (by unfold Z0T; rw [HQ2.out]; rfl)
         go_wp2_with (fail)
         refine Z0H (by kernel_rfl) (by kernel_rfl) gg ?_
         repeat (go_big_quiet_step (fail))
         refine wpQuiet_nil ?_
         intro _ hw'
         obtain ⟨xx, rfl⟩ := hw'
         have yx := xx.ok.1
         generalize xx.val = w8 at *
         clear r0 r1 r2 r3 r4 r5
         go_wp2_with (fail)
         go_ret
         exact ⟨Z0r (by rw [← HP.out, HF.out, show p.all (Z0T l) = false by rw [HR2.out, ← HI2.out, HTH.out]; rfl]; rfl), yx⟩
       | true =>
         cases g with
         | true =>
           have HTH : Hid (Z0T l ⟨x1, true, x2, x3, x4, x5⟩ = true) := hid (by unfold Z0T; rw [HQ2.out]; rfl)
           go_wp2_with (fail)
           refine Z0H (by kernel_rfl) (by kernel_rfl) gg ?_
           repeat (go_big_quiet_step (fail))
           refine wpQuiet_nil ?_
           intro _ hw'
           obtain ⟨xx, rfl⟩ := hw'
           have yx := xx.ok.1
           generalize xx.val = w8 at *
           clear r0 r1 r2 r3 r4 r5
           go_wp2_with (fail)
           go_roundg (n2 - (m + 1))
           case measure => have := HG.out; omega
           case rel => exact ⟨m + 1, by omega, rfl, by go_num, yx, hid (by rw [← HI2.out, HTH.out, Bool.true_and])⟩
         | false =>
           obtain ⟨FI, hFI⟩ : ∃ X, Z2C l x1 ⟨x2, x3, x4, x5⟩ = X := ⟨_, rfl⟩
           have HFI := hid hFI
           have HTH : Hid (Z0T l ⟨x1, false, x2, x3, x4, x5⟩ = FI) := hid (by unfold Z0T; rw [HQ2.out, ← hFI]; rfl)
           clear hFI
           cases FI with
           | false =>
             go_wp2_with (fail)
             refine Z0H (by kernel_rfl) (by kernel_rfl) gg ?_
             repeat (go_big_quiet_step (first | (go_at_call 175; with_reducible exact Z3j hT N.out h hb f0 f1 hsz _ HFI.out)))
             refine wpQuiet_nil ?_
             intro _ hw'
             obtain ⟨xx, rfl⟩ := hw'
             have yx := xx.ok.1
             generalize xx.val = w8 at *
             clear r0 r1 r2 r3 r4 r5
             go_wp2_with (fail)
             go_ret
             exact ⟨Z0r (by rw [← HP.out, HF.out, show p.all (Z0T l) = false by rw [HR2.out, ← HI2.out, HTH.out]; rfl]; rfl), yx⟩
           | true =>
             go_wp2_with (fail)
             refine Z0H (by kernel_rfl) (by kernel_rfl) gg ?_
             repeat (go_big_quiet_step (first | (go_at_call 175; with_reducible exact Z3j hT N.out h hb f0 f1 hsz _ HFI.out)))
             refine wpQuiet_nil ?_
             intro _ hw'
             obtain ⟨xx, rfl⟩ := hw'
             have yx := xx.ok.1
             generalize xx.val = w8 at *
             clear r0 r1 r2 r3 r4 r5
             go_wp2_with (fail)
             go_roundg (n2 - (m + 1))
             case measure => have := HG.out; omega
             case rel => exact ⟨m + 1, by omega, rfl, by go_num, yx, hid (by rw [← HI2.out, HTH.out, Bool.true_and])⟩
      ·have HF2 : Hid (p.all (Z0T l) = true) := hid (by rw [HR2.out, ← HI.out, List.drop_eq_nil_of_le (by have := N2.out; omega)]; rfl)
       go_wp2_with (fail)
       go_ret
       exact ⟨Z0r (by rw [← HP.out, HF.out, HF2.out]; rfl), y⟩
theorem Z4h (A : Option Addr) (n c : Nat) (x : List OpS) (w : World) (hn : n = x.length) (h : RdOs w w.heap.size A x) (hb : n ≤ 140737488355328) :
 Calls Tryz.prog 109 #[.slice A n c] w fun e w' => e = .returned (.int .i64 (Z0Z x)) ∧ ∃ d, w' = w.drewN d := by
 have N := hid hn
 obtain ⟨R, hR⟩ : ∃ X, Z0Z x = X := ⟨_, rfl⟩
 rw [hR]
 unfold Z0Z at hR
 have HR := hid hR
 clear hn hR
 go_enter Tryz.func109, Tryz.ntmps109
 go_wp2_with (fail)
 go_loopg [3, 4] n (fun g av iv wr => ∃ (m : Nat) (a : Int), m ≤ n ∧ g = n - m ∧ av = .int .i64 a ∧ iv = .int .i64 (m : Int) ∧ (∃ d, wr = w.drewN d) ∧ Hid ((x.drop m).foldl Z1p a = R))
 case atStart => exact ⟨0, 0, by omega, rfl, rfl, rfl, ⟨0, rfl⟩, HR⟩
 case round =>
  obtain ⟨m, a, hm, hg, rfl, rfl, ⟨d, rfl⟩, HI⟩ := hrel
  have HG := hid hg
  clear hg
  by_cases hlt : m < n
  ·have hl1 : m < x.length := by have := N.out; omega
   obtain ⟨ad, o, had0, had, hd1, hx1, hc0⟩ := h.el hl1
   subst had0
   have HD : Hid (x.drop m = o :: x.drop (m + 1)) := hid (by rw [List.drop_eq_getElem_cons hl1]; rw [List.getElem?_eq_getElem hl1] at hx1; injection hx1 with hx1; rw [hx1])
   obtain ⟨⟨k, nn, r, s, p⟩, Ar, cr, As, cs, Ap, cp⟩ := o
   obtain ⟨r0, r1, r2, r3, r4⟩ := Z0o hc0
   have hw2 : IntKind.i64.wrap ((m:Int) + 1) = (m : Int) + 1 := IntWalk.i64_in _ (by omega)
   clear hc0 hd1 hx1
   by_cases hk : k = 2
   ·subst hk
    have HI2 : Hid ((x.drop (m + 1)).foldl Z1p a = R) := hid (by have := HI.out; rw [HD.out, List.foldl_cons] at this; simpa [Z1p] using this)
    go_wp2_with (fail)
    go_roundg (n - (m + 1))
    case measure => have := HG.out; omega
    case rel => exact ⟨m + 1, a, by omega, rfl, rfl, by go_num, ⟨_, rfl⟩, HI2⟩
   ·have hk' : (k == 2) = false := beq_eq_false_iff_ne.2 hk
    obtain ⟨W, hW⟩ : ∃ W, IntKind.i64.wrap (a + nn) = W := ⟨_, rfl⟩
    have HI2 : Hid ((x.drop (m + 1)).foldl Z1p W = R) := hid (by
     have := HI.out
     rw [HD.out, List.foldl_cons] at this
     have e : Z1p a ⟨⟨k, nn, r, s, p⟩, Ar, cr, As, cs, Ap, cp⟩ = W := by unfold Z1p; rw [if_neg hk]; exact hW
     rwa [e] at this)
    go_wp2_with (fail)
    go_roundg (n - (m + 1))
    case measure => have := HG.out; omega
    case rel => exact ⟨m + 1, W, by omega, rfl, by first | rfl | (rw [← hW]; rfl), by go_num, ⟨_, rfl⟩, HI2⟩
  ·have HI9 : Hid (a = R) := hid (by have := HI.out; rwa [List.drop_of_length_le (by have := N.out; omega)] at this)
   have e := HI9.out
   clear HI HI9
   go_wp2_with (fail)
   go_ret
   subst e
   exact ⟨rfl, _, rfl⟩
theorem Y3n (k n : Int) (Ar As Ap : Option Addr) (r s p cr cs cp : Nat) (w : World) :
 Calls Tryz.prog 111 #[.agg #[.int .u8 k, .int .i64 n, .slice Ar r cr, .slice As s cs, .slice Ap p cp]] w fun e w' => e = .returned (.int .i64 (if k = 2 then (r : Int) else n)) ∧ Below w.heap.size w w' := by
 have y := Z0b w (.cells #[.int .u8 k, .int .i64 n, .slice Ar r cr, .slice As s cs, .slice Ap p cp] 50)
 have hbx := heap_alloc_new w (.cells #[.int .u8 k, .int .i64 n, .slice Ar r cr, .slice As s cs, .slice Ap p cp] 50)
 obtain ⟨q0, q1, q2, q3, q4⟩ := Z0L hbx
 clear hbx
 by_cases hk : k = 2
 ·subst hk
  rw [if_pos rfl]
  go_enter Tryz.func111, Tryz.ntmps111
  go_wp2_with (fail)
  go_ret
  exact ⟨rfl, y⟩
 ·have hk' : (k == 2) = false := beq_eq_false_iff_ne.2 hk
  rw [if_neg hk]
  go_enter Tryz.func111, Tryz.ntmps111
  go_wp2_with (fail)
  go_ret
  exact ⟨rfl, y⟩
theorem Z6z (A : Option Addr) (n c : Nat) (l : List OpS) (w : World) (hn : n = l.length) (h : RdOs w w.heap.size A l) (hb : n ≤ 140737488355328) :
 Calls Tryz.prog 110 #[.slice A n c] w fun e w' => e = .returned (.int .i64 (Z1i l)) ∧ Below w.heap.size w w' := by
 have N := hid hn
 obtain ⟨R, hR⟩ : ∃ X, Z1i l = X := ⟨_, rfl⟩
 rw [hR]
 have HR := hid hR
 clear hn hR
 go_enter Tryz.func110, Tryz.ntmps110
 go_wp2_with (fail)
 go_loopg [3, 4] n (fun g av iv wr => ∃ (m : Nat) (a : Int), m ≤ n ∧ g = n - m ∧ av = .int .i64 a ∧ iv = .int .i64 (m : Int) ∧ Below w.heap.size w wr ∧ Hid ((l.drop m).foldl Z1L a = R))
 case atStart => exact ⟨0, 0, by omega, rfl, rfl, rfl, Below.refl _ _, hid (by rw [List.drop_zero]; exact HR.out)⟩
 case round =>
  obtain ⟨m, a, hm, hg, rfl, rfl, y, HI⟩ := hrel
  have HG := hid hg
  clear hg HR
  by_cases hlt : m < n
  ·have hl1 : m < l.length := by have := N.out; omega
   obtain ⟨ad, x, rfl, had, hd1, _, hc0⟩ := (h.below y (Nat.le_refl _)).el hl1
   have HI2 := hid (Z50 hd1 HI.out)
   obtain ⟨⟨k, nn, r, s, p⟩, Ar, cr, As, cs, Ap, cp⟩ := x
   obtain ⟨r0, r1, r2, r3, r4⟩ := Z0o hc0
   clear hc0 hd1 HI
   have hw2 : IntKind.i64.wrap ((m:Int) + 1) = (m : Int) + 1 := IntWalk.i64_in _ (by omega)
   by_cases hk : k = 3
   ·subst hk
    go_wp2_with (fail)
    go_roundg (n - (m + 1))
    case measure => have := HG.out; omega
    case rel => exact ⟨m + 1, a, by omega, rfl, rfl, by go_num, y, hid (by rw [← HI2.out]; simp [Z1L])⟩
   ·have hb : (k == 3) = false := beq_eq_false_iff_ne.2 hk
    have HK := hid hk
    clear hk
    go_wp2_with (go_at_call 111; refine Hid.out ?_)
    refine hid ?_
    refine (Y3n k nn Ar As Ap r.length s.length p.length cr cs cp _).mono ?_
    rintro e w3 ⟨rfl, y3⟩
    have y4 := Z0a y y3
    obtain ⟨Z, hZ⟩ : ∃ Z : Int, (if k = 2 then (r.length : Int) else nn) = Z := ⟨_, rfl⟩
    rw [hZ]
    have HZ : Hid (Z0V ⟨k, nn, r, s, p⟩ = Z) := hid hZ
    clear hZ
    obtain ⟨W, hW⟩ : ∃ W, IntKind.i64.wrap (a + Z) = W := ⟨_, rfl⟩
    go_wp2_with (fail)
    go_roundg (n - (m + 1))
    case measure => have := HG.out; omega
    case rel => exact ⟨m + 1, W, by omega, rfl, by first | rfl | (rw [← hW]; rfl), by go_num, y4, hid (by rw [← HI2.out]; simp only [Z1L]; rw [if_neg HK.out, HZ.out, hW])⟩
  ·have HI9 : Hid (a = R) := hid (by have := HI.out; rwa [List.drop_of_length_le (by have := N.out; omega)] at this)
   have e := HI9.out
   clear HI HI9
   go_wp2_with (fail)
   go_ret
   subst e
   exact ⟨rfl, y⟩
def Z9u (o : Opd) : Bool := Z2D o && decide (1 ≤ Z0V o ∧ Z0V o ≤ 536870912)
theorem Y1z (k n : Int) (Ar As Ap : Option Addr) (r : List Int) (s : List At) (p : List Ch) (cr cs cp : Nat) (w : World) (h : Z1V w w.heap.size Ar r) (hb : r.length ≤ 140737488355328) :
 Calls Tryz.prog 106 #[.agg #[.int .u8 k, .int .i64 n, .slice Ar r.length cr, .slice As s.length cs, .slice Ap p.length cp]] w fun e w' => e = .returned (.bool (Z9u ⟨k, n, r, s, p⟩)) ∧ Below w.heap.size w w' := by
 have y0 := Z0b w (.cells #[.int .u8 k, .int .i64 n, .slice Ar r.length cr, .slice As s.length cs, .slice Ap p.length cp] 50)
 have HH := hid (h.ext y0)
 obtain ⟨R, hR⟩ : ∃ X, Z9u ⟨k, n, r, s, p⟩ = X := ⟨_, rfl⟩
 rw [hR]
 unfold Z9u Z2D Z0V at hR
 simp only at hR
 have HR := hid hR
 obtain ⟨nr, hnr⟩ : ∃ X, r.length = X := ⟨_, rfl⟩
 obtain ⟨ns, hns⟩ : ∃ X, s.length = X := ⟨_, rfl⟩
 obtain ⟨np, hnp⟩ : ∃ X, p.length = X := ⟨_, rfl⟩
 have NR := hid hnr
 have NS := hid hns
 have NP := hid hnp
 rw [hnr, hns, hnp]
 rw [hnr, hns, hnp] at y0 HH
 rw [hnr] at hb
 clear hR hnr hns hnp h
 by_cases k1 : k = 1
 ·subst k1
  go_enter Tryz.func106, Tryz.ntmps106
  go_wp2_with (fail)
  all_goals go_ret
  all_goals exact ⟨Z0f (by rw [← HR.out]; simp only [NR.out, NS.out, NP.out]; first | (simp; done) | (simp; omega) | (simp [*]; done) | (simp [*]; omega)), by exact Z0b w _⟩
 have kb1 : (k == 1) = false := beq_eq_false_iff_ne.2 k1
 by_cases k3 : k = 3
 ·subst k3
  go_enter Tryz.func106, Tryz.ntmps106
  go_wp2_with (fail)
  all_goals go_ret
  all_goals exact ⟨Z0f (by rw [← HR.out]; simp only [NR.out, NS.out, NP.out]; first | (simp; done) | (simp; omega) | (simp [*]; done) | (simp [*]; omega)), by exact Z0b w _⟩
 have kb3 : (k == 3) = false := beq_eq_false_iff_ne.2 k3
 by_cases k2 : k = 2
 rotate_left
 ·have kb2 : (k == 2) = false := beq_eq_false_iff_ne.2 k2
  have e : R = false := by rw [← HR.out, if_neg k1, if_neg k3, if_neg k2]; rfl
  go_enter Tryz.func106, Tryz.ntmps106
  go_wp2_with (fail)
  go_ret
  exact ⟨Z0f e.symm, y0⟩
 subst k2
 have hbx := heap_alloc_new w (.cells #[.int .u8 2, .int .i64 n, .slice Ar nr cr, .slice As ns cs, .slice Ap np cp] 50)
 go_enter Tryz.func106, Tryz.ntmps106
 go_wp2_with (fail)
 obtain ⟨w1, hw1⟩ : ∃ X, w.alloc (.cells #[.int .u8 2, .int .i64 n, .slice Ar nr cr, .slice As ns cs, .slice Ap np cp] 50) = X := ⟨_, rfl⟩
 rw [hw1] at y0 HH hbx ⊢
 clear hw1
 obtain ⟨q0, q1, q2, q3, q4⟩ := Z0L hbx
 clear hbx
 go_loopg [3] nr (fun g iv wr => ∃ m : Nat, m ≤ nr ∧ g = nr - m ∧ iv = .int .i64 (m : Int) ∧ (∃ dr, wr = w1.drewN dr) ∧ Hid (∀ c ∈ r.take m, mayR c = true))
 case atStart => exact ⟨0, by omega, rfl, rfl, ⟨0, rfl⟩, hid (fun c hc => by simp at hc)⟩
 case round =>
  obtain ⟨m, hm, hg, rfl, ⟨dr, rfl⟩, HI⟩ := hrel
  have HG := hid hg
  clear hg
  by_cases hlt : m < nr
  ·have hl1 : m < r.length := by have := NR.out; omega
   obtain ⟨ad, x, hA, _, _, hx1, hc0⟩ := HH.out.el hl1
   subst hA
   have HX := hid hx1
   have c0 : w1.cell? (ad.add (m * 1)) = some (.int .i32 x) := by have := hc0 0 _ rfl; rwa [Z0v] at this
   rw [Nat.mul_one] at c0
   have hw2 : IntKind.i64.wrap ((m:Int) + 1) = (m : Int) + 1 := IntWalk.i64_in _ (by omega)
   obtain ⟨M, hM⟩ : ∃ X, mayR x = X := ⟨_, rfl⟩
   have HM := hid hM
   clear hc0 hx1 hM
   cases M
   ·have e : R = false := by
     have h1 : r.any (fun r => !mayR r) = true := List.any_eq_true.2 ⟨x, List.mem_of_getElem? HX.out, by rw [HM.out]; rfl⟩
     rw [← HR.out]; simp [h1]
    go_wp2_with (go_at_call 150; refine (Z1f x _).mono ?_; rintro e w2 ⟨rfl, rfl⟩; rw [HM.out])
    go_ret
    exact ⟨Z0f e.symm, Z0a y0 (Z0m _ _)⟩
   ·go_wp2_with (go_at_call 150; refine (Z1f x _).mono ?_; rintro e w2 ⟨rfl, rfl⟩; rw [HM.out])
    go_roundg (nr - (m + 1))
    case measure => have := HG.out; omega
    case rel => exact ⟨m + 1, by omega, rfl, by go_num, ⟨_, rfl⟩, hid (fun c hc => by
     rw [List.take_add_one, HX.out] at hc
     rcases List.mem_append.1 hc with hc | hc
     ·exact HI.out c hc
     ·simp at hc; rw [hc]; exact HM.out)⟩
  ·have hany : r.any (fun r => !mayR r) = false := by
    rw [Bool.eq_false_iff]
    intro h
    obtain ⟨c, hc, h2⟩ := List.any_eq_true.1 h
    have := HI.out c (by rw [List.take_of_length_le (by have := NR.out; omega)]; exact hc)
    rw [this] at h2; cases h2
   have HA := hid hany
   clear hany HI
   go_wp2_with (fail)
   all_goals go_ret
   all_goals exact ⟨Z0f (by rw [← HR.out]; simp only [HA.out, NR.out, NS.out, NP.out, if_true]; first | (simp; done) | (simp; omega) | (simp [*]; done) | (simp [*]; omega)), by first | exact Z0a y0 (Z0m _ _) | exact y0⟩
theorem Y3o (l : List Ky) : mayS l [] = 0 := by simp [mayS, Z1H, rise]
theorem Y3p (l : List Ky) : mayP l [] = 0 := by simp [mayP, Z1W, rise]
theorem Y3q (l : List Ky) (s : List At) : mayS l s = 0 ∨ mayS l s = 3 ∨ mayS l s = 4 := by
 unfold mayS; split
 ·exact .inr (.inl rfl)
 ·split
  ·split
   ·exact .inl rfl
   ·exact .inr (.inr rfl)
  ·exact .inr (.inl rfl)
theorem Y3r (l : List Ky) (s : List Ch) : mayP l s = 0 ∨ mayP l s = 3 ∨ mayP l s = 4 := by
 unfold mayP; split
 ·exact .inr (.inl rfl)
 ·split
  ·split
   ·exact .inl rfl
   ·exact .inr (.inr rfl)
  ·exact .inr (.inl rfl)
def badO (l : List Ky) (o : Opd) : Bool := !Z9u o || decide (mayS l o.s = 3) || decide (mayP l o.p = 3)
def offO (l : List Ky) (o : Opd) : Bool := decide (mayS l o.s ≠ 0) || decide (mayP l o.p ≠ 0)
theorem Y4O {o : Opd} (h : Z2D o = true) : o.s = [] ∨ o.p = [] := by
 unfold Z2D at h
 split at h
 ·exact .inl (List.length_eq_zero_iff.1 (of_decide_eq_true h).2)
 ·split at h
  ·exact .inl (List.length_eq_zero_iff.1 (of_decide_eq_true h).1.2)
  ·split at h
   ·rw [Bool.and_eq_true] at h; exact .inr (List.length_eq_zero_iff.1 (of_decide_eq_true h.1).2)
   ·cases h
theorem Y6D (l : List Ky) (o : Opd) : oneP l o = if badO l o = true then 3 else if offO l o = true then 4 else 0 := by
 unfold oneP badO offO Z9u
 by_cases h1 : Z2D o = true ∧ 1 ≤ Z0V o ∧ Z0V o ≤ 536870912
 ·rw [if_pos h1]
  have h2 : (!(Z2D o && decide (1 ≤ Z0V o ∧ Z0V o ≤ 536870912))) = false := by simp [h1.1, h1.2]
  rw [h2, Bool.false_or]
  rcases Y4O h1.1 with h3 | h3
  ·rw [h3, Y3o, if_pos rfl]
   rcases Y3r l o.p with h | h | h <;> rw [h] <;> decide
  ·rw [h3, Y3p]
   rcases Y3q l o.s with h | h | h <;> rw [h] <;> decide
 ·rw [if_neg h1]
  have h2 : (!(Z2D o && decide (1 ≤ Z0V o ∧ Z0V o ≤ 536870912))) = true := by
   rw [Bool.not_eq_true', Bool.and_eq_false_iff]
   by_cases h3 : Z2D o = true
   ·exact .inr (decide_eq_false (fun h4 => h1 ⟨h3, h4⟩))
   ·exact .inl (Bool.eq_false_iff.2 h3)
  rw [h2, Bool.true_or, Bool.true_or, if_pos rfl]
theorem Z9v (l : List Ky) : ∀ (x : List OpS) (a : Int), x.foldl (Z01 l) (false, a) = if x.any (fun o => badO l o.o) = true then (true, 3) else (false, if x.any (fun o => offO l o.o) = true then 4 else a)
 | [], a => by simp
 | o :: x, a => by
   rw [List.foldl_cons]
   have e : Z01 l (false, a) o = if badO l o.o = true then (true, 3) else (false, if offO l o.o = true then 4 else a) := by
    unfold Z01
    rw [Y6D l o.o]
    cases badO l o.o <;> cases offO l o.o <;> simp
   rw [e, List.any_cons, List.any_cons]
   cases hb : badO l o.o
   ·cases ho : offO l o.o
    ·simpa using Z9v l x a
    ·simpa using Z9v l x 4
   ·simp [Z2J]
def refO (l : List Ky) (x : List OpS) : Int :=
 if x.any (fun o => badO l o.o) = true then 3 else if Z0Z x ≤ 536870912 ∧ Z1i x ≤ 536870912 then (if x.any (fun o => offO l o.o) = true then 4 else 0) else 3
theorem Y5L (l : List Ky) (x : List OpS) : refO l x = mayO l x := by
 unfold refO mayO
 rw [Z9v]
 cases x.any (fun o => badO l o.o) <;> simp
theorem Y0F {α : Type} {f : α → Bool} {x : List α} {m : Nat} {o : α} (h : x[m]? = some o) (h1 : (x.take m).any f = false) (h2 : f o = false) : (x.take (m + 1)).any f = false := by
 rw [List.take_add_one, h, List.any_append, h1]; simp [h2]
theorem Y47 {α : Type} {f : α → Bool} {x : List α} {m : Nat} {o : α} (h : x[m]? = some o) (h2 : f o = true) : x.any f = true := List.any_eq_true.2 ⟨o, List.mem_of_getElem? h, h2⟩
theorem Y3s (A B : Option Addr) (n c n2 c2 : Nat) (l : List Ky) (x : List OpS) (w : World) (hn : n = l.length) (h : RdKy w w.heap.size A l) (hb : n ≤ 140737488355328) (hn2 : n2 = x.length) (h2 : RdOp w w.heap.size B x) (hb2 : n2 ≤ 140737488355328)
 (hv : ∀ o ∈ x, okVa o.o.s ∧ okVs o.o.p ∧ o.o.r.length ≤ 140737488355328 ∧ o.o.s.length ≤ 140737488355328 ∧ o.o.p.length ≤ 140737488355328) (hT : Utf8Tabs 1 2 w) :
 Calls Tryz.prog 43 #[.slice A n c, .slice B n2 c2] w fun e w' => e = .returned (.int .i64 (mayO l x)) ∧ Below w.heap.size w w' := by
 rw [← Y5L]
 have N := hid hn
 have N2 := hid hn2
 have HL := hid h
 have HX := hid h2
 have HT := hid hT
 obtain ⟨R, hR⟩ : ∃ X, refO l x = X := ⟨_, rfl⟩
 rw [hR]
 unfold refO at hR
 have HR := hid hR
 clear hn hn2 hR h h2 hT
 go_enter Tryz.func43, Tryz.ntmps43
 go_wp2_with (fail)
 go_loopg [5] n2 (fun g iv wr => ∃ m : Nat, m ≤ n2 ∧ g = n2 - m ∧ iv = .int .i64 (m : Int) ∧ Below w.heap.size w wr ∧ Hid ((x.take m).any (fun o => badO l o.o) = false))
 case atStart => exact ⟨0, by omega, rfl, rfl, Below.refl _ _, hid (by simp)⟩
 case round =>
  obtain ⟨m, hm, hg, rfl, y, HI⟩ := hrel
  have HG := hid hg
  clear hg
  by_cases hlt : m < n2
  ·have hl1 : m < x.length := by have := N2.out; omega
   obtain ⟨ad, o, had0, hd1, hx1, hc0⟩ := (HX.out.ext y).1.elIn hl1
   subst had0
   have HM := hid hx1
   obtain ⟨g1, g2, g3⟩ := (HX.out.ext y).2 o (List.mem_of_getElem? hx1)
   obtain ⟨v1, v2, v3, v4, v5⟩ := hv o (List.mem_of_getElem? hx1)
   obtain ⟨⟨k, nn, r, s, p⟩, Ar, cr, As, cs, Ap, cp⟩ := o
   simp only at g1 g2 g3 v1 v2 v3 v4 v5
   have HC := hid hc0
   obtain ⟨r0, r1, r2, r3, r4⟩ := Z0o HC.out.2
   have G1 := hid g1
   have G2 := hid g2
   have G3 := hid g3
   have hw2 : IntKind.i64.wrap ((m:Int) + 1) = (m : Int) + 1 := IntWalk.i64_in _ (by omega)
   clear hc0 hd1 hx1 g1 g2 g3
   have BAD : Hid (badO l ⟨k, nn, r, s, p⟩ = true → R = 3) := hid (fun hb' => by rw [← HR.out, if_pos (Y47 HM.out hb')])
   have FB : Hid (badO l ⟨k, nn, r, s, p⟩ = (!Z9u ⟨k, nn, r, s, p⟩ || decide (mayS l s = 3) || decide (mayP l p = 3))) := hid rfl
   obtain ⟨F, hF⟩ : ∃ X, Z9u ⟨k, nn, r, s, p⟩ = X := ⟨_, rfl⟩
   obtain ⟨E1, hE1⟩ : ∃ X, mayS l s = X := ⟨_, rfl⟩
   obtain ⟨E2, hE2⟩ : ∃ X, mayP l p = X := ⟨_, rfl⟩
   have HF := hid hF
   have HE1 := hid hE1
   have HE2 := hid hE2
   clear hF hE1 hE2
   go_wp2_with (go_at_call 106; refine Hid.out ?_)
   refine hid ?_
   refine (Y1z k nn Ar As Ap r s p cr cs cp _ G1.out v3).mono ?_
   rw [HF.out]
   rintro e w3 ⟨rfl, y3⟩
   have G2 := hid (G2.out.ext y3)
   clear r0 r1 r2 r3 r4
   have HC := hid (HC.out.ext y3)
   obtain ⟨r0, r1, r2, r3, r4⟩ := Z0o HC.out.2
   have G3 := hid (G3.out.ext y3)
   replace y := Z0a y y3
   clear y3
   cases F
   ·have e9 : R = 3 := BAD.out (by rw [FB.out, HF.out]; rfl)
    go_wp2_with (fail)
    go_ret
    exact ⟨Z0r e9.symm, y⟩
   go_wp2_with (go_at_call 107; refine Hid.out ?_)
   refine hid ?_
   refine (Z4N A As n c s.length cs l s _ N.out (HL.out.ext y) hb rfl G2.out v4 v1 (Utf8Tabs_below HT.out y)).mono ?_
   rw [HE1.out]
   rintro e w4 ⟨rfl, y4⟩
   clear r0 r1 r2 r3 r4
   have HC := hid (HC.out.ext y4)
   obtain ⟨r0, r1, r2, r3, r4⟩ := Z0o HC.out.2
   have G3 := hid (G3.out.ext y4)
   replace y := Z0a y y4
   clear y4
   by_cases c1 : E1 = 3
   ·have e9 : R = 3 := BAD.out (by rw [FB.out, HE1.out, c1]; simp)
    subst c1
    go_wp2_with (fail)
    go_ret
    exact ⟨Z0r e9.symm, y⟩
   have c1b : (E1 == 3) = false := beq_eq_false_iff_ne.2 c1
   go_wp2_with (go_at_call 108; refine Hid.out ?_)
   refine hid ?_
   refine (Z8L A Ap n c p.length cp l p _ N.out (HL.out.ext y) hb rfl G3.out v5 v2 (Utf8Tabs_below HT.out y)).mono ?_
   rw [HE2.out]
   rintro e w5 ⟨rfl, y5⟩
   replace y := Z0a y y5
   clear y5
   by_cases c2' : E2 = 3
   ·have e9 : R = 3 := BAD.out (by rw [FB.out, HE2.out, c2']; simp)
    subst c2'
    go_wp2_with (fail)
    go_ret
    exact ⟨Z0r e9.symm, y⟩
   have c2b : (E2 == 3) = false := beq_eq_false_iff_ne.2 c2'
   have GOOD : Hid (badO l ⟨k, nn, r, s, p⟩ = false) := hid (by rw [FB.out, HF.out, HE1.out, HE2.out]; simp [c1, c2'])
   clear c1 c2'
   go_wp2_with (fail)
   go_roundg (n2 - (m + 1))
   case measure => have := HG.out; omega
   case rel => exact ⟨m + 1, by omega, rfl, by go_num, y, hid (Y0F HM.out HI.out GOOD.out)⟩
  ·have NB : Hid (x.any (fun o => badO l o.o) = false) := hid (by have := HI.out; rwa [List.take_of_length_le (by have := N2.out; omega)] at this)
   have HR2 : Hid ((if Z0Z x ≤ 536870912 ∧ Z1i x ≤ 536870912 then (if x.any (fun o => offO l o.o) = true then 4 else 0) else 3) = R) := hid (by rw [← HR.out, NB.out]; rfl)
   clear HI HG
   go_wp2_with (go_at_call 109; refine Hid.out ?_)
   refine hid ?_
   refine (Z4h B n2 c2 x _ N2.out (HX.out.ext y).1 hb2).mono ?_
   rintro e w3 ⟨rfl, dr, hd⟩
   replace y := Z0a y (Y0b hd)
   clear hd
   generalize Z0Z x = T at HR2 ⊢
   by_cases t1 : 536870912 < T
   ·go_wp2_with (fail)
    go_ret
    exact ⟨Z0r (by rw [← HR2.out, if_neg (by omega)]), y⟩
   go_wp2_with (go_at_call 110; refine Hid.out ?_)
   refine hid ?_
   refine (Z6z B n2 c2 x _ N2.out (HX.out.ext y).1 hb2).mono ?_
   rintro e w4 ⟨rfl, y4⟩
   replace y := Z0a y y4
   clear y4
   generalize Z1i x = U at HR2 ⊢
   by_cases u1 : 536870912 < U
   ·go_wp2_with (fail)
    go_ret
    exact ⟨Z0r (by rw [← HR2.out, if_neg (by omega)]), y⟩
   have HR3 : Hid ((if x.any (fun o => offO l o.o) = true then (4 : Int) else 0) = R) := hid ((if_pos ⟨by omega, by omega⟩).symm.trans HR2.out)
   clear HR2 hlt hm
   go_wp2_with (fail)
   go_loopg [6] n2 (fun g iv wq => ∃ m : Nat, m ≤ n2 ∧ g = n2 - m ∧ iv = .int .i64 (m : Int) ∧ Below w.heap.size w wq ∧ Hid ((x.take m).any (fun o => offO l o.o) = false))
   case atStart => exact ⟨0, by omega, rfl, rfl, y, hid (by simp)⟩
   case round =>
    clear y
    obtain ⟨m, hm, hg, rfl, y, HI⟩ := hrel
    have HG := hid hg
    clear hg
    by_cases hlt : m < n2
    ·have hl1 : m < x.length := by have := N2.out; omega
     obtain ⟨ad, o, had0, hd1, hx1, hc0⟩ := (HX.out.ext y).1.elIn hl1
     subst had0
     have HM := hid hx1
     obtain ⟨g1, g2, g3⟩ := (HX.out.ext y).2 o (List.mem_of_getElem? hx1)
     obtain ⟨v1, v2, v3, v4, v5⟩ := hv o (List.mem_of_getElem? hx1)
     obtain ⟨⟨k, nn, r, s, p⟩, Ar, cr, As, cs, Ap, cp⟩ := o
     simp only at g1 g2 g3 v1 v2 v3 v4 v5
     have HC := hid hc0
     obtain ⟨r0, r1, r2, r3, r4⟩ := Z0o HC.out.2
     have G1 := hid g1
     have G2 := hid g2
     have G3 := hid g3
     have hw2 : IntKind.i64.wrap ((m:Int) + 1) = (m : Int) + 1 := IntWalk.i64_in _ (by omega)
     clear hc0 hd1 hx1 g1 g2 g3
     have OFF : Hid (offO l ⟨k, nn, r, s, p⟩ = true → R = 4) := hid (fun hb' => by rw [← HR3.out, if_pos (Y47 HM.out hb')])
     have FB : Hid (offO l ⟨k, nn, r, s, p⟩ = (decide (mayS l s ≠ 0) || decide (mayP l p ≠ 0))) := hid rfl
     obtain ⟨E1, hE1⟩ : ∃ X, mayS l s = X := ⟨_, rfl⟩
     obtain ⟨E2, hE2⟩ : ∃ X, mayP l p = X := ⟨_, rfl⟩
     have HE1 := hid hE1
     have HE2 := hid hE2
     clear hE1 hE2
     go_wp2_with (go_at_call 107; refine Hid.out ?_)
     refine hid ?_
     refine (Z4N A As n c s.length cs l s _ N.out (HL.out.ext y) hb rfl G2.out v4 v1 (Utf8Tabs_below HT.out y)).mono ?_
     rw [HE1.out]
     rintro e w4 ⟨rfl, y4⟩
     clear r0 r1 r2 r3 r4
     have HC := hid (HC.out.ext y4)
     obtain ⟨r0, r1, r2, r3, r4⟩ := Z0o HC.out.2
     have G3 := hid (G3.out.ext y4)
     replace y := Z0a y y4
     clear y4
     by_cases c1 : E1 = 0
     rotate_left
     ·have e9 : R = 4 := OFF.out (by rw [FB.out, HE1.out]; simp [c1])
      have c1b : (E1 == 0) = false := beq_eq_false_iff_ne.2 c1
      have c1n : (E1 != 0) = true := by rw [bne, c1b]; rfl
      clear c1
      go_wp2_with (fail)
      go_ret
      exact ⟨Z0r e9.symm, y⟩
     subst c1
     go_wp2_with (go_at_call 108; refine Hid.out ?_)
     refine hid ?_
     refine (Z8L A Ap n c p.length cp l p _ N.out (HL.out.ext y) hb rfl G3.out v5 v2 (Utf8Tabs_below HT.out y)).mono ?_
     rw [HE2.out]
     rintro e w5 ⟨rfl, y5⟩
     replace y := Z0a y y5
     clear y5
     by_cases c2' : E2 = 0
     rotate_left
     ·have e9 : R = 4 := OFF.out (by rw [FB.out, HE2.out]; simp [c2'])
      have c2b : (E2 == 0) = false := beq_eq_false_iff_ne.2 c2'
      have c2n : (E2 != 0) = true := by rw [bne, c2b]; rfl
      clear c2'
      go_wp2_with (fail)
      go_ret
      exact ⟨Z0r e9.symm, y⟩
     subst c2'
     have GOOD : Hid (offO l ⟨k, nn, r, s, p⟩ = false) := hid (by rw [FB.out, HE1.out, HE2.out]; rfl)
     go_wp2_with (fail)
     go_roundg (n2 - (m + 1))
     case measure => have := HG.out; omega
     case rel => exact ⟨m + 1, by omega, rfl, by go_num, y, hid (Y0F HM.out HI.out GOOD.out)⟩
    ·have e9 : R = 0 := by
      have := HI.out
      rw [List.take_of_length_le (by have := N2.out; omega)] at this
      rw [← HR3.out, this]; rfl
     go_wp2_with (fail)
     go_ret
     exact ⟨Z0r e9.symm, y⟩
theorem Y3t {α : Type} (f : α → Nat) : ∀ {l : List α} {a : α}, a ∈ l → f a ≤ (l.map f).sum
 | b :: l, a, h => by
   rw [List.map_cons, List.sum_cons]
   rcases List.mem_cons.1 h with rfl | h
   ·omega
   ·have := Y3t f h; omega
theorem Y5M {s : List At} (h : okVr s) (hz : szA s ≤ 100000000) : okVa s := fun c hc => ⟨h c hc, by have := Y3t (fun a : At => a.v.s.size) hc; have h2 : c.v.s.size ≤ (s.map (fun a : At => a.v.s.size)).sum := this; unfold szA at hz; omega⟩
theorem Z7T {A B : Option Addr} {n c n2 c2 : Nat} {l : List Ky} {x : List OpS} {w : World} (hn : n = l.length) (h : RdKy w w.heap.size A l) (hb : n ≤ 1048576) (O : OpsAt w B n2 x) (hz : szX x ≤ 5000)
 (hT : Utf8Tabs 1 2 w) {R : Int} (hR : mayO l x = R) :
 Calls Tryz.prog 43 #[.slice A n c, .slice B n2 c2] w fun e w' => e = .returned (.int .i64 R) ∧ Below w.heap.size w w' := by
 have h1 := Y3s A B n c n2 c2 l x w hn h (by omega) O.len O.rd (by have := O.b; omega) (fun o ho => by
  have h1 := Y2I ho
  unfold szO at h1
  obtain ⟨a, b, _⟩ := O.ok o ho
  exact ⟨Y5M a (by omega), b, by omega, by omega, by omega⟩) hT
 rw [hR] at h1
 exact h1
end Go.Proofs.YtfnkjcodcoehcaaGreatDoor
