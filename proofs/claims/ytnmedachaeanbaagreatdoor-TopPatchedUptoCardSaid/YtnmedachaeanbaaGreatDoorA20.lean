/- Merged texts. -/
import Derived.Test.YtnmedachaeanbaaGreatDoorA19
namespace Go.Proofs.YtnmedachaeanbaaGreatDoor
set_option maxRecDepth 100000
set_option maxHeartbeats 3200000
open Go.RowKit
open Go.Lib (hid Utf8Tabs)
set_option linter.unusedVariables false
set_option linter.unusedSimpArgs false
def Y4I (n0 n1 : Nat) (d : List ClS) (w : World) (e : Ending) (w' : World) : Prop :=
 ∃ b : Bool, e = .returned (.bool b) ∧ (b = true → n0 ≤ 64 ∧ n1 ≤ 300 ∧ ∀ z ∈ d, z.c.s.length ≤ 64) ∧ ∃ k, w' = w.drewN k
theorem Y1q (A0 A1 : Option Addr) (n0 n1 c0 c1 : Nat) (d : List ClS) (w : World) (b0 : n0 ≤ 1048576) (e1 : n1 = d.length) (r1 : RdCl w w.heap.size A1 d) (b1 : n1 ≤ 1048576) (q1 : ∀ x ∈ d, x.c.s.length ≤ 100000000) :
 Calls Tryz.prog 6 #[.slice A0 n0 c0, .slice A1 n1 c1, .slice none 0 0] w (Y4I n0 n1 d w) := by
 have N1 := hid e1
 have R1 := hid r1
 have Q1 := hid q1
 clear e1 r1 q1
 go_enter Tryz.func6, Tryz.ntmps6
 go_wp2_with (fail)
 go_loopg [7, 11] 0 (fun g nv iv wr => nv = .int .i64 0 ∧ iv = .int .i64 0 ∧ g = 0 ∧ ∃ k, wr = w.drewN k)
 case atStart => exact ⟨rfl, rfl, rfl, 0, rfl⟩
 case round =>
  obtain ⟨rfl, rfl, hg, k, rfl⟩ := hrel
  clear hg
  by_cases g0 : (n0 : Int) ≤ 64
  ·go_wp2_with (go_at_call 30; refine Hid.out ?_)
   refine hid ?_
   refine (Z9p A1 n1 c1 d 300 _ N1.out (R1.out.ext (Z0p w k)) (by omega) (fun z hz => by have := Q1.out z hz; omega)).mono ?_
   rintro e wn ⟨g, rfl, hgr, dr, hd⟩
   have HD := hid hd
   have HGR := hid hgr
   clear hd hgr
   cases g
   ·go_wp2_with (fail)
    go_ret
    exact ⟨true, rfl, fun _ => ⟨by omega, by have := (HGR.out trivial).1; omega, (HGR.out trivial).2⟩, k + dr, by rw [HD.out]; exact World.drewN_drewN _ _ _⟩
   ·go_wp2_with (fail)
    go_ret
    exact ⟨false, rfl, (fun h => by cases h), k + dr, by rw [HD.out]; exact World.drewN_drewN _ _ _⟩
  ·go_wp2_with (fail)
   go_ret
   exact ⟨false, rfl, (fun h => by cases h), k, rfl⟩
theorem Y0l {α : Type} {f : α → Bool} {l : List α} {m : Nat} {x : α} {R : Bool} (hd : l.drop m = x :: l.drop (m + 1)) (h : (l.drop m).all f = R) : (f x && (l.drop (m + 1)).all f) = R := by
 rw [hd] at h; simpa using h
theorem Z6f {A : Option Addr} {nn cc : Nat} {l : List Ky} {id k n f : Int} {t : ByteArray} {w : World} {O : List (Nat × Obj)} {b : Bool} (hT : Utf8Tabs 0 1 w) (hn : nn = l.length) (h : RdKy w w.heap.size A l) (hb : nn ≤ 140737488355328) (h0 : 0 ≤ f) (h1 : f < 18446744073709551616) (hsz : t.size ≤ 100000000) (x : GW w O) (hf : Z2K l id ⟨k, n, f, t⟩ = b) :
 Calls Tryz.prog 34 #[.slice A nn cc, .int .i64 id, .agg #[.int .u8 k, .int .i64 n, .int .u64 f, .string t]] x.val fun e w' => e = .returned (.bool b) ∧ ∃ y : GW w O, w' = y.val :=
 Z8e x ((Y2f A nn cc l id k n f t x.val hn (h.ext x.ok.1) hb h0 h1 hsz (Z8f hT x)).mono fun e w' h' => ⟨by rw [h'.1, hf], h'.2⟩)
theorem Z8v (A B : Option Addr) (n c n2 c2 : Nat) (l : List Ky) (p : List Ch) (w : World) (hn : n = l.length) (h : RdKy w w.heap.size A l) (hb : n ≤ 140737488355328) (hn2 : n2 = p.length) (h2 : RdCh w w.heap.size B p) (hb2 : n2 ≤ 140737488355328) (hv : okVs p) (hT : Utf8Tabs 0 1 w) :
 Calls Tryz.prog 7 #[.slice A n c, .slice B n2 c2] w fun e w' => e = .returned (.int .i64 (mayP l p)) ∧ Below w.heap.size w w' := by
 have N := hid hn
 have N2 := hid hn2
 generalize hR : mayP l p = R
 have HR := hid hR
 clear hn hn2 hR
 go_enter Tryz.func7, Tryz.ntmps7
 go_wp2_with (go_at_call 31; refine Hid.out ?_)
 refine hid ?_
 refine (Z85 B n2 c2 p w N2.out h2 hb2).mono ?_
 rintro e w1 ⟨rfl, d, rfl⟩
 generalize hrr : Z1S p = Q
 have HQ := hid hrr
 clear hrr
 cases Q with
 | false =>
   go_wp2_with (fail)
   go_ret
   refine ⟨Z0t ?_, Z0p _ _⟩
   rw [← HR.out]
   unfold mayP
   rw [HQ.out]
   by_cases h : 64 < p.length <;> simp [h]
 | true =>
   by_cases h64 : (64 : Int) < (n2 : Int)
   ·go_wp2_with (fail)
    go_ret
    refine ⟨Z0t ?_, Z0p _ _⟩
    rw [← HR.out]
    unfold mayP
    rw [if_pos (by have := N2.out; omega)]
   have HP : Hid ((if p.all okC = true then (if p.all (Z0B l) = true then 0 else 4) else 3) = R) := hid (by
    rw [← HR.out]
    unfold mayP
    rw [if_neg (show ¬ (64 < p.length) by have := N2.out; omega), HQ.out]
    simp)
   obtain ⟨R1, hR1⟩ : ∃ X, p.all okC = X := ⟨_, rfl⟩
   have HR1 := hid hR1
   clear hR1
   go_wp2_with (fail)
   go_loopg [5] n2 (fun g iv wr => ∃ m : Nat, m ≤ n2 ∧ g = n2 - m ∧ iv = .int .i64 (m : Int) ∧ Below w.heap.size w wr ∧ Hid ((p.drop m).all okC = R1))
   case atStart => exact ⟨0, by omega, rfl, rfl, Z0p _ _, hid (by rw [List.drop_zero]; exact HR1.out)⟩
   case round =>
    obtain ⟨m, hm, hg, rfl, y, HI⟩ := hrel
    have HG := hid hg
    clear hg HR
    by_cases hlt : m < n2
    ·have hl1 : m < p.length := by have := N2.out; omega
     obtain ⟨ad, x, rfl, had, hd1, hx1, hc0⟩ := (h2.below y (Nat.le_refl _)).el hl1
     have hxv := hv x (List.mem_of_getElem? hx1)
     have HI2 := hid (Y0l hd1 HI.out)
     obtain ⟨x1, g, x2, x3, x4, x5⟩ := x
     obtain ⟨r0, r1, r2, r3, r4, r5⟩ := Z0w hc0
     obtain ⟨f0, f1⟩ : 0 ≤ x4 ∧ x4 < 18446744073709551616 := ⟨hxv.1.f0, hxv.1.f1⟩
     have hsz : x5.size ≤ 100000000 := hxv.2
     clear hc0 hd1 hx1 hxv HI
     have hw2 : IntKind.i64.wrap ((m:Int) + 1) = (m : Int) + 1 := IntWalk.i64_in _ (by omega)
     cases g with
     | true =>
       cases hz : beqV ⟨x2, x3, x4, x5⟩ ⟨0, 0, 0, ⟨#[]⟩⟩ with
       | false =>
         have HOK : Hid (okC ⟨x1, true, x2, x3, x4, x5⟩ = false) := hid hz
         have HF : Hid (p.all okC = false) := hid (by rw [HR1.out, ← HI2.out, HOK.out]; rfl)
         go_wp2_with (fail)
         go_ret
         exact ⟨Z0t (by rw [← HP.out, HF.out]; rfl), y⟩
       | true =>
         have HOK : Hid (okC ⟨x1, true, x2, x3, x4, x5⟩ = true) := hid hz
         go_wp2_with (fail)
         go_roundg (n2 - (m + 1))
         case measure => have := HG.out; omega
         case rel => exact ⟨m + 1, by omega, rfl, by go_num, y, hid (by rw [← HI2.out, HOK.out, Bool.true_and])⟩
     | false =>
       go_wp2_with (go_at_call 32; refine Hid.out ?_)
       refine hid ?_
       refine (Z5M x2 x3 x4 x5 _ f0 f1 hsz ?tb).mono ?_
       case tb => exact Z5N hT y rfl
       rintro e w6 ⟨rfl, y6⟩
       have HOK : Hid (okC ⟨x1, false, x2, x3, x4, x5⟩ = mayV ⟨x2, x3, x4, x5⟩) := hid rfl
       generalize mayV ⟨x2, x3, x4, x5⟩ = M at HOK ⊢
       have yy6 := Z21 y y6 rfl rfl rfl rfl
       cases M with
       | false =>
         have HF : Hid (p.all okC = false) := hid (by rw [HR1.out, ← HI2.out, HOK.out]; rfl)
         go_wp2_with (fail)
         go_ret
         exact ⟨Z0t (by rw [← HP.out, HF.out]; rfl), yy6⟩
       | true =>
         go_wp2_with (fail)
         go_roundg (n2 - (m + 1))
         case measure => have := HG.out; omega
         case rel => exact ⟨m + 1, by omega, rfl, by go_num, yy6, hid (by rw [← HI2.out, HOK.out, Bool.true_and])⟩
    ·have HF : Hid (p.all okC = true) := hid (by rw [HR1.out, ← HI.out, List.drop_eq_nil_of_le (by have := N2.out; omega)]; rfl)
     clear HI HR1
     obtain ⟨R2, hR2⟩ : ∃ X, p.all (Z0B l) = X := ⟨_, rfl⟩
     have HR2 := hid hR2
     clear hR2
     go_wp2_with (fail)
     go_loopg [6] n2 (fun g iv wr => ∃ m : Nat, m ≤ n2 ∧ g = n2 - m ∧ iv = .int .i64 (m : Int) ∧ Below w.heap.size w wr ∧ Hid ((p.drop m).all (Z0B l) = R2))
     case atStart => exact ⟨0, by omega, rfl, rfl, y, hid (by rw [List.drop_zero]; exact HR2.out)⟩
     case round =>
      obtain ⟨m, hm, hg, rfl, y, HI⟩ := hrel
      have HG := hid hg
      clear hg
      by_cases hlt : m < n2
      ·have hl1 : m < p.length := by have := N2.out; omega
       obtain ⟨ad, x, rfl, had, hd1, hx1, hc0⟩ := (h2.below y (Nat.le_refl _)).el hl1
       obtain ⟨ad', x', e', _, _, hx1', hcw⟩ := h2.el hl1
       injection e' with e'
       subst e'
       rw [hx1] at hx1'
       injection hx1' with hx1'
       subst hx1'
       have hxv := hv x (List.mem_of_getElem? hx1)
       have HI2 := hid (Y0l hd1 HI.out)
       obtain ⟨x1, g, x2, x3, x4, x5⟩ := x
       obtain ⟨r0, r1, r2, r3, r4, r5⟩ := Z0w hc0
       have HCW := hid hcw
       obtain ⟨f0, f1⟩ : 0 ≤ x4 ∧ x4 < 18446744073709551616 := ⟨hxv.1.f0, hxv.1.f1⟩
       have hsz : x5.size ≤ 100000000 := hxv.2
       clear hc0 hd1 hx1 hxv HI hcw
       have hw2 : IntKind.i64.wrap ((m:Int) + 1) = (m : Int) + 1 := IntWalk.i64_in _ (by omega)
       go_wp2_with (go_at_call 33; refine Hid.out ?_)
       refine hid ?_
       refine (Z51 A n c l x1 wr N.out ((h.below y (Nat.le_refl _)).more y.size) hb).mono ?_
       rintro e w3 ⟨k1, k2, k3, k4, k5, k6, q, rfl, hq1, hq2, y3⟩
       have HQ2 := hid hq2
       have y4 := Z0c w3 (.cells #[.int .i64 k1, .bool k2, .int .u8 k3, .bool k4, .bool k5, .int .i64 k6] 78)
       have y5 := Z0a y (Z0a y3 y4)
       clear hq1 hq2 r0 r1 r2 r3 r4 r5
       have gg : GoodB w [] _ := ⟨y5, by intro p hp; cases hp⟩
       have hx : ∀ x : GW w [], CellsAt x.val (ad.add (m * 6)) (Ch.enc ⟨x1, g, x2, x3, x4, x5⟩) := fun x => HCW.out.keep fun q hq => x.ok.1.cell (by rw [hq, Z0U]; exact had)
       have r0 : ∀ x : GW w [], _ := fun x => (Z0w (hx x)).1
       have r1 : ∀ x : GW w [], _ := fun x => (Z0w (hx x)).2.1
       have r2 : ∀ x : GW w [], _ := fun x => (Z0w (hx x)).2.2.1
       have r3 : ∀ x : GW w [], _ := fun x => (Z0w (hx x)).2.2.2.1
       have r4 : ∀ x : GW w [], _ := fun x => (Z0w (hx x)).2.2.2.2.1
       have r5 : ∀ x : GW w [], _ := fun x => (Z0w (hx x)).2.2.2.2.2
       clear hx
       haveI : Nonempty (GW w []) := ⟨⟨_, gg⟩⟩
       cases q with
       | false =>
         have HTH : Hid (Z0B l ⟨x1, g, x2, x3, x4, x5⟩ = false) := hid (by unfold Z0B; rw [HQ2.out]; rfl)
         go_wp2_with (fail)
         refine Z0C (by kernel_rfl) (by kernel_rfl) gg ?_
         repeat (go_big_quiet_step (fail))
         refine wpQuiet_nil ?_
         intro _ hw'
         obtain ⟨xx, rfl⟩ := hw'
         have yx := xx.ok.1
         generalize xx.val = w8 at *
         clear r0 r1 r2 r3 r4 r5
         go_wp2_with (fail)
         go_ret
         exact ⟨Z0t (by rw [← HP.out, HF.out, show p.all (Z0B l) = false by rw [HR2.out, ← HI2.out, HTH.out]; rfl]; rfl), yx⟩
       | true =>
         cases g with
         | true =>
           have HTH : Hid (Z0B l ⟨x1, true, x2, x3, x4, x5⟩ = true) := hid (by unfold Z0B; rw [HQ2.out]; rfl)
           go_wp2_with (fail)
           refine Z0C (by kernel_rfl) (by kernel_rfl) gg ?_
           repeat (go_big_quiet_step (fail))
           refine wpQuiet_nil ?_
           intro _ hw'
           obtain ⟨xx, rfl⟩ := hw'
           have yx := xx.ok.1
           generalize xx.val = w8 at *
           clear r0 r1 r2 r3 r4 r5
           go_wp2_with (fail)
           go_roundg (n2 - (m + 1))
           case measure => have := HG.out; omega
           case rel => exact ⟨m + 1, by omega, rfl, by go_num, yx, hid (by rw [← HI2.out, HTH.out, Bool.true_and])⟩
         | false =>
           obtain ⟨FI, hFI⟩ : ∃ X, Z2K l x1 ⟨x2, x3, x4, x5⟩ = X := ⟨_, rfl⟩
           have HFI := hid hFI
           have HTH : Hid (Z0B l ⟨x1, false, x2, x3, x4, x5⟩ = FI) := hid (by unfold Z0B; rw [HQ2.out, ← hFI]; rfl)
           clear hFI
           cases FI with
           | false =>
             go_wp2_with (fail)
             refine Z0C (by kernel_rfl) (by kernel_rfl) gg ?_
             repeat (go_big_quiet_step (first | (go_at_call 34; with_reducible exact Z6f hT N.out h hb f0 f1 hsz _ HFI.out)))
             refine wpQuiet_nil ?_
             intro _ hw'
             obtain ⟨xx, rfl⟩ := hw'
             have yx := xx.ok.1
             generalize xx.val = w8 at *
             clear r0 r1 r2 r3 r4 r5
             go_wp2_with (fail)
             go_ret
             exact ⟨Z0t (by rw [← HP.out, HF.out, show p.all (Z0B l) = false by rw [HR2.out, ← HI2.out, HTH.out]; rfl]; rfl), yx⟩
           | true =>
             go_wp2_with (fail)
             refine Z0C (by kernel_rfl) (by kernel_rfl) gg ?_
             repeat (go_big_quiet_step (first | (go_at_call 34; with_reducible exact Z6f hT N.out h hb f0 f1 hsz _ HFI.out)))
             refine wpQuiet_nil ?_
             intro _ hw'
             obtain ⟨xx, rfl⟩ := hw'
             have yx := xx.ok.1
             generalize xx.val = w8 at *
             clear r0 r1 r2 r3 r4 r5
             go_wp2_with (fail)
             go_roundg (n2 - (m + 1))
             case measure => have := HG.out; omega
             case rel => exact ⟨m + 1, by omega, rfl, by go_num, yx, hid (by rw [← HI2.out, HTH.out, Bool.true_and])⟩
      ·have HF2 : Hid (p.all (Z0B l) = true) := hid (by rw [HR2.out, ← HI.out, List.drop_eq_nil_of_le (by have := N2.out; omega)]; rfl)
       go_wp2_with (fail)
       go_ret
       exact ⟨Z0t (by rw [← HP.out, HF.out, HF2.out]; rfl), y⟩
theorem Y66 {a : Bool} {P Q : Prop} (h : a = true ∧ P ∨ a = false ∧ Q) (ha : a = true) : P := by
 rcases h with ⟨_, h⟩ | ⟨h, _⟩
 ·exact h
 ·rw [ha] at h; cases h
theorem or_no {a : Bool} {P Q : Prop} (h : a = true ∧ P ∨ a = false ∧ Q) (ha : a = false) : Q := by
 rcases h with ⟨h, _⟩ | ⟨_, h⟩
 ·rw [ha] at h; cases h
 ·exact h
theorem Z9q {α : Type} {p : α → Bool} {s : List α} {m : Nat} {x : α} {r R : List α} (hd : s.drop m = x :: s.drop (m + 1)) (h : r ++ (s.drop m).filter p = R) :
 p x = true ∧ (r ++ [x]) ++ (s.drop (m + 1)).filter p = R ∨ p x = false ∧ r ++ (s.drop (m + 1)).filter p = R := by
 rw [hd, List.filter_cons] at h
 cases hp : p x with
 | true => rw [hp, if_pos rfl] at h; exact .inl ⟨rfl, by rw [← h]; simp⟩
 | false => rw [hp] at h; simp only [Bool.false_eq_true, if_false] at h; exact .inr ⟨rfl, h⟩
theorem Z4k (key : Int) (A : Option Addr) (n c : Nat) (l : List At) (w : World) (hn : n = l.length) (h : RdAt w w.heap.size A l) (hb : n ≤ 100000000) :
 Calls Tryz.prog 57 #[.slice A n c, .int .i64 key] w (Z9d (l.filter (fun a => !(a.key == key))) w) := by
 have N := hid hn
 obtain ⟨R, hR⟩ : ∃ X, l.filter (fun a => !(a.key == key)) = X := ⟨_, rfl⟩
 have HR := hid hR
 rw [hR]
 clear hn hR
 go_enter Tryz.func57, Tryz.ntmps57
 go_wp2_with (fail)
 go_loopg [5, 6] n (fun g ov iv wr => ∃ (m : Nat) (r : List At), m ≤ n ∧ g = n - m ∧ iv = .int .i64 (m : Int) ∧ OwAt wr w.heap.size ov r ∧ r.length ≤ m ∧ Below w.heap.size w wr ∧ Hid (r ++ (l.drop m).filter (fun a => !(a.key == key)) = R))
 case atStart => exact ⟨0, [], by omega, rfl, rfl, Ow.nil _ _, by simp, Below.refl _ _, hid (by simpa using HR.out)⟩
 case round =>
  obtain ⟨m, r, hm, hg, rfl, hown, hrl, y, HI⟩ := hrel
  have HG := hid hg
  clear hg HR
  by_cases hlt : m < n
  ·obtain ⟨ad, x, rfl, hd1, hx1, hc0⟩ := (h.ext y).elIn (i := m) (by have := N.out; omega)
   have hst := Z9q hd1 HI.out
   obtain ⟨x1, x2, x3, x4, x5⟩ := x
   have CX := hid hc0
   obtain ⟨r0, r1, r2, r3, r4⟩ := Z1b CX.out.2
   have HST := hid hst
   have hw2 : IntKind.i64.wrap ((m:Int) + 1) = (m : Int) + 1 := IntWalk.i64_in _ (by omega)
   clear hst hc0 hd1 hx1 HI
   by_cases hk : x1 = key
   ·have hk2 : (x1 == key) = true := beq_iff_eq.2 hk
    have hk3 : (x1 != key) = false := by rw [bne, hk2]; rfl
    have HN : Hid (r ++ (l.drop (m + 1)).filter (fun a => !(a.key == key)) = R) := hid (or_no HST.out (by simp [hk]))
    clear hk
    go_wp2_with (fail)
    go_roundg (n - (m + 1))
    case measure => have := HG.out; omega
    case rel => exact ⟨m + 1, r, by omega, rfl, by go_num, by first | exact hown | exact hown.drewN _, by omega, by first | exact y | exact Z0L y _, HN⟩
   ·have hk2 : (x1 == key) = false := beq_eq_false_iff_ne.2 hk
    have hk3 : (x1 != key) = true := by rw [bne, hk2]; rfl
    have HN : Hid ((r ++ [⟨x1, ⟨x2, x3, x4, x5⟩⟩]) ++ (l.drop (m + 1)).filter (fun a => !(a.key == key)) = R) := hid (Y66 HST.out (by simp [hk2]))
    clear hk
    go_wp2_with ((at_builtin; refine Z2G (m := [⟨x1, ⟨x2, x3, x4, x5⟩⟩]) rfl (.tmp 20) (.tmp 25) rfl rfl (by first | exact (hown.drewN _).alloc _ | exact hown.alloc _) _ _ 1 1 rfl rfl (by first | exact Z1O _ _ _ rfl | exact Z32 (enc := At.enc) (size := 5) (w3.alloc _) _ ⟨x1, ⟨x2, x3, x4, x5⟩⟩ rfl (by rw [World.size_alloc])) (by simp only [List.length_singleton]; omega) (by exact Nat.le_trans y.size (Z1c _ _)) ?_; intro v' w' hown' hgr hv'))
    have s1 := Z1h (by first | exact (Z0L y _).alloc y.size _ | exact y.alloc y.size _) (by exact Nat.le_trans y.size (Z1c _ _)) (by first | exact (hown.drewN _).alloc _ | exact hown.alloc _) (Nat.le_refl _) hgr
    go_roundg (n - (m + 1))
    case measure => have := HG.out; omega
    case rel => exact ⟨m + 1, r ++ [⟨x1, ⟨x2, x3, x4, x5⟩⟩], by omega, rfl, by go_num, hown', by simp; omega, s1, HN⟩
  ·have hR : r = R := by
    have h := HI.out
    rw [List.drop_eq_nil_of_le (by have := N.out; omega)] at h
    simpa using h
   subst hR
   obtain ⟨A', c', rfl, _, _⟩ := hown.form
   have HOW := hid hown
   clear hown
   go_wp2_with (fail)
   go_ret
   exact ⟨A', c', rfl, HOW.out, y⟩
def insW (a : At) : List At → List At
 | [] => [a]
 | x :: t => if a.key < x.key then a :: x :: t else x :: insW a t
theorem Y0m (a : At) : ∀ s : List At, (insW a s).length = s.length + 1
 | [] => rfl
 | x :: t => by unfold insW; split <;> simp [Y0m a t]
theorem Y2V {a x : At} {t : List At} (h : a.key < x.key) : insW a (x :: t) = a :: x :: t := by rw [insW, if_pos h]
theorem Y2W {a x : At} {t : List At} (h : ¬ a.key < x.key) : insW a (x :: t) = x :: insW a t := by rw [insW, if_neg h]
theorem Y4J {s : List At} (hs : Srt At.key s) (a : At) (hn : ∀ x ∈ s, x.key ≠ a.key) : Srt At.key (insW a s) ∧ (∀ k, lk At.key (insW a s) k = if a.key = k then some a else lk At.key s k) ∧ ∀ m : Int, m < a.key → (∀ x ∈ s, m < x.key) → ∀ x ∈ insW a s, m < x.key := by
 induction s with
 | nil => exact ⟨(Z1z At.key).2 ⟨by simp, Srt.nil At.key⟩, fun k => by rw [insW, Z0W], fun m h _ x hx => by simp [insW] at hx; subst hx; exact h⟩
 | cons x t ih =>
   obtain ⟨h1, h2⟩ := (Z1z At.key).1 hs
   obtain ⟨g1, g2, g3⟩ := ih h2 (fun y hy => hn y (List.mem_cons_of_mem _ hy))
   by_cases hk : a.key < x.key
   ·rw [Y2V hk]
    refine ⟨(Z1z At.key).2 ⟨fun b hb => ?_, hs⟩, fun k => by rw [Z0W], fun m hm hl y hy => ?_⟩
    ·rcases List.mem_cons.1 hb with rfl | hb
     ·exact hk
     ·have := h1 b hb; omega
    ·rcases List.mem_cons.1 hy with rfl | hy
     ·exact hm
     ·exact hl y hy
   ·rw [Y2W hk]
    have hne := hn x (by simp)
    refine ⟨(Z1z At.key).2 ⟨fun b hb => g3 x.key (by omega) h1 b hb, g1⟩, fun k => ?_, fun m hm hl y hy => ?_⟩
    ·rw [Z0W, Z0W, g2 k]
     by_cases h3 : x.key = k
     ·rw [if_pos h3, if_pos h3, if_neg (by omega)]
     ·rw [if_neg h3, if_neg h3]
    ·rcases List.mem_cons.1 hy with rfl | hy
     ·exact hl y (by simp)
     ·exact g3 m hm (fun z hz => hl z (List.mem_cons_of_mem _ hz)) y hy
def Z3u (l : List At) (a : At) : List At := insW a (l.filter (fun x => !(x.key == a.key)))
theorem Y2X {l : List At} (h : Z1D l = true) (a : At) : Z3u l a = Y1b l a := by
 obtain ⟨h1, h2, _⟩ := Z95 h a
 have hs := Z0P.1 h
 obtain ⟨g1, g2, _⟩ := Y4J (hs.filter At.key (fun x => !(x.key == a.key))) a (fun x hx => by have := (List.mem_filter.1 hx).2; simpa using this)
 refine Y2c At.key g1 (Z0P.1 h1) fun k => ?_
 unfold Z3u
 rw [g2 k, h2 k, Z50 At.key hs]
 by_cases hk : a.key = k
 ·rw [if_pos hk, if_pos hk]
 ·rw [if_neg hk, if_neg hk]
  cases hl : lk At.key l k with
  | none => rfl
  | some x =>
    have := Z78 At.key hl
    have hx : ¬ x.key = a.key := by omega
    simp [Option.filter, hx]
theorem Y1r (l : List At) (a : At) : (Z3u l a).length ≤ l.length + 1 := by
 unfold Z3u
 rw [Y0m]
 have := List.length_filter_le (fun x => !(x.key == a.key)) l
 omega
def bnd (b : Bool) : Nat := if b = true then 1 else 0
theorem Y67 : bnd true = 1 := rfl
theorem Y68 : bnd false = 0 := rfl
theorem Y69 (b : Bool) : bnd b ≤ 1 := by cases b <;> decide
def Z2l (inb : Bool) (a : At) (s : List At) : List At := if inb = true then s else insW a s
theorem Y2Y (a : At) (s : List At) : Z2l true a s = s := rfl
theorem Z6g (a : At) (s : List At) : Z2l false a s = insW a s := rfl
theorem Y1s (A : Option Addr) (n c : Nat) (l : List At) (a1 a2 a3 a4 : Int) (a5 : ByteArray) (w : World) (hn : n = l.length) (h : RdAt w w.heap.size A l) (hb : n ≤ 10000000) :
 Calls Tryz.prog 58 #[.slice A n c, .agg #[.int .i64 a1, .int .u8 a2, .int .i64 a3, .int .u64 a4, .string a5]] w (Z9d (Z3u l ⟨a1, ⟨a2, a3, a4, a5⟩⟩) w) := by
 have N := hid hn
 obtain ⟨R, hR⟩ : ∃ X, Z3u l ⟨a1, ⟨a2, a3, a4, a5⟩⟩ = X := ⟨_, rfl⟩
 have HR := hid hR
 rw [hR]
 have y0 := Z0c w (.cells #[.int .i64 a1, .int .u8 a2, .int .i64 a3, .int .u64 a4, .string a5] 108)
 have HBX := hid (heap_alloc_new w (.cells #[.int .i64 a1, .int .u8 a2, .int .i64 a3, .int .u64 a4, .string a5] 108))
 clear hn hR
 go_enter Tryz.func58, Tryz.ntmps58
 go_wp2_with (go_at_call 57; refine Hid.out ?_)
 refine hid ?_
 refine (Z4k a1 A n c l _ N.out (h.ext y0) (by omega)).mono ?_
 rintro e w1 ⟨A1, c1, rfl, ho, y1⟩
 have hlf : (l.filter (fun x => !(x.key == a1))).length ≤ n := by rw [N.out]; exact List.length_filter_le _ _
 have HR2 : Hid (insW ⟨a1, ⟨a2, a3, a4, a5⟩⟩ (l.filter (fun x => !(x.key == a1))) = R) := hid HR.out
 generalize l.filter (fun x => !(x.key == a1)) = s at *
 obtain ⟨k, hk⟩ : ∃ k, k = s.length := ⟨_, rfl⟩
 rw [← hk] at ho hlf ⊢
 have K := hid hk
 have rs := ho.rd At.enc_len
 have HBX := hid ((y1.block _ (Z0b HBX.out)).trans HBX.out)
 have y := Z0a y0 y1
 clear ho hk HR y0 y1
 go_wp2_with (fail)
 go_loopg [6, 7, 8] k (fun g ov bv iv wr => ∃ (m : Nat) (r : List At) (inb : Bool), m ≤ k ∧ g = k - m ∧ bv = .bool inb ∧ iv = .int .i64 (m : Int) ∧ OwAt wr w1.heap.size ov r ∧ r.length ≤ m + bnd inb ∧ Below w1.heap.size w1 wr ∧ Hid (r ++ Z2l inb ⟨a1, ⟨a2, a3, a4, a5⟩⟩ (s.drop m) = R))
 case atStart => exact ⟨0, [], false, by omega, rfl, rfl, rfl, Ow.nil _ _, by simp, Below.refl _ _, hid (by simpa [Z2l] using HR2.out)⟩
 case round =>
  obtain ⟨m, r, inb, hm, hg, rfl, rfl, hown, hrl, yr, HI⟩ := hrel
  have bd := Y69 inb
  have HG := hid hg
  clear hg HR2
  have hbx := (yr.block _ (Z0b HBX.out)).trans HBX.out
  obtain ⟨b0, b1, b2, b3, b4⟩ := Z0V hbx
  have HB2 := hid hbx
  clear hbx
  by_cases hlt : m < k
  ·obtain ⟨ad, x, rfl, hd1, hx1, hc0⟩ := (rs.ext yr).elIn (i := m) (by have := K.out; omega)
   have hst := HI.out
   rw [hd1] at hst
   obtain ⟨x1, x2, x3, x4, x5⟩ := x
   have CX := hid hc0
   obtain ⟨r0, r1, r2, r3, r4⟩ := Z1b CX.out.2
   have HST := hid hst
   have hw2 : IntKind.i64.wrap ((m:Int) + 1) = (m : Int) + 1 := IntWalk.i64_in _ (by omega)
   have HX1 := hid hx1
   clear hst hc0 hd1 hx1 HI
   cases inb with
   | true =>
     have HN : Hid ((r ++ [⟨x1, ⟨x2, x3, x4, x5⟩⟩]) ++ Z2l true ⟨a1, ⟨a2, a3, a4, a5⟩⟩ (s.drop (m + 1)) = R) := hid (by rw [← HST.out]; simp [Z2l])
     go_wp2_with (first
      | go_quiet (fail)
      | (at_builtin; refine Z2G (m := [⟨x1, ⟨x2, x3, x4, x5⟩⟩]) rfl (.tmp 35) (.tmp 40) rfl rfl (by first | exact (hown.drewN _).alloc _ | exact hown.alloc _) _ _ 1 1 rfl rfl (by exact Z1O _ _ _ rfl) (by simp only [List.length_singleton]; omega) (by exact Nat.le_trans yr.size (Z1c _ _)) ?_; intro v' w' hown' hgr hv'))
     have s1 := Z1h (by first | exact (Z0L yr _).alloc yr.size _ | exact yr.alloc yr.size _) (by exact Nat.le_trans yr.size (Z1c _ _)) (by first | exact (hown.drewN _).alloc _ | exact hown.alloc _) (Nat.le_refl _) hgr
     go_roundg (k - (m + 1))
     case measure => have := HG.out; omega
     case rel => exact ⟨m + 1, r ++ [⟨x1, ⟨x2, x3, x4, x5⟩⟩], true, by omega, rfl, rfl, by go_num, hown', by have := Y67; simp; omega, s1, HN⟩
   | false =>
     by_cases hk : a1 < x1
     ·have HN : Hid ((r ++ [⟨a1, ⟨a2, a3, a4, a5⟩⟩]) ++ [⟨x1, ⟨x2, x3, x4, x5⟩⟩] ++ Z2l true ⟨a1, ⟨a2, a3, a4, a5⟩⟩ (s.drop (m + 1)) = R) := hid (by rw [← HST.out, Z6g, Y2Y, Y2V (a := ⟨a1, ⟨a2, a3, a4, a5⟩⟩) (x := ⟨x1, ⟨x2, x3, x4, x5⟩⟩) hk]; simp)
      go_wp2_with (first
       | go_quiet (fail)
       | (at_builtin
          refine Z2G (m := [⟨a1, ⟨a2, a3, a4, a5⟩⟩]) rfl (.tmp 31) (.tmp 33) rfl rfl (by first | exact (hown.drewN _).alloc _ | exact hown.alloc _) _ _ 1 1 rfl rfl (by exact Z1O _ _ _ rfl) (by simp only [List.length_singleton]; omega) (by exact Nat.le_trans yr.size (Z1c _ _)) ?_
          intro v' w' ho1 hgr hv'
          have s1 := Z1h (by first | exact (Z0L yr _).alloc yr.size _ | exact yr.alloc yr.size _) (by exact Nat.le_trans yr.size (Z1c _ _)) (by first | exact (hown.drewN _).alloc _ | exact hown.alloc _) (Nat.le_refl _) hgr
          obtain ⟨ad', x', hA, -, hx2, hc0⟩ := (rs.ext s1).elIn (i := m) (by have := K.out; omega)
          injection hA with hA
          subst hA
          have hx3 := HX1.out
          rw [hx2] at hx3
          injection hx3 with hx3
          subst hx3
          obtain ⟨g0, g1, g2, g3, g4⟩ := Z1b hc0.2
          clear hx2 hc0 hgr hv')
       | (at_builtin; refine Z2G (m := [⟨x1, ⟨x2, x3, x4, x5⟩⟩]) rfl (.tmp 35) (.tmp 40) rfl rfl (by first | exact (ho1.drewN _).alloc _ | exact ho1.alloc _) _ _ 1 1 rfl rfl (by exact Z1O _ _ _ rfl) (by simp only [List.length_singleton, List.length_append]; omega) (by exact Nat.le_trans s1.size (Z1c _ _)) ?_; intro v' w' hown' hgr hv'))
      have s2 := Z1h (by first | exact (Z0L s1 _).alloc s1.size _ | exact s1.alloc s1.size _) (by exact Nat.le_trans s1.size (Z1c _ _)) (by first | exact (ho1.drewN _).alloc _ | exact ho1.alloc _) (Nat.le_refl _) hgr
      go_roundg (k - (m + 1))
      case measure => have := HG.out; omega
      case rel => exact ⟨m + 1, r ++ [⟨a1, ⟨a2, a3, a4, a5⟩⟩] ++ [⟨x1, ⟨x2, x3, x4, x5⟩⟩], true, by omega, rfl, rfl, by go_num, hown', by have := Y67; have := Y68; simp; omega, s2, HN⟩
     ·have HN : Hid ((r ++ [⟨x1, ⟨x2, x3, x4, x5⟩⟩]) ++ Z2l false ⟨a1, ⟨a2, a3, a4, a5⟩⟩ (s.drop (m + 1)) = R) := hid (by rw [← HST.out, Z6g, Z6g, Y2W (a := ⟨a1, ⟨a2, a3, a4, a5⟩⟩) (x := ⟨x1, ⟨x2, x3, x4, x5⟩⟩) hk]; simp)
      go_wp2_with (first
       | go_quiet (fail)
       | (at_builtin; refine Z2G (m := [⟨x1, ⟨x2, x3, x4, x5⟩⟩]) rfl (.tmp 35) (.tmp 40) rfl rfl (by first | exact (hown.drewN _).alloc _ | exact hown.alloc _) _ _ 1 1 rfl rfl (by exact Z1O _ _ _ rfl) (by simp only [List.length_singleton]; omega) (by exact Nat.le_trans yr.size (Z1c _ _)) ?_; intro v' w' hown' hgr hv'))
      have s1 := Z1h (by first | exact (Z0L yr _).alloc yr.size _ | exact yr.alloc yr.size _) (by exact Nat.le_trans yr.size (Z1c _ _)) (by first | exact (hown.drewN _).alloc _ | exact hown.alloc _) (Nat.le_refl _) hgr
      go_roundg (k - (m + 1))
      case measure => have := HG.out; omega
      case rel => exact ⟨m + 1, r ++ [⟨x1, ⟨x2, x3, x4, x5⟩⟩], false, by omega, rfl, rfl, by go_num, hown', by have := Y68; simp; omega, s1, HN⟩
  ·have HE : Hid (r ++ Z2l inb ⟨a1, ⟨a2, a3, a4, a5⟩⟩ [] = R) := hid (by have h := HI.out; rwa [List.drop_eq_nil_of_le (by have := K.out; omega)] at h)
   cases inb with
   | true =>
     have hR : r = R := by have h := HE.out; simpa [Z2l] using h
     subst hR
     obtain ⟨A', c', rfl, _, _⟩ := hown.form
     have HOW := hid (hown.base_le (B := w.heap.size) y.size)
     clear hown
     go_wp2_with (fail)
     go_ret
     exact ⟨A', c', rfl, HOW.out, Z0a y yr⟩
   | false =>
     have hR : r ++ [⟨a1, ⟨a2, a3, a4, a5⟩⟩] = R := by have h := HE.out; simpa [Z2l, insW] using h
     have HRR := hid hR
     clear hR
     go_wp2_with (first
      | go_quiet (fail)
      | (at_builtin; refine Z2G (m := [⟨a1, ⟨a2, a3, a4, a5⟩⟩]) rfl (.tmp 44) (.tmp 46) rfl rfl (by first | exact (hown.drewN _).alloc _ | exact hown.alloc _) _ _ 1 1 rfl rfl (by exact Z1O _ _ _ rfl) (by simp only [List.length_singleton]; omega) (by exact Nat.le_trans yr.size (Z1c _ _)) ?_; intro v' w' hown' hgr hv'))
     have s1 := Z1h (by first | exact (Z0L yr _).alloc yr.size _ | exact yr.alloc yr.size _) (by exact Nat.le_trans yr.size (Z1c _ _)) (by first | exact (hown.drewN _).alloc _ | exact hown.alloc _) (Nat.le_refl _) hgr
     rw [HRR.out] at hown'
     obtain ⟨A', c', rfl, _, _⟩ := hown'.form
     have HOW := hid (hown'.base_le (B := w.heap.size) y.size)
     clear hown'
     go_ret
     exact ⟨A', c', rfl, HOW.out, Z0a y s1⟩
def Z6h (q : List Ch) (k : Int) : Bool := q.any (fun d => d.key == k)
def Z3v (p q : List Ch) : List Ch := p.filter (fun c => !Z6h q c.key)
theorem Y2Z (p : List Ch) (k : Int) : Z6h p k = (lk Ch.key p k).isSome := by
 cases h : (lk Ch.key p k).isSome with
 | true =>
   obtain ⟨c, hc, hk⟩ := (Z79 Ch.key).1 h
   exact List.any_eq_true.2 ⟨c, hc, by simpa using hk⟩
 | false =>
   refine List.any_eq_false.2 fun c hc hk => ?_
   have : (lk Ch.key p k).isSome = true := (Z79 Ch.key).2 ⟨c, hc, by simpa using hk⟩
   rw [h] at this; cases this
theorem Y20 {p q : List Ch} (hp : Z1S p = true) : Z1S (Z3v p q) = true := by
 rw [Z0G] at *
 exact hp.filter Ch.key _
theorem Y4K {a : List At} {p q : List Ch} (ha : Z1D a = true) (hp : Z1S p = true) (hq : Z1S q = true) : Z0K (Z3v q p) (Z0K p a) = Z0K p (Z0K q a) := by
 have hl := Y20 (q := p) hq
 rw [Z0P] at ha
 rw [Z0G] at hp hq hl
 obtain ⟨a1, a2, _⟩ := Z1x hp ha
 obtain ⟨b1, b2, _⟩ := Z1x hl a1
 obtain ⟨c1, c2, _⟩ := Z1x hq ha
 obtain ⟨d1, d2, _⟩ := Z1x hp c1
 refine Y2c At.key b1 d1 fun k => ?_
 rw [b2, a2, d2, c2]
 have e : lk Ch.key (Z3v q p) k = (lk Ch.key q k).filter (fun c => !Z6h p c.key) := Z50 Ch.key hq _ k
 rw [e]
 cases hc : lk Ch.key q k with
 | none => cases lk Ch.key p k <;> rfl
 | some c =>
   have hck := Z78 Ch.key hc
   simp only [Option.filter, hck, Y2Z]
   cases hd : lk Ch.key p k with
   | none => simp; rfl
   | some d => simp [Z2C]
def Z2S (o : List At) (c : Ch) : List At := if c.gone = true then o.filter (fun a => !(a.key == c.key)) else Z3u o ⟨c.key, c.v⟩
def Z2m (p : List Ch) (s : List At) : List At := p.foldl Z2S s
theorem Y4L {l : List At} (h : Z1D l = true) (c : Int) :
 Z1D (l.filter (fun a => !(a.key == c))) = true ∧ (∀ k, lk At.key (l.filter (fun a => !(a.key == c))) k = if c = k then none else lk At.key l k) := by
 have hs := Z0P.1 h
 refine ⟨Z0P.2 (hs.filter At.key _), fun k => ?_⟩
 rw [Z50 At.key hs]
 cases hl : lk At.key l k with
 | none => simp
 | some a =>
   have := Z78 At.key hl
   by_cases hc : c = k
   ·simp [hc, Option.filter, this]
   ·have : ¬ a.key = c := by omega
    simp [hc, Option.filter, this]
theorem Y1t {o : List At} (ho : Z1D o = true) (c : Ch) : Z1D (Z2S o c) = true ∧ ∀ k, lk At.key (Z2S o c) k = if c.key = k then Z2C (some c) (lk At.key o k) else lk At.key o k := by
 unfold Z2S
 by_cases hg : c.gone = true
 ·rw [if_pos hg]
  obtain ⟨h1, h2⟩ := Y4L ho c.key
  refine ⟨h1, fun k => ?_⟩
  rw [h2 k]
  split
  ·simp [Z2C, hg]
  ·rfl
 ·rw [if_neg hg, Y2X ho]
  obtain ⟨h1, h2, _⟩ := Z95 ho ⟨c.key, c.v⟩
  refine ⟨h1, fun k => ?_⟩
  rw [h2 k]
  simp [Z2C, hg]
theorem Z62 : ∀ {p : List Ch}, Srt Ch.key p → ∀ {s : List At}, Z1D s = true → Z1D (Z2m p s) = true ∧ ∀ k, lk At.key (Z2m p s) k = Z2C (lk Ch.key p k) (lk At.key s k)
 | [], _, s, hs => ⟨hs, fun k => rfl⟩
 | c :: p, hp, s, hs => by
   obtain ⟨h1, h2⟩ := (Z1z Ch.key).1 hp
   obtain ⟨a1, a2⟩ := Y1t hs c
   obtain ⟨b1, b2⟩ := Z62 h2 a1
   have e : Z2m (c :: p) s = Z2m p (Z2S s c) := rfl
   rw [e]
   refine ⟨b1, fun k => ?_⟩
   rw [b2 k, a2 k, Z0W]
   by_cases hk : c.key = k
   ·rw [if_pos hk, if_pos hk, Z1J Ch.key (fun d hd => by have := h1 d hd; omega)]
    rfl
   ·rw [if_neg hk, if_neg hk]
theorem Z8w {p : List Ch} {s : List At} (hp : Z1S p = true) (hs : Z1D s = true) : Z2m p s = Z0K p s := by
 obtain ⟨a1, a2⟩ := Z62 (Z0G.1 hp) hs
 obtain ⟨b1, b2, _⟩ := Z1x (Z0G.1 hp) (Z0P.1 hs)
 exact Y2c At.key (Z0P.1 a1) b1 fun k => by rw [a2 k, b2 k]
theorem Z63 (o : List At) (c : Ch) : (Z2S o c).length ≤ o.length + 1 := by
 unfold Z2S
 split
 ·exact Nat.le_succ_of_le (List.length_filter_le _ _)
 ·exact Y1r _ _
theorem Z64 : ∀ (p : List Ch) (s : List At), (Z2m p s).length ≤ s.length + p.length
 | [], s => Nat.le_refl _
 | c :: p, s => by
   have h1 := Z64 p (Z2S s c)
   have h2 := Z63 s c
   have e : Z2m (c :: p) s = Z2m p (Z2S s c) := rfl
   rw [e]
   simp only [List.length_cons]
   omega
theorem Z6i (A B : Option Addr) (n c k d : Nat) (s : List At) (p : List Ch) (w : World) (hn : n = s.length) (hk : k = p.length) (h1 : RdAt w w.heap.size A s) (h2 : RdCh w w.heap.size B p) (hb : n ≤ 1000000) (hb2 : k ≤ 1000000) :
 Calls Tryz.prog 12 #[.slice A n c, .slice B k d] w (Z9d (Z2m p s) w) := by
 have N := hid hn
 have K := hid hk
 have H1 := hid h1
 have H2 := hid h2
 obtain ⟨R, hR⟩ : ∃ X, Z2m p s = X := ⟨_, rfl⟩
 have HR := hid hR
 rw [hR]
 clear hn hk h1 h2 hR
 go_enter Tryz.func12, Tryz.ntmps12
 go_wp2_with ((at_builtin; refine Z2G (l := []) (m := s) rfl (.tmp 7) (.tmp 8) rfl rfl (by exact Ow.empty _ w.heap.size _) _ _ _ _ rfl N.out (by exact H1.out.ext (Z0c w _)) (by have := N.out; simp only [List.length_nil]; omega) (by simp) ?_; intro v1 w1 ho1 g1 hv1))
 rw [List.nil_append] at ho1
 have O1 := hid ho1
 have Y1 : Hid (Below w.heap.size w w1) := hid ((Z0c w _).grown g1 (by simp) (fun k hk => by cases hk))
 clear ho1 g1 hv1
 go_wp2_with (fail)
 go_loopg [5, 6] k (fun g ov iv wr => ∃ (m : Nat) (r : List At), m ≤ k ∧ g = k - m ∧ iv = .int .i64 (m : Int) ∧ OwAt wr w.heap.size ov r ∧ r.length ≤ n + m ∧ Below w.heap.size w wr ∧ Hid (Z2m (p.drop m) r = R))
 case atStart => exact ⟨0, s, Nat.zero_le _, rfl, rfl, O1.out, by have := N.out; omega, Y1.out, hid (by rw [List.drop_zero]; exact HR.out)⟩
 case round =>
  obtain ⟨m, r, hm, hg, rfl, hown, hrl, y, HI⟩ := hrel
  have HG := hid hg
  clear hg HR O1 Y1
  by_cases hlt : m < k
  ·have hlt' : (m : Int) < (k : Int) := by omega
   obtain ⟨ad, x, rfl, hd1, hx1, hc0⟩ := (H2.out.ext y).elIn (i := m) (by have := K.out; omega)
   have hst := HI.out
   rw [hd1] at hst
   obtain ⟨x1, x6, x2, x3, x4, x5⟩ := x
   have CX := hid hc0
   have HST : Hid (Z2m (p.drop (m + 1)) (Z2S r ⟨x1, x6, ⟨x2, x3, x4, x5⟩⟩) = R) := hid hst
   have HL : Hid ((Z2S r ⟨x1, x6, ⟨x2, x3, x4, x5⟩⟩).length ≤ n + (m + 1)) := hid (by have := Z63 r ⟨x1, x6, ⟨x2, x3, x4, x5⟩⟩; omega)
   have hw2 : IntKind.i64.wrap ((m:Int) + 1) = (m : Int) + 1 := IntWalk.i64_in _ (by omega)
   obtain ⟨A1, c1, rfl, _, _⟩ := hown.form
   have RR := hid (hown.rd At.enc_len)
   have YS := hid y.size
   have LB : Hid (r.length ≤ 2000000) := hid (by omega)
   clear hst hc0 hd1 hx1 HI hown
   obtain ⟨r0, r1, r2, r3, r4, r5⟩ := Z0w CX.out.2
   cases x6 with
   | true =>
     have HE : Hid (Z2S r ⟨x1, true, ⟨x2, x3, x4, x5⟩⟩ = r.filter (fun a => !(a.key == x1))) := hid rfl
     go_wp2_with (go_at_call 57; refine Hid.out ?_)
     refine hid ?_
     refine (Z4k x1 A1 r.length c1 r _ rfl RR.out (by have := LB.out; omega)).mono ?_
     rw [← HE.out]
     rintro e w3 ⟨A3, c3, rfl, o3, y3⟩
     have O3 := hid (o3.base_le (B := w.heap.size) YS.out)
     have Y3 := hid (Z0a y y3)
     clear o3 y3
     go_wp2_with (fail)
     go_roundg (k - (m + 1))
     case measure => have := HG.out; omega
     case rel => exact ⟨m + 1, _, by omega, rfl, by go_num, O3.out, HL.out, Y3.out, HST⟩
   | false =>
     have HE : Hid (Z2S r ⟨x1, false, ⟨x2, x3, x4, x5⟩⟩ = Z3u r ⟨x1, ⟨x2, x3, x4, x5⟩⟩) := hid rfl
     go_wp2_with (fail)
     go_region_held3 (fun w' => w'.cell? (ad.add (m * 6)) = some (.int .i64 x1) ∧ w'.cell? { block := (ad.add (m * 6)).block, off := (ad.add (m * 6)).off + 2 } = some (.int .u8 x2) ∧ w'.cell? { block := (ad.add (m * 6)).block, off := (ad.add (m * 6)).off + 3 } = some (.int .i64 x3) ∧ w'.cell? { block := (ad.add (m * 6)).block, off := (ad.add (m * 6)).off + 4 } = some (.int .u64 x4) ∧ w'.cell? { block := (ad.add (m * 6)).block, off := (ad.add (m * 6)).off + 5 } = some (.string x5)) (go_keep) (first
      | (go_at_call 58
         with_reducible refine (Y1s A1 r.length c1 r x1 x2 x3 x4 x5 wr.drew rfl (RR.out.ext (Z0v (Below.refl _ _))) (by have := LB.out; omega)).mono ?_
         rw [← HE.out]
         rintro e w3 ⟨A3, c3, rfl, o3, y3⟩
         have O3 := hid (o3.base_le (B := w.heap.size) YS.out)
         have Y3 := hid (Z0a y (Z0a (Z0v (Below.refl _ _)) y3))
         obtain ⟨q0, q1, q2, q3, q4, q5⟩ := Z0w (CX.out.ext (Z0a (Z0v (Below.refl _ _)) y3)).2
         clear o3 y3))
     go_wp2_with (fail)
     go_roundg (k - (m + 1))
     case measure => have := HG.out; omega
     case rel => exact ⟨m + 1, _, by omega, rfl, by go_num, O3.out, HL.out, Y3.out, HST⟩
  ·have hlt' : ¬ (m : Int) < (k : Int) := by omega
   have hR : r = R := by
    have h := HI.out
    rw [List.drop_eq_nil_of_le (by have := K.out; omega)] at h
    exact h
   subst hR
   obtain ⟨A', c', rfl, _, _⟩ := hown.form
   have HOW := hid hown
   clear hown
   go_wp2_with (fail)
   go_ret
   exact ⟨A', c', rfl, HOW.out, y⟩
structure SX where
 A : Option Addr
 c : Nat
 l : List OpS
def szA (s : List At) : Nat := (s.map (fun a => a.v.s.size)).sum
def szC (p : List Ch) : Nat := (p.map (fun a => a.v.s.size)).sum
def szO (o : Opd) : Nat := 1 + o.r.length + o.s.length + o.p.length + szA o.s + szC o.p
def szX (x : List OpS) : Nat := (x.map (fun o => szO o.o)).sum
theorem Z9r {α : Type} (f : α → Nat) (l : List α) (i : Nat) : ((l.take i).map f).sum ≤ (l.map f).sum := by
 conv => rhs; rw [← List.take_append_drop i l]
 rw [List.map_append, List.sum_append]; omega
def tellO (m : Mk) (o : Opd) : Mk := if o.k = 1 then Z0s m o.n o.p else if o.k = 2 then Z0F m o.r o.s else Z1G m o.n
def ofM (x : List Opd) : Mk := x.foldl tellO Mk.new
theorem Y4M (x : List Opd) (o : Opd) : ofM (x ++ [o]) = tellO (ofM x) o := by unfold ofM; rw [List.foldl_append]; rfl
theorem MkB.tellO {m : Mk} {K S : Nat} (h : MkB m K S) {o : Opd} (hs : o.s.length ≤ S) (hp : o.p.length ≤ S) : MkB (tellO m o) (K + 2 * (1 + o.r.length)) S := by
 unfold Go.Proofs.YtnmedachaeanbaaGreatDoor.tellO
 split
 ·exact (h.retain o.n hp).mono (by omega) (Nat.le_refl _)
 ·split
  ·exact (h.insert o.r hs).mono (by omega) (Nat.le_refl _)
  ·exact (h.delete o.n).mono (by omega) (Nat.le_refl _)
def szN (x : List OpS) : Nat := (x.map (fun o => 1 + o.o.r.length)).sum
theorem Z5x (o : OpS) (x : List OpS) : szN (o :: x) = 1 + o.o.r.length + szN x := rfl
theorem Y6c (x : List OpS) : x.length ≤ szN x := by
 induction x with
 | nil => exact Nat.zero_le _
 | cons a x ih => rw [Z5x, List.length_cons]; omega
theorem Y6d {x : List OpS} {o : OpS} (h : o ∈ x) : o.o.r.length ≤ szN x := by
 induction x with
 | nil => cases h
 | cons a x ih =>
   rw [Z5x]
   rcases List.mem_cons.1 h with rfl | h
   ·omega
   ·have := ih h; omega
theorem Y4N (x : List OpS) (i : Nat) : szN (x.take i) ≤ szN x := Z9r (fun o : OpS => 1 + o.o.r.length) x i
theorem Y7a {S : Nat} : ∀ (x : List OpS) {m : Mk} {K : Nat}, MkB m K S → (∀ o ∈ x, o.o.s.length ≤ S ∧ o.o.p.length ≤ S) → MkB ((osOf x).foldl tellO m) (K + 2 * szN x) S
 | [], m, K, h, _ => h
 | o :: x, m, K, h, hs => by
   have h1 := h.tellO (hs o (by simp)).1 (hs o (by simp)).2
   have h2 := Y7a x h1 (fun z hz => hs z (List.mem_cons_of_mem _ hz))
   rw [Z5x]
   exact h2.mono (by omega) (Nat.le_refl _)
theorem Y0n {S : Nat} (x : List OpS) (hs : ∀ o ∈ x, o.o.s.length ≤ S ∧ o.o.p.length ≤ S) : MkB (ofM (osOf x)) (2 * szN x) S := by
 have := Y7a x (MkB.new S) hs
 rwa [Nat.zero_add] at this
theorem Y1u {m : Mk} {us : List Un} (h : Told m us) {o : Opd} (ho : isOp o) (hb : (us.length : Int) + o.n ≤ 4611686018427387904) (hb2 : us.length ≤ 4611686018427387904) : Told (tellO m o) (us ++ Z0h o) := by
 unfold tellO Z0h
 rcases Z0q ho with hk | hk | hk
 ·rw [if_neg (by rw [hk]; decide), if_pos hk, if_pos hk]; exact h.insert _ _
 ·rw [if_neg (by rw [hk]; decide), if_neg (by rw [hk]; decide), if_neg (by rw [hk]; decide), if_neg (by rw [hk]; decide)]; exact h.delete _ hb hb2
 ·rw [if_pos hk, if_neg (by rw [hk]; decide), if_pos hk]; exact h.retain _ _ hb
theorem Z3w {us : List Un} : us.length ≤ Z0k us + Z0l us := by
 induction us with
 | nil => exact Nat.zero_le _
 | cons u us ih =>
   cases u with
   | ins r s => rw [Z06, Z4b, List.length_cons]; omega
   | del => rw [Z0S, Z2x, List.length_cons]; omega
   | ret p => rw [Z0y, Z1H, List.length_cons]; omega
theorem Z8x : ∀ (x : List Opd) {m : Mk} {us : List Un}, Told m us → (∀ o ∈ x, isOp o) → us.length + (Z0e x).length ≤ 4000000000 → Told (x.foldl tellO m) (us ++ Z0e x)
 | [], m, us, h, _, _ => by rw [Z5Q, List.append_nil]; exact h
 | o :: x, m, us, h, hi, hb => by
   rw [Z1j, List.length_append] at hb
   have ho := hi o (by simp)
   have hn : o.n ≤ (Z0h o).length := by
    unfold Z0h
    rcases Z0q ho with hk | hk | hk
    ·obtain ⟨e, hr⟩ := Z18 ho hk
     rw [if_pos hk, e]
     show (0 : Int) ≤ _
     omega
    ·rw [if_neg (by rw [hk]; decide), if_neg (by rw [hk]; decide), List.length_replicate]; omega
    ·rw [if_neg (by rw [hk]; decide), if_pos hk, List.length_replicate]; omega
   have h1 := Y1u h ho (by omega) (by omega)
   have h2 := Z8x x h1 (fun z hz => hi z (List.mem_cons_of_mem _ hz)) (by rw [List.length_append]; omega)
   rw [List.append_assoc] at h2
   rw [Z1j]
   exact h2
theorem Y6e {l : List Ky} {x : List OpS} {n a b : Int} (h : Z3g l x n a = 0) (hab : a ≤ b) : Z3g l x n b = 0 := by
 obtain ⟨h1, h2, h3, h4, h5, h6, h7⟩ := Z10 h
 exact Z55 h1 h2 (by omega) h4 h5 h6 (by omega)
theorem Y21 {l : List Ky} {x : List OpS} {n a b : Int} (h : Z3g l x n b = 0) (h2 : n ≤ a) (h3 : Z4I n x ≤ a) : Z3g l x n a = 0 := by
 obtain ⟨g1, g2, g3, g4, g5, g6, g7⟩ := Z10 h
 exact Z55 g1 g2 h2 g4 g5 g6 h3
theorem Z6j {l : List Ky} {x : List OpS} {d : List Cl} {a b : Int} (h : Z00 l x d a = 0) (hab : a ≤ b) : Z00 l x d b = 0 := by
 obtain ⟨h1, h2⟩ := Z2j h
 exact Z2k h1 (Y6e h2 hab)
theorem Y4O {x : List OpS} (hi : ∀ o ∈ x, isOp o.o) : Z0l (Z0e (osOf x)) ≤ szX x + Z0k (Z0e (osOf x)) := by
 induction x with
 | nil => exact Nat.zero_le _
 | cons o x ih =>
   have e : Z0e (osOf (o :: x)) = Z0h o.o ++ Z0e (osOf x) := rfl
   have e2 : szX (o :: x) = szO o.o + szX x := rfl
   rw [e, Z0I, Z0A, e2]
   have h1 := ih (fun z hz => hi z (List.mem_cons_of_mem _ hz))
   have h2 := Z9l (hi o (by simp))
   unfold szO
   omega
end Go.Proofs.YtnmedachaeanbaaGreatDoor
