/- Merged texts: RefMay06, May15, May15D, TraDoesKit. -/
import Derived.Test.YtfnkjcodcoehcaaGreatDoorV9
import Derived.Test.YtfnkjcodcoehcaaGreatDoorV16
import Derived.Test.YtfnkjcodcoehcaaGreatDoorV10
import Derived.Test.YtfnkjcodcoehcaaGreatDoorV24
import Derived.Test.YtfnkjcodcoehcaaGreatDoorV20
import Derived.Test.YtfnkjcodcoehcaaGreatDoorV14
import Derived.Test.YtfnkjcodcoehcaaGreatDoorV27
import Derived.Test.YtfnkjcodcoehcaaGreatDoorV11
namespace Go.Proofs.YtfnkjcodcoehcaaGreatDoor
open Go.RowKit
set_option linter.unusedVariables false
set_option linter.unusedSimpArgs false

set_option maxRecDepth 100000 in
set_option maxHeartbeats 3200000 in
theorem mayR6_any (A B : Option Addr) (n c n2 c2 : Nat) (l : List Ky) (p : List Ch) (w : World) (hn : n = l.length) (h : RdKy w w.heap.size A l) (hb : n ≤ 140737488355328) (hn2 : n2 = p.length) (h2 : RdCh w w.heap.size B p) (hb2 : n2 ≤ 140737488355328) (hv : okVs p) (hT : Lib.Utf8Tabs 1 2 w) :
    Calls Tryz.prog 108 #[.slice A n c, .slice B n2 c2] w fun e w' => e = .returned (.int .i64 (mayP l p)) ∧ Below w.heap.size w w' := by
  have N := Lib.hid hn
  have N2 := Lib.hid hn2
  generalize hR : mayP l p = R
  have HR := Lib.hid hR
  clear hn hn2 hR
  go_enter Tryz.func108, Tryz.ntmps108
  go_wp2_with (go_at_call 36; refine Hid.out ?_)
  refine Lib.hid ?_
  refine (risingC_any B n2 c2 p w N2.out h2 hb2).mono ?_
  rintro e w1 ⟨rfl, d, rfl⟩
  generalize hrr : riseC p = Q
  have HQ := Lib.hid hrr
  clear hrr
  cases Q with
  | false =>
    go_wp2_with (fail)
    go_ret
    refine ⟨ret_int ?_, ext_drew _ _⟩
    rw [← HR.out]
    unfold mayP
    rw [HQ.out]
    by_cases h : 64 < p.length <;> simp [h]
  | true =>
    by_cases h64 : (64 : Int) < (n2 : Int)
    · go_wp2_with (fail)
      go_ret
      refine ⟨ret_int ?_, ext_drew _ _⟩
      rw [← HR.out]
      unfold mayP
      rw [if_pos (by have := N2.out; omega)]
    have HP : Hid ((if p.all okC = true then (if p.all (thereC l) = true then 0 else 4) else 3) = R) := Lib.hid (by
      rw [← HR.out]
      unfold mayP
      rw [if_neg (show ¬ (64 < p.length) by have := N2.out; omega), HQ.out]
      simp)
    obtain ⟨R1, hR1⟩ : ∃ X, p.all okC = X := ⟨_, rfl⟩
    have HR1 := Lib.hid hR1
    clear hR1
    go_wp2_with (fail)
    go_loopg [5] n2 (fun g iv wr => ∃ m : Nat, m ≤ n2 ∧ g = n2 - m ∧ iv = .int .i64 (m : Int) ∧ Below w.heap.size w wr ∧ Hid ((p.drop m).all okC = R1))
    case atStart => exact ⟨0, by omega, rfl, rfl, ext_drew _ _, Lib.hid (by rw [List.drop_zero]; exact HR1.out)⟩
    case round =>
      obtain ⟨m, hm, hg, rfl, y, HI⟩ := hrel
      have HG := Lib.hid hg
      clear hg HR
      by_cases hlt : m < n2
      · have hl1 : m < p.length := by have := N2.out; omega
        obtain ⟨ad, x, rfl, had, hd1, hx1, hc0⟩ := (h2.below y (Nat.le_refl _)).el hl1
        have hxv := hv x (List.mem_of_getElem? hx1)
        have HI2 := Lib.hid (all_drop hd1 HI.out)
        obtain ⟨x1, g, x2, x3, x4, x5⟩ := x
        obtain ⟨r0, r1, r2, r3, r4, r5⟩ := ch_cells hc0
        obtain ⟨f0, f1⟩ : 0 ≤ x4 ∧ x4 < 18446744073709551616 := ⟨hxv.1.f0, hxv.1.f1⟩
        have hsz : x5.size ≤ 100000000 := hxv.2
        clear hc0 hd1 hx1 hxv HI
        have hw2 : IntKind.i64.wrap ((m:Int) + 1) = (m : Int) + 1 := IntWalk.i64_in _ (by omega)
        cases g with
        | true =>
          cases hz : beqV ⟨x2, x3, x4, x5⟩ ⟨0, 0, 0, ⟨#[]⟩⟩ with
          | false =>
            have HOK : Hid (okC ⟨x1, true, x2, x3, x4, x5⟩ = false) := Lib.hid hz
            have HF : Hid (p.all okC = false) := Lib.hid (by rw [HR1.out, ← HI2.out, HOK.out]; rfl)
            go_wp2_with (fail)
            go_ret
            exact ⟨ret_int (by rw [← HP.out, HF.out]; rfl), y⟩
          | true =>
            have HOK : Hid (okC ⟨x1, true, x2, x3, x4, x5⟩ = true) := Lib.hid hz
            go_wp2_with (fail)
            go_roundg (n2 - (m + 1))
            case measure => have := HG.out; omega
            case rel => exact ⟨m + 1, by omega, rfl, by go_num, y, Lib.hid (by rw [← HI2.out, HOK.out, Bool.true_and])⟩
        | false =>
          go_wp2_with (go_at_call 174; refine Hid.out ?_)
          refine Lib.hid ?_
          refine (refMayV_any x2 x3 x4 x5 _ f0 f1 hsz ?tb).mono ?_
          case tb => exact tabs_at hT y rfl
          rintro e w6 ⟨rfl, y6⟩
          have HOK : Hid (okC ⟨x1, false, x2, x3, x4, x5⟩ = mayV ⟨x2, x3, x4, x5⟩) := Lib.hid rfl
          generalize mayV ⟨x2, x3, x4, x5⟩ = M at HOK ⊢
          have yy6 := below_at y y6 rfl rfl rfl rfl
          cases M with
          | false =>
            have HF : Hid (p.all okC = false) := Lib.hid (by rw [HR1.out, ← HI2.out, HOK.out]; rfl)
            go_wp2_with (fail)
            go_ret
            exact ⟨ret_int (by rw [← HP.out, HF.out]; rfl), yy6⟩
          | true =>
            go_wp2_with (fail)
            go_roundg (n2 - (m + 1))
            case measure => have := HG.out; omega
            case rel => exact ⟨m + 1, by omega, rfl, by go_num, yy6, Lib.hid (by rw [← HI2.out, HOK.out, Bool.true_and])⟩
      · have HF : Hid (p.all okC = true) := Lib.hid (by rw [HR1.out, ← HI.out, List.drop_eq_nil_of_le (by have := N2.out; omega)]; rfl)
        clear HI HR1
        obtain ⟨R2, hR2⟩ : ∃ X, p.all (thereC l) = X := ⟨_, rfl⟩
        have HR2 := Lib.hid hR2
        clear hR2
        go_wp2_with (fail)
        go_loopg [6] n2 (fun g iv wr => ∃ m : Nat, m ≤ n2 ∧ g = n2 - m ∧ iv = .int .i64 (m : Int) ∧ Below w.heap.size w wr ∧ Hid ((p.drop m).all (thereC l) = R2))
        case atStart => exact ⟨0, by omega, rfl, rfl, y, Lib.hid (by rw [List.drop_zero]; exact HR2.out)⟩
        case round =>
          obtain ⟨m, hm, hg, rfl, y, HI⟩ := hrel
          have HG := Lib.hid hg
          clear hg
          by_cases hlt : m < n2
          · have hl1 : m < p.length := by have := N2.out; omega
            obtain ⟨ad, x, rfl, had, hd1, hx1, hc0⟩ := (h2.below y (Nat.le_refl _)).el hl1
            obtain ⟨ad', x', e', _, _, hx1', hcw⟩ := h2.el hl1
            injection e' with e'
            subst e'
            rw [hx1] at hx1'
            injection hx1' with hx1'
            subst hx1'
            have hxv := hv x (List.mem_of_getElem? hx1)
            have HI2 := Lib.hid (all_drop hd1 HI.out)
            obtain ⟨x1, g, x2, x3, x4, x5⟩ := x
            obtain ⟨r0, r1, r2, r3, r4, r5⟩ := ch_cells hc0
            have HCW := Lib.hid hcw
            obtain ⟨f0, f1⟩ : 0 ≤ x4 ∧ x4 < 18446744073709551616 := ⟨hxv.1.f0, hxv.1.f1⟩
            have hsz : x5.size ≤ 100000000 := hxv.2
            clear hc0 hd1 hx1 hxv HI hcw
            have hw2 : IntKind.i64.wrap ((m:Int) + 1) = (m : Int) + 1 := IntWalk.i64_in _ (by omega)
            go_wp2_with (go_at_call 151; refine Hid.out ?_)
            refine Lib.hid ?_
            refine (findR_any A n c l x1 wr N.out ((h.below y (Nat.le_refl _)).more y.size) hb).mono ?_
            rintro e w3 ⟨k1, k2, k3, k4, k5, k6, q, rfl, hq1, hq2, y3⟩
            have HQ2 := Lib.hid hq2
            have y4 := ext_alloc w3 (.cells #[.int .i64 k1, .bool k2, .int .u8 k3, .bool k4, .bool k5, .int .i64 k6] 97)
            have y5 := ext_trans y (ext_trans y3 y4)
            clear hq1 hq2 r0 r1 r2 r3 r4 r5
            have gg : GoodB w [] _ := ⟨y5, by intro p hp; cases hp⟩
            have hx : ∀ x : GW w [], CellsAt x.val (ad.add (m * 6)) (Ch.enc ⟨x1, g, x2, x3, x4, x5⟩) := fun x => HCW.out.keep fun q hq => x.ok.1.cell (by rw [hq, add_block]; exact had)
            have r0 : ∀ x : GW w [], _ := fun x => (ch_cells (hx x)).1
            have r1 : ∀ x : GW w [], _ := fun x => (ch_cells (hx x)).2.1
            have r2 : ∀ x : GW w [], _ := fun x => (ch_cells (hx x)).2.2.1
            have r3 : ∀ x : GW w [], _ := fun x => (ch_cells (hx x)).2.2.2.1
            have r4 : ∀ x : GW w [], _ := fun x => (ch_cells (hx x)).2.2.2.2.1
            have r5 : ∀ x : GW w [], _ := fun x => (ch_cells (hx x)).2.2.2.2.2
            clear hx
            haveI : Nonempty (GW w []) := ⟨⟨_, gg⟩⟩
            cases q with
            | false =>
              have HTH : Hid (thereC l ⟨x1, g, x2, x3, x4, x5⟩ = false) := Lib.hid (by unfold thereC; rw [HQ2.out]; rfl)
              go_wp2_with (fail)
              refine wp_region_class (by kernel_rfl) (by kernel_rfl) gg ?_
              repeat (go_big_quiet_step (fail))
              refine wpQuiet_nil ?_
              intro _ hw'
              obtain ⟨xx, rfl⟩ := hw'
              have yx := xx.ok.1
              generalize xx.val = w8 at *
              clear r0 r1 r2 r3 r4 r5
              go_wp2_with (fail)
              go_ret
              exact ⟨ret_int (by rw [← HP.out, HF.out, show p.all (thereC l) = false by rw [HR2.out, ← HI2.out, HTH.out]; rfl]; rfl), yx⟩
            | true =>
              cases g with
              | true =>
                have HTH : Hid (thereC l ⟨x1, true, x2, x3, x4, x5⟩ = true) := Lib.hid (by unfold thereC; rw [HQ2.out]; rfl)
                go_wp2_with (fail)
                refine wp_region_class (by kernel_rfl) (by kernel_rfl) gg ?_
                repeat (go_big_quiet_step (fail))
                refine wpQuiet_nil ?_
                intro _ hw'
                obtain ⟨xx, rfl⟩ := hw'
                have yx := xx.ok.1
                generalize xx.val = w8 at *
                clear r0 r1 r2 r3 r4 r5
                go_wp2_with (fail)
                go_roundg (n2 - (m + 1))
                case measure => have := HG.out; omega
                case rel => exact ⟨m + 1, by omega, rfl, by go_num, yx, Lib.hid (by rw [← HI2.out, HTH.out, Bool.true_and])⟩
              | false =>
                obtain ⟨FI, hFI⟩ : ∃ X, fitsK l x1 ⟨x2, x3, x4, x5⟩ = X := ⟨_, rfl⟩
                have HFI := Lib.hid hFI
                have HTH : Hid (thereC l ⟨x1, false, x2, x3, x4, x5⟩ = FI) := Lib.hid (by unfold thereC; rw [HQ2.out, ← hFI]; rfl)
                clear hFI
                cases FI with
                | false =>
                  go_wp2_with (fail)
                  refine wp_region_class (by kernel_rfl) (by kernel_rfl) gg ?_
                  repeat (go_big_quiet_step (first | (go_at_call 175; with_reducible exact fitsR_class hT N.out h hb f0 f1 hsz _ HFI.out)))
                  refine wpQuiet_nil ?_
                  intro _ hw'
                  obtain ⟨xx, rfl⟩ := hw'
                  have yx := xx.ok.1
                  generalize xx.val = w8 at *
                  clear r0 r1 r2 r3 r4 r5
                  go_wp2_with (fail)
                  go_ret
                  exact ⟨ret_int (by rw [← HP.out, HF.out, show p.all (thereC l) = false by rw [HR2.out, ← HI2.out, HTH.out]; rfl]; rfl), yx⟩
                | true =>
                  go_wp2_with (fail)
                  refine wp_region_class (by kernel_rfl) (by kernel_rfl) gg ?_
                  repeat (go_big_quiet_step (first | (go_at_call 175; with_reducible exact fitsR_class hT N.out h hb f0 f1 hsz _ HFI.out)))
                  refine wpQuiet_nil ?_
                  intro _ hw'
                  obtain ⟨xx, rfl⟩ := hw'
                  have yx := xx.ok.1
                  generalize xx.val = w8 at *
                  clear r0 r1 r2 r3 r4 r5
                  go_wp2_with (fail)
                  go_roundg (n2 - (m + 1))
                  case measure => have := HG.out; omega
                  case rel => exact ⟨m + 1, by omega, rfl, by go_num, yx, Lib.hid (by rw [← HI2.out, HTH.out, Bool.true_and])⟩
          · have HF2 : Hid (p.all (thereC l) = true) := Lib.hid (by rw [HR2.out, ← HI.out, List.drop_eq_nil_of_le (by have := N2.out; omega)]; rfl)
            go_wp2_with (fail)
            go_ret
            exact ⟨ret_int (by rw [← HP.out, HF.out, HF2.out]; rfl), y⟩

def formR (o : Opd) : Bool := formO o && decide (1 ≤ sizeO o ∧ sizeO o ≤ 536870912)

set_option maxRecDepth 100000 in
set_option maxHeartbeats 1600000 in
theorem form15_any (k n : Int) (Ar As Ap : Option Addr) (r : List Int) (s : List At) (p : List Ch) (cr cs cp : Nat) (w : World) (h : RdI32 w w.heap.size Ar r) (hb : r.length ≤ 140737488355328) :
    Calls Tryz.prog 106 #[.agg #[.int .u8 k, .int .i64 n, .slice Ar r.length cr, .slice As s.length cs, .slice Ap p.length cp]] w fun e w' => e = .returned (.bool (formR ⟨k, n, r, s, p⟩)) ∧ Below w.heap.size w w' := by
  have y0 := ext_alloc w (.cells #[.int .u8 k, .int .i64 n, .slice Ar r.length cr, .slice As s.length cs, .slice Ap p.length cp] 50)
  have HH := Lib.hid (h.ext y0)
  obtain ⟨R, hR⟩ : ∃ X, formR ⟨k, n, r, s, p⟩ = X := ⟨_, rfl⟩
  rw [hR]
  unfold formR formO sizeO at hR
  simp only at hR
  have HR := Lib.hid hR
  obtain ⟨nr, hnr⟩ : ∃ X, r.length = X := ⟨_, rfl⟩
  obtain ⟨ns, hns⟩ : ∃ X, s.length = X := ⟨_, rfl⟩
  obtain ⟨np, hnp⟩ : ∃ X, p.length = X := ⟨_, rfl⟩
  have NR := Lib.hid hnr
  have NS := Lib.hid hns
  have NP := Lib.hid hnp
  rw [hnr, hns, hnp]
  rw [hnr, hns, hnp] at y0 HH
  rw [hnr] at hb
  clear hR hnr hns hnp h
  by_cases k1 : k = 1
  · subst k1
    go_enter Tryz.func106, Tryz.ntmps106
    go_wp2_with (fail)
    all_goals go_ret
    all_goals exact ⟨ret_bool (by rw [← HR.out]; simp only [NR.out, NS.out, NP.out]; first | (simp; done) | (simp; omega) | (simp [*]; done) | (simp [*]; omega)), by exact ext_alloc w _⟩
  have kb1 : (k == 1) = false := beq_eq_false_iff_ne.2 k1
  by_cases k3 : k = 3
  · subst k3
    go_enter Tryz.func106, Tryz.ntmps106
    go_wp2_with (fail)
    all_goals go_ret
    all_goals exact ⟨ret_bool (by rw [← HR.out]; simp only [NR.out, NS.out, NP.out]; first | (simp; done) | (simp; omega) | (simp [*]; done) | (simp [*]; omega)), by exact ext_alloc w _⟩
  have kb3 : (k == 3) = false := beq_eq_false_iff_ne.2 k3
  by_cases k2 : k = 2
  rotate_left
  · have kb2 : (k == 2) = false := beq_eq_false_iff_ne.2 k2
    have e : R = false := by rw [← HR.out, if_neg k1, if_neg k3, if_neg k2]; rfl
    go_enter Tryz.func106, Tryz.ntmps106
    go_wp2_with (fail)
    go_ret
    exact ⟨ret_bool e.symm, y0⟩
  subst k2
  have hbx := heap_alloc_new w (.cells #[.int .u8 2, .int .i64 n, .slice Ar nr cr, .slice As ns cs, .slice Ap np cp] 50)
  go_enter Tryz.func106, Tryz.ntmps106
  go_wp2_with (fail)
  obtain ⟨w1, hw1⟩ : ∃ X, w.alloc (.cells #[.int .u8 2, .int .i64 n, .slice Ar nr cr, .slice As ns cs, .slice Ap np cp] 50) = X := ⟨_, rfl⟩
  rw [hw1] at y0 HH hbx ⊢
  clear hw1
  obtain ⟨q0, q1, q2, q3, q4⟩ := box_at hbx
  clear hbx
  go_loopg [3] nr (fun g iv wr => ∃ m : Nat, m ≤ nr ∧ g = nr - m ∧ iv = .int .i64 (m : Int) ∧ (∃ dr, wr = w1.drewN dr) ∧ Hid (∀ c ∈ r.take m, mayR c = true))
  case atStart => exact ⟨0, by omega, rfl, rfl, ⟨0, rfl⟩, Lib.hid (fun c hc => by simp at hc)⟩
  case round =>
    obtain ⟨m, hm, hg, rfl, ⟨dr, rfl⟩, HI⟩ := hrel
    have HG := Lib.hid hg
    clear hg
    by_cases hlt : m < nr
    · have hl1 : m < r.length := by have := NR.out; omega
      obtain ⟨ad, x, hA, _, _, hx1, hc0⟩ := HH.out.el hl1
      subst hA
      have HX := Lib.hid hx1
      have c0 : w1.cell? (ad.add (m * 1)) = some (.int .i32 x) := by have := hc0 0 _ rfl; rwa [add_zero'] at this
      rw [Nat.mul_one] at c0
      have hw2 : IntKind.i64.wrap ((m:Int) + 1) = (m : Int) + 1 := IntWalk.i64_in _ (by omega)
      obtain ⟨M, hM⟩ : ∃ X, mayR x = X := ⟨_, rfl⟩
      have HM := Lib.hid hM
      clear hc0 hx1 hM
      cases M
      · have e : R = false := by
          have h1 : r.any (fun r => !mayR r) = true := List.any_eq_true.2 ⟨x, List.mem_of_getElem? HX.out, by rw [HM.out]; rfl⟩
          rw [← HR.out]; simp [h1]
        go_wp2_with (go_at_call 150; refine (refMay_any x _).mono ?_; rintro e w2 ⟨rfl, rfl⟩; rw [HM.out])
        go_ret
        exact ⟨ret_bool e.symm, ext_trans y0 (ext_drew _ _)⟩
      · go_wp2_with (go_at_call 150; refine (refMay_any x _).mono ?_; rintro e w2 ⟨rfl, rfl⟩; rw [HM.out])
        go_roundg (nr - (m + 1))
        case measure => have := HG.out; omega
        case rel => exact ⟨m + 1, by omega, rfl, by go_num, ⟨_, rfl⟩, Lib.hid (fun c hc => by
          rw [List.take_add_one, HX.out] at hc
          rcases List.mem_append.1 hc with hc | hc
          · exact HI.out c hc
          · simp at hc; rw [hc]; exact HM.out)⟩
    · have hany : r.any (fun r => !mayR r) = false := by
        rw [Bool.eq_false_iff]
        intro h
        obtain ⟨c, hc, h2⟩ := List.any_eq_true.1 h
        have := HI.out c (by rw [List.take_of_length_le (by have := NR.out; omega)]; exact hc)
        rw [this] at h2; cases h2
      have HA := Lib.hid hany
      clear hany HI
      go_wp2_with (fail)
      all_goals go_ret
      all_goals exact ⟨ret_bool (by rw [← HR.out]; simp only [HA.out, NR.out, NS.out, NP.out, if_true]; first | (simp; done) | (simp; omega) | (simp [*]; done) | (simp [*]; omega)), by first | exact ext_trans y0 (ext_drew _ _) | exact y0⟩
theorem mayS_none (l : List Ky) : mayS l [] = 0 := by simp [mayS, riseA, rise]
theorem mayP_none (l : List Ky) : mayP l [] = 0 := by simp [mayP, riseC, rise]
theorem mayS_vals (l : List Ky) (s : List At) : mayS l s = 0 ∨ mayS l s = 3 ∨ mayS l s = 4 := by
  unfold mayS; split
  · exact .inr (.inl rfl)
  · split
    · split
      · exact .inl rfl
      · exact .inr (.inr rfl)
    · exact .inr (.inl rfl)
theorem mayP_vals (l : List Ky) (s : List Ch) : mayP l s = 0 ∨ mayP l s = 3 ∨ mayP l s = 4 := by
  unfold mayP; split
  · exact .inr (.inl rfl)
  · split
    · split
      · exact .inl rfl
      · exact .inr (.inr rfl)
    · exact .inr (.inl rfl)
def badO (l : List Ky) (o : Opd) : Bool := !formR o || decide (mayS l o.s = 3) || decide (mayP l o.p = 3)
def offO (l : List Ky) (o : Opd) : Bool := decide (mayS l o.s ≠ 0) || decide (mayP l o.p ≠ 0)
theorem form_one {o : Opd} (h : formO o = true) : o.s = [] ∨ o.p = [] := by
  unfold formO at h
  split at h
  · exact .inl (List.length_eq_zero_iff.1 (of_decide_eq_true h).2)
  · split at h
    · exact .inl (List.length_eq_zero_iff.1 (of_decide_eq_true h).1.2)
    · split at h
      · rw [Bool.and_eq_true] at h; exact .inr (List.length_eq_zero_iff.1 (of_decide_eq_true h.1).2)
      · cases h
theorem one_is (l : List Ky) (o : Opd) : oneP l o = if badO l o = true then 3 else if offO l o = true then 4 else 0 := by
  unfold oneP badO offO formR
  by_cases h1 : formO o = true ∧ 1 ≤ sizeO o ∧ sizeO o ≤ 536870912
  · rw [if_pos h1]
    have h2 : (!(formO o && decide (1 ≤ sizeO o ∧ sizeO o ≤ 536870912))) = false := by simp [h1.1, h1.2]
    rw [h2, Bool.false_or]
    rcases form_one h1.1 with h3 | h3
    · rw [h3, mayS_none, if_pos rfl]
      rcases mayP_vals l o.p with h | h | h <;> rw [h] <;> decide
    · rw [h3, mayP_none]
      rcases mayS_vals l o.s with h | h | h <;> rw [h] <;> decide
  · rw [if_neg h1]
    have h2 : (!(formO o && decide (1 ≤ sizeO o ∧ sizeO o ≤ 536870912))) = true := by
      rw [Bool.not_eq_true', Bool.and_eq_false_iff]
      by_cases h3 : formO o = true
      · exact .inr (decide_eq_false (fun h4 => h1 ⟨h3, h4⟩))
      · exact .inl (Bool.eq_false_iff.2 h3)
    rw [h2, Bool.true_or, Bool.true_or, if_pos rfl]
theorem fold_is (l : List Ky) : ∀ (x : List OpS) (a : Int), x.foldl (mayStep l) (false, a) = if x.any (fun o => badO l o.o) = true then (true, 3) else (false, if x.any (fun o => offO l o.o) = true then 4 else a)
  | [], a => by simp
  | o :: x, a => by
    rw [List.foldl_cons]
    have e : mayStep l (false, a) o = if badO l o.o = true then (true, 3) else (false, if offO l o.o = true then 4 else a) := by
      unfold mayStep
      rw [one_is l o.o]
      cases badO l o.o <;> cases offO l o.o <;> simp
    rw [e, List.any_cons, List.any_cons]
    cases hb : badO l o.o
    · cases ho : offO l o.o
      · simpa using fold_is l x a
      · simpa using fold_is l x 4
    · simp [mayStep_true]
def refO (l : List Ky) (x : List OpS) : Int :=
  if x.any (fun o => badO l o.o) = true then 3 else if takesP x ≤ 536870912 ∧ makesP x ≤ 536870912 then (if x.any (fun o => offO l o.o) = true then 4 else 0) else 3
theorem refO_is (l : List Ky) (x : List OpS) : refO l x = mayO l x := by
  unfold refO mayO
  rw [fold_is]
  cases x.any (fun o => badO l o.o) <;> simp
theorem any_take {α : Type} {f : α → Bool} {x : List α} {m : Nat} {o : α} (h : x[m]? = some o) (h1 : (x.take m).any f = false) (h2 : f o = false) : (x.take (m + 1)).any f = false := by
  rw [List.take_add_one, h, List.any_append, h1]; simp [h2]
theorem any_at {α : Type} {f : α → Bool} {x : List α} {m : Nat} {o : α} (h : x[m]? = some o) (h2 : f o = true) : x.any f = true := List.any_eq_true.2 ⟨o, List.mem_of_getElem? h, h2⟩
set_option maxRecDepth 100000 in
set_option maxHeartbeats 3200000 in
theorem may15_any (A B : Option Addr) (n c n2 c2 : Nat) (l : List Ky) (x : List OpS) (w : World) (hn : n = l.length) (h : RdKy w w.heap.size A l) (hb : n ≤ 140737488355328) (hn2 : n2 = x.length) (h2 : RdOp w w.heap.size B x) (hb2 : n2 ≤ 140737488355328)
    (hv : ∀ o ∈ x, okVa o.o.s ∧ okVs o.o.p ∧ o.o.r.length ≤ 140737488355328 ∧ o.o.s.length ≤ 140737488355328 ∧ o.o.p.length ≤ 140737488355328) (hT : Lib.Utf8Tabs 1 2 w) :
    Calls Tryz.prog 43 #[.slice A n c, .slice B n2 c2] w fun e w' => e = .returned (.int .i64 (mayO l x)) ∧ Below w.heap.size w w' := by
  rw [← refO_is]
  have N := Lib.hid hn
  have N2 := Lib.hid hn2
  have HL := Lib.hid h
  have HX := Lib.hid h2
  have HT := Lib.hid hT
  obtain ⟨R, hR⟩ : ∃ X, refO l x = X := ⟨_, rfl⟩
  rw [hR]
  unfold refO at hR
  have HR := Lib.hid hR
  clear hn hn2 hR h h2 hT
  go_enter Tryz.func43, Tryz.ntmps43
  go_wp2_with (fail)
  go_loopg [5] n2 (fun g iv wr => ∃ m : Nat, m ≤ n2 ∧ g = n2 - m ∧ iv = .int .i64 (m : Int) ∧ Below w.heap.size w wr ∧ Hid ((x.take m).any (fun o => badO l o.o) = false))
  case atStart => exact ⟨0, by omega, rfl, rfl, Below.refl _ _, Lib.hid (by simp)⟩
  case round =>
    obtain ⟨m, hm, hg, rfl, y, HI⟩ := hrel
    have HG := Lib.hid hg
    clear hg
    by_cases hlt : m < n2
    · have hl1 : m < x.length := by have := N2.out; omega
      obtain ⟨ad, o, had0, hd1, hx1, hc0⟩ := (HX.out.ext y).1.elIn hl1
      subst had0
      have HM := Lib.hid hx1
      obtain ⟨g1, g2, g3⟩ := (HX.out.ext y).2 o (List.mem_of_getElem? hx1)
      obtain ⟨v1, v2, v3, v4, v5⟩ := hv o (List.mem_of_getElem? hx1)
      obtain ⟨⟨k, nn, r, s, p⟩, Ar, cr, As, cs, Ap, cp⟩ := o
      simp only at g1 g2 g3 v1 v2 v3 v4 v5
      have HC := Lib.hid hc0
      obtain ⟨r0, r1, r2, r3, r4⟩ := op_cells HC.out.2
      have G1 := Lib.hid g1
      have G2 := Lib.hid g2
      have G3 := Lib.hid g3
      have hw2 : IntKind.i64.wrap ((m:Int) + 1) = (m : Int) + 1 := IntWalk.i64_in _ (by omega)
      clear hc0 hd1 hx1 g1 g2 g3
      have BAD : Hid (badO l ⟨k, nn, r, s, p⟩ = true → R = 3) := Lib.hid (fun hb' => by rw [← HR.out, if_pos (any_at HM.out hb')])
      have FB : Hid (badO l ⟨k, nn, r, s, p⟩ = (!formR ⟨k, nn, r, s, p⟩ || decide (mayS l s = 3) || decide (mayP l p = 3))) := Lib.hid rfl
      obtain ⟨F, hF⟩ : ∃ X, formR ⟨k, nn, r, s, p⟩ = X := ⟨_, rfl⟩
      obtain ⟨E1, hE1⟩ : ∃ X, mayS l s = X := ⟨_, rfl⟩
      obtain ⟨E2, hE2⟩ : ∃ X, mayP l p = X := ⟨_, rfl⟩
      have HF := Lib.hid hF
      have HE1 := Lib.hid hE1
      have HE2 := Lib.hid hE2
      clear hF hE1 hE2
      go_wp2_with (go_at_call 106; refine Hid.out ?_)
      refine Lib.hid ?_
      refine (form15_any k nn Ar As Ap r s p cr cs cp _ G1.out v3).mono ?_
      rw [HF.out]
      rintro e w3 ⟨rfl, y3⟩
      have G2 := Lib.hid (G2.out.ext y3)
      clear r0 r1 r2 r3 r4
      have HC := Lib.hid (HC.out.ext y3)
      obtain ⟨r0, r1, r2, r3, r4⟩ := op_cells HC.out.2
      have G3 := Lib.hid (G3.out.ext y3)
      replace y := ext_trans y y3
      clear y3
      cases F
      · have e9 : R = 3 := BAD.out (by rw [FB.out, HF.out]; rfl)
        go_wp2_with (fail)
        go_ret
        exact ⟨ret_int e9.symm, y⟩
      go_wp2_with (go_at_call 107; refine Hid.out ?_)
      refine Lib.hid ?_
      refine (mayR5_any A As n c s.length cs l s _ N.out (HL.out.ext y) hb rfl G2.out v4 v1 (Utf8Tabs_below HT.out y)).mono ?_
      rw [HE1.out]
      rintro e w4 ⟨rfl, y4⟩
      clear r0 r1 r2 r3 r4
      have HC := Lib.hid (HC.out.ext y4)
      obtain ⟨r0, r1, r2, r3, r4⟩ := op_cells HC.out.2
      have G3 := Lib.hid (G3.out.ext y4)
      replace y := ext_trans y y4
      clear y4
      by_cases c1 : E1 = 3
      · have e9 : R = 3 := BAD.out (by rw [FB.out, HE1.out, c1]; simp)
        subst c1
        go_wp2_with (fail)
        go_ret
        exact ⟨ret_int e9.symm, y⟩
      have c1b : (E1 == 3) = false := beq_eq_false_iff_ne.2 c1
      go_wp2_with (go_at_call 108; refine Hid.out ?_)
      refine Lib.hid ?_
      refine (mayR6_any A Ap n c p.length cp l p _ N.out (HL.out.ext y) hb rfl G3.out v5 v2 (Utf8Tabs_below HT.out y)).mono ?_
      rw [HE2.out]
      rintro e w5 ⟨rfl, y5⟩
      replace y := ext_trans y y5
      clear y5
      by_cases c2' : E2 = 3
      · have e9 : R = 3 := BAD.out (by rw [FB.out, HE2.out, c2']; simp)
        subst c2'
        go_wp2_with (fail)
        go_ret
        exact ⟨ret_int e9.symm, y⟩
      have c2b : (E2 == 3) = false := beq_eq_false_iff_ne.2 c2'
      have GOOD : Hid (badO l ⟨k, nn, r, s, p⟩ = false) := Lib.hid (by rw [FB.out, HF.out, HE1.out, HE2.out]; simp [c1, c2'])
      clear c1 c2'
      go_wp2_with (fail)
      go_roundg (n2 - (m + 1))
      case measure => have := HG.out; omega
      case rel => exact ⟨m + 1, by omega, rfl, by go_num, y, Lib.hid (any_take HM.out HI.out GOOD.out)⟩
    · have NB : Hid (x.any (fun o => badO l o.o) = false) := Lib.hid (by have := HI.out; rwa [List.take_of_length_le (by have := N2.out; omega)] at this)
      have HR2 : Hid ((if takesP x ≤ 536870912 ∧ makesP x ≤ 536870912 then (if x.any (fun o => offO l o.o) = true then 4 else 0) else 3) = R) := Lib.hid (by rw [← HR.out, NB.out]; rfl)
      clear HI HG
      go_wp2_with (go_at_call 109; refine Hid.out ?_)
      refine Lib.hid ?_
      refine (takes15_any B n2 c2 x _ N2.out (HX.out.ext y).1 hb2).mono ?_
      rintro e w3 ⟨rfl, dr, hd⟩
      replace y := ext_trans y (drew_ext hd)
      clear hd
      generalize takesP x = T at HR2 ⊢
      by_cases t1 : 536870912 < T
      · go_wp2_with (fail)
        go_ret
        exact ⟨ret_int (by rw [← HR2.out, if_neg (by omega)]), y⟩
      go_wp2_with (go_at_call 110; refine Hid.out ?_)
      refine Lib.hid ?_
      refine (makes15_any B n2 c2 x _ N2.out (HX.out.ext y).1 hb2).mono ?_
      rintro e w4 ⟨rfl, y4⟩
      replace y := ext_trans y y4
      clear y4
      generalize makesP x = U at HR2 ⊢
      by_cases u1 : 536870912 < U
      · go_wp2_with (fail)
        go_ret
        exact ⟨ret_int (by rw [← HR2.out, if_neg (by omega)]), y⟩
      have HR3 : Hid ((if x.any (fun o => offO l o.o) = true then (4 : Int) else 0) = R) := Lib.hid ((if_pos ⟨by omega, by omega⟩).symm.trans HR2.out)
      clear HR2 hlt hm
      go_wp2_with (fail)
      go_loopg [6] n2 (fun g iv wq => ∃ m : Nat, m ≤ n2 ∧ g = n2 - m ∧ iv = .int .i64 (m : Int) ∧ Below w.heap.size w wq ∧ Hid ((x.take m).any (fun o => offO l o.o) = false))
      case atStart => exact ⟨0, by omega, rfl, rfl, y, Lib.hid (by simp)⟩
      case round =>
        clear y
        obtain ⟨m, hm, hg, rfl, y, HI⟩ := hrel
        have HG := Lib.hid hg
        clear hg
        by_cases hlt : m < n2
        · have hl1 : m < x.length := by have := N2.out; omega
          obtain ⟨ad, o, had0, hd1, hx1, hc0⟩ := (HX.out.ext y).1.elIn hl1
          subst had0
          have HM := Lib.hid hx1
          obtain ⟨g1, g2, g3⟩ := (HX.out.ext y).2 o (List.mem_of_getElem? hx1)
          obtain ⟨v1, v2, v3, v4, v5⟩ := hv o (List.mem_of_getElem? hx1)
          obtain ⟨⟨k, nn, r, s, p⟩, Ar, cr, As, cs, Ap, cp⟩ := o
          simp only at g1 g2 g3 v1 v2 v3 v4 v5
          have HC := Lib.hid hc0
          obtain ⟨r0, r1, r2, r3, r4⟩ := op_cells HC.out.2
          have G1 := Lib.hid g1
          have G2 := Lib.hid g2
          have G3 := Lib.hid g3
          have hw2 : IntKind.i64.wrap ((m:Int) + 1) = (m : Int) + 1 := IntWalk.i64_in _ (by omega)
          clear hc0 hd1 hx1 g1 g2 g3
          have OFF : Hid (offO l ⟨k, nn, r, s, p⟩ = true → R = 4) := Lib.hid (fun hb' => by rw [← HR3.out, if_pos (any_at HM.out hb')])
          have FB : Hid (offO l ⟨k, nn, r, s, p⟩ = (decide (mayS l s ≠ 0) || decide (mayP l p ≠ 0))) := Lib.hid rfl
          obtain ⟨E1, hE1⟩ : ∃ X, mayS l s = X := ⟨_, rfl⟩
          obtain ⟨E2, hE2⟩ : ∃ X, mayP l p = X := ⟨_, rfl⟩
          have HE1 := Lib.hid hE1
          have HE2 := Lib.hid hE2
          clear hE1 hE2
          go_wp2_with (go_at_call 107; refine Hid.out ?_)
          refine Lib.hid ?_
          refine (mayR5_any A As n c s.length cs l s _ N.out (HL.out.ext y) hb rfl G2.out v4 v1 (Utf8Tabs_below HT.out y)).mono ?_
          rw [HE1.out]
          rintro e w4 ⟨rfl, y4⟩
          clear r0 r1 r2 r3 r4
          have HC := Lib.hid (HC.out.ext y4)
          obtain ⟨r0, r1, r2, r3, r4⟩ := op_cells HC.out.2
          have G3 := Lib.hid (G3.out.ext y4)
          replace y := ext_trans y y4
          clear y4
          by_cases c1 : E1 = 0
          rotate_left
          · have e9 : R = 4 := OFF.out (by rw [FB.out, HE1.out]; simp [c1])
            have c1b : (E1 == 0) = false := beq_eq_false_iff_ne.2 c1
            have c1n : (E1 != 0) = true := by rw [bne, c1b]; rfl
            clear c1
            go_wp2_with (fail)
            go_ret
            exact ⟨ret_int e9.symm, y⟩
          subst c1
          go_wp2_with (go_at_call 108; refine Hid.out ?_)
          refine Lib.hid ?_
          refine (mayR6_any A Ap n c p.length cp l p _ N.out (HL.out.ext y) hb rfl G3.out v5 v2 (Utf8Tabs_below HT.out y)).mono ?_
          rw [HE2.out]
          rintro e w5 ⟨rfl, y5⟩
          replace y := ext_trans y y5
          clear y5
          by_cases c2' : E2 = 0
          rotate_left
          · have e9 : R = 4 := OFF.out (by rw [FB.out, HE2.out]; simp [c2'])
            have c2b : (E2 == 0) = false := beq_eq_false_iff_ne.2 c2'
            have c2n : (E2 != 0) = true := by rw [bne, c2b]; rfl
            clear c2'
            go_wp2_with (fail)
            go_ret
            exact ⟨ret_int e9.symm, y⟩
          subst c2'
          have GOOD : Hid (offO l ⟨k, nn, r, s, p⟩ = false) := Lib.hid (by rw [FB.out, HE1.out, HE2.out]; rfl)
          go_wp2_with (fail)
          go_roundg (n2 - (m + 1))
          case measure => have := HG.out; omega
          case rel => exact ⟨m + 1, by omega, rfl, by go_num, y, Lib.hid (any_take HM.out HI.out GOOD.out)⟩
        · have e9 : R = 0 := by
            have := HI.out
            rw [List.take_of_length_le (by have := N2.out; omega)] at this
            rw [← HR3.out, this]; rfl
          go_wp2_with (fail)
          go_ret
          exact ⟨ret_int e9.symm, y⟩

theorem sum_one {α : Type} (f : α → Nat) : ∀ {l : List α} {a : α}, a ∈ l → f a ≤ (l.map f).sum
  | b :: l, a, h => by
    rw [List.map_cons, List.sum_cons]
    rcases List.mem_cons.1 h with rfl | h
    · omega
    · have := sum_one f h; omega
theorem okVa_of {s : List At} (h : okVr s) (hz : szA s ≤ 100000000) : okVa s := fun c hc => ⟨h c hc, by have := sum_one (fun a : At => a.v.s.size) hc; have h2 : c.v.s.size ≤ (s.map (fun a : At => a.v.s.size)).sum := this; unfold szA at hz; omega⟩
theorem mayKeysD {A B : Option Addr} {n c n2 c2 : Nat} {l : List Ky} {x : List OpS} {w : World} (hn : n = l.length) (h : RdKy w w.heap.size A l) (hb : n ≤ 1048576) (O : OpsAt w B n2 x) (hz : szX x ≤ 5000)
    (hT : Lib.Utf8Tabs 1 2 w) {R : Int} (hR : mayO l x = R) :
    Calls Tryz.prog 43 #[.slice A n c, .slice B n2 c2] w fun e w' => e = .returned (.int .i64 R) ∧ Below w.heap.size w w' := by
  have h1 := may15_any A B n c n2 c2 l x w hn h (by omega) O.len O.rd (by have := O.b; omega) (fun o ho => by
    have h1 := szX_mem ho
    unfold szO at h1
    obtain ⟨a, b, _⟩ := O.ok o ho
    exact ⟨okVa_of a (by omega), b, by omega, by omega, by omega⟩) hT
  rw [hR] at h1
  exact h1

theorem os_all22 {x y : List OpS} (h : osOf x = osOf y) {P : Opd → Prop} (hx : ∀ o ∈ x, P o.o) : ∀ o ∈ y, P o.o := fun o ho => by
  have h1 : o.o ∈ osOf x := by rw [h]; unfold osOf; exact List.mem_map_of_mem ho
  unfold osOf at h1
  obtain ⟨z, hz, e⟩ := List.mem_map.1 h1
  rw [← e]; exact hx z hz
theorem tm_len22 : ∀ us : List Un, takesU us ≤ us.length ∧ makesU us ≤ us.length
  | [] => ⟨Nat.le_refl _, Nat.le_refl _⟩
  | u :: us => by
    have h := tm_len22 us
    cases u with
    | ins r s => rw [takesU_i, makesU_i, List.length_cons]; omega
    | del => rw [takesU_d, makesU_d, List.length_cons]; omega
    | ret p => rw [takesU_r, makesU_r, List.length_cons]; omega
theorem mayO_vals22 (l : List Ky) (x : List OpS) : mayO l x = 0 ∨ mayO l x = 3 ∨ mayO l x = 4 := by
  have h1 : ∀ o : Opd, oneP l o = 0 ∨ oneP l o = 3 ∨ oneP l o = 4 := fun o => by
    unfold oneP
    split
    · split
      · exact mayP_vals l o.p
      · exact mayS_vals l o.s
    · exact .inr (.inl rfl)
  have h2 : ∀ (x : List OpS) (st : Bool × Int), (st.2 = 0 ∨ st.2 = 3 ∨ st.2 = 4) → ((x.foldl (mayStep l) st).2 = 0 ∨ (x.foldl (mayStep l) st).2 = 3 ∨ (x.foldl (mayStep l) st).2 = 4) := by
    intro x
    induction x with
    | nil => exact fun st h => h
    | cons o x ih =>
      intro st h
      rw [List.foldl_cons]
      refine ih _ ?_
      unfold mayStep
      split
      · exact h
      · split
        · exact .inr (.inl rfl)
        · show (if oneP l o.o = 0 then st.2 else oneP l o.o) = 0 ∨ _
          split
          · exact h
          · exact h1 o.o
  unfold mayO
  split
  · exact .inr (.inl rfl)
  · split
    · exact h2 x (false, 0) (.inl rfl)
    · exact .inr (.inl rfl)
end Go.Proofs.YtfnkjcodcoehcaaGreatDoor
