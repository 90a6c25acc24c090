/- Merged texts: RefMay05, RefMay06, Takes15, Makes15. -/
import Derived.Test.YtfnkjcodcoehcaaGreatDoorR27
import Derived.Test.YtfnkjcodcoehcaaGreatDoorR12
import Derived.Test.YtfnkjcodcoehcaaGreatDoorR8
import Derived.Test.YtfnkjcodcoehcaaGreatDoorR22
import Derived.Test.YtfnkjcodcoehcaaGreatDoorR17
namespace Go.Proofs.YtfnkjcodcoehcaaGreatDoor
open Go.RowKit
set_option linter.unusedVariables false
set_option linter.unusedSimpArgs false

set_option maxRecDepth 100000 in
set_option maxHeartbeats 3200000 in
theorem mayR5_any (A B : Option Addr) (n c n2 c2 : Nat) (l : List Ky) (p : List At) (w : World) (hn : n = l.length) (h : RdKy w w.heap.size A l) (hb : n ≤ 140737488355328) (hn2 : n2 = p.length) (h2 : RdAt w w.heap.size B p) (hb2 : n2 ≤ 140737488355328) (hv : okVa p) (hT : Lib.Utf8Tabs 1 2 w) :
    Calls Tryz.prog 107 #[.slice A n c, .slice B n2 c2] w fun e w' => e = .returned (.int .i64 (mayS l p)) ∧ Below w.heap.size w w' := by
  have N := Lib.hid hn
  have N2 := Lib.hid hn2
  generalize hR : mayS l p = R
  have HR := Lib.hid hR
  clear hn hn2 hR
  go_enter Tryz.func107, Tryz.ntmps107
  go_wp2_with (go_at_call 35; refine Hid.out ?_)
  refine Lib.hid ?_
  refine (risingA_any B n2 c2 p w N2.out h2 hb2).mono ?_
  rintro e w1 ⟨rfl, d, rfl⟩
  generalize hrr : riseA p = Q
  have HQ := Lib.hid hrr
  clear hrr
  cases Q with
  | false =>
    go_wp2_with (fail)
    go_ret
    refine ⟨ret_int ?_, ext_drew _ _⟩
    rw [← HR.out]
    unfold mayS
    rw [HQ.out]
    by_cases h : 64 < p.length <;> simp [h]
  | true =>
    by_cases h64 : (64 : Int) < (n2 : Int)
    · go_wp2_with (fail)
      go_ret
      refine ⟨ret_int ?_, ext_drew _ _⟩
      rw [← HR.out]
      unfold mayS
      rw [if_pos (by have := N2.out; omega)]
    have HP : Hid ((if p.all okA = true then (if p.all (thereA l) = true then 0 else 4) else 3) = R) := Lib.hid (by
      rw [← HR.out]
      unfold mayS
      rw [if_neg (show ¬ (64 < p.length) by have := N2.out; omega), HQ.out]
      simp)
    obtain ⟨R1, hR1⟩ : ∃ X, p.all okA = X := ⟨_, rfl⟩
    have HR1 := Lib.hid hR1
    clear hR1
    go_wp2_with (fail)
    go_loopg [5] n2 (fun g iv wr => ∃ m : Nat, m ≤ n2 ∧ g = n2 - m ∧ iv = .int .i64 (m : Int) ∧ Below w.heap.size w wr ∧ Hid ((p.drop m).all okA = R1))
    case atStart => exact ⟨0, by omega, rfl, rfl, ext_drew _ _, Lib.hid (by rw [List.drop_zero]; exact HR1.out)⟩
    case round =>
      obtain ⟨m, hm, hg, rfl, y, HI⟩ := hrel
      have HG := Lib.hid hg
      clear hg HR
      by_cases hlt : m < n2
      · have hl1 : m < p.length := by have := N2.out; omega
        obtain ⟨ad, x, rfl, had, hd1, hx1, hc0⟩ := (h2.below y (Nat.le_refl _)).el hl1
        have hxv := hv x (List.mem_of_getElem? hx1)
        have HI2 := Lib.hid (all_drop hd1 HI.out)
        obtain ⟨x1, x2, x3, x4, x5⟩ := x
        obtain ⟨r0, r1, r2, r3, r4⟩ := at_cells hc0
        obtain ⟨f0, f1⟩ : 0 ≤ x4 ∧ x4 < 18446744073709551616 := ⟨hxv.1.f0, hxv.1.f1⟩
        have hsz : x5.size ≤ 100000000 := hxv.2
        clear hc0 hd1 hx1 hxv HI
        have hw2 : IntKind.i64.wrap ((m:Int) + 1) = (m : Int) + 1 := IntWalk.i64_in _ (by omega)
        go_wp2_with (go_at_call 174; refine Hid.out ?_)
        refine Lib.hid ?_
        refine (refMayV_any x2 x3 x4 x5 _ f0 f1 hsz ?tb).mono ?_
        case tb => exact tabs_at hT y rfl
        rintro e w6 ⟨rfl, y6⟩
        have HOK : Hid (okA ⟨x1, x2, x3, x4, x5⟩ = mayV ⟨x2, x3, x4, x5⟩) := Lib.hid rfl
        generalize mayV ⟨x2, x3, x4, x5⟩ = M at HOK ⊢
        have yy6 := below_at y y6 rfl rfl rfl rfl
        cases M with
        | false =>
          have HF : Hid (p.all okA = false) := Lib.hid (by rw [HR1.out, ← HI2.out, HOK.out]; rfl)
          go_wp2_with (fail)
          go_ret
          exact ⟨ret_int (by rw [← HP.out, HF.out]; rfl), yy6⟩
        | true =>
          go_wp2_with (fail)
          go_roundg (n2 - (m + 1))
          case measure => have := HG.out; omega
          case rel => exact ⟨m + 1, by omega, rfl, by go_num, yy6, Lib.hid (by rw [← HI2.out, HOK.out, Bool.true_and])⟩
      · have HF : Hid (p.all okA = true) := Lib.hid (by rw [HR1.out, ← HI.out, List.drop_eq_nil_of_le (by have := N2.out; omega)]; rfl)
        clear HI HR1
        obtain ⟨R2, hR2⟩ : ∃ X, p.all (thereA l) = X := ⟨_, rfl⟩
        have HR2 := Lib.hid hR2
        clear hR2
        go_wp2_with (fail)
        go_loopg [6] n2 (fun g iv wr => ∃ m : Nat, m ≤ n2 ∧ g = n2 - m ∧ iv = .int .i64 (m : Int) ∧ Below w.heap.size w wr ∧ Hid ((p.drop m).all (thereA l) = R2))
        case atStart => exact ⟨0, by omega, rfl, rfl, y, Lib.hid (by rw [List.drop_zero]; exact HR2.out)⟩
        case round =>
          obtain ⟨m, hm, hg, rfl, y, HI⟩ := hrel
          have HG := Lib.hid hg
          clear hg
          by_cases hlt : m < n2
          · have hl1 : m < p.length := by have := N2.out; omega
            obtain ⟨ad, x, rfl, had, hd1, hx1, hcw⟩ := h2.el hl1
            have hxv := hv x (List.mem_of_getElem? hx1)
            have HI2 := Lib.hid (all_drop hd1 HI.out)
            obtain ⟨x1, x2, x3, x4, x5⟩ := x
            have HCW := Lib.hid hcw
            obtain ⟨f0, f1⟩ : 0 ≤ x4 ∧ x4 < 18446744073709551616 := ⟨hxv.1.f0, hxv.1.f1⟩
            have hsz : x5.size ≤ 100000000 := hxv.2
            clear hd1 hx1 hxv HI hcw
            have hw2 : IntKind.i64.wrap ((m:Int) + 1) = (m : Int) + 1 := IntWalk.i64_in _ (by omega)
            have gg : GoodB w [] wr := ⟨y, by intro p hp; cases hp⟩
            have hx : ∀ x : GW w [], CellsAt x.val (ad.add (m * 5)) (At.enc ⟨x1, x2, x3, x4, x5⟩) := fun x => HCW.out.keep fun q hq => x.ok.1.cell (by rw [hq, add_block]; exact had)
            have r0 : ∀ x : GW w [], _ := fun x => (at_cells (hx x)).1
            have r1 : ∀ x : GW w [], _ := fun x => (at_cells (hx x)).2.1
            have r2 : ∀ x : GW w [], _ := fun x => (at_cells (hx x)).2.2.1
            have r3 : ∀ x : GW w [], _ := fun x => (at_cells (hx x)).2.2.2.1
            have r4 : ∀ x : GW w [], _ := fun x => (at_cells (hx x)).2.2.2.2
            clear hx
            haveI : Nonempty (GW w []) := ⟨⟨_, gg⟩⟩
            obtain ⟨FI, hFI⟩ : ∃ X, fitsK l x1 ⟨x2, x3, x4, x5⟩ = X := ⟨_, rfl⟩
            have HFI := Lib.hid hFI
            have HTH : Hid (thereA l ⟨x1, x2, x3, x4, x5⟩ = FI) := Lib.hid hFI
            clear hFI
            cases FI with
            | false =>
              go_wp2_with (fail)
              refine wp_region_class (by kernel_rfl) (by kernel_rfl) gg ?_
              repeat (go_big_quiet_step (first | (go_at_call 175; with_reducible exact fitsR_class hT N.out h hb f0 f1 hsz _ HFI.out)))
              refine wpQuiet_nil ?_
              intro _ hw'
              obtain ⟨xx, rfl⟩ := hw'
              have yx := xx.ok.1
              generalize xx.val = w8 at *
              clear r0 r1 r2 r3 r4
              go_wp2_with (fail)
              go_ret
              exact ⟨ret_int (by rw [← HP.out, HF.out, show p.all (thereA l) = false by rw [HR2.out, ← HI2.out, HTH.out]; rfl]; rfl), yx⟩
            | true =>
              go_wp2_with (fail)
              refine wp_region_class (by kernel_rfl) (by kernel_rfl) gg ?_
              repeat (go_big_quiet_step (first | (go_at_call 175; with_reducible exact fitsR_class hT N.out h hb f0 f1 hsz _ HFI.out)))
              refine wpQuiet_nil ?_
              intro _ hw'
              obtain ⟨xx, rfl⟩ := hw'
              have yx := xx.ok.1
              generalize xx.val = w8 at *
              clear r0 r1 r2 r3 r4
              go_wp2_with (fail)
              go_roundg (n2 - (m + 1))
              case measure => have := HG.out; omega
              case rel => exact ⟨m + 1, by omega, rfl, by go_num, yx, Lib.hid (by rw [← HI2.out, HTH.out, Bool.true_and])⟩
          · have HF2 : Hid (p.all (thereA l) = true) := Lib.hid (by rw [HR2.out, ← HI.out, List.drop_eq_nil_of_le (by have := N2.out; omega)]; rfl)
            go_wp2_with (fail)
            go_ret
            exact ⟨ret_int (by rw [← HP.out, HF.out, HF2.out]; rfl), y⟩
end Go.Proofs.YtfnkjcodcoehcaaGreatDoor
namespace Go.Proofs.YtfnkjcodcoehcaaGreatDoor
open Go.RowKit
set_option linter.unusedVariables false
set_option linter.unusedSimpArgs false

set_option maxRecDepth 100000 in
set_option maxHeartbeats 3200000 in
theorem mayR6_any (A B : Option Addr) (n c n2 c2 : Nat) (l : List Ky) (p : List Ch) (w : World) (hn : n = l.length) (h : RdKy w w.heap.size A l) (hb : n ≤ 140737488355328) (hn2 : n2 = p.length) (h2 : RdCh w w.heap.size B p) (hb2 : n2 ≤ 140737488355328) (hv : okVs p) (hT : Lib.Utf8Tabs 1 2 w) :
    Calls Tryz.prog 108 #[.slice A n c, .slice B n2 c2] w fun e w' => e = .returned (.int .i64 (mayP l p)) ∧ Below w.heap.size w w' := by
  have N := Lib.hid hn
  have N2 := Lib.hid hn2
  generalize hR : mayP l p = R
  have HR := Lib.hid hR
  clear hn hn2 hR
  go_enter Tryz.func108, Tryz.ntmps108
  go_wp2_with (go_at_call 36; refine Hid.out ?_)
  refine Lib.hid ?_
  refine (risingC_any B n2 c2 p w N2.out h2 hb2).mono ?_
  rintro e w1 ⟨rfl, d, rfl⟩
  generalize hrr : riseC p = Q
  have HQ := Lib.hid hrr
  clear hrr
  cases Q with
  | false =>
    go_wp2_with (fail)
    go_ret
    refine ⟨ret_int ?_, ext_drew _ _⟩
    rw [← HR.out]
    unfold mayP
    rw [HQ.out]
    by_cases h : 64 < p.length <;> simp [h]
  | true =>
    by_cases h64 : (64 : Int) < (n2 : Int)
    · go_wp2_with (fail)
      go_ret
      refine ⟨ret_int ?_, ext_drew _ _⟩
      rw [← HR.out]
      unfold mayP
      rw [if_pos (by have := N2.out; omega)]
    have HP : Hid ((if p.all okC = true then (if p.all (thereC l) = true then 0 else 4) else 3) = R) := Lib.hid (by
      rw [← HR.out]
      unfold mayP
      rw [if_neg (show ¬ (64 < p.length) by have := N2.out; omega), HQ.out]
      simp)
    obtain ⟨R1, hR1⟩ : ∃ X, p.all okC = X := ⟨_, rfl⟩
    have HR1 := Lib.hid hR1
    clear hR1
    go_wp2_with (fail)
    go_loopg [5] n2 (fun g iv wr => ∃ m : Nat, m ≤ n2 ∧ g = n2 - m ∧ iv = .int .i64 (m : Int) ∧ Below w.heap.size w wr ∧ Hid ((p.drop m).all okC = R1))
    case atStart => exact ⟨0, by omega, rfl, rfl, ext_drew _ _, Lib.hid (by rw [List.drop_zero]; exact HR1.out)⟩
    case round =>
      obtain ⟨m, hm, hg, rfl, y, HI⟩ := hrel
      have HG := Lib.hid hg
      clear hg HR
      by_cases hlt : m < n2
      · have hl1 : m < p.length := by have := N2.out; omega
        obtain ⟨ad, x, rfl, had, hd1, hx1, hc0⟩ := (h2.below y (Nat.le_refl _)).el hl1
        have hxv := hv x (List.mem_of_getElem? hx1)
        have HI2 := Lib.hid (all_drop hd1 HI.out)
        obtain ⟨x1, g, x2, x3, x4, x5⟩ := x
        obtain ⟨r0, r1, r2, r3, r4, r5⟩ := ch_cells hc0
        obtain ⟨f0, f1⟩ : 0 ≤ x4 ∧ x4 < 18446744073709551616 := ⟨hxv.1.f0, hxv.1.f1⟩
        have hsz : x5.size ≤ 100000000 := hxv.2
        clear hc0 hd1 hx1 hxv HI
        have hw2 : IntKind.i64.wrap ((m:Int) + 1) = (m : Int) + 1 := IntWalk.i64_in _ (by omega)
        cases g with
        | true =>
          cases hz : beqV ⟨x2, x3, x4, x5⟩ ⟨0, 0, 0, ⟨#[]⟩⟩ with
          | false =>
            have HOK : Hid (okC ⟨x1, true, x2, x3, x4, x5⟩ = false) := Lib.hid hz
            have HF : Hid (p.all okC = false) := Lib.hid (by rw [HR1.out, ← HI2.out, HOK.out]; rfl)
            go_wp2_with (fail)
            go_ret
            exact ⟨ret_int (by rw [← HP.out, HF.out]; rfl), y⟩
          | true =>
            have HOK : Hid (okC ⟨x1, true, x2, x3, x4, x5⟩ = true) := Lib.hid hz
            go_wp2_with (fail)
            go_roundg (n2 - (m + 1))
            case measure => have := HG.out; omega
            case rel => exact ⟨m + 1, by omega, rfl, by go_num, y, Lib.hid (by rw [← HI2.out, HOK.out, Bool.true_and])⟩
        | false =>
          go_wp2_with (go_at_call 174; refine Hid.out ?_)
          refine Lib.hid ?_
          refine (refMayV_any x2 x3 x4 x5 _ f0 f1 hsz ?tb).mono ?_
          case tb => exact tabs_at hT y rfl
          rintro e w6 ⟨rfl, y6⟩
          have HOK : Hid (okC ⟨x1, false, x2, x3, x4, x5⟩ = mayV ⟨x2, x3, x4, x5⟩) := Lib.hid rfl
          generalize mayV ⟨x2, x3, x4, x5⟩ = M at HOK ⊢
          have yy6 := below_at y y6 rfl rfl rfl rfl
          cases M with
          | false =>
            have HF : Hid (p.all okC = false) := Lib.hid (by rw [HR1.out, ← HI2.out, HOK.out]; rfl)
            go_wp2_with (fail)
            go_ret
            exact ⟨ret_int (by rw [← HP.out, HF.out]; rfl), yy6⟩
          | true =>
            go_wp2_with (fail)
            go_roundg (n2 - (m + 1))
            case measure => have := HG.out; omega
            case rel => exact ⟨m + 1, by omega, rfl, by go_num, yy6, Lib.hid (by rw [← HI2.out, HOK.out, Bool.true_and])⟩
      · have HF : Hid (p.all okC = true) := Lib.hid (by rw [HR1.out, ← HI.out, List.drop_eq_nil_of_le (by have := N2.out; omega)]; rfl)
        clear HI HR1
        obtain ⟨R2, hR2⟩ : ∃ X, p.all (thereC l) = X := ⟨_, rfl⟩
        have HR2 := Lib.hid hR2
        clear hR2
        go_wp2_with (fail)
        go_loopg [6] n2 (fun g iv wr => ∃ m : Nat, m ≤ n2 ∧ g = n2 - m ∧ iv = .int .i64 (m : Int) ∧ Below w.heap.size w wr ∧ Hid ((p.drop m).all (thereC l) = R2))
        case atStart => exact ⟨0, by omega, rfl, rfl, y, Lib.hid (by rw [List.drop_zero]; exact HR2.out)⟩
        case round =>
          obtain ⟨m, hm, hg, rfl, y, HI⟩ := hrel
          have HG := Lib.hid hg
          clear hg
          by_cases hlt : m < n2
          · have hl1 : m < p.length := by have := N2.out; omega
            obtain ⟨ad, x, rfl, had, hd1, hx1, hc0⟩ := (h2.below y (Nat.le_refl _)).el hl1
            obtain ⟨ad', x', e', _, _, hx1', hcw⟩ := h2.el hl1
            injection e' with e'
            subst e'
            rw [hx1] at hx1'
            injection hx1' with hx1'
            subst hx1'
            have hxv := hv x (List.mem_of_getElem? hx1)
            have HI2 := Lib.hid (all_drop hd1 HI.out)
            obtain ⟨x1, g, x2, x3, x4, x5⟩ := x
            obtain ⟨r0, r1, r2, r3, r4, r5⟩ := ch_cells hc0
            have HCW := Lib.hid hcw
            obtain ⟨f0, f1⟩ : 0 ≤ x4 ∧ x4 < 18446744073709551616 := ⟨hxv.1.f0, hxv.1.f1⟩
            have hsz : x5.size ≤ 100000000 := hxv.2
            clear hc0 hd1 hx1 hxv HI hcw
            have hw2 : IntKind.i64.wrap ((m:Int) + 1) = (m : Int) + 1 := IntWalk.i64_in _ (by omega)
            go_wp2_with (go_at_call 151; refine Hid.out ?_)
            refine Lib.hid ?_
            refine (findR_any A n c l x1 wr N.out ((h.below y (Nat.le_refl _)).more y.size) hb).mono ?_
            rintro e w3 ⟨k1, k2, k3, k4, k5, k6, q, rfl, hq1, hq2, y3⟩
            have HQ2 := Lib.hid hq2
            have y4 := ext_alloc w3 (.cells #[.int .i64 k1, .bool k2, .int .u8 k3, .bool k4, .bool k5, .int .i64 k6] 97)
            have y5 := ext_trans y (ext_trans y3 y4)
            clear hq1 hq2 r0 r1 r2 r3 r4 r5
            have gg : GoodB w [] _ := ⟨y5, by intro p hp; cases hp⟩
            have hx : ∀ x : GW w [], CellsAt x.val (ad.add (m * 6)) (Ch.enc ⟨x1, g, x2, x3, x4, x5⟩) := fun x => HCW.out.keep fun q hq => x.ok.1.cell (by rw [hq, add_block]; exact had)
            have r0 : ∀ x : GW w [], _ := fun x => (ch_cells (hx x)).1
            have r1 : ∀ x : GW w [], _ := fun x => (ch_cells (hx x)).2.1
            have r2 : ∀ x : GW w [], _ := fun x => (ch_cells (hx x)).2.2.1
            have r3 : ∀ x : GW w [], _ := fun x => (ch_cells (hx x)).2.2.2.1
            have r4 : ∀ x : GW w [], _ := fun x => (ch_cells (hx x)).2.2.2.2.1
            have r5 : ∀ x : GW w [], _ := fun x => (ch_cells (hx x)).2.2.2.2.2
            clear hx
            haveI : Nonempty (GW w []) := ⟨⟨_, gg⟩⟩
            cases q with
            | false =>
              have HTH : Hid (thereC l ⟨x1, g, x2, x3, x4, x5⟩ = false) := Lib.hid (by unfold thereC; rw [HQ2.out]; rfl)
              go_wp2_with (fail)
              refine wp_region_class (by kernel_rfl) (by kernel_rfl) gg ?_
              repeat (go_big_quiet_step (fail))
              refine wpQuiet_nil ?_
              intro _ hw'
              obtain ⟨xx, rfl⟩ := hw'
              have yx := xx.ok.1
              generalize xx.val = w8 at *
              clear r0 r1 r2 r3 r4 r5
              go_wp2_with (fail)
              go_ret
              exact ⟨ret_int (by rw [← HP.out, HF.out, show p.all (thereC l) = false by rw [HR2.out, ← HI2.out, HTH.out]; rfl]; rfl), yx⟩
            | true =>
              cases g with
              | true =>
                have HTH : Hid (thereC l ⟨x1, true, x2, x3, x4, x5⟩ = true) := Lib.hid (by unfold thereC; rw [HQ2.out]; rfl)
                go_wp2_with (fail)
                refine wp_region_class (by kernel_rfl) (by kernel_rfl) gg ?_
                repeat (go_big_quiet_step (fail))
                refine wpQuiet_nil ?_
                intro _ hw'
                obtain ⟨xx, rfl⟩ := hw'
                have yx := xx.ok.1
                generalize xx.val = w8 at *
                clear r0 r1 r2 r3 r4 r5
                go_wp2_with (fail)
                go_roundg (n2 - (m + 1))
                case measure => have := HG.out; omega
                case rel => exact ⟨m + 1, by omega, rfl, by go_num, yx, Lib.hid (by rw [← HI2.out, HTH.out, Bool.true_and])⟩
              | false =>
                obtain ⟨FI, hFI⟩ : ∃ X, fitsK l x1 ⟨x2, x3, x4, x5⟩ = X := ⟨_, rfl⟩
                have HFI := Lib.hid hFI
                have HTH : Hid (thereC l ⟨x1, false, x2, x3, x4, x5⟩ = FI) := Lib.hid (by unfold thereC; rw [HQ2.out, ← hFI]; rfl)
                clear hFI
                cases FI with
                | false =>
                  go_wp2_with (fail)
                  refine wp_region_class (by kernel_rfl) (by kernel_rfl) gg ?_
                  repeat (go_big_quiet_step (first | (go_at_call 175; with_reducible exact fitsR_class hT N.out h hb f0 f1 hsz _ HFI.out)))
                  refine wpQuiet_nil ?_
                  intro _ hw'
                  obtain ⟨xx, rfl⟩ := hw'
                  have yx := xx.ok.1
                  generalize xx.val = w8 at *
                  clear r0 r1 r2 r3 r4 r5
                  go_wp2_with (fail)
                  go_ret
                  exact ⟨ret_int (by rw [← HP.out, HF.out, show p.all (thereC l) = false by rw [HR2.out, ← HI2.out, HTH.out]; rfl]; rfl), yx⟩
                | true =>
                  go_wp2_with (fail)
                  refine wp_region_class (by kernel_rfl) (by kernel_rfl) gg ?_
                  repeat (go_big_quiet_step (first | (go_at_call 175; with_reducible exact fitsR_class hT N.out h hb f0 f1 hsz _ HFI.out)))
                  refine wpQuiet_nil ?_
                  intro _ hw'
                  obtain ⟨xx, rfl⟩ := hw'
                  have yx := xx.ok.1
                  generalize xx.val = w8 at *
                  clear r0 r1 r2 r3 r4 r5
                  go_wp2_with (fail)
                  go_roundg (n2 - (m + 1))
                  case measure => have := HG.out; omega
                  case rel => exact ⟨m + 1, by omega, rfl, by go_num, yx, Lib.hid (by rw [← HI2.out, HTH.out, Bool.true_and])⟩
          · have HF2 : Hid (p.all (thereC l) = true) := Lib.hid (by rw [HR2.out, ← HI.out, List.drop_eq_nil_of_le (by have := N2.out; omega)]; rfl)
            go_wp2_with (fail)
            go_ret
            exact ⟨ret_int (by rw [← HP.out, HF.out, HF2.out]; rfl), y⟩
end Go.Proofs.YtfnkjcodcoehcaaGreatDoor
namespace Go.Proofs.YtfnkjcodcoehcaaGreatDoor
open Go.RowKit
set_option linter.unusedVariables false
set_option linter.unusedSimpArgs false

set_option maxRecDepth 100000 in
set_option maxHeartbeats 800000 in
theorem takes15_any (A : Option Addr) (n c : Nat) (x : List OpS) (w : World) (hn : n = x.length) (h : RdOs w w.heap.size A x) (hb : n ≤ 140737488355328) :
    Calls Tryz.prog 109 #[.slice A n c] w fun e w' => e = .returned (.int .i64 (takesP x)) ∧ ∃ d, w' = w.drewN d := by
  have N := Lib.hid hn
  obtain ⟨R, hR⟩ : ∃ X, takesP x = X := ⟨_, rfl⟩
  rw [hR]
  unfold takesP at hR
  have HR := Lib.hid hR
  clear hn hR
  go_enter Tryz.func109, Tryz.ntmps109
  go_wp2_with (fail)
  go_loopg [3, 4] n (fun g av iv wr => ∃ (m : Nat) (a : Int), m ≤ n ∧ g = n - m ∧ av = .int .i64 a ∧ iv = .int .i64 (m : Int) ∧ (∃ d, wr = w.drewN d) ∧ Hid ((x.drop m).foldl takeStep a = R))
  case atStart => exact ⟨0, 0, by omega, rfl, rfl, rfl, ⟨0, rfl⟩, HR⟩
  case round =>
    obtain ⟨m, a, hm, hg, rfl, rfl, ⟨d, rfl⟩, HI⟩ := hrel
    have HG := Lib.hid hg
    clear hg
    by_cases hlt : m < n
    · have hl1 : m < x.length := by have := N.out; omega
      obtain ⟨ad, o, had0, had, hd1, hx1, hc0⟩ := h.el hl1
      subst had0
      have HD : Hid (x.drop m = o :: x.drop (m + 1)) := Lib.hid (by rw [List.drop_eq_getElem_cons hl1]; rw [List.getElem?_eq_getElem hl1] at hx1; injection hx1 with hx1; rw [hx1])
      obtain ⟨⟨k, nn, r, s, p⟩, Ar, cr, As, cs, Ap, cp⟩ := o
      obtain ⟨r0, r1, r2, r3, r4⟩ := op_cells hc0
      have hw2 : IntKind.i64.wrap ((m:Int) + 1) = (m : Int) + 1 := IntWalk.i64_in _ (by omega)
      clear hc0 hd1 hx1
      by_cases hk : k = 2
      · subst hk
        have HI2 : Hid ((x.drop (m + 1)).foldl takeStep a = R) := Lib.hid (by have := HI.out; rw [HD.out, List.foldl_cons] at this; simpa [takeStep] using this)
        go_wp2_with (fail)
        go_roundg (n - (m + 1))
        case measure => have := HG.out; omega
        case rel => exact ⟨m + 1, a, by omega, rfl, rfl, by go_num, ⟨_, rfl⟩, HI2⟩
      · have hk' : (k == 2) = false := beq_eq_false_iff_ne.2 hk
        obtain ⟨W, hW⟩ : ∃ W, IntKind.i64.wrap (a + nn) = W := ⟨_, rfl⟩
        have HI2 : Hid ((x.drop (m + 1)).foldl takeStep W = R) := Lib.hid (by
          have := HI.out
          rw [HD.out, List.foldl_cons] at this
          have e : takeStep a ⟨⟨k, nn, r, s, p⟩, Ar, cr, As, cs, Ap, cp⟩ = W := by unfold takeStep; rw [if_neg hk]; exact hW
          rwa [e] at this)
        go_wp2_with (fail)
        go_roundg (n - (m + 1))
        case measure => have := HG.out; omega
        case rel => exact ⟨m + 1, W, by omega, rfl, by first | rfl | (rw [← hW]; rfl), by go_num, ⟨_, rfl⟩, HI2⟩
    · have HI9 : Hid (a = R) := Lib.hid (by have := HI.out; rwa [List.drop_of_length_le (by have := N.out; omega)] at this)
      have e := HI9.out
      clear HI HI9
      go_wp2_with (fail)
      go_ret
      subst e
      exact ⟨rfl, _, rfl⟩
end Go.Proofs.YtfnkjcodcoehcaaGreatDoor
namespace Go.Proofs.YtfnkjcodcoehcaaGreatDoor
open Go.RowKit
set_option linter.unusedVariables false
set_option linter.unusedSimpArgs false

set_option maxHeartbeats 800000 in
theorem len15_any (k n : Int) (Ar As Ap : Option Addr) (r s p cr cs cp : Nat) (w : World) :
    Calls Tryz.prog 111 #[.agg #[.int .u8 k, .int .i64 n, .slice Ar r cr, .slice As s cs, .slice Ap p cp]] w fun e w' => e = .returned (.int .i64 (if k = 2 then (r : Int) else n)) ∧ Below w.heap.size w w' := by
  have y := ext_alloc w (.cells #[.int .u8 k, .int .i64 n, .slice Ar r cr, .slice As s cs, .slice Ap p cp] 50)
  have hbx := heap_alloc_new w (.cells #[.int .u8 k, .int .i64 n, .slice Ar r cr, .slice As s cs, .slice Ap p cp] 50)
  obtain ⟨q0, q1, q2, q3, q4⟩ := box_at hbx
  clear hbx
  by_cases hk : k = 2
  · subst hk
    rw [if_pos rfl]
    go_enter Tryz.func111, Tryz.ntmps111
    go_wp2_with (fail)
    go_ret
    exact ⟨rfl, y⟩
  · have hk' : (k == 2) = false := beq_eq_false_iff_ne.2 hk
    rw [if_neg hk]
    go_enter Tryz.func111, Tryz.ntmps111
    go_wp2_with (fail)
    go_ret
    exact ⟨rfl, y⟩
set_option maxRecDepth 100000 in
set_option maxHeartbeats 1600000 in
theorem makes15_any (A : Option Addr) (n c : Nat) (l : List OpS) (w : World) (hn : n = l.length) (h : RdOs w w.heap.size A l) (hb : n ≤ 140737488355328) :
    Calls Tryz.prog 110 #[.slice A n c] w fun e w' => e = .returned (.int .i64 (makesP l)) ∧ Below w.heap.size w w' := by
  have N := Lib.hid hn
  obtain ⟨R, hR⟩ : ∃ X, makesP l = X := ⟨_, rfl⟩
  rw [hR]
  have HR := Lib.hid hR
  clear hn hR
  go_enter Tryz.func110, Tryz.ntmps110
  go_wp2_with (fail)
  go_loopg [3, 4] n (fun g av iv wr => ∃ (m : Nat) (a : Int), m ≤ n ∧ g = n - m ∧ av = .int .i64 a ∧ iv = .int .i64 (m : Int) ∧ Below w.heap.size w wr ∧ Hid ((l.drop m).foldl makeStep a = R))
  case atStart => exact ⟨0, 0, by omega, rfl, rfl, rfl, Below.refl _ _, Lib.hid (by rw [List.drop_zero]; exact HR.out)⟩
  case round =>
    obtain ⟨m, a, hm, hg, rfl, rfl, y, HI⟩ := hrel
    have HG := Lib.hid hg
    clear hg HR
    by_cases hlt : m < n
    · have hl1 : m < l.length := by have := N.out; omega
      obtain ⟨ad, x, rfl, had, hd1, _, hc0⟩ := (h.below y (Nat.le_refl _)).el hl1
      have HI2 := Lib.hid (fold_drop hd1 HI.out)
      obtain ⟨⟨k, nn, r, s, p⟩, Ar, cr, As, cs, Ap, cp⟩ := x
      obtain ⟨r0, r1, r2, r3, r4⟩ := op_cells hc0
      clear hc0 hd1 HI
      have hw2 : IntKind.i64.wrap ((m:Int) + 1) = (m : Int) + 1 := IntWalk.i64_in _ (by omega)
      by_cases hk : k = 3
      · subst hk
        go_wp2_with (fail)
        go_roundg (n - (m + 1))
        case measure => have := HG.out; omega
        case rel => exact ⟨m + 1, a, by omega, rfl, rfl, by go_num, y, Lib.hid (by rw [← HI2.out]; simp [makeStep])⟩
      · have hb : (k == 3) = false := beq_eq_false_iff_ne.2 hk
        have HK := Lib.hid hk
        clear hk
        go_wp2_with (go_at_call 111; refine Hid.out ?_)
        refine Lib.hid ?_
        refine (len15_any k nn Ar As Ap r.length s.length p.length cr cs cp _).mono ?_
        rintro e w3 ⟨rfl, y3⟩
        have y4 := ext_trans y y3
        obtain ⟨Z, hZ⟩ : ∃ Z : Int, (if k = 2 then (r.length : Int) else nn) = Z := ⟨_, rfl⟩
        rw [hZ]
        have HZ : Hid (sizeO ⟨k, nn, r, s, p⟩ = Z) := Lib.hid hZ
        clear hZ
        obtain ⟨W, hW⟩ : ∃ W, IntKind.i64.wrap (a + Z) = W := ⟨_, rfl⟩
        go_wp2_with (fail)
        go_roundg (n - (m + 1))
        case measure => have := HG.out; omega
        case rel => exact ⟨m + 1, W, by omega, rfl, by first | rfl | (rw [← hW]; rfl), by go_num, y4, Lib.hid (by rw [← HI2.out]; simp only [makeStep]; rw [if_neg HK.out, HZ.out, hW])⟩
    · have HI9 : Hid (a = R) := Lib.hid (by have := HI.out; rwa [List.drop_of_length_le (by have := N.out; omega)] at this)
      have e := HI9.out
      clear HI HI9
      go_wp2_with (fail)
      go_ret
      subst e
      exact ⟨rfl, y⟩
end Go.Proofs.YtfnkjcodcoehcaaGreatDoor
