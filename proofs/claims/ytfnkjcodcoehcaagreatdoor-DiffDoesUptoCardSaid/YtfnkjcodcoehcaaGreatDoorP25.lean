/- Merged texts: RefMay05, May18, Ref26. -/
import Derived.Test.YtfnkjcodcoehcaaGreatDoorP24
import Derived.Test.YtfnkjcodcoehcaaGreatDoorP12
import Derived.Test.YtfnkjcodcoehcaaGreatDoorP14
import Derived.Test.YtfnkjcodcoehcaaGreatDoorP16
import Derived.Test.YtfnkjcodcoehcaaGreatDoorP11
import Derived.Test.YtfnkjcodcoehcaaGreatDoorP15
import Derived.Test.YtfnkjcodcoehcaaGreatDoorP22
import Derived.Test.YtfnkjcodcoehcaaGreatDoorP23
namespace Go.Proofs.YtfnkjcodcoehcaaGreatDoor
open Go.RowKit
set_option linter.unusedVariables false
set_option linter.unusedSimpArgs false

set_option maxRecDepth 100000 in
set_option maxHeartbeats 3200000 in
theorem mayR5_any (A B : Option Addr) (n c n2 c2 : Nat) (l : List Ky) (p : List At) (w : World) (hn : n = l.length) (h : RdKy w w.heap.size A l) (hb : n ≤ 140737488355328) (hn2 : n2 = p.length) (h2 : RdAt w w.heap.size B p) (hb2 : n2 ≤ 140737488355328) (hv : okVa p) (hT : Lib.Utf8Tabs 1 2 w) :
    Calls Tryz.prog 107 #[.slice A n c, .slice B n2 c2] w fun e w' => e = .returned (.int .i64 (mayS l p)) ∧ Below w.heap.size w w' := by
  have N := Lib.hid hn
  have N2 := Lib.hid hn2
  generalize hR : mayS l p = R
  have HR := Lib.hid hR
  clear hn hn2 hR
  go_enter Tryz.func107, Tryz.ntmps107
  go_wp2_with (go_at_call 35; refine Hid.out ?_)
  refine Lib.hid ?_
  refine (risingA_any B n2 c2 p w N2.out h2 hb2).mono ?_
  rintro e w1 ⟨rfl, d, rfl⟩
  generalize hrr : riseA p = Q
  have HQ := Lib.hid hrr
  clear hrr
  cases Q with
  | false =>
    go_wp2_with (fail)
    go_ret
    refine ⟨ret_int ?_, ext_drew _ _⟩
    rw [← HR.out]
    unfold mayS
    rw [HQ.out]
    by_cases h : 64 < p.length <;> simp [h]
  | true =>
    by_cases h64 : (64 : Int) < (n2 : Int)
    · go_wp2_with (fail)
      go_ret
      refine ⟨ret_int ?_, ext_drew _ _⟩
      rw [← HR.out]
      unfold mayS
      rw [if_pos (by have := N2.out; omega)]
    have HP : Hid ((if p.all okA = true then (if p.all (thereA l) = true then 0 else 4) else 3) = R) := Lib.hid (by
      rw [← HR.out]
      unfold mayS
      rw [if_neg (show ¬ (64 < p.length) by have := N2.out; omega), HQ.out]
      simp)
    obtain ⟨R1, hR1⟩ : ∃ X, p.all okA = X := ⟨_, rfl⟩
    have HR1 := Lib.hid hR1
    clear hR1
    go_wp2_with (fail)
    go_loopg [5] n2 (fun g iv wr => ∃ m : Nat, m ≤ n2 ∧ g = n2 - m ∧ iv = .int .i64 (m : Int) ∧ Below w.heap.size w wr ∧ Hid ((p.drop m).all okA = R1))
    case atStart => exact ⟨0, by omega, rfl, rfl, ext_drew _ _, Lib.hid (by rw [List.drop_zero]; exact HR1.out)⟩
    case round =>
      obtain ⟨m, hm, hg, rfl, y, HI⟩ := hrel
      have HG := Lib.hid hg
      clear hg HR
      by_cases hlt : m < n2
      · have hl1 : m < p.length := by have := N2.out; omega
        obtain ⟨ad, x, rfl, had, hd1, hx1, hc0⟩ := (h2.below y (Nat.le_refl _)).el hl1
        have hxv := hv x (List.mem_of_getElem? hx1)
        have HI2 := Lib.hid (all_drop hd1 HI.out)
        obtain ⟨x1, x2, x3, x4, x5⟩ := x
        obtain ⟨r0, r1, r2, r3, r4⟩ := at_cells hc0
        obtain ⟨f0, f1⟩ : 0 ≤ x4 ∧ x4 < 18446744073709551616 := ⟨hxv.1.f0, hxv.1.f1⟩
        have hsz : x5.size ≤ 100000000 := hxv.2
        clear hc0 hd1 hx1 hxv HI
        have hw2 : IntKind.i64.wrap ((m:Int) + 1) = (m : Int) + 1 := IntWalk.i64_in _ (by omega)
        go_wp2_with (go_at_call 174; refine Hid.out ?_)
        refine Lib.hid ?_
        refine (refMayV_any x2 x3 x4 x5 _ f0 f1 hsz ?tb).mono ?_
        case tb => exact tabs_at hT y rfl
        rintro e w6 ⟨rfl, y6⟩
        have HOK : Hid (okA ⟨x1, x2, x3, x4, x5⟩ = mayV ⟨x2, x3, x4, x5⟩) := Lib.hid rfl
        generalize mayV ⟨x2, x3, x4, x5⟩ = M at HOK ⊢
        have yy6 := below_at y y6 rfl rfl rfl rfl
        cases M with
        | false =>
          have HF : Hid (p.all okA = false) := Lib.hid (by rw [HR1.out, ← HI2.out, HOK.out]; rfl)
          go_wp2_with (fail)
          go_ret
          exact ⟨ret_int (by rw [← HP.out, HF.out]; rfl), yy6⟩
        | true =>
          go_wp2_with (fail)
          go_roundg (n2 - (m + 1))
          case measure => have := HG.out; omega
          case rel => exact ⟨m + 1, by omega, rfl, by go_num, yy6, Lib.hid (by rw [← HI2.out, HOK.out, Bool.true_and])⟩
      · have HF : Hid (p.all okA = true) := Lib.hid (by rw [HR1.out, ← HI.out, List.drop_eq_nil_of_le (by have := N2.out; omega)]; rfl)
        clear HI HR1
        obtain ⟨R2, hR2⟩ : ∃ X, p.all (thereA l) = X := ⟨_, rfl⟩
        have HR2 := Lib.hid hR2
        clear hR2
        go_wp2_with (fail)
        go_loopg [6] n2 (fun g iv wr => ∃ m : Nat, m ≤ n2 ∧ g = n2 - m ∧ iv = .int .i64 (m : Int) ∧ Below w.heap.size w wr ∧ Hid ((p.drop m).all (thereA l) = R2))
        case atStart => exact ⟨0, by omega, rfl, rfl, y, Lib.hid (by rw [List.drop_zero]; exact HR2.out)⟩
        case round =>
          obtain ⟨m, hm, hg, rfl, y, HI⟩ := hrel
          have HG := Lib.hid hg
          clear hg
          by_cases hlt : m < n2
          · have hl1 : m < p.length := by have := N2.out; omega
            obtain ⟨ad, x, rfl, had, hd1, hx1, hcw⟩ := h2.el hl1
            have hxv := hv x (List.mem_of_getElem? hx1)
            have HI2 := Lib.hid (all_drop hd1 HI.out)
            obtain ⟨x1, x2, x3, x4, x5⟩ := x
            have HCW := Lib.hid hcw
            obtain ⟨f0, f1⟩ : 0 ≤ x4 ∧ x4 < 18446744073709551616 := ⟨hxv.1.f0, hxv.1.f1⟩
            have hsz : x5.size ≤ 100000000 := hxv.2
            clear hd1 hx1 hxv HI hcw
            have hw2 : IntKind.i64.wrap ((m:Int) + 1) = (m : Int) + 1 := IntWalk.i64_in _ (by omega)
            have gg : GoodB w [] wr := ⟨y, by intro p hp; cases hp⟩
            have hx : ∀ x : GW w [], CellsAt x.val (ad.add (m * 5)) (At.enc ⟨x1, x2, x3, x4, x5⟩) := fun x => HCW.out.keep fun q hq => x.ok.1.cell (by rw [hq, add_block]; exact had)
            have r0 : ∀ x : GW w [], _ := fun x => (at_cells (hx x)).1
            have r1 : ∀ x : GW w [], _ := fun x => (at_cells (hx x)).2.1
            have r2 : ∀ x : GW w [], _ := fun x => (at_cells (hx x)).2.2.1
            have r3 : ∀ x : GW w [], _ := fun x => (at_cells (hx x)).2.2.2.1
            have r4 : ∀ x : GW w [], _ := fun x => (at_cells (hx x)).2.2.2.2
            clear hx
            haveI : Nonempty (GW w []) := ⟨⟨_, gg⟩⟩
            obtain ⟨FI, hFI⟩ : ∃ X, fitsK l x1 ⟨x2, x3, x4, x5⟩ = X := ⟨_, rfl⟩
            have HFI := Lib.hid hFI
            have HTH : Hid (thereA l ⟨x1, x2, x3, x4, x5⟩ = FI) := Lib.hid hFI
            clear hFI
            cases FI with
            | false =>
              go_wp2_with (fail)
              refine wp_region_class (by kernel_rfl) (by kernel_rfl) gg ?_
              repeat (go_big_quiet_step (first | (go_at_call 175; with_reducible exact fitsR_class hT N.out h hb f0 f1 hsz _ HFI.out)))
              refine wpQuiet_nil ?_
              intro _ hw'
              obtain ⟨xx, rfl⟩ := hw'
              have yx := xx.ok.1
              generalize xx.val = w8 at *
              clear r0 r1 r2 r3 r4
              go_wp2_with (fail)
              go_ret
              exact ⟨ret_int (by rw [← HP.out, HF.out, show p.all (thereA l) = false by rw [HR2.out, ← HI2.out, HTH.out]; rfl]; rfl), yx⟩
            | true =>
              go_wp2_with (fail)
              refine wp_region_class (by kernel_rfl) (by kernel_rfl) gg ?_
              repeat (go_big_quiet_step (first | (go_at_call 175; with_reducible exact fitsR_class hT N.out h hb f0 f1 hsz _ HFI.out)))
              refine wpQuiet_nil ?_
              intro _ hw'
              obtain ⟨xx, rfl⟩ := hw'
              have yx := xx.ok.1
              generalize xx.val = w8 at *
              clear r0 r1 r2 r3 r4
              go_wp2_with (fail)
              go_roundg (n2 - (m + 1))
              case measure => have := HG.out; omega
              case rel => exact ⟨m + 1, by omega, rfl, by go_num, yx, Lib.hid (by rw [← HI2.out, HTH.out, Bool.true_and])⟩
          · have HF2 : Hid (p.all (thereA l) = true) := Lib.hid (by rw [HR2.out, ← HI.out, List.drop_eq_nil_of_le (by have := N2.out; omega)]; rfl)
            go_wp2_with (fail)
            go_ret
            exact ⟨ret_int (by rw [← HP.out, HF.out, HF2.out]; rfl), y⟩
end Go.Proofs.YtfnkjcodcoehcaaGreatDoor
namespace Go.Proofs.YtfnkjcodcoehcaaGreatDoor
open Go.RowKit
set_option linter.unusedVariables false
set_option linter.unusedSimpArgs false

theorem bne_ofB {a b : Bool} (h : a ≠ b) : (a != b) = true ∧ (a == b) = false := by cases a <;> cases b <;> simp_all
theorem any_take1 {α : Type} {f : α → Bool} {l : List α} {i : Nat} {x : α} (hx : l[i]? = some x) : (l.take (i + 1)).any f = ((l.take i).any f || f x) := by
  rw [List.take_add_one, hx, List.any_append]
  simp
theorem any_memC {α : Type} {f : α → Bool} {l : List α} {i : Nat} {x : α} (hx : l[i]? = some x) (h : f x = true) : l.any f = true := List.any_eq_true.2 ⟨x, List.mem_of_getElem? hx, h⟩
/-- is an attribute of a cell out of its place? -/
def badA (l : List Ky) (nl : Bool) (a : At) : Bool := keepK l (!nl) a.key
theorem badP_any (l : List Ky) (c : Cl) : badP l c = c.s.any (badA l (c.r == 10)) := by
  unfold badP partS badA
  by_cases h : c.s.any (fun a => keepK l (!(c.r == 10)) a.key) = true
  · rw [h]
    obtain ⟨a, ha, hk⟩ := List.any_eq_true.1 h
    exact decide_eq_true (List.length_pos_of_mem (List.mem_filter.2 ⟨ha, hk⟩))
  · have h' : c.s.any (fun a => keepK l (!(c.r == 10)) a.key) = false := by simpa using h
    rw [h']
    refine decide_eq_false fun hp => ?_
    obtain ⟨a, ha⟩ := List.exists_mem_of_length_pos hp
    obtain ⟨h1, h2⟩ := List.mem_filter.1 ha
    exact h (List.any_eq_true.2 ⟨a, h1, h2⟩)
set_option maxRecDepth 100000 in
set_option maxHeartbeats 6400000 in
theorem may18_any (A B : Option Addr) (n c n2 c2 : Nat) (l : List Ky) (d : List ClS) (w : World) (hn : n = l.length) (h : RdKy w w.heap.size A l) (hb : n ≤ 1048576) (hn2 : n2 = d.length) (h2 : RdCl w w.heap.size B d) (hb2 : n2 ≤ 1000000)
    (hv : ∀ x ∈ d, okVa x.c.s ∧ x.c.s.length ≤ 1000000) (hT : Lib.Utf8Tabs 1 2 w) :
    Calls Tryz.prog 73 #[.slice A n c, .slice B n2 c2] w fun e w' => e = .returned (.int .i64 (mayD l (clsOf d))) ∧ Below w.heap.size w w' := by
  have N := Lib.hid hn
  have N2 := Lib.hid hn2
  have HK := Lib.hid h
  have HD := Lib.hid h2
  have HV := Lib.hid hv
  have HT := Lib.hid hT
  have LC : Hid ((clsOf d).length = n2) := Lib.hid (by rw [clsOf_len, hn2])
  obtain ⟨R, hR⟩ : ∃ X, mayD l (clsOf d) = X := ⟨_, rfl⟩
  rw [hR]
  unfold mayD at hR
  have HR := Lib.hid hR
  clear hn hn2 h h2 hv hT hR
  go_enter Tryz.func73, Tryz.ntmps73
  by_cases h1 : (n2 : Int) < 1
  · have hr := HR.out
    rw [if_pos (.inl (by rw [LC.out]; omega))] at hr
    subst hr
    go_wp2_with (fail)
    go_ret
    exact ⟨rfl, Below.refl _ _⟩
  have h1b : ¬ (536870912 : Int) < (n2 : Int) := by omega
  have HR1 := HR.out
  rw [if_neg (by rw [LC.out]; omega)] at HR1
  have HR := Lib.hid HR1
  clear HR1
  go_wp2_with (fail)
  go_loopg [5] n2 (fun g iv wr => ∃ i : Nat, i ≤ n2 ∧ g = n2 - i ∧ iv = .int .i64 (i : Int) ∧ Below w.heap.size w wr ∧ Hid (((clsOf d).take i).any (badR l) = false))
  case atStart => exact ⟨0, Nat.zero_le _, rfl, rfl, Below.refl _ _, Lib.hid rfl⟩
  case round =>
    obtain ⟨i, hi, hg, rfl, y, HI⟩ := hrel
    have HG := Lib.hid hg
    clear hg
    by_cases hlt : i < n2
    · have hlt' : (i : Int) < (n2 : Int) := by omega
      obtain ⟨ad, z, rfl, _, _, hx, hc⟩ := (HD.out.ext y).1.el (i := i) (by have := N2.out; omega)
      have HX := Lib.hid (clsOf_at hx)
      obtain ⟨va, vl⟩ := HV.out z (List.mem_of_getElem? hx)
      have RS := Lib.hid ((HD.out.ext y).2 z (List.mem_of_getElem? hx))
      obtain ⟨⟨r, s⟩, As, cs⟩ := z
      obtain ⟨z0, z1⟩ := cl_cells hc
      simp only at va vl
      have hw2 : IntKind.i64.wrap ((i : Int) + 1) = (i : Int) + 1 := IntWalk.i64_in _ (by omega)
      clear hx hc
      obtain ⟨mr, hmr⟩ : ∃ X, mayR r = X := ⟨_, rfl⟩
      have HMR := Lib.hid hmr
      clear hmr
      cases mr with
      | false =>
        have hr := HR.out
        rw [if_pos (any_memC HX.out (by unfold badR; rw [HMR.out]; rfl))] at hr
        subst hr
        go_wp2_with (go_at_call 150; refine (refMay_any r _).mono ?_; rintro e w2 ⟨rfl, rfl⟩; rw [HMR.out])
        go_ret
        exact ⟨rfl, y⟩
      | true =>
        go_wp2_with (first | (go_at_call 150; refine (refMay_any r _).mono ?_; rintro e w2 ⟨rfl, rfl⟩; rw [HMR.out]) | (go_at_call 107; refine Hid.out ?_))
        refine Lib.hid ?_
        refine (mayR5_any A As n c s.length cs l s _ N.out (HK.out.ext y) (by omega) rfl RS.out (by omega) va (Utf8Tabs_below HT.out y)).mono ?_
        obtain ⟨M, hM⟩ : ∃ X, mayS l s = X := ⟨_, rfl⟩
        rw [hM]
        have HM := Lib.hid hM
        clear hM
        rintro e w3 ⟨rfl, y3⟩
        have yy := ext_trans y y3
        by_cases h3 : M = 3
        · subst h3
          have hr := HR.out
          rw [if_pos (any_memC HX.out (by unfold badR; rw [HM.out]; simp))] at hr
          subst hr
          go_wp2_with (fail)
          go_ret
          exact ⟨rfl, yy⟩
        · have h3' : (M == 3) = false := beq_eq_false_iff_ne.2 h3
          have HH3 := Lib.hid h3
          clear h3
          go_wp2_with (fail)
          go_roundg (n2 - (i + 1))
          case measure => have := HG.out; clear hw2; omega
          case rel => exact ⟨i + 1, by clear hw2; omega, rfl, rfl, yy, Lib.hid (by rw [any_take1 HX.out, HI.out]; unfold badR; rw [HMR.out, HM.out]; simp [HH3.out])⟩
    have hlt' : ¬ (i : Int) < (n2 : Int) := by omega
    have HR2 := HR.out
    have e0 := HI.out
    rw [List.take_of_length_le (by rw [LC.out]; omega)] at e0
    rw [if_neg (by rw [e0]; decide)] at HR2
    have HR := Lib.hid HR2
    clear HR2 HI
    have AR := Lib.hid e0
    clear e0
    obtain ⟨wv, hwv⟩ : ∃ X, X = wr := ⟨_, rfl⟩
    subst hwv
    go_wp2_with (fail)
    go_loopg [6] n2 (fun g iv wr => ∃ i : Nat, i ≤ n2 ∧ g = n2 - i ∧ iv = .int .i64 (i : Int) ∧ Below w.heap.size w wr ∧ Hid (((clsOf d).take i).any (badK l) = false))
    case atStart => exact ⟨0, Nat.zero_le _, rfl, rfl, y, Lib.hid rfl⟩
    case round =>
      obtain ⟨i2, hi2, hg, rfl, y, HI⟩ := hrel
      have HG := Lib.hid hg
      clear hg
      by_cases hlt : i2 < n2
      · have hlt' : (i2 : Int) < (n2 : Int) := by omega
        obtain ⟨ad, z, rfl, _, _, hx, hc⟩ := (HD.out.ext y).1.el (i := i2) (by have := N2.out; omega)
        have HX := Lib.hid (clsOf_at hx)
        obtain ⟨va, vl⟩ := HV.out z (List.mem_of_getElem? hx)
        have RS := Lib.hid ((HD.out.ext y).2 z (List.mem_of_getElem? hx))
        obtain ⟨⟨r, s⟩, As, cs⟩ := z
        obtain ⟨z0, z1⟩ := cl_cells hc
        simp only at va vl
        have hw2 : IntKind.i64.wrap ((i2 : Int) + 1) = (i2 : Int) + 1 := IntWalk.i64_in _ (by omega)
        clear hx hc
        go_wp2_with (go_at_call 107; refine Hid.out ?_)
        refine Lib.hid ?_
        refine (mayR5_any A As n c s.length cs l s _ N.out (HK.out.ext y) (by omega) rfl RS.out (by omega) va (Utf8Tabs_below HT.out y)).mono ?_
        obtain ⟨M, hM⟩ : ∃ X, mayS l s = X := ⟨_, rfl⟩
        rw [hM]
        have HM := Lib.hid hM
        clear hM
        rintro e w3 ⟨rfl, y3⟩
        have yy := ext_trans y y3
        by_cases h3 : M = 0
        · subst h3
          go_wp2_with (fail)
          go_roundg (n2 - (i2 + 1))
          case measure => have := HG.out; clear hw2; omega
          case rel => exact ⟨i2 + 1, by clear hw2; omega, rfl, rfl, yy, Lib.hid (by rw [any_take1 HX.out, HI.out]; unfold badK; rw [HM.out]; rfl)⟩
        · have h3' : (M == 0) = false := beq_eq_false_iff_ne.2 h3
          have h3'' : (M != 0) = true := by rw [bne, h3']; rfl
          have hr := HR.out
          rw [if_pos (any_memC HX.out (by unfold badK; rw [HM.out]; simp [h3]))] at hr
          subst hr
          go_wp2_with (fail)
          go_ret
          exact ⟨rfl, yy⟩
      have hlt' : ¬ (i2 : Int) < (n2 : Int) := by omega
      have HR2 := HR.out
      have e0 := HI.out
      rw [List.take_of_length_le (by rw [LC.out]; omega)] at e0
      rw [if_neg (by rw [e0]; decide)] at HR2
      have HR := Lib.hid HR2
      have AK := Lib.hid e0
      clear HR2 HI e0
      -- the last one
      obtain ⟨k, hk⟩ : ∃ k, n2 = k + 1 := ⟨n2 - 1, by omega⟩
      have e3 : (n2 : Int) - 1 = (k : Int) := by omega
      have hw3 : IntKind.i64.wrap ((n2 : Int) - 1) = (k : Int) := by rw [e3]; exact IntWalk.i64_in _ (by omega)
      have hkl : k < n2 := by omega
      have hkl' : (k : Int) < (n2 : Int) := by omega
      obtain ⟨ad, z, had, _, _, hx, hc⟩ := (HD.out.ext y).1.el (i := k) (by have := N2.out; omega)
      have HX := Lib.hid (clsOf_at hx)
      obtain ⟨⟨r, s⟩, As, cs⟩ := z
      obtain ⟨z0, -⟩ := cl_cells hc
      have GL : (clsOf d).getLast? = some ⟨r, s⟩ := by rw [List.getLast?_eq_getElem?, LC.out, hk]; exact HX.out
      have HR2 := HR.out
      rw [GL] at HR2
      have HR := Lib.hid HR2
      clear HR2 GL hx hc e3
      obtain ⟨wv, hwv⟩ : ∃ X, X = wr := ⟨_, rfl⟩
      subst hwv
      rw [had]
      by_cases hr : r = 10
      rotate_left
      · have hr' : (r == 10) = false := beq_eq_false_iff_ne.2 hr
        have hr'' : (r != 10) = true := by rw [bne, hr']; rfl
        have h9 := HR.out
        rw [if_pos (by simp [hr])] at h9
        subst h9
        go_wp2_with (fail)
        go_ret
        exact ⟨rfl, y⟩
      subst hr
      have h9 := HR.out
      rw [if_neg (by simp)] at h9
      have HR := Lib.hid h9
      clear h9
      go_wp2_with (fail)
      rw [← had]
      clear z0 hw3 hkl' HX
      go_loopg [7] n2 (fun g iv wr => ∃ i : Nat, i ≤ n2 ∧ g = n2 - i ∧ iv = .int .i64 (i : Int) ∧ Below w.heap.size w wr ∧ Hid (((clsOf d).take i).any (badP l) = false))
      case atStart => exact ⟨0, Nat.zero_le _, rfl, rfl, y, Lib.hid rfl⟩
      case round =>
        obtain ⟨i3, hi3, hg, rfl, y, HI⟩ := hrel
        have HG3 := Lib.hid hg
        clear hg
        by_cases hlt : i3 < n2
        · have hlt3 : (i3 : Int) < (n2 : Int) := by omega
          obtain ⟨ad3, z, had3, hab3, _, hx, hc⟩ := HD.out.1.el (i := i3) (by have := N2.out; omega)
          have HX := Lib.hid (clsOf_at hx)
          obtain ⟨va, vl⟩ := HV.out z (List.mem_of_getElem? hx)
          have RS := Lib.hid (HD.out.2 z (List.mem_of_getElem? hx))
          obtain ⟨⟨r, s⟩, As, cs⟩ := z
          simp only at va vl
          have HC := Lib.hid hc
          have HAB := Lib.hid hab3
          have CZ : ∀ W : World, Below w.heap.size w W → W.cell? (ad3.add (i3 * 2)) = some (.int .i32 r) ∧ W.cell? { block := (ad3.add (i3 * 2)).block, off := (ad3.add (i3 * 2)).off + 1 } = some (.slice As s.length cs) := fun W yw =>
            cl_cells (HC.out.keep (w' := W) fun q hq => yw.cell (by rw [hq, add_block]; exact HAB.out))
          have VL := Lib.hid vl
          have hw2 : IntKind.i64.wrap ((i3 : Int) + 1) = (i3 : Int) + 1 := IntWalk.i64_in _ (by omega)
          clear hx hc va vl hab3
          obtain ⟨wv2, hwv⟩ : ∃ X, X = wr := ⟨_, rfl⟩
          subst hwv
          rw [had3]
          go_wp2_with (fail)
          go_loopg [8] s.length (fun g iv wr => ∃ j : Nat, j ≤ s.length ∧ g = s.length - j ∧ iv = .int .i64 (j : Int) ∧ Below w.heap.size w wr ∧ Hid ((s.take j).any (badA l (r == 10)) = false))
          case atStart => exact ⟨0, Nat.zero_le _, rfl, rfl, y, Lib.hid rfl⟩
          case round =>
            obtain ⟨j, hj, hg, rfl, y, HJ⟩ := hrel
            have HG4 := Lib.hid hg
            clear hg
            obtain ⟨z0, z1⟩ := CZ _ y
            by_cases hlj : j < s.length
            · have hlj' : (j : Int) < (s.length : Int) := by omega
              obtain ⟨ae, a, rfl, _, _, ha, hca⟩ := (RS.out.below y (Nat.le_refl _)).el hlj
              have HA := Lib.hid ha
              obtain ⟨ka, ⟨va0, va1, va2, va3⟩⟩ := a
              obtain ⟨q0, -⟩ := at_cells hca
              have hw4 : IntKind.i64.wrap ((j : Int) + 1) = (j : Int) + 1 := IntWalk.i64_in _ (by have := VL.out; clear hw2; omega)
              have TH : Hid ((findK l ka).isSome = true) := Lib.hid (by
                have h1 : badK l ⟨r, s⟩ = false := by
                  have := AK.out
                  rw [List.any_eq_false] at this
                  simpa using this _ (List.mem_of_getElem? HX.out)
                have h2 : mayS l s = 0 := by unfold badK at h1; simpa using h1
                have h3 := (mayS_zero h2).2.2.2 _ (List.mem_of_getElem? ha)
                unfold thereA fitsK at h3
                simp only at h3
                cases hf : findK l ka with
                | none => rw [hf] at h3; cases h3
                | some K => rfl)
              clear ha hca
              go_wp2_with (go_at_call 151; refine Hid.out ?_)
              refine Lib.hid ?_
              refine (findR_any A n c l ka wr N.out (HK.out.ext y) (by omega)).mono ?_
              rintro e w3 ⟨k1, k2, k3, k4, k5, k6, q, rfl, hq1, hq2, y3⟩
              have y4 := ext_alloc w3 (.cells #[.int .i64 k1, .bool k2, .int .u8 k3, .bool k4, .bool k5, .int .i64 k6] 97)
              have hbx := heap_alloc_new w3 (.cells #[.int .i64 k1, .bool k2, .int .u8 k3, .bool k4, .bool k5, .int .i64 k6] 97)
              have y5 := ext_trans y (ext_trans y3 y4)
              have HQ1 := Lib.hid hq1
              have HQ2 := Lib.hid hq2
              clear hq1 hq2 q0 y3 y4
              go_wp2_with (fail)
              generalize w3.alloc (.cells #[.int .i64 k1, .bool k2, .int .u8 k3, .bool k4, .bool k5, .int .i64 k6] 97) = w4 at *
              obtain ⟨b0, b1, b2, b3, b4, b5⟩ := box_ky hbx
              obtain ⟨z0, z1⟩ := CZ _ y5
              have BA : Hid (badA l (r == 10) ⟨ka, ⟨va0, va1, va2, va3⟩⟩ = (k2 != (r == 10))) := Lib.hid (by
                unfold badA keepK
                have h1 := HQ1.out
                have h2 := HQ2.out
                have h3 := TH.out
                simp only
                cases hf : findK l ka with
                | none => rw [hf] at h3; cases h3
                | some K =>
                  rw [hf] at h1
                  have hK : K = ⟨k1, k2, k3, k4, k5, k6⟩ := h1
                  subst hK
                  show (k2 == !(r == 10)) = (k2 != (r == 10))
                  cases k2 <;> cases (r == 10) <;> rfl)
              obtain ⟨nl, hnl⟩ : ∃ X, (r == 10) = X := ⟨_, rfl⟩
              have HNL := Lib.hid hnl
              rw [hnl] at BA
              have YY := Lib.hid y5
              clear hbx y y5
              by_cases hk2 : k2 = nl
              · have hkn : (k2 != nl) = false := by rw [hk2]; exact bne_self_eq_false _
                have hke : (k2 == nl) = true := by rw [hk2]; exact beq_self_eq_true _
                go_quiet (fail)
                go_wp2_with (fail)
                go_roundg (s.length - (j + 1))
                case measure => have := HG4.out; clear hw2 hw4; omega
                case rel => exact ⟨j + 1, by clear hw2 hw4; omega, rfl, rfl, below_drewN YY.out nq, Lib.hid (by rw [any_take1 HA.out, HJ.out, HNL.out, BA.out, hkn]; rfl)⟩
              · obtain ⟨hkn, hke⟩ := bne_ofB hk2
                have h9 := HR.out
                rw [if_pos (any_memC HX.out (by rw [badP_any]; exact List.any_eq_true.2 ⟨_, List.mem_of_getElem? HA.out, by show badA l (r == 10) _ = true; rw [HNL.out, BA.out, hkn]⟩))] at h9
                subst h9
                go_quiet (fail)
                go_wp2_with (fail)
                go_ret
                exact ⟨rfl, below_drewN YY.out nq⟩
            · have hlj' : ¬ (j : Int) < (s.length : Int) := by omega
              have e0 := HJ.out
              rw [List.take_of_length_le (by omega)] at e0
              have E0 := Lib.hid e0
              clear e0
              go_wp2_with (fail)
              rw [← had3]
              go_roundg (n2 - (i3 + 1))
              case measure => have := HG3.out; clear hw2; omega
              case rel => exact ⟨i3 + 1, by clear hw2; omega, rfl, rfl, y, Lib.hid (by rw [any_take1 HX.out, HI.out, badP_any]; exact E0.out)⟩
        · have hlt3 : ¬ (i3 : Int) < (n2 : Int) := by omega
          have h9 := HR.out
          have e0 := HI.out
          rw [List.take_of_length_le (by rw [LC.out]; omega)] at e0
          rw [if_neg (by rw [e0]; decide)] at h9
          subst h9
          go_wp2_with (fail)
          go_ret
          exact ⟨rfl, y⟩
end Go.Proofs.YtfnkjcodcoehcaaGreatDoor
namespace Go.Proofs.YtfnkjcodcoehcaaGreatDoor
open Go.RowKit
set_option linter.unusedVariables false
set_option linter.unusedSimpArgs false

set_option maxRecDepth 100000 in
set_option maxHeartbeats 800000 in
theorem cut26_any (A : Option Addr) (n c : Nat) (d : List ClS) (i j : Int) (w : World) (hn : n = d.length) (hc : n ≤ c) (h : RdCl w w.heap.size A d) (hb : n ≤ 100000000) (hs : ∀ x ∈ d, x.c.s.length ≤ 100000000) :
    Calls Tryz.prog 20 #[.slice A n c, .int .i64 i, .int .i64 j] w (NewCls (cutC (clsOf d) i j) w) := by
  have N := Lib.hid hn
  have HR := Lib.hid h
  have HS := Lib.hid hs
  clear h hs
  have none_ : ∀ v, NewCls [] v (.returned (.slice none 0 0)) v := fun v => ⟨none, 0, [], rfl, rfl, Ow.nil _ _, (fun x hx => by cases hx), Below.refl _ _⟩
  by_cases h0 : i < 0
  · rw [show cutC (clsOf d) i j = [] from if_pos (.inl h0)]
    go_enter Tryz.func20, Tryz.ntmps20
    go_wp2_with (fail)
    go_ret
    exact none_ _
  by_cases h1 : j < i
  · rw [show cutC (clsOf d) i j = [] from if_pos (.inr (.inl h1))]
    go_enter Tryz.func20, Tryz.ntmps20
    go_wp2_with (fail)
    go_ret
    exact none_ _
  by_cases h2 : (n : Int) < j
  · rw [show cutC (clsOf d) i j = [] from if_pos (.inr (.inr (by rw [clsOf_len, ← hn]; exact h2)))]
    go_enter Tryz.func20, Tryz.ntmps20
    go_wp2_with (fail)
    go_ret
    exact none_ _
  obtain ⟨a, rfl⟩ : ∃ a : Nat, i = a := ⟨i.toNat, by omega⟩
  obtain ⟨b, rfl⟩ : ∃ a : Nat, j = a := ⟨j.toNat, by omega⟩
  have hab : a ≤ b := by omega
  have hbn : b ≤ n := by omega
  obtain ⟨A8, hA8⟩ : ∃ X, advS A c a 2 = X := ⟨_, rfl⟩
  obtain ⟨n8, hn8⟩ : ∃ X, b - a = X := ⟨_, rfl⟩
  obtain ⟨c8, hc8⟩ : ∃ X, c - a = X := ⟨_, rfl⟩
  have sl1 : ∀ W, (Instr.slice 23 (.slice A n c) (some (.int .i64 (a : Int))) (some (.int .i64 (b : Int))) none).run Tryz.prog W = .ok (.slice A8 n8 c8) W := sl_both Tryz.slCl Tryz.elCl size_cl rfl rfl hA8 hn8 hc8 hab (by omega)
  have R8 : Hid (RdCl w w.heap.size A8 ((d.drop a).take n8)) := Lib.hid ((HR.out.from hA8 (by omega) (by omega)).take n8)
  have L8 : Hid (n8 = ((d.drop a).take n8).length) := Lib.hid (by rw [List.length_take, List.length_drop]; omega)
  have E8 : Hid (cutC (clsOf d) a b = clsOf ((d.drop a).take n8)) := Lib.hid (by
    unfold cutC
    rw [if_neg (by rw [clsOf_len, ← hn]; omega), clsOf_take, clsOf_drop, ← hn8]; rfl)
  have B8 : Hid (n8 ≤ 100000000) := Lib.hid (by omega)
  rw [E8.out]
  clear hA8 hn8 hc8 hn hc hb
  go_enter Tryz.func20, Tryz.ntmps20
  go_wp2_with (go_at_call 15; refine Hid.out ?_)
  refine Lib.hid ?_
  refine (copy18_any A8 n8 c8 _ w L8.out R8.out B8.out (fun x hx => HS.out x (List.mem_of_mem_drop (List.mem_of_mem_take hx)))).mono ?_
  rintro e w1 ⟨A1, k1, L, rfl, hL, oL, pL, yL⟩
  have HN : Hid (NewCls (clsOf ((d.drop a).take n8)) w (.returned (.slice A1 L.length k1)) w1) := Lib.hid ⟨A1, k1, L, rfl, hL, oL, pL, yL⟩
  clear hL oL pL yL
  go_wp2_with (fail)
  go_ret
  exact HN.out
set_option maxRecDepth 100000 in
set_option maxHeartbeats 800000 in
theorem lines26_any (A : Option Addr) (n c : Nat) (f : List ClS) (w : World) (hn : n = f.length) (h : RdCs w w.heap.size A f) (hb : n ≤ 140737488355328) :
    Calls Tryz.prog 25 #[.slice A n c] w fun e w' => e = .returned (.int .i64 (linesC (clsOf f) : Int)) ∧ ∃ d, w' = w.drewN d := by
  have N := Lib.hid hn
  have LF : Hid ((clsOf f).length = n) := Lib.hid (by rw [clsOf_len, hn])
  clear hn
  go_enter Tryz.func25, Tryz.ntmps25
  go_wp2_with (fail)
  go_loopg [3, 4] n (fun g av iv wr => ∃ (m a : Nat), m ≤ n ∧ g = n - m ∧ a = linesC ((clsOf f).take m) ∧ av = .int .i64 (a : Int) ∧ iv = .int .i64 (m : Int) ∧ ∃ d, wr = w.drewN d)
  case atStart => exact ⟨0, 0, by omega, rfl, rfl, rfl, rfl, 0, rfl⟩
  case round =>
    obtain ⟨m, a, hm, hg, ha, rfl, rfl, d, rfl⟩ := hrel
    have HG := Lib.hid hg
    have HA := Lib.hid ha
    have AB : a ≤ n := by have h1 := linesC_le ((clsOf f).take m); rw [← ha, List.length_take] at h1; omega
    clear hg ha
    by_cases hlt : m < n
    · have hl1 : m < f.length := by have := N.out; omega
      obtain ⟨ad, x, rfl, had, _, hx, hc1⟩ := h.el hl1
      have HT : Hid (linesC ((clsOf f).take (m + 1)) = a + (if (x.c.r == 10) = true then 1 else 0)) := Lib.hid (by
        rw [List.take_add_one, clsOf_at hx, HA.out]; exact linesC_snoc _ _)
      obtain ⟨⟨r, s⟩, As, cs⟩ := x
      simp only at HT
      obtain ⟨z0, z1⟩ := cl_cells hc1
      have hw2 : IntKind.i64.wrap ((m:Int) + 1) = (m : Int) + 1 := IntWalk.i64_in _ (by omega)
      have hw3 : IntKind.i64.wrap ((a:Int) + 1) = (a : Int) + 1 := IntWalk.i64_in _ (by omega)
      clear hx hl1 hc1 had
      by_cases hr : r = 10
      · subst hr
        have HT2 : Hid (linesC ((clsOf f).take (m + 1)) = a + 1) := Lib.hid HT.out
        go_wp2_with (fail)
        go_roundg (n - (m + 1))
        case measure => have := HG.out; omega
        case rel => exact ⟨m + 1, a + 1, by omega, rfl, HT2.out.symm, by go_num, by go_num, _, rfl⟩
      · have hr' : (r == 10) = false := beq_eq_false_iff_ne.2 hr
        have HT2 : Hid (linesC ((clsOf f).take (m + 1)) = a) := Lib.hid (by have := HT.out; rw [hr'] at this; exact this)
        go_wp2_with (fail)
        go_roundg (n - (m + 1))
        case measure => have := HG.out; omega
        case rel => exact ⟨m + 1, a, by omega, rfl, HT2.out.symm, rfl, by go_num, _, rfl⟩
    · have e : a = linesC (clsOf f) := by have := HA.out; rwa [List.take_of_length_le (by rw [LF.out]; omega)] at this
      clear HA
      go_wp2_with (fail)
      go_ret
      subst e
      exact ⟨rfl, _, rfl⟩
set_option maxRecDepth 100000 in
set_option maxHeartbeats 1600000 in
theorem may26_any (A B : Option Addr) (n c n2 c2 : Nat) (l : List Ky) (f : List ClS) (w : World) (hn : n = l.length) (h : RdKy w w.heap.size A l) (hb : n ≤ 1048576) (hn2 : n2 = f.length) (h2 : RdCl w w.heap.size B f) (hb2 : n2 ≤ 90000)
    (hv : ∀ x ∈ f, okVa x.c.s ∧ x.c.s.length ≤ 1000000) (hT : Lib.Utf8Tabs 1 2 w) :
    Calls Tryz.prog 18 #[.slice A n c, .slice B n2 c2] w fun e w' => e = .returned (.int .i64 (mayD l (clsOf f ++ blankC))) ∧ Below w.heap.size w w' := by
  have N := Lib.hid hn
  have N2 := Lib.hid hn2
  have HK := Lib.hid h
  have HR := Lib.hid h2
  have HV := Lib.hid hv
  have HT := Lib.hid hT
  obtain ⟨md, hmd⟩ : ∃ X, mayD l (clsOf f ++ blankC) = X := ⟨_, rfl⟩
  rw [hmd]
  have HMD := Lib.hid hmd
  clear hn h hn2 h2 hv hT hmd
  go_enter Tryz.func18, Tryz.ntmps18
  go_wp2_with (go_at_call 15; refine Hid.out ?_)
  refine Lib.hid ?_
  refine (copy18_any B n2 c2 f w N2.out HR.out (by omega) (fun x hx => by have := (HV.out x hx).2; omega)).mono ?_
  rintro e w1 ⟨A1, k1, L, rfl, hL, oL, pL, yL⟩
  have OL := Lib.hid oL
  have PL := Lib.hid pL
  have YL := Lib.hid yL
  have EL := Lib.hid hL
  clear oL pL yL hL
  have yb := ext_alloc w1 (.cells #[.int .i32 10, .slice none 0 0] 38)
  have rb : RdCs (w1.alloc (.cells #[.int .i32 10, .slice none 0 0] 38)) (w1.alloc (.cells #[.int .i32 10, .slice none 0 0] 38)).heap.size (some ⟨w1.heap.size, 0, none⟩) [⟨⟨10, []⟩, none, 0⟩] := Rd.new (enc := ClS.enc) (size := 2) ClS.enc_len w1 38 [⟨⟨10, []⟩, none, 0⟩] (cs := #[.int .i32 10, .slice none 0 0]) rfl rfl
  have LEN : Hid (L.length = n2) := Lib.hid (by rw [← clsOf_len, EL.out, clsOf_len, ← N2.out])
  have OL2 := Lib.hid (OL.out.below yb (Nat.le_refl _))
  have YL2 : Hid (Below w.heap.size w (w1.alloc (.cells #[.int .i32 10, .slice none 0 0] 38))) := Lib.hid (ext_trans YL.out yb)
  have PL2 : Hid (∀ z ∈ L, PartC (w1.alloc (.cells #[.int .i32 10, .slice none 0 0] 38)) w.heap.size (.slice A1 L.length k1) z) := Lib.hid (fun z hz => (PL.out z hz).below yb)
  go_wp2_with (first
    | (at_builtin; refine app_cs (m := [⟨⟨10, []⟩, none, 0⟩]) rfl (.tmp 7) (.tmp 9) rfl rfl OL2.out _ (some ⟨w1.heap.size, 0, none⟩) 1 1 rfl rfl rb (by have := LEN.out; simp only [List.length_singleton]; omega) YL2.out.size ?_; intro v' w3 hown' hgr hv'; obtain ⟨A3, k3, hv3, _, _⟩ := hown'.form; subst hv3)
    | (go_at_call 73; refine Hid.out ?_))
  refine Lib.hid ?_
  have y3 : Below w.heap.size w w3 := below_app YL2.out YL2.out.size OL2.out (Nat.le_refl _) hgr
  have Y3 := Lib.hid y3
  have LAP : Hid ((L ++ [(⟨⟨10, []⟩, none, 0⟩ : ClS)]).length = n2 + 1) := Lib.hid (by rw [List.length_append, LEN.out]; rfl)
  have EAP : Hid (clsOf (L ++ [(⟨⟨10, []⟩, none, 0⟩ : ClS)]) = clsOf f ++ blankC) := Lib.hid (by rw [← EL.out]; unfold clsOf; rw [List.map_append]; rfl)
  have RA : Hid (RdCl w3 w3.heap.size A3 (L ++ [(⟨⟨10, []⟩, none, 0⟩ : ClS)])) := Lib.hid ⟨hown'.rd ClS.enc_len, fun z hz => by
    rcases List.mem_append.1 hz with hz | hz
    · exact ((PL2.out z hz).app hgr hv').1.rd At.enc_len
    · rw [List.mem_singleton] at hz; subst hz; exact Rd.nil⟩
  have QA : Hid (∀ z ∈ L ++ [(⟨⟨10, []⟩, none, 0⟩ : ClS)], okVa z.c.s ∧ z.c.s.length ≤ 1000000) := Lib.hid (fun z hz => by
    rcases List.mem_append.1 hz with hz | hz
    · have hm : z.c ∈ clsOf L := by unfold clsOf; exact List.mem_map_of_mem hz
      rw [EL.out] at hm
      obtain ⟨x, hx, e⟩ := List.mem_map.1 hm
      rw [← e]; exact HV.out x hx
    · rw [List.mem_singleton] at hz; subst hz; exact ⟨fun c hc => (by cases hc), Nat.zero_le _⟩)
  obtain ⟨nA, hnA⟩ : ∃ X, L.length + 1 = X := ⟨_, rfl⟩
  have NA : Hid ((L ++ [(⟨⟨10, []⟩, none, 0⟩ : ClS)]).length = nA) := Lib.hid (by rw [← hnA, List.length_append]; rfl)
  have LAP : Hid (nA = n2 + 1) := Lib.hid (NA.out.symm.trans LAP.out)
  rw [hnA]
  clear hown' hgr hv' y3 hnA yb rb
  refine (may18_any A A3 n c nA k3 l _ w3 N.out (HK.out.ext Y3.out) hb NA.out.symm RA.out (by have := LAP.out; omega) QA.out (Utf8Tabs_below HT.out Y3.out)).mono ?_
  rw [EAP.out, HMD.out]
  rintro e w4 ⟨rfl, y4⟩
  have yy := ext_trans Y3.out y4
  go_wp2_with (fail)
  go_ret
  exact ⟨rfl, yy⟩
end Go.Proofs.YtfnkjcodcoehcaaGreatDoor
