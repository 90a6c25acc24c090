/- The walk of the document's May of a set (rubricref05). -/
import Derived.Test.YtclfplpggmefjaaDoorPk12
namespace Go.Proofs.YtclfplpggmefjaaDoor
open Go.RowKit
set_option linter.unusedVariables false
set_option linter.unusedSimpArgs false

def okA (a : At) : Bool := mayV a.v
def thereA (l : List Ky) (a : At) : Bool := fitsK l a.key a.v
def mayS (l : List Ky) (p : List At) : Int := if 64 < p.length then 3 else if riseA p = true ∧ p.all okA = true then (if p.all (thereA l) = true then 0 else 4) else 3
/-- the fields' ranges of the attributes' values -/
def okVa (p : List At) : Prop := ∀ c ∈ p, okV c.v ∧ c.v.s.size ≤ 100000000

set_option maxRecDepth 100000 in
set_option maxHeartbeats 3200000 in
theorem mayR5_any (A B : Option Addr) (n c n2 c2 : Nat) (l : List Ky) (p : List At) (w : World) (hn : n = l.length) (h : RdKy w w.heap.size A l) (hb : n ≤ 140737488355328) (hn2 : n2 = p.length) (h2 : RdAt w w.heap.size B p) (hb2 : n2 ≤ 140737488355328) (hv : okVa p) (hT : Lib.Utf8Tabs 1 2 w) :
    Calls Tryd.prog 41 #[.slice A n c, .slice B n2 c2] w fun e w' => e = .returned (.int .i64 (mayS l p)) ∧ Below w.heap.size w w' := by
  have N := Lib.hid hn
  have N2 := Lib.hid hn2
  generalize hR : mayS l p = R
  have HR := Lib.hid hR
  clear hn hn2 hR
  go_enter Tryd.func41, Tryd.ntmps41
  go_wp2_with (go_at_call 25; refine Hid.out ?_)
  refine Lib.hid ?_
  refine (risingA_any B n2 c2 p w N2.out h2 hb2).mono ?_
  rintro e w1 ⟨rfl, d, rfl⟩
  generalize hrr : riseA p = Q
  have HQ := Lib.hid hrr
  clear hrr
  cases Q with
  | false =>
    go_wp2_with (fail)
    go_ret
    refine ⟨ret_int ?_, ext_drew _ _⟩
    rw [← HR.out]
    unfold mayS
    rw [HQ.out]
    by_cases h : 64 < p.length <;> simp [h]
  | true =>
    by_cases h64 : (64 : Int) < (n2 : Int)
    · go_wp2_with (fail)
      go_ret
      refine ⟨ret_int ?_, ext_drew _ _⟩
      rw [← HR.out]
      unfold mayS
      rw [if_pos (by have := N2.out; omega)]
    have HP : Hid ((if p.all okA = true then (if p.all (thereA l) = true then 0 else 4) else 3) = R) := Lib.hid (by
      rw [← HR.out]
      unfold mayS
      rw [if_neg (show ¬ (64 < p.length) by have := N2.out; omega), HQ.out]
      simp)
    obtain ⟨R1, hR1⟩ : ∃ X, p.all okA = X := ⟨_, rfl⟩
    have HR1 := Lib.hid hR1
    clear hR1
    go_wp2_with (fail)
    go_loopg [5] n2 (fun g iv wr => ∃ m : Nat, m ≤ n2 ∧ g = n2 - m ∧ iv = .int .i64 (m : Int) ∧ Below w.heap.size w wr ∧ Hid ((p.drop m).all okA = R1))
    case atStart => exact ⟨0, by omega, rfl, rfl, ext_drew _ _, Lib.hid (by rw [List.drop_zero]; exact HR1.out)⟩
    case round =>
      obtain ⟨m, hm, hg, rfl, y, HI⟩ := hrel
      have HG := Lib.hid hg
      clear hg HR
      by_cases hlt : m < n2
      · have hl1 : m < p.length := by have := N2.out; omega
        obtain ⟨ad, x, rfl, had, hd1, hx1, hc0⟩ := (h2.below y (Nat.le_refl _)).el hl1
        have hxv := hv x (List.mem_of_getElem? hx1)
        have HI2 := Lib.hid (all_drop hd1 HI.out)
        obtain ⟨x1, x2, x3, x4, x5⟩ := x
        obtain ⟨r0, r1, r2, r3, r4⟩ := at_cells hc0
        obtain ⟨f0, f1⟩ : 0 ≤ x4 ∧ x4 < 18446744073709551616 := ⟨hxv.1.f0, hxv.1.f1⟩
        have hsz : x5.size ≤ 100000000 := hxv.2
        clear hc0 hd1 hx1 hxv HI
        have hw2 : IntKind.i64.wrap ((m:Int) + 1) = (m : Int) + 1 := IntWalk.i64_in _ (by omega)
        go_wp2_with (go_at_call 12; refine Hid.out ?_)
        refine Lib.hid ?_
        refine (refMayV_any x2 x3 x4 x5 _ f0 f1 hsz ?tb).mono ?_
        case tb => exact tabs_at hT y rfl
        rintro e w6 ⟨rfl, y6⟩
        have HOK : Hid (okA ⟨x1, x2, x3, x4, x5⟩ = mayV ⟨x2, x3, x4, x5⟩) := Lib.hid rfl
        generalize mayV ⟨x2, x3, x4, x5⟩ = M at HOK ⊢
        have yy6 := below_at y y6 rfl rfl rfl rfl
        cases M with
        | false =>
          have HF : Hid (p.all okA = false) := Lib.hid (by rw [HR1.out, ← HI2.out, HOK.out]; rfl)
          go_wp2_with (fail)
          go_ret
          exact ⟨ret_int (by rw [← HP.out, HF.out]; rfl), yy6⟩
        | true =>
          go_wp2_with (fail)
          go_roundg (n2 - (m + 1))
          case measure => have := HG.out; omega
          case rel => exact ⟨m + 1, by omega, rfl, by go_num, yy6, Lib.hid (by rw [← HI2.out, HOK.out, Bool.true_and])⟩
      · have HF : Hid (p.all okA = true) := Lib.hid (by rw [HR1.out, ← HI.out, List.drop_eq_nil_of_le (by have := N2.out; omega)]; rfl)
        clear HI HR1
        obtain ⟨R2, hR2⟩ : ∃ X, p.all (thereA l) = X := ⟨_, rfl⟩
        have HR2 := Lib.hid hR2
        clear hR2
        go_wp2_with (fail)
        go_loopg [6] n2 (fun g iv wr => ∃ m : Nat, m ≤ n2 ∧ g = n2 - m ∧ iv = .int .i64 (m : Int) ∧ Below w.heap.size w wr ∧ Hid ((p.drop m).all (thereA l) = R2))
        case atStart => exact ⟨0, by omega, rfl, rfl, y, Lib.hid (by rw [List.drop_zero]; exact HR2.out)⟩
        case round =>
          obtain ⟨m, hm, hg, rfl, y, HI⟩ := hrel
          have HG := Lib.hid hg
          clear hg
          by_cases hlt : m < n2
          · have hl1 : m < p.length := by have := N2.out; omega
            obtain ⟨ad, x, rfl, had, hd1, hx1, hcw⟩ := h2.el hl1
            have hxv := hv x (List.mem_of_getElem? hx1)
            have HI2 := Lib.hid (all_drop hd1 HI.out)
            obtain ⟨x1, x2, x3, x4, x5⟩ := x
            have HCW := Lib.hid hcw
            obtain ⟨f0, f1⟩ : 0 ≤ x4 ∧ x4 < 18446744073709551616 := ⟨hxv.1.f0, hxv.1.f1⟩
            have hsz : x5.size ≤ 100000000 := hxv.2
            clear hd1 hx1 hxv HI hcw
            have hw2 : IntKind.i64.wrap ((m:Int) + 1) = (m : Int) + 1 := IntWalk.i64_in _ (by omega)
            have gg : GoodB w [] wr := ⟨y, by intro p hp; cases hp⟩
            have hx : ∀ x : GW w [], CellsAt x.val (ad.add (m * 5)) (At.enc ⟨x1, x2, x3, x4, x5⟩) := fun x => HCW.out.keep fun q hq => x.ok.1.cell (by rw [hq, add_block]; exact had)
            have r0 : ∀ x : GW w [], _ := fun x => (at_cells (hx x)).1
            have r1 : ∀ x : GW w [], _ := fun x => (at_cells (hx x)).2.1
            have r2 : ∀ x : GW w [], _ := fun x => (at_cells (hx x)).2.2.1
            have r3 : ∀ x : GW w [], _ := fun x => (at_cells (hx x)).2.2.2.1
            have r4 : ∀ x : GW w [], _ := fun x => (at_cells (hx x)).2.2.2.2
            clear hx
            haveI : Nonempty (GW w []) := ⟨⟨_, gg⟩⟩
            obtain ⟨FI, hFI⟩ : ∃ X, fitsK l x1 ⟨x2, x3, x4, x5⟩ = X := ⟨_, rfl⟩
            have HFI := Lib.hid hFI
            have HTH : Hid (thereA l ⟨x1, x2, x3, x4, x5⟩ = FI) := Lib.hid hFI
            clear hFI
            cases FI with
            | false =>
              go_wp2_with (fail)
              refine wp_region_class (by kernel_rfl) (by kernel_rfl) gg ?_
              repeat (go_big_quiet_step (first | (go_at_call 66; with_reducible exact fitsR_class hT N.out h hb f0 f1 hsz _ HFI.out)))
              refine wpQuiet_nil ?_
              intro _ hw'
              obtain ⟨xx, rfl⟩ := hw'
              have yx := xx.ok.1
              generalize xx.val = w8 at *
              clear r0 r1 r2 r3 r4
              go_wp2_with (fail)
              go_ret
              exact ⟨ret_int (by rw [← HP.out, HF.out, show p.all (thereA l) = false by rw [HR2.out, ← HI2.out, HTH.out]; rfl]; rfl), yx⟩
            | true =>
              go_wp2_with (fail)
              refine wp_region_class (by kernel_rfl) (by kernel_rfl) gg ?_
              repeat (go_big_quiet_step (first | (go_at_call 66; with_reducible exact fitsR_class hT N.out h hb f0 f1 hsz _ HFI.out)))
              refine wpQuiet_nil ?_
              intro _ hw'
              obtain ⟨xx, rfl⟩ := hw'
              have yx := xx.ok.1
              generalize xx.val = w8 at *
              clear r0 r1 r2 r3 r4
              go_wp2_with (fail)
              go_roundg (n2 - (m + 1))
              case measure => have := HG.out; omega
              case rel => exact ⟨m + 1, by omega, rfl, by go_num, yx, Lib.hid (by rw [← HI2.out, HTH.out, Bool.true_and])⟩
          · have HF2 : Hid (p.all (thereA l) = true) := Lib.hid (by rw [HR2.out, ← HI.out, List.drop_eq_nil_of_le (by have := N2.out; omega)]; rfl)
            go_wp2_with (fail)
            go_ret
            exact ⟨ret_int (by rw [← HP.out, HF.out, HF2.out]; rfl), y⟩
end Go.Proofs.YtclfplpggmefjaaDoor
