/- Merged texts: RefMay06, Diff, Invert, Known06. -/
import Derived.Test.YtclfplpggmefjaaDoorPk11
import Derived.Test.YtclfplpggmefjaaDoorPk1
import Derived.Test.YtclfplpggmefjaaDoorPk10
/- The walk of the document's May of a patch (rubricref06). -/
namespace Go.Proofs.YtclfplpggmefjaaDoor
open Go.RowKit
set_option linter.unusedVariables false
set_option linter.unusedSimpArgs false

theorem all_drop {α : Type} {f : α → Bool} {l : List α} {m : Nat} {x : α} {R : Bool} (hd : l.drop m = x :: l.drop (m + 1)) (h : (l.drop m).all f = R) : (f x && (l.drop (m + 1)).all f) = R := by
  rw [hd] at h; simpa using h
theorem fitsR_class {A : Option Addr} {nn cc : Nat} {l : List Ky} {id k n f : Int} {t : ByteArray} {w : World} {O : List (Nat × Obj)} {b : Bool} (hT : Lib.Utf8Tabs 1 2 w) (hn : nn = l.length) (h : RdKy w w.heap.size A l) (hb : nn ≤ 140737488355328) (h0 : 0 ≤ f) (h1 : f < 18446744073709551616) (hsz : t.size ≤ 100000000) (x : GW w O) (hf : fitsK l id ⟨k, n, f, t⟩ = b) :
    Calls Tryd.prog 66 #[.slice A nn cc, .int .i64 id, .agg #[.int .u8 k, .int .i64 n, .int .u64 f, .string t]] x.val fun e w' => e = .returned (.bool b) ∧ ∃ y : GW w O, w' = y.val :=
  good_call x ((fitsR_any A nn cc l id k n f t x.val hn (h.ext x.ok.1) hb h0 h1 hsz (tabs_good hT x)).mono fun e w' h' => ⟨by rw [h'.1, hf], h'.2⟩)

set_option maxRecDepth 100000 in
set_option maxHeartbeats 3200000 in
theorem mayR6_any (A B : Option Addr) (n c n2 c2 : Nat) (l : List Ky) (p : List Ch) (w : World) (hn : n = l.length) (h : RdKy w w.heap.size A l) (hb : n ≤ 140737488355328) (hn2 : n2 = p.length) (h2 : RdCh w w.heap.size B p) (hb2 : n2 ≤ 140737488355328) (hv : okVs p) (hT : Lib.Utf8Tabs 1 2 w) :
    Calls Tryd.prog 35 #[.slice A n c, .slice B n2 c2] w fun e w' => e = .returned (.int .i64 (mayP l p)) ∧ Below w.heap.size w w' := by
  have N := Lib.hid hn
  have N2 := Lib.hid hn2
  generalize hR : mayP l p = R
  have HR := Lib.hid hR
  clear hn hn2 hR
  go_enter Tryd.func35, Tryd.ntmps35
  go_wp2_with (go_at_call 39; refine Hid.out ?_)
  refine Lib.hid ?_
  refine (risingC_any B n2 c2 p w N2.out h2 hb2).mono ?_
  rintro e w1 ⟨rfl, d, rfl⟩
  generalize hrr : riseC p = Q
  have HQ := Lib.hid hrr
  clear hrr
  cases Q with
  | false =>
    go_wp2_with (fail)
    go_ret
    refine ⟨ret_int ?_, ext_drew _ _⟩
    rw [← HR.out]
    unfold mayP
    rw [HQ.out]
    by_cases h : 64 < p.length <;> simp [h]
  | true =>
    by_cases h64 : (64 : Int) < (n2 : Int)
    · go_wp2_with (fail)
      go_ret
      refine ⟨ret_int ?_, ext_drew _ _⟩
      rw [← HR.out]
      unfold mayP
      rw [if_pos (by have := N2.out; omega)]
    have HP : Hid ((if p.all okC = true then (if p.all (thereC l) = true then 0 else 4) else 3) = R) := Lib.hid (by
      rw [← HR.out]
      unfold mayP
      rw [if_neg (show ¬ (64 < p.length) by have := N2.out; omega), HQ.out]
      simp)
    obtain ⟨R1, hR1⟩ : ∃ X, p.all okC = X := ⟨_, rfl⟩
    have HR1 := Lib.hid hR1
    clear hR1
    go_wp2_with (fail)
    go_loopg [5] n2 (fun g iv wr => ∃ m : Nat, m ≤ n2 ∧ g = n2 - m ∧ iv = .int .i64 (m : Int) ∧ Below w.heap.size w wr ∧ Hid ((p.drop m).all okC = R1))
    case atStart => exact ⟨0, by omega, rfl, rfl, ext_drew _ _, Lib.hid (by rw [List.drop_zero]; exact HR1.out)⟩
    case round =>
      obtain ⟨m, hm, hg, rfl, y, HI⟩ := hrel
      have HG := Lib.hid hg
      clear hg HR
      by_cases hlt : m < n2
      · have hl1 : m < p.length := by have := N2.out; omega
        obtain ⟨ad, x, rfl, had, hd1, hx1, hc0⟩ := (h2.below y (Nat.le_refl _)).el hl1
        have hxv := hv x (List.mem_of_getElem? hx1)
        have HI2 := Lib.hid (all_drop hd1 HI.out)
        obtain ⟨x1, g, x2, x3, x4, x5⟩ := x
        obtain ⟨r0, r1, r2, r3, r4, r5⟩ := ch_cells hc0
        obtain ⟨f0, f1⟩ : 0 ≤ x4 ∧ x4 < 18446744073709551616 := ⟨hxv.1.f0, hxv.1.f1⟩
        have hsz : x5.size ≤ 100000000 := hxv.2
        clear hc0 hd1 hx1 hxv HI
        have hw2 : IntKind.i64.wrap ((m:Int) + 1) = (m : Int) + 1 := IntWalk.i64_in _ (by omega)
        cases g with
        | true =>
          cases hz : beqV ⟨x2, x3, x4, x5⟩ ⟨0, 0, 0, ⟨#[]⟩⟩ with
          | false =>
            have HOK : Hid (okC ⟨x1, true, x2, x3, x4, x5⟩ = false) := Lib.hid hz
            have HF : Hid (p.all okC = false) := Lib.hid (by rw [HR1.out, ← HI2.out, HOK.out]; rfl)
            go_wp2_with (fail)
            go_ret
            exact ⟨ret_int (by rw [← HP.out, HF.out]; rfl), y⟩
          | true =>
            have HOK : Hid (okC ⟨x1, true, x2, x3, x4, x5⟩ = true) := Lib.hid hz
            go_wp2_with (fail)
            go_roundg (n2 - (m + 1))
            case measure => have := HG.out; omega
            case rel => exact ⟨m + 1, by omega, rfl, by go_num, y, Lib.hid (by rw [← HI2.out, HOK.out, Bool.true_and])⟩
        | false =>
          go_wp2_with (go_at_call 12; refine Hid.out ?_)
          refine Lib.hid ?_
          refine (refMayV_any x2 x3 x4 x5 _ f0 f1 hsz ?tb).mono ?_
          case tb => exact tabs_at hT y rfl
          rintro e w6 ⟨rfl, y6⟩
          have HOK : Hid (okC ⟨x1, false, x2, x3, x4, x5⟩ = mayV ⟨x2, x3, x4, x5⟩) := Lib.hid rfl
          generalize mayV ⟨x2, x3, x4, x5⟩ = M at HOK ⊢
          have yy6 := below_at y y6 rfl rfl rfl rfl
          cases M with
          | false =>
            have HF : Hid (p.all okC = false) := Lib.hid (by rw [HR1.out, ← HI2.out, HOK.out]; rfl)
            go_wp2_with (fail)
            go_ret
            exact ⟨ret_int (by rw [← HP.out, HF.out]; rfl), yy6⟩
          | true =>
            go_wp2_with (fail)
            go_roundg (n2 - (m + 1))
            case measure => have := HG.out; omega
            case rel => exact ⟨m + 1, by omega, rfl, by go_num, yy6, Lib.hid (by rw [← HI2.out, HOK.out, Bool.true_and])⟩
      · have HF : Hid (p.all okC = true) := Lib.hid (by rw [HR1.out, ← HI.out, List.drop_eq_nil_of_le (by have := N2.out; omega)]; rfl)
        clear HI HR1
        obtain ⟨R2, hR2⟩ : ∃ X, p.all (thereC l) = X := ⟨_, rfl⟩
        have HR2 := Lib.hid hR2
        clear hR2
        go_wp2_with (fail)
        go_loopg [6] n2 (fun g iv wr => ∃ m : Nat, m ≤ n2 ∧ g = n2 - m ∧ iv = .int .i64 (m : Int) ∧ Below w.heap.size w wr ∧ Hid ((p.drop m).all (thereC l) = R2))
        case atStart => exact ⟨0, by omega, rfl, rfl, y, Lib.hid (by rw [List.drop_zero]; exact HR2.out)⟩
        case round =>
          obtain ⟨m, hm, hg, rfl, y, HI⟩ := hrel
          have HG := Lib.hid hg
          clear hg
          by_cases hlt : m < n2
          · have hl1 : m < p.length := by have := N2.out; omega
            obtain ⟨ad, x, rfl, had, hd1, hx1, hc0⟩ := (h2.below y (Nat.le_refl _)).el hl1
            obtain ⟨ad', x', e', _, _, hx1', hcw⟩ := h2.el hl1
            injection e' with e'
            subst e'
            rw [hx1] at hx1'
            injection hx1' with hx1'
            subst hx1'
            have hxv := hv x (List.mem_of_getElem? hx1)
            have HI2 := Lib.hid (all_drop hd1 HI.out)
            obtain ⟨x1, g, x2, x3, x4, x5⟩ := x
            obtain ⟨r0, r1, r2, r3, r4, r5⟩ := ch_cells hc0
            have HCW := Lib.hid hcw
            obtain ⟨f0, f1⟩ : 0 ≤ x4 ∧ x4 < 18446744073709551616 := ⟨hxv.1.f0, hxv.1.f1⟩
            have hsz : x5.size ≤ 100000000 := hxv.2
            clear hc0 hd1 hx1 hxv HI hcw
            have hw2 : IntKind.i64.wrap ((m:Int) + 1) = (m : Int) + 1 := IntWalk.i64_in _ (by omega)
            go_wp2_with (go_at_call 65; refine Hid.out ?_)
            refine Lib.hid ?_
            refine (findR_any A n c l x1 wr N.out ((h.below y (Nat.le_refl _)).more y.size) hb).mono ?_
            rintro e w3 ⟨k1, k2, k3, k4, k5, k6, q, rfl, hq1, hq2, y3⟩
            have HQ2 := Lib.hid hq2
            have y4 := ext_alloc w3 (.cells #[.int .i64 k1, .bool k2, .int .u8 k3, .bool k4, .bool k5, .int .i64 k6] 91)
            have y5 := ext_trans y (ext_trans y3 y4)
            clear hq1 hq2 r0 r1 r2 r3 r4 r5
            have gg : GoodB w [] _ := ⟨y5, by intro p hp; cases hp⟩
            have hx : ∀ x : GW w [], CellsAt x.val (ad.add (m * 6)) (Ch.enc ⟨x1, g, x2, x3, x4, x5⟩) := fun x => HCW.out.keep fun q hq => x.ok.1.cell (by rw [hq, add_block]; exact had)
            have r0 : ∀ x : GW w [], _ := fun x => (ch_cells (hx x)).1
            have r1 : ∀ x : GW w [], _ := fun x => (ch_cells (hx x)).2.1
            have r2 : ∀ x : GW w [], _ := fun x => (ch_cells (hx x)).2.2.1
            have r3 : ∀ x : GW w [], _ := fun x => (ch_cells (hx x)).2.2.2.1
            have r4 : ∀ x : GW w [], _ := fun x => (ch_cells (hx x)).2.2.2.2.1
            have r5 : ∀ x : GW w [], _ := fun x => (ch_cells (hx x)).2.2.2.2.2
            clear hx
            haveI : Nonempty (GW w []) := ⟨⟨_, gg⟩⟩
            cases q with
            | false =>
              have HTH : Hid (thereC l ⟨x1, g, x2, x3, x4, x5⟩ = false) := Lib.hid (by unfold thereC; rw [HQ2.out]; rfl)
              go_wp2_with (fail)
              refine wp_region_class (by kernel_rfl) (by kernel_rfl) gg ?_
              repeat (go_big_quiet_step (fail))
              refine wpQuiet_nil ?_
              intro _ hw'
              obtain ⟨xx, rfl⟩ := hw'
              have yx := xx.ok.1
              generalize xx.val = w8 at *
              clear r0 r1 r2 r3 r4 r5
              go_wp2_with (fail)
              go_ret
              exact ⟨ret_int (by rw [← HP.out, HF.out, show p.all (thereC l) = false by rw [HR2.out, ← HI2.out, HTH.out]; rfl]; rfl), yx⟩
            | true =>
              cases g with
              | true =>
                have HTH : Hid (thereC l ⟨x1, true, x2, x3, x4, x5⟩ = true) := Lib.hid (by unfold thereC; rw [HQ2.out]; rfl)
                go_wp2_with (fail)
                refine wp_region_class (by kernel_rfl) (by kernel_rfl) gg ?_
                repeat (go_big_quiet_step (fail))
                refine wpQuiet_nil ?_
                intro _ hw'
                obtain ⟨xx, rfl⟩ := hw'
                have yx := xx.ok.1
                generalize xx.val = w8 at *
                clear r0 r1 r2 r3 r4 r5
                go_wp2_with (fail)
                go_roundg (n2 - (m + 1))
                case measure => have := HG.out; omega
                case rel => exact ⟨m + 1, by omega, rfl, by go_num, yx, Lib.hid (by rw [← HI2.out, HTH.out, Bool.true_and])⟩
              | false =>
                obtain ⟨FI, hFI⟩ : ∃ X, fitsK l x1 ⟨x2, x3, x4, x5⟩ = X := ⟨_, rfl⟩
                have HFI := Lib.hid hFI
                have HTH : Hid (thereC l ⟨x1, false, x2, x3, x4, x5⟩ = FI) := Lib.hid (by unfold thereC; rw [HQ2.out, ← hFI]; rfl)
                clear hFI
                cases FI with
                | false =>
                  go_wp2_with (fail)
                  refine wp_region_class (by kernel_rfl) (by kernel_rfl) gg ?_
                  repeat (go_big_quiet_step (first | (go_at_call 66; with_reducible exact fitsR_class hT N.out h hb f0 f1 hsz _ HFI.out)))
                  refine wpQuiet_nil ?_
                  intro _ hw'
                  obtain ⟨xx, rfl⟩ := hw'
                  have yx := xx.ok.1
                  generalize xx.val = w8 at *
                  clear r0 r1 r2 r3 r4 r5
                  go_wp2_with (fail)
                  go_ret
                  exact ⟨ret_int (by rw [← HP.out, HF.out, show p.all (thereC l) = false by rw [HR2.out, ← HI2.out, HTH.out]; rfl]; rfl), yx⟩
                | true =>
                  go_wp2_with (fail)
                  refine wp_region_class (by kernel_rfl) (by kernel_rfl) gg ?_
                  repeat (go_big_quiet_step (first | (go_at_call 66; with_reducible exact fitsR_class hT N.out h hb f0 f1 hsz _ HFI.out)))
                  refine wpQuiet_nil ?_
                  intro _ hw'
                  obtain ⟨xx, rfl⟩ := hw'
                  have yx := xx.ok.1
                  generalize xx.val = w8 at *
                  clear r0 r1 r2 r3 r4 r5
                  go_wp2_with (fail)
                  go_roundg (n2 - (m + 1))
                  case measure => have := HG.out; omega
                  case rel => exact ⟨m + 1, by omega, rfl, by go_num, yx, Lib.hid (by rw [← HI2.out, HTH.out, Bool.true_and])⟩
          · have HF2 : Hid (p.all (thereC l) = true) := Lib.hid (by rw [HR2.out, ← HI.out, List.drop_eq_nil_of_le (by have := N2.out; omega)]; rfl)
            go_wp2_with (fail)
            go_ret
            exact ⟨ret_int (by rw [← HP.out, HF.out, HF2.out]; rfl), y⟩
end Go.Proofs.YtclfplpggmefjaaDoor
/- The walks of patch.change and patch.Diff. -/
namespace Go.Proofs.YtclfplpggmefjaaDoor
open Go.RowKit
set_option linter.unusedVariables false
set_option linter.unusedSimpArgs false

set_option maxHeartbeats 400000 in
theorem change_any (k a n f : Int) (s : ByteArray) (w : World) :
    Calls Tryd.prog 68 #[.agg #[.int .i64 k, .int .u8 a, .int .i64 n, .int .u64 f, .string s]] w fun e w' => e = .returned (.agg #[.int .i64 k, .bool false, .int .u8 a, .int .i64 n, .int .u64 f, .string s]) ∧ Below w.heap.size w w' := by
  go_enter Tryd.func68, Tryd.ntmps68
  go_wp2
  refine bodyPost_ret (v := .agg #[.int .i64 k, .bool false, .int .u8 a, .int .i64 n, .int .u64 f, .string s]) (by simp [results, Tryd.results68, go_sem]) rfl ⟨rfl, ?_⟩
  exact ((Below.refl _ _).alloc (Nat.le_refl _) _).alloc (by simp) _

set_option maxRecDepth 100000 in
set_option maxHeartbeats 400000 in
theorem diff_any (A1 A2 : Option Addr) (n1 n2 c1 c2 : Nat) (l k : List At) (w : World)
    (hn1 : n1 = l.length) (hn2 : n2 = k.length) (h1 : RdAt w w.heap.size A1 l) (h2 : RdAt w w.heap.size A2 k)
    (hb1 : n1 ≤ 100000000) (hb2 : n2 ≤ 100000000) (hc1 : n1 ≤ c1) (hcm : c1 ≤ maxLen) :
    Calls Tryd.prog 42 #[.slice A1 n1 c1, .slice A2 n2 c2] w (NewCh (diffP l k) w) := by
  unfold maxLen at hcm
  have N1 := Lib.hid hn1
  have N2 := Lib.hid hn2
  generalize hR : diffP l k = R
  have HR := Lib.hid hR
  clear hn1 hn2 hR
  go_enter Tryd.func42, Tryd.ntmps42
  go_wp2_with (fail)
  go_loopg [5, 6, 13] n2 (fun g ov iv kv wr => ∃ (q i : Nat) (o : List Ch), q ≤ n2 ∧ i ≤ n1 ∧ g = n2 - q ∧ iv = .int .i64 i ∧ kv = .int .i64 q ∧ OwCh wr w.heap.size ov o ∧ o.length ≤ i + q ∧
    Below w.heap.size w wr ∧ Hid (o ++ diffP (l.drop i) (k.drop q) = R))
  case atStart => exact ⟨0, 0, [], by omega, by omega, rfl, rfl, rfl, Ow.nil _ _, by simp, Below.refl _ _, Lib.hid (by simpa using HR.out)⟩
  case round =>
    obtain ⟨q, i, o, hk, hi, hg, rfl, rfl, hown, hol, hbw, HI⟩ := hrel
    have HG := Lib.hid hg
    clear hg HR
    by_cases hlt : q < n2
    · have hkp : q < k.length := by have := N2.out; omega
      obtain ⟨ad2, c, rfl, _, hd2, _, hc2⟩ := (h2.below hbw (Nat.le_refl _)).el hkp
      have HI' : Hid (o ++ diffAt (l.drop i) c (k.drop (q+1)) = R) := Lib.hid (by rw [← HI.out, hd2, diffP_cons])
      clear HI hkp hd2
      obtain ⟨ck, va, vn, vf, vs⟩ := c
      obtain ⟨q0, q1, q2, q3, q4⟩ := at_cells hc2
      clear hc2
      go_wp2_with (fail)
      obtain ⟨wo, rfl⟩ : ∃ wo : World, wo = wr := ⟨_, rfl⟩
      go_loopg [5, 6] (n1 - i) (fun g ov iv wi => ∃ (i : Nat) (o : List Ch), i ≤ n1 ∧ g = n1 - i ∧ iv = .int .i64 i ∧ OwCh wi w.heap.size ov o ∧ o.length ≤ i + q ∧
        Below w.heap.size w wi ∧ wi.heap[wo.heap.size]? = some (.cells #[.int .i64 ck, .int .u8 va, .int .i64 vn, .int .u64 vf, .string vs] 62 (0, 0)) ∧ wb ov ≠ some wo.heap.size ∧
        Hid (o ++ diffAt (l.drop i) ⟨ck, ⟨va, vn, vf, vs⟩⟩ (k.drop (q+1)) = R))
      case atStart =>
        refine ⟨i, o, hi, rfl, rfl, hown.alloc _, hol, hbw.alloc hbw.size _, heap_alloc_new _ _, fun e => ?_, HI'⟩
        have := (hown.wb_lt _ e).2; omega
      case round =>
        clear q0 q1 q2 q3 q4 hi hown hol hbw HI'
        obtain ⟨i, o, hi, hg, rfl, hown, hol, hbw, hbx, hwb, HI⟩ := hrel
        have HG2 := Lib.hid hg
        clear hg
        obtain ⟨b0, b1, b2, b3, b4⟩ := box_at hbx
        have HBX := Lib.hid hbx
        have HWB := Lib.hid hwb
        clear hbx hwb
        by_cases hil : i < n1
        · have hip : i < l.length := by have := N1.out; omega
          obtain ⟨ad1, a, rfl, _, hd1, _, hc1⟩ := (h1.below hbw (Nat.le_refl _)).el hip
          obtain ⟨ek, ea, en, ef, es⟩ := a
          obtain ⟨r0, r1, r2, r3, r4⟩ := at_cells hc1
          have hil' : decide ((i : Int) < n1) = true := by simp; omega
          have HD1 := Lib.hid hd1
          clear hd1
          by_cases hak : ek < ck
          · go_wp2_with (first
              | go_quiet (fail)
              | (at_builtin; refine app_ch (m := [goneC ⟨ek, ⟨ea, en, ef, es⟩⟩]) rfl (.tmp 33) (.tmp 40) rfl rfl (by first | exact (hown.drewN _).alloc _ | exact hown.alloc _) _ _ 1 1 rfl rfl (by first | exact rd_one (enc := Ch.enc) _ _ _ rfl | exact rd_one_at (enc := Ch.enc) _ _ _ rfl (size_alloc' _ _)) (by simp only [List.length_singleton]; omega) (Nat.le_trans hbw.size (le_alloc _ _)) ?_; intro v' w' hown' hgr hv'))
            obtain ⟨s1, s2, s3⟩ := app_step hown hbw (Nat.le_refl _) hgr hv'
            go_roundg (n1 - (i + 1))
            case measure => have := HG2.out; omega
            case rel =>
              exact ⟨i + 1, _, by omega, rfl, by go_num, hown', by simp; omega, s1, s2 _ _ HBX.out HWB.out, s3 _ (blk_lt HBX.out) HWB.out,
                Lib.hid (by rw [← HI.out, HD1.out, diffAt_less _ _ _ _ hak, List.append_assoc]; rfl)⟩
          · by_cases hek : ek = ck
            · subst hek
              have hbeq : (ek == ek) = true := by simp
              by_cases hv : (⟨ea, en, ef, es⟩ : V) = ⟨va, vn, vf, vs⟩
              · have hq := beqV_eq hv
                have HV := Lib.hid hv
                clear hv
                go_wp2_with (go_quiet (fail))
                go_roundg (n2 - (q + 1))
                case measure => have := HG.out; omega
                case rel =>
                  exact ⟨q + 1, i + 1, o, by omega, by omega, rfl, by go_num, by go_num, hown, by omega, below_drewN hbw _,
                    Lib.hid (by rw [← HI.out, HD1.out, diffAt_same ⟨ek, ⟨ea, en, ef, es⟩⟩ _ ⟨ek, ⟨va, vn, vf, vs⟩⟩ _ rfl HV.out])⟩
              · have hq := beqV_ne hv
                have HV := Lib.hid hv
                clear hv
                go_wp2_with (first
                  | go_quiet (fail)
                  | (go_at_call 68; refine (change_any _ _ _ _ _ _).mono ?_; rintro e w2 ⟨rfl, hb2'⟩; have hbw2 := (below_drewN hbw _).trans (hb2'.mono (by first | exact hbw.size | exact (below_drewN hbw _).size)); have hown2 := (hown.drewN _).below hb2' (Nat.le_refl _))
                  | (at_builtin; refine app_ch (m := [chg ⟨ek, ⟨va, vn, vf, vs⟩⟩]) rfl (.tmp 64) (.tmp 67) rfl rfl (by first | exact (hown2.drewN _).alloc _ | exact hown2.alloc _) _ _ 1 1 rfl rfl (by first | exact rd_one (enc := Ch.enc) _ _ _ rfl | exact rd_one_at (enc := Ch.enc) _ _ _ rfl (size_alloc' _ _)) (by simp only [List.length_singleton]; omega) (Nat.le_trans hbw2.size (le_alloc _ _)) ?_; intro v' w' hown' hgr hv'))
                obtain ⟨s1, s2, s3⟩ := app_step (nq := 0) hown2 hbw2 (Nat.le_refl _) hgr hv'
                go_roundg (n2 - (q + 1))
                case measure => have := HG.out; omega
                case rel =>
                  exact ⟨q + 1, i + 1, _, by omega, by omega, rfl, by go_num, by go_num, hown', by simp; omega, s1,
                    Lib.hid (by rw [← HI.out, HD1.out, diffAt_other ⟨ek, ⟨ea, en, ef, es⟩⟩ _ ⟨ek, ⟨va, vn, vf, vs⟩⟩ _ rfl HV.out, List.append_assoc]; rfl)⟩
            · have hek' : (ek == ck) = false := beq_eq_false_iff_ne.2 hek
              go_wp2_with (first
                | go_quiet (fail)
                | (go_at_call 68; refine (change_any _ _ _ _ _ _).mono ?_; rintro e w2 ⟨rfl, hb2'⟩; have hbw2 := (below_drewN hbw _).trans (hb2'.mono (by first | exact hbw.size | exact (below_drewN hbw _).size)); have hown2 := (hown.drewN _).below hb2' (Nat.le_refl _))
                | (at_builtin; refine app_ch (m := [chg ⟨ck, ⟨va, vn, vf, vs⟩⟩]) rfl (.tmp 71) (.tmp 74) rfl rfl (by first | exact (hown2.drewN _).alloc _ | exact hown2.alloc _) _ _ 1 1 rfl rfl (by first | exact rd_one (enc := Ch.enc) _ _ _ rfl | exact rd_one_at (enc := Ch.enc) _ _ _ rfl (size_alloc' _ _)) (by simp only [List.length_singleton]; omega) (Nat.le_trans hbw2.size (le_alloc _ _)) ?_; intro v' w' hown' hgr hv'))
              obtain ⟨s1, s2, s3⟩ := app_step (nq := 0) hown2 hbw2 (Nat.le_refl _) hgr hv'
              go_roundg (n2 - (q + 1))
              case measure => have := HG.out; omega
              case rel =>
                exact ⟨q + 1, i, _, by omega, by omega, rfl, rfl, by go_num, hown', by simp; omega, s1,
                  Lib.hid (by rw [← HI.out, HD1.out, diffAt_more _ _ _ _ (by show ck < ek; omega), List.append_assoc]; rfl)⟩
        · have hd1 : l.drop i = [] := List.drop_eq_nil_of_le (by have := N1.out; omega)
          have HD1 := Lib.hid hd1
          have hil' : decide ((i : Int) < n1) = false := by simp; omega
          clear hd1
          go_wp2_with (first
            | go_quiet (fail)
            | (go_at_call 68; refine (change_any _ _ _ _ _ _).mono ?_; rintro e w2 ⟨rfl, hb2'⟩; have hbw2 := (below_drewN hbw _).trans (hb2'.mono (by first | exact hbw.size | exact (below_drewN hbw _).size)); have hown2 := (hown.drewN _).below hb2' (Nat.le_refl _))
            | (at_builtin; refine app_ch (m := [chg ⟨ck, ⟨va, vn, vf, vs⟩⟩]) rfl (.tmp 71) (.tmp 74) rfl rfl (by first | exact (hown2.drewN _).alloc _ | exact hown2.alloc _) _ _ 1 1 rfl rfl (by first | exact rd_one (enc := Ch.enc) _ _ _ rfl | exact rd_one_at (enc := Ch.enc) _ _ _ rfl (size_alloc' _ _)) (by simp only [List.length_singleton]; omega) (Nat.le_trans hbw2.size (le_alloc _ _)) ?_; intro v' w' hown' hgr hv'))
          obtain ⟨s1, s2, s3⟩ := app_step (nq := 0) hown2 hbw2 (Nat.le_refl _) hgr hv'
          go_roundg (n2 - (q + 1))
          case measure => have := HG.out; omega
          case rel =>
            exact ⟨q + 1, i, _, by omega, by omega, rfl, rfl, by go_num, hown', by simp; omega, s1,
              Lib.hid (by rw [← HI.out, HD1.out, diffAt_nil, List.append_assoc]; rfl)⟩
    · have hdp : k.drop q = [] := List.drop_eq_nil_of_le (by have := N2.out; omega)
      have HI' : Hid (o ++ (l.drop i).map goneC = R) := Lib.hid (by rw [← HI.out, hdp, diffP_nil])
      clear HI hdp
      have hrd : ∀ wi, Below w.heap.size w wi → RdAt wi w.heap.size (if c1 = i then A1 else A1.map (fun x => x.add (i * 5))) (l.drop i) := fun wi hbi => (h1.below hbi (Nat.le_refl _)).cut (k := i) (cap := c1) (by have := N1.out; omega) (by have := N1.out; omega)
      have hm : n1 - i = (l.drop i).length := by rw [List.length_drop, N1.out]
      generalize l.drop i = L at *
      have hbw0 := hbw
      obtain ⟨m, hmm⟩ : ∃ m, m = n1 - i := ⟨_, rfl⟩
      have HM : Hid (m = L.length) := Lib.hid (by rw [hmm, hm])
      have hmb : m ≤ n1 := by omega
      clear hm
      rcases Nat.lt_or_ge i c1 with hci | hci
      · have hne : ¬ c1 = i := by omega
        simp only [if_neg hne] at hrd
        go_wp2_with (fail)
        rw [← hmm]
        obtain ⟨A', hA'⟩ : ∃ A', A' = A1.map (fun x => x.add (i * 5)) := ⟨_, rfl⟩
        rw [← hA'] at hrd ⊢
        have HRD := Lib.hid hrd
        clear hrd hA' hmm HG hlt hci hne
        go_loopg [5, 81] m (fun g ov kv wi => ∃ (j : Nat) (o : List Ch), j ≤ m ∧ g = m - j ∧ kv = .int .i64 j ∧ OwCh wi w.heap.size ov o ∧ o.length ≤ i + q + j ∧
          Below w.heap.size w wi ∧ Hid (o ++ (L.drop j).map goneC = R))
        case atStart => exact ⟨0, o, by omega, rfl, rfl, hown, by omega, hbw, HI'⟩
        case round =>
          clear HI'
          clear hown hol
          obtain ⟨j, o, hj, hg, rfl, hown, hol, hbi, HI⟩ := hrel
          have HG := Lib.hid hg
          clear hg
          by_cases hlt : j < m
          · have hjp : j < L.length := by have := HM.out; omega
            obtain ⟨ad1, a, rfl, _, hd1, _, hc1⟩ := (HRD.out _ hbi).el hjp
            obtain ⟨ek, ea, en, ef, es⟩ := a
            obtain ⟨r0, r1, r2, r3, r4⟩ := at_cells hc1
            have HD1 := Lib.hid hd1
            clear hd1 hc1
            have hbi2 := hbi.alloc hbi.size (.cells #[.int .i64 ek, .int .u8 ea, .int .i64 en, .int .u64 ef, .string es] 62)
            have hown2 := hown.alloc (.cells #[.int .i64 ek, .int .u8 ea, .int .i64 en, .int .u64 ef, .string es] 62)
            go_wp2_with (first
              | go_quiet (fail)
              | (at_builtin; refine app_ch (m := [goneC ⟨ek, ⟨ea, en, ef, es⟩⟩]) rfl (.tmp 85) (.tmp 89) rfl rfl (by first | exact (hown2.drewN _).alloc _ | exact hown2.alloc _) _ _ 1 1 rfl rfl (by first | exact rd_one (enc := Ch.enc) _ _ _ rfl | exact rd_one_at (enc := Ch.enc) _ _ _ rfl (size_alloc' _ _)) (by simp only [List.length_singleton]; omega) (Nat.le_trans hbi2.size (le_alloc _ _)) ?_; intro v' w' hown' hgr hv'))
            obtain ⟨s1, s2, s3⟩ := app_step (nq := 0) hown2 hbi2 (Nat.le_refl _) hgr hv'
            go_roundg (m - (j + 1))
            case measure => have := HG.out; omega
            case rel => exact ⟨j + 1, _, by omega, rfl, by go_num, hown', by simp; omega, s1, Lib.hid (by rw [← HI.out, HD1.out, List.append_assoc]; rfl)⟩
          · have hnil : L.drop j = [] := List.drop_eq_nil_of_le (by have := HM.out; omega)
            have HN := Lib.hid hnil
            clear hnil
            go_wp2_with (fail)
            have e : o = R := by have := HI.out; rw [HN.out] at this; simpa using this
            rw [e] at hown
            obtain ⟨A'', c', rfl, _, _⟩ := hown.form
            go_ret
            exact ⟨A'', c', rfl, hown, hbi⟩
      · have hm0 : m = 0 := by omega
        have hrd : ∀ wi, Below w.heap.size w wi → RdAt wi w.heap.size A1 L := by
          have : L = [] := List.eq_nil_of_length_eq_zero (by rw [← HM.out]; exact hm0)
          rw [this]; exact fun _ _ => Rd.nil
        go_wp2_with (fail)
        rw [← hmm]
        obtain ⟨A', hA'⟩ : ∃ A', A' = A1 := ⟨_, rfl⟩
        rw [← hA'] at hrd ⊢
        have HRD := Lib.hid hrd
        clear hrd hA' hmm HG hlt hci hm0
        go_loopg [5, 81] m (fun g ov kv wi => ∃ (j : Nat) (o : List Ch), j ≤ m ∧ g = m - j ∧ kv = .int .i64 j ∧ OwCh wi w.heap.size ov o ∧ o.length ≤ i + q + j ∧
          Below w.heap.size w wi ∧ Hid (o ++ (L.drop j).map goneC = R))
        case atStart => exact ⟨0, o, by omega, rfl, rfl, hown, by omega, hbw, HI'⟩
        case round =>
          clear HI'
          clear hown hol
          obtain ⟨j, o, hj, hg, rfl, hown, hol, hbi, HI⟩ := hrel
          have HG := Lib.hid hg
          clear hg
          by_cases hlt : j < m
          · have hjp : j < L.length := by have := HM.out; omega
            obtain ⟨ad1, a, rfl, _, hd1, _, hc1⟩ := (HRD.out _ hbi).el hjp
            obtain ⟨ek, ea, en, ef, es⟩ := a
            obtain ⟨r0, r1, r2, r3, r4⟩ := at_cells hc1
            have HD1 := Lib.hid hd1
            clear hd1 hc1
            have hbi2 := hbi.alloc hbi.size (.cells #[.int .i64 ek, .int .u8 ea, .int .i64 en, .int .u64 ef, .string es] 62)
            have hown2 := hown.alloc (.cells #[.int .i64 ek, .int .u8 ea, .int .i64 en, .int .u64 ef, .string es] 62)
            go_wp2_with (first
              | go_quiet (fail)
              | (at_builtin; refine app_ch (m := [goneC ⟨ek, ⟨ea, en, ef, es⟩⟩]) rfl (.tmp 85) (.tmp 89) rfl rfl (by first | exact (hown2.drewN _).alloc _ | exact hown2.alloc _) _ _ 1 1 rfl rfl (by first | exact rd_one (enc := Ch.enc) _ _ _ rfl | exact rd_one_at (enc := Ch.enc) _ _ _ rfl (size_alloc' _ _)) (by simp only [List.length_singleton]; omega) (Nat.le_trans hbi2.size (le_alloc _ _)) ?_; intro v' w' hown' hgr hv'))
            obtain ⟨s1, s2, s3⟩ := app_step (nq := 0) hown2 hbi2 (Nat.le_refl _) hgr hv'
            go_roundg (m - (j + 1))
            case measure => have := HG.out; omega
            case rel => exact ⟨j + 1, _, by omega, rfl, by go_num, hown', by simp; omega, s1, Lib.hid (by rw [← HI.out, HD1.out, List.append_assoc]; rfl)⟩
          · have hnil : L.drop j = [] := List.drop_eq_nil_of_le (by have := HM.out; omega)
            have HN := Lib.hid hnil
            clear hnil
            go_wp2_with (fail)
            have e : o = R := by have := HI.out; rw [HN.out] at this; simpa using this
            rw [e] at hown
            obtain ⟨A'', c', rfl, _, _⟩ := hown.form
            go_ret
            exact ⟨A'', c', rfl, hown, hbi⟩
end Go.Proofs.YtclfplpggmefjaaDoor
/- The walk of patch.Invert, of a set whose keys rise. -/
namespace Go.Proofs.YtclfplpggmefjaaDoor
open Go.RowKit
set_option linter.unusedVariables false
set_option linter.unusedSimpArgs false

theorem below_keep {B B' : Nat} {a w w' : World} (h : Below B a w) (hb : Below B' w w') (hB : B ≤ B') : Below B a w' := h.trans (hb.mono hB)

set_option maxRecDepth 100000 in
set_option maxHeartbeats 800000 in
theorem invert_any (A1 A2 : Option Addr) (n1 n2 c1 c2 : Nat) (l : List At) (k : List Ch) (w : World) (hr : riseA l = true)
    (hn1 : n1 = l.length) (hn2 : n2 = k.length) (h1 : RdAt w w.heap.size A1 l) (h2 : RdCh w w.heap.size A2 k)
    (hb1 : n1 ≤ 100000000) (hb2 : n2 ≤ 100000000) :
    Calls Tryd.prog 44 #[.slice A1 n1 c1, .slice A2 n2 c2] w (NewCh (invertP l k) w) := by
  have N1 := Lib.hid hn1
  have N2 := Lib.hid hn2
  have HRI := Lib.hid hr
  generalize hR : invertP l k = R
  have HR := Lib.hid hR
  clear hn1 hn2 hR hr
  go_enter Tryd.func44, Tryd.ntmps44
  go_wp2_with (fail)
  go_loopg [5, 12] n2 (fun g ov kv wr => ∃ (q : Nat) (o : List Ch), q ≤ n2 ∧ g = n2 - q ∧ kv = .int .i64 q ∧ OwCh wr w.heap.size ov o ∧ o.length ≤ q ∧
    Below w.heap.size w wr ∧ Hid (o ++ (k.drop q).flatMap (inv1 l) = R))
  case atStart => exact ⟨0, [], by omega, rfl, rfl, Ow.nil _ _, by simp, Below.refl _ _, Lib.hid (by rw [← HR.out]; simp [invertP])⟩
  case round =>
    obtain ⟨q, o, hk, hg, rfl, hown, hol, hbw, HI⟩ := hrel
    have HG := Lib.hid hg
    clear hg HR
    by_cases hlt : q < n2
    · have hkp : q < k.length := by have := N2.out; omega
      obtain ⟨ad2, c, rfl, _, hd2, _, hc2⟩ := (h2.below hbw (Nat.le_refl _)).el hkp
      have HI' : Hid (o ++ (inv1 l c ++ (k.drop (q+1)).flatMap (inv1 l)) = R) := Lib.hid (by rw [← HI.out, hd2, List.flatMap_cons])
      clear HI hkp hd2
      obtain ⟨ck, cg, va, vn, vf, vs⟩ := c
      obtain ⟨q0, q1, q2, q3, q4, q5⟩ := ch_cells hc2
      clear hc2
      go_wp2_with (fail)
      have hbx := heap_alloc_new wr (.cells #[.int .i64 ck, .bool cg, .int .u8 va, .int .i64 vn, .int .u64 vf, .string vs] 58)
      have hbw1 := hbw.alloc hbw.size (.cells #[.int .i64 ck, .bool cg, .int .u8 va, .int .i64 vn, .int .u64 vf, .string vs] 58)
      have hown1 := hown.alloc (.cells #[.int .i64 ck, .bool cg, .int .u8 va, .int .i64 vn, .int .u64 vf, .string vs] 58)
      refine (get_any A1 n1 c1 l ck _ N1.out ((h1.below hbw1 (Nat.le_refl _)).more hbw1.size) (by omega)).mono ?_
      rintro e w1 ⟨v, b, rfl, hget, hb1'⟩
      have hbx1 := (hb1'.block wr.heap.size (by simp)).trans hbx
      have hlt1 : wr.heap.size < w1.heap.size := by have := hb1'.size; simp at this; omega
      have hbw2 := below_keep hbw1 hb1' hbw1.size
      have hown2 := hown1.below hb1' (Nat.le_refl _)
      clear hbx hbw1 hown1 hb1' q0 q1 q2 q3 q4 q5 hown hbw
      obtain ⟨b0, b1, b2, b3, b4, b5⟩ := box_ch hbx1
      clear hbx1
      have hga := hget.2.2 HRI.out
      have hz := hget.2.1
      obtain ⟨xa, xn, xf, xs⟩ := v
      have hcases : (b = true ∧ (cg = true ∨ ¬ (⟨xa, xn, xf, xs⟩ : V) = ⟨va, vn, vf, vs⟩) ∧ inv1 l ⟨ck, cg, ⟨va, vn, vf, vs⟩⟩ = [⟨ck, false, ⟨xa, xn, xf, xs⟩⟩]) ∨
          (b = true ∧ cg = false ∧ (⟨xa, xn, xf, xs⟩ : V) = ⟨va, vn, vf, vs⟩ ∧ inv1 l ⟨ck, cg, ⟨va, vn, vf, vs⟩⟩ = []) ∨
          (b = false ∧ cg = false ∧ inv1 l ⟨ck, cg, ⟨va, vn, vf, vs⟩⟩ = [goneC ⟨ck, V.zero⟩]) ∨ (b = false ∧ cg = true ∧ inv1 l ⟨ck, cg, ⟨va, vn, vf, vs⟩⟩ = []) := by
        unfold inv1
        show _
        cases b
        · simp only [Bool.false_eq_true, if_false] at hga
          rw [hga]
          cases cg <;> simp [goneC]
        · simp only [if_true] at hga
          rw [hga]
          by_cases hv : (⟨xa, xn, xf, xs⟩ : V) = ⟨va, vn, vf, vs⟩ <;> cases cg <;> simp [hv]
      clear hga hz hget
      rcases hcases with ⟨rfl, hcv, hinv⟩ | ⟨rfl, rfl, hv, hinv⟩ | ⟨rfl, rfl, hinv⟩ | ⟨rfl, rfl, hinv⟩
      · have hbw3 := hbw2.alloc hbw2.size (.cells #[.int .u8 xa, .int .i64 xn, .int .u64 xf, .string xs] 24)
        have hown3 := hown2.alloc (.cells #[.int .u8 xa, .int .i64 xn, .int .u64 xf, .string xs] 24)
        have HINV := Lib.hid hinv
        clear hinv
        have hq : cg = true ∨ (cg = false ∧ beqV ⟨xa, xn, xf, xs⟩ ⟨va, vn, vf, vs⟩ = false) := by
          rcases hcv with h | h
          · exact .inl h
          · cases cg
            · exact .inr ⟨rfl, beqV_ne h⟩
            · exact .inl rfl
        clear hcv
        rcases hq with rfl | ⟨rfl, hq⟩
        all_goals
          go_wp2_with (first
            | (at_builtin; refine app_ch (m := [⟨ck, false, ⟨xa, xn, xf, xs⟩⟩]) rfl (.tmp 35) (.tmp 40) rfl rfl (by first | exact (hown3.drewN _).alloc _ | exact hown3.alloc _) _ _ 1 1 rfl rfl (by first | exact rd_one (enc := Ch.enc) _ _ _ rfl | exact rd_one_at (enc := Ch.enc) _ _ _ rfl (size_alloc' _ _)) (by simp only [List.length_singleton]; omega) (Nat.le_trans hbw3.size (le_alloc _ _)) ?_; intro v' w' hown' hgr hv'))
          obtain ⟨s1, s2, s3⟩ := app_step (nq := 0) hown3 hbw3 (Nat.le_refl _) hgr hv'
          go_roundg (n2 - (q + 1))
          case measure => have := HG.out; omega
          case rel => exact ⟨q + 1, _, by omega, rfl, by go_num, hown', by simp; omega, s1, Lib.hid (by rw [← HI'.out, HINV.out, List.append_assoc])⟩
      · have hbw3 := hbw2.alloc hbw2.size (.cells #[.int .u8 xa, .int .i64 xn, .int .u64 xf, .string xs] 24)
        have hown3 := hown2.alloc (.cells #[.int .u8 xa, .int .i64 xn, .int .u64 xf, .string xs] 24)
        have HINV := Lib.hid hinv
        clear hinv
        have hq := beqV_eq hv
        clear hv
        all_goals
          go_wp2_with (fail)
          go_roundg (n2 - (q + 1))
          case measure => have := HG.out; omega
          case rel => exact ⟨q + 1, o, by omega, rfl, by go_num, hown3, by omega, hbw3, Lib.hid (by rw [← HI'.out, HINV.out, List.nil_append])⟩
      · have hbw3 := hbw2.alloc hbw2.size (.cells #[.int .u8 xa, .int .i64 xn, .int .u64 xf, .string xs] 24)
        have hown3 := hown2.alloc (.cells #[.int .u8 xa, .int .i64 xn, .int .u64 xf, .string xs] 24)
        have HINV := Lib.hid hinv
        clear hinv
        all_goals
          go_wp2_with (first
            | (at_builtin; refine app_ch (m := [goneC ⟨ck, V.zero⟩]) rfl (.tmp 50) (.tmp 54) rfl rfl (by first | exact (hown3.drewN _).alloc _ | exact hown3.alloc _) _ _ 1 1 rfl rfl (by first | exact rd_one (enc := Ch.enc) _ _ _ rfl | exact rd_one_at (enc := Ch.enc) _ _ _ rfl (size_alloc' _ _)) (by simp only [List.length_singleton]; omega) (Nat.le_trans hbw3.size (le_alloc _ _)) ?_; intro v' w' hown' hgr hv'))
          obtain ⟨s1, s2, s3⟩ := app_step (nq := 0) hown3 hbw3 (Nat.le_refl _) hgr hv'
          go_roundg (n2 - (q + 1))
          case measure => have := HG.out; omega
          case rel => exact ⟨q + 1, _, by omega, rfl, by go_num, hown', by simp; omega, s1, Lib.hid (by rw [← HI'.out, HINV.out, List.append_assoc])⟩
      · have hbw3 := hbw2.alloc hbw2.size (.cells #[.int .u8 xa, .int .i64 xn, .int .u64 xf, .string xs] 24)
        have hown3 := hown2.alloc (.cells #[.int .u8 xa, .int .i64 xn, .int .u64 xf, .string xs] 24)
        have HINV := Lib.hid hinv
        clear hinv
        all_goals
          go_wp2_with (fail)
          go_roundg (n2 - (q + 1))
          case measure => have := HG.out; omega
          case rel => exact ⟨q + 1, o, by omega, rfl, by go_num, hown3, by omega, hbw3, Lib.hid (by rw [← HI'.out, HINV.out, List.nil_append])⟩
    · have hdp : k.drop q = [] := List.drop_eq_nil_of_le (by have := N2.out; omega)
      have e : o = R := by have := HI.out; rw [hdp] at this; simpa using this
      have HE := Lib.hid e
      clear hdp e
      go_wp2_with (fail)
      rw [HE.out] at hown
      obtain ⟨A', c', rfl, _, _⟩ := hown.form
      go_ret
      exact ⟨A', c', rfl, hown, hbw⟩
end Go.Proofs.YtclfplpggmefjaaDoor
/- The walk of the known case of layer 6: it answers true. -/
namespace Go.Proofs.YtclfplpggmefjaaDoor
open Go.RowKit
set_option linter.unusedVariables false
set_option linter.unusedSimpArgs false

set_option maxHeartbeats 400000 in
theorem knownVal_any (i : Int) (w : World) :
    Calls Tryd.prog 54 #[.int .i64 i] w fun e w' => e = .returned (.agg #[.int .u8 2, .int .i64 i, .int .u64 0, .string ⟨#[]⟩]) ∧ Below w.heap.size w w' := by
  go_enter Tryd.func54, Tryd.ntmps54
  go_wp2
  refine bodyPost_ret (v := .agg #[.int .u8 2, .int .i64 i, .int .u64 0, .string ⟨#[]⟩]) (by simp [results, Tryd.results54, go_sem]) rfl ⟨rfl, ?_⟩
  exact (Below.refl _ _).alloc (Nat.le_refl _) _

def vI (i : Int) : V := ⟨2, i, 0, ⟨#[]⟩⟩
def kA : List At := [⟨1, vI 2⟩, ⟨3, vI 4⟩]
def kB : List At := [⟨3, vI 5⟩]
def kP : List Ch := [⟨1, true, V.zero⟩, ⟨3, false, vI 5⟩]
theorem q61 : decide (diffP kA kB = kP) = true := by decide +kernel
theorem q62 : decide (applyP (diffP kA kB) kA = kB) = true := by decide +kernel
theorem q63 : decide (applyP (invertP kA (diffP kA kB)) kB = kA) = true := by decide +kernel
theorem q64 : riseA kA = true := by decide +kernel
theorem q65 : (diffP kA kB).length ≤ 10 := by decide +kernel
theorem q66 : (applyP (diffP kA kB) kA).length ≤ 10 := by decide +kernel
theorem q67 : (invertP kA (diffP kA kB)).length ≤ 10 := by decide +kernel
theorem q68 : (applyP (invertP kA (diffP kA kB)) kB).length ≤ 10 := by decide +kernel

set_option maxRecDepth 100000 in
set_option maxHeartbeats 1000000 in
theorem known_any (w : World) : Calls Tryd.prog 26 #[] w fun e w' => e = .returned (.bool true) ∧ Below w.heap.size w w' := by
  go_enter Tryd.func26, Tryd.ntmps26
  go_wp2_with (go_at_call 54; refine Hid.out ?_)
  refine Lib.hid ?_
  refine (knownVal_any _ _).mono ?_
  rintro e w1 ⟨rfl, hx⟩
  go_wp2_with (go_at_call 54; refine Hid.out ?_)
  refine Lib.hid ?_
  refine (knownVal_any _ _).mono ?_
  rintro e w2 ⟨rfl, y⟩
  replace hx := ext_trans hx y
  clear y
  go_wp2_with (go_at_call 54; refine Hid.out ?_)
  refine Lib.hid ?_
  have ra : RdAt _ _ _ kA := Rd.new At.enc_len w2 62 kA (cs := #[.int .i64 1, .int .u8 2, .int .i64 2, .int .u64 0, .string ⟨#[]⟩, .int .i64 3, .int .u8 2, .int .i64 4, .int .u64 0, .string ⟨#[]⟩]) rfl rfl
  replace hx := ext_trans hx (ext_alloc w2 (.cells #[.int .i64 1, .int .u8 2, .int .i64 2, .int .u64 0, .string ⟨#[]⟩, .int .i64 3, .int .u8 2, .int .i64 4, .int .u64 0, .string ⟨#[]⟩] 62))
  refine (knownVal_any _ _).mono ?_
  rintro e w3 ⟨rfl, y⟩
  replace ra := ra.ext y
  replace hx := ext_trans hx y
  clear y
  go_wp2_with (go_at_call 42; refine Hid.out ?_)
  refine Lib.hid ?_
  have rb : RdAt _ _ _ kB := Rd.new At.enc_len w3 62 kB (cs := #[.int .i64 3, .int .u8 2, .int .i64 5, .int .u64 0, .string ⟨#[]⟩]) rfl rfl
  replace hx := ext_trans hx (ext_alloc w3 (.cells #[.int .i64 3, .int .u8 2, .int .i64 5, .int .u64 0, .string ⟨#[]⟩] 62))
  replace ra := ra.ext (ext_alloc w3 (.cells #[.int .i64 3, .int .u8 2, .int .i64 5, .int .u64 0, .string ⟨#[]⟩] 62))
  refine (diff_any _ _ 2 1 2 _ kA kB _ rfl rfl ra rb (by omega) (by omega) (by omega) (by simp [maxLen])).mono ?_
  rintro e w4 ⟨A1, c1, rfl, ho, y⟩
  have rp := ho.rd Ch.enc_len
  replace ra := ra.ext y
  replace rb := rb.ext y
  replace hx := ext_trans hx y
  obtain ⟨hle, hcm⟩ := ho.cap
  clear y ho
  have q1 := q61
  have q2 := q62
  have q3 := q63
  have q5 := q65
  have q7 := q67
  unfold maxLen at hcm
  generalize hpp : diffP kA kB = p at *
  have HPP := Lib.hid hpp
  have Q1 := Lib.hid q1
  have Q2 := Lib.hid q2
  have Q3 := Lib.hid q3
  clear hpp q1 q2 q3
  obtain ⟨n1, hn1⟩ : ∃ n, n = p.length := ⟨_, rfl⟩
  rw [← hn1] at q5 hle ⊢
  have N1 := Lib.hid hn1
  clear hn1
  go_wp2_with (go_at_call 54; refine Hid.out ?_)
  refine Lib.hid ?_
  refine (knownVal_any _ _).mono ?_
  rintro e w5 ⟨rfl, y⟩
  replace ra := ra.ext y
  replace rb := rb.ext y
  replace rp := rp.ext y
  replace hx := ext_trans hx y
  clear y
  go_wp2_with (go_at_call 36; refine Hid.out ?_)
  refine Lib.hid ?_
  have rw_ : RdCh _ _ _ kP := Rd.new Ch.enc_len w5 58 kP (cs := #[.int .i64 1, .bool true, .int .u8 0, .int .i64 0, .int .u64 0, .string ⟨#[]⟩, .int .i64 3, .bool false, .int .u8 2, .int .i64 5, .int .u64 0, .string ⟨#[]⟩]) rfl rfl
  have y := ext_alloc w5 (.cells #[.int .i64 1, .bool true, .int .u8 0, .int .i64 0, .int .u64 0, .string ⟨#[]⟩, .int .i64 3, .bool false, .int .u8 2, .int .i64 5, .int .u64 0, .string ⟨#[]⟩] 58)
  replace ra := ra.ext y
  replace rb := rb.ext y
  replace rp := rp.ext y
  replace hx := ext_trans hx y
  clear y
  refine (sameC_any _ _ n1 2 _ _ p kP _ N1.out rfl rp rw_ (by omega) (by omega)).mono ?_
  rintro e w6 ⟨rfl, d, rfl⟩
  rw [Q1.out]
  have y := ext_drew (w5.alloc (.cells #[.int .i64 1, .bool true, .int .u8 0, .int .i64 0, .int .u64 0, .string ⟨#[]⟩, .int .i64 3, .bool false, .int .u8 2, .int .i64 5, .int .u64 0, .string ⟨#[]⟩] 58)) d
  replace ra := ra.ext y
  replace rb := rb.ext y
  replace rp := rp.ext y
  replace hx := ext_trans hx y
  clear y rw_
  generalize World.drewN _ d = w6 at *
  go_wp2_with (go_at_call 30; refine Hid.out ?_)
  refine Lib.hid ?_
  refine (apply_any _ _ 2 n1 2 _ kA p _ rfl N1.out ra rp (by omega) (by omega) (by omega) (by simp [maxLen])).mono ?_
  rintro e w7 ⟨A2, c2, rfl, ho, y⟩
  have rs := ho.rd At.enc_len
  replace ra := ra.ext y
  replace rb := rb.ext y
  replace rp := rp.ext y
  replace hx := ext_trans hx y
  clear y ho
  have q6 : (applyP p kA).length ≤ 10 := by rw [← HPP.out]; exact q66
  generalize applyP p kA = s at *
  obtain ⟨n2, hn2⟩ : ∃ n, n = s.length := ⟨_, rfl⟩
  rw [← hn2] at q6 ⊢
  have N2 := Lib.hid hn2
  clear hn2
  go_wp2_with (go_at_call 31; refine Hid.out ?_)
  refine Lib.hid ?_
  refine (sameA_any _ _ n2 1 _ _ s kB _ N2.out rfl rs rb (by omega) (by omega)).mono ?_
  rintro e w8 ⟨rfl, d, rfl⟩
  rw [Q2.out]
  have y := ext_drew w7 d
  replace ra := ra.ext y
  replace rb := rb.ext y
  replace rp := rp.ext y
  replace hx := ext_trans hx y
  clear y rs
  generalize w7.drewN d = w8 at *
  go_wp2_with (go_at_call 44; refine Hid.out ?_)
  refine Lib.hid ?_
  refine (invert_any _ _ 2 n1 _ _ kA p _ q64 rfl N1.out ra rp (by omega) (by omega)).mono ?_
  rintro e w9 ⟨A3, c3, rfl, ho, y⟩
  have ri := ho.rd Ch.enc_len
  replace ra := ra.ext y
  replace rb := rb.ext y
  replace hx := ext_trans hx y
  clear y ho
  have q8 : (applyP (invertP kA p) kB).length ≤ 10 := by rw [← HPP.out]; exact q68
  generalize invertP kA p = v at *
  obtain ⟨n3, hn3⟩ : ∃ n, n = v.length := ⟨_, rfl⟩
  rw [← hn3] at q7 ⊢
  have N3 := Lib.hid hn3
  clear hn3
  go_wp2_with (go_at_call 30; refine Hid.out ?_)
  refine Lib.hid ?_
  refine (apply_any _ _ 1 n3 1 _ kB v _ rfl N3.out rb ri (by omega) (by omega) (by omega) (by simp [maxLen])).mono ?_
  rintro e w10 ⟨A4, c4, rfl, ho, y⟩
  have rs := ho.rd At.enc_len
  replace ra := ra.ext y
  replace hx := ext_trans hx y
  clear y ho
  generalize applyP v kB = s at *
  obtain ⟨n4, hn4⟩ : ∃ n, n = s.length := ⟨_, rfl⟩
  rw [← hn4] at q8 ⊢
  have N4 := Lib.hid hn4
  clear hn4
  go_wp2_with (go_at_call 31; refine Hid.out ?_)
  refine Lib.hid ?_
  refine (sameA_any _ _ n4 2 _ _ s kA _ N4.out rfl rs ra (by omega) (by omega)).mono ?_
  rintro e w11 ⟨rfl, d, rfl⟩
  rw [Q3.out]
  replace hx := ext_trans hx (ext_drew w10 d)
  go_wp2_with (fail)
  go_ret
  exact ⟨rfl, hx⟩
end Go.Proofs.YtclfplpggmefjaaDoor
