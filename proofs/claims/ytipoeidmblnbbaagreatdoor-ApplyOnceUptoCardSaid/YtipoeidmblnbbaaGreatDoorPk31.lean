/- Merged texts: OnceLaw, FitsClass, RefMay06. -/
import Derived.Test.YtipoeidmblnbbaaGreatDoorPk19
import Derived.Test.YtipoeidmblnbbaaGreatDoorPk18
import Derived.Test.YtipoeidmblnbbaaGreatDoorPk9
import Derived.Test.YtipoeidmblnbbaaGreatDoorPk10
/- A patch on some cells, once and twice; a delete of all but the last cell. Plain mathematics. -/
namespace Go.Proofs.YtipoeidmblnbbaaGreatDoor
set_option linter.unusedVariables false
set_option linter.unusedSimpArgs false

def onceU (i n : Nat) (p : List Ch) : List Un := List.replicate i (.ret []) ++ List.replicate n (.ret p)
theorem app_once (l : List Ky) {i n : Nat} (p : List Ch) {d : List Cl} (h : i + n ≤ d.length) : app l (onceU i n p) d = d.take i ++ (((d.drop i).take n).map (fun c => actC l c p) ++ d.drop (i + n)) := by
  unfold onceU
  rw [app_ret0 l i _ d (by omega), app_rets, List.drop_drop]
theorem once_len (l : List Ky) {i n : Nat} (p : List Ch) {d : List Cl} (h : i + n ≤ d.length) : (app l (onceU i n p) d).length = d.length := by
  rw [app_once l p h]
  simp only [List.length_append, List.length_take, List.length_drop, List.length_map]; omega
theorem act_twice {l : List Ky} {c : Cl} {p : List Ch} (hp : mayP l p = 0) (hs : mayS l c.s = 0) : actC l (actC l c p) p = actC l c p := by
  obtain ⟨_, p1, _⟩ := mayP_zero (stay_filter (fun x => keepK l (c.r == 10) x.key) hp)
  unfold actC
  simp only
  congr 1
  exact apply_twice p1 (mayS_zero hs).2.1
theorem once_twice {l : List Ky} {i n : Nat} {p : List Ch} {d : List Cl} (h : i + n ≤ d.length) (hp : mayP l p = 0) (hd : ∀ c ∈ d, mayS l c.s = 0) : app l (onceU i n p) (app l (onceU i n p) d) = app l (onceU i n p) d := by
  have hl := once_len l p h
  rw [app_once l p (d := app l (onceU i n p) d) (by rw [hl]; exact h)]
  have e := app_once l p h
  have l1 : (d.take i).length = i := by rw [List.length_take]; omega
  have l2 : (((d.drop i).take n).map (fun c => actC l c p)).length = n := by simp only [List.length_map, List.length_take, List.length_drop]; omega
  have t1 : (app l (onceU i n p) d).take i = d.take i := by rw [e, List.take_append_of_le_length (by omega), List.take_of_length_le (by omega)]
  have t2 : (app l (onceU i n p) d).drop i = ((d.drop i).take n).map (fun c => actC l c p) ++ d.drop (i + n) := by
    rw [e, List.drop_append_of_le_length (by omega), List.drop_of_length_le (by omega), List.nil_append]
  have t3 : ((app l (onceU i n p) d).drop i).take n = ((d.drop i).take n).map (fun c => actC l c p) := by
    rw [t2, List.take_append_of_le_length (by omega), List.take_of_length_le (by omega)]
  have t4 : (app l (onceU i n p) d).drop (i + n) = d.drop (i + n) := by
    rw [← List.drop_drop, t2, List.drop_append_of_le_length (by omega), List.drop_of_length_le (by omega), List.nil_append]
  rw [t1, t3, t4, e, List.map_map]
  congr 2
  refine List.map_congr_left fun c hc => ?_
  exact act_twice hp (hd c (List.mem_of_mem_drop (List.mem_of_mem_take hc)))
theorem once_runes (l : List Ky) {i n : Nat} (p : List Ch) {d : List Cl} (h : i + n ≤ d.length) : (app l (onceU i n p) d).map (·.r) = d.map (·.r) := by
  rw [app_once l p h]
  have e : d = d.take i ++ ((d.drop i).take n ++ d.drop (i + n)) := by
    conv => lhs; rw [← List.take_append_drop i d, ← List.take_append_drop n (d.drop i), List.drop_drop]
  conv => rhs; rw [e]
  simp only [List.map_append, List.map_map]
  rfl
theorem once_fit {l : List Ky} {i n N : Nat} {p : List Ch} (hp : mayP l p = 0) (hn : 1 ≤ N) (h : i + n ≤ N) (hb : N ≤ 536870912) : FitU l (onceU i n p) N N := by
  refine ⟨fun u hu => ?_, ?_, hn, Nat.le_refl _, ?_, ?_, ?_, ?_⟩
  · unfold onceU at hu
    rcases List.mem_append.1 hu with hu | hu
    · rw [(List.mem_replicate.1 hu).2]; exact mayP_nil l
    · rw [(List.mem_replicate.1 hu).2]; exact hp
  · unfold onceU; rw [takes_ret, takesU_ret]; exact h
  · unfold onceU; rw [finU_append, finU_reps, finU_reps]; rfl
  · unfold onceU; rw [takes_ret, takesU_ret, makes_ret, makesU_ret]; omega
  · unfold onceU; rw [takes_ret, takesU_ret]; omega
  · unfold onceU; rw [makes_ret, makesU_ret]; omega
theorem del_fit {l : List Ky} {N : Nat} (h : 2 ≤ N) (hb : N ≤ 536870912) : FitU l (List.replicate (N - 1) .del) N N := by
  refine ⟨fun u hu => by rw [(List.mem_replicate.1 hu).2]; trivial, by rw [takesU_del]; omega, by omega, Nat.le_refl _, ?_, by rw [takesU_del, makesU_del]; omega, by rw [takesU_del]; omega, by rw [makesU_del]; omega⟩
  obtain ⟨k, rfl⟩ : ∃ k, N = k + 2 := ⟨N - 2, by omega⟩
  show finU (k + 2) 0 (List.replicate (k + 1) .del) = true
  rw [finU_dels (k + 2) k 0 (by omega)]
  exact decide_eq_true (by omega)
end Go.Proofs.YtipoeidmblnbbaaGreatDoor
/- The document's Fits in a class of worlds. -/
namespace Go.Proofs.YtipoeidmblnbbaaGreatDoor
open Go.RowKit
set_option linter.unusedVariables false
set_option linter.unusedSimpArgs false

theorem all_drop {α : Type} {f : α → Bool} {l : List α} {m : Nat} {x : α} {R : Bool} (hd : l.drop m = x :: l.drop (m + 1)) (h : (l.drop m).all f = R) : (f x && (l.drop (m + 1)).all f) = R := by
  rw [hd] at h; simpa using h
theorem fitsR_class {A : Option Addr} {nn cc : Nat} {l : List Ky} {id k n f : Int} {t : ByteArray} {w : World} {O : List (Nat × Obj)} {b : Bool} (hT : Lib.Utf8Tabs 1 2 w) (hn : nn = l.length) (h : RdKy w w.heap.size A l) (hb : nn ≤ 140737488355328) (h0 : 0 ≤ f) (h1 : f < 18446744073709551616) (hsz : t.size ≤ 100000000) (x : GW w O) (hf : fitsK l id ⟨k, n, f, t⟩ = b) :
    Calls Tryz.prog 71 #[.slice A nn cc, .int .i64 id, .agg #[.int .u8 k, .int .i64 n, .int .u64 f, .string t]] x.val fun e w' => e = .returned (.bool b) ∧ ∃ y : GW w O, w' = y.val :=
  good_call x ((fitsR_any A nn cc l id k n f t x.val hn (h.ext x.ok.1) hb h0 h1 hsz (tabs_good hT x)).mono fun e w' h' => ⟨by rw [h'.1, hf], h'.2⟩)
end Go.Proofs.YtipoeidmblnbbaaGreatDoor
/- The walk of the document's May of a patch (rubricref06). -/
namespace Go.Proofs.YtipoeidmblnbbaaGreatDoor
open Go.RowKit
set_option linter.unusedVariables false
set_option linter.unusedSimpArgs false

set_option maxRecDepth 100000 in
set_option maxHeartbeats 3200000 in
theorem mayR6_any (A B : Option Addr) (n c n2 c2 : Nat) (l : List Ky) (p : List Ch) (w : World) (hn : n = l.length) (h : RdKy w w.heap.size A l) (hb : n ≤ 140737488355328) (hn2 : n2 = p.length) (h2 : RdCh w w.heap.size B p) (hb2 : n2 ≤ 140737488355328) (hv : okVs p) (hT : Lib.Utf8Tabs 1 2 w) :
    Calls Tryz.prog 30 #[.slice A n c, .slice B n2 c2] w fun e w' => e = .returned (.int .i64 (mayP l p)) ∧ Below w.heap.size w w' := by
  have N := Lib.hid hn
  have N2 := Lib.hid hn2
  generalize hR : mayP l p = R
  have HR := Lib.hid hR
  clear hn hn2 hR
  go_enter Tryz.func30, Tryz.ntmps30
  go_wp2_with (go_at_call 68; refine Hid.out ?_)
  refine Lib.hid ?_
  refine (risingC_any B n2 c2 p w N2.out h2 hb2).mono ?_
  rintro e w1 ⟨rfl, d, rfl⟩
  generalize hrr : riseC p = Q
  have HQ := Lib.hid hrr
  clear hrr
  cases Q with
  | false =>
    go_wp2_with (fail)
    go_ret
    refine ⟨ret_int ?_, ext_drew _ _⟩
    rw [← HR.out]
    unfold mayP
    rw [HQ.out]
    by_cases h : 64 < p.length <;> simp [h]
  | true =>
    by_cases h64 : (64 : Int) < (n2 : Int)
    · go_wp2_with (fail)
      go_ret
      refine ⟨ret_int ?_, ext_drew _ _⟩
      rw [← HR.out]
      unfold mayP
      rw [if_pos (by have := N2.out; omega)]
    have HP : Hid ((if p.all okC = true then (if p.all (thereC l) = true then 0 else 4) else 3) = R) := Lib.hid (by
      rw [← HR.out]
      unfold mayP
      rw [if_neg (show ¬ (64 < p.length) by have := N2.out; omega), HQ.out]
      simp)
    obtain ⟨R1, hR1⟩ : ∃ X, p.all okC = X := ⟨_, rfl⟩
    have HR1 := Lib.hid hR1
    clear hR1
    go_wp2_with (fail)
    go_loopg [5] n2 (fun g iv wr => ∃ m : Nat, m ≤ n2 ∧ g = n2 - m ∧ iv = .int .i64 (m : Int) ∧ Below w.heap.size w wr ∧ Hid ((p.drop m).all okC = R1))
    case atStart => exact ⟨0, by omega, rfl, rfl, ext_drew _ _, Lib.hid (by rw [List.drop_zero]; exact HR1.out)⟩
    case round =>
      obtain ⟨m, hm, hg, rfl, y, HI⟩ := hrel
      have HG := Lib.hid hg
      clear hg HR
      by_cases hlt : m < n2
      · have hl1 : m < p.length := by have := N2.out; omega
        obtain ⟨ad, x, rfl, had, hd1, hx1, hc0⟩ := (h2.below y (Nat.le_refl _)).el hl1
        have hxv := hv x (List.mem_of_getElem? hx1)
        have HI2 := Lib.hid (all_drop hd1 HI.out)
        obtain ⟨x1, g, x2, x3, x4, x5⟩ := x
        obtain ⟨r0, r1, r2, r3, r4, r5⟩ := ch_cells hc0
        obtain ⟨f0, f1⟩ : 0 ≤ x4 ∧ x4 < 18446744073709551616 := ⟨hxv.1.f0, hxv.1.f1⟩
        have hsz : x5.size ≤ 100000000 := hxv.2
        clear hc0 hd1 hx1 hxv HI
        have hw2 : IntKind.i64.wrap ((m:Int) + 1) = (m : Int) + 1 := IntWalk.i64_in _ (by omega)
        cases g with
        | true =>
          cases hz : beqV ⟨x2, x3, x4, x5⟩ ⟨0, 0, 0, ⟨#[]⟩⟩ with
          | false =>
            have HOK : Hid (okC ⟨x1, true, x2, x3, x4, x5⟩ = false) := Lib.hid hz
            have HF : Hid (p.all okC = false) := Lib.hid (by rw [HR1.out, ← HI2.out, HOK.out]; rfl)
            go_wp2_with (fail)
            go_ret
            exact ⟨ret_int (by rw [← HP.out, HF.out]; rfl), y⟩
          | true =>
            have HOK : Hid (okC ⟨x1, true, x2, x3, x4, x5⟩ = true) := Lib.hid hz
            go_wp2_with (fail)
            go_roundg (n2 - (m + 1))
            case measure => have := HG.out; omega
            case rel => exact ⟨m + 1, by omega, rfl, by go_num, y, Lib.hid (by rw [← HI2.out, HOK.out, Bool.true_and])⟩
        | false =>
          go_wp2_with (go_at_call 69; refine Hid.out ?_)
          refine Lib.hid ?_
          refine (refMayV_any x2 x3 x4 x5 _ f0 f1 hsz ?tb).mono ?_
          case tb => exact tabs_at hT y rfl
          rintro e w6 ⟨rfl, y6⟩
          have HOK : Hid (okC ⟨x1, false, x2, x3, x4, x5⟩ = mayV ⟨x2, x3, x4, x5⟩) := Lib.hid rfl
          generalize mayV ⟨x2, x3, x4, x5⟩ = M at HOK ⊢
          have yy6 := below_at y y6 rfl rfl rfl rfl
          cases M with
          | false =>
            have HF : Hid (p.all okC = false) := Lib.hid (by rw [HR1.out, ← HI2.out, HOK.out]; rfl)
            go_wp2_with (fail)
            go_ret
            exact ⟨ret_int (by rw [← HP.out, HF.out]; rfl), yy6⟩
          | true =>
            go_wp2_with (fail)
            go_roundg (n2 - (m + 1))
            case measure => have := HG.out; omega
            case rel => exact ⟨m + 1, by omega, rfl, by go_num, yy6, Lib.hid (by rw [← HI2.out, HOK.out, Bool.true_and])⟩
      · have HF : Hid (p.all okC = true) := Lib.hid (by rw [HR1.out, ← HI.out, List.drop_eq_nil_of_le (by have := N2.out; omega)]; rfl)
        clear HI HR1
        obtain ⟨R2, hR2⟩ : ∃ X, p.all (thereC l) = X := ⟨_, rfl⟩
        have HR2 := Lib.hid hR2
        clear hR2
        go_wp2_with (fail)
        go_loopg [6] n2 (fun g iv wr => ∃ m : Nat, m ≤ n2 ∧ g = n2 - m ∧ iv = .int .i64 (m : Int) ∧ Below w.heap.size w wr ∧ Hid ((p.drop m).all (thereC l) = R2))
        case atStart => exact ⟨0, by omega, rfl, rfl, y, Lib.hid (by rw [List.drop_zero]; exact HR2.out)⟩
        case round =>
          obtain ⟨m, hm, hg, rfl, y, HI⟩ := hrel
          have HG := Lib.hid hg
          clear hg
          by_cases hlt : m < n2
          · have hl1 : m < p.length := by have := N2.out; omega
            obtain ⟨ad, x, rfl, had, hd1, hx1, hc0⟩ := (h2.below y (Nat.le_refl _)).el hl1
            obtain ⟨ad', x', e', _, _, hx1', hcw⟩ := h2.el hl1
            injection e' with e'
            subst e'
            rw [hx1] at hx1'
            injection hx1' with hx1'
            subst hx1'
            have hxv := hv x (List.mem_of_getElem? hx1)
            have HI2 := Lib.hid (all_drop hd1 HI.out)
            obtain ⟨x1, g, x2, x3, x4, x5⟩ := x
            obtain ⟨r0, r1, r2, r3, r4, r5⟩ := ch_cells hc0
            have HCW := Lib.hid hcw
            obtain ⟨f0, f1⟩ : 0 ≤ x4 ∧ x4 < 18446744073709551616 := ⟨hxv.1.f0, hxv.1.f1⟩
            have hsz : x5.size ≤ 100000000 := hxv.2
            clear hc0 hd1 hx1 hxv HI hcw
            have hw2 : IntKind.i64.wrap ((m:Int) + 1) = (m : Int) + 1 := IntWalk.i64_in _ (by omega)
            go_wp2_with (go_at_call 70; refine Hid.out ?_)
            refine Lib.hid ?_
            refine (findR_any A n c l x1 wr N.out ((h.below y (Nat.le_refl _)).more y.size) hb).mono ?_
            rintro e w3 ⟨k1, k2, k3, k4, k5, k6, q, rfl, hq1, hq2, y3⟩
            have HQ2 := Lib.hid hq2
            have y4 := ext_alloc w3 (.cells #[.int .i64 k1, .bool k2, .int .u8 k3, .bool k4, .bool k5, .int .i64 k6] 74)
            have y5 := ext_trans y (ext_trans y3 y4)
            clear hq1 hq2 r0 r1 r2 r3 r4 r5
            have gg : GoodB w [] _ := ⟨y5, by intro p hp; cases hp⟩
            have hx : ∀ x : GW w [], CellsAt x.val (ad.add (m * 6)) (Ch.enc ⟨x1, g, x2, x3, x4, x5⟩) := fun x => HCW.out.keep fun q hq => x.ok.1.cell (by rw [hq, add_block]; exact had)
            have r0 : ∀ x : GW w [], _ := fun x => (ch_cells (hx x)).1
            have r1 : ∀ x : GW w [], _ := fun x => (ch_cells (hx x)).2.1
            have r2 : ∀ x : GW w [], _ := fun x => (ch_cells (hx x)).2.2.1
            have r3 : ∀ x : GW w [], _ := fun x => (ch_cells (hx x)).2.2.2.1
            have r4 : ∀ x : GW w [], _ := fun x => (ch_cells (hx x)).2.2.2.2.1
            have r5 : ∀ x : GW w [], _ := fun x => (ch_cells (hx x)).2.2.2.2.2
            clear hx
            haveI : Nonempty (GW w []) := ⟨⟨_, gg⟩⟩
            cases q with
            | false =>
              have HTH : Hid (thereC l ⟨x1, g, x2, x3, x4, x5⟩ = false) := Lib.hid (by unfold thereC; rw [HQ2.out]; rfl)
              go_wp2_with (fail)
              refine wp_region_class (by kernel_rfl) (by kernel_rfl) gg ?_
              repeat (go_big_quiet_step (fail))
              refine wpQuiet_nil ?_
              intro _ hw'
              obtain ⟨xx, rfl⟩ := hw'
              have yx := xx.ok.1
              generalize xx.val = w8 at *
              clear r0 r1 r2 r3 r4 r5
              go_wp2_with (fail)
              go_ret
              exact ⟨ret_int (by rw [← HP.out, HF.out, show p.all (thereC l) = false by rw [HR2.out, ← HI2.out, HTH.out]; rfl]; rfl), yx⟩
            | true =>
              cases g with
              | true =>
                have HTH : Hid (thereC l ⟨x1, true, x2, x3, x4, x5⟩ = true) := Lib.hid (by unfold thereC; rw [HQ2.out]; rfl)
                go_wp2_with (fail)
                refine wp_region_class (by kernel_rfl) (by kernel_rfl) gg ?_
                repeat (go_big_quiet_step (fail))
                refine wpQuiet_nil ?_
                intro _ hw'
                obtain ⟨xx, rfl⟩ := hw'
                have yx := xx.ok.1
                generalize xx.val = w8 at *
                clear r0 r1 r2 r3 r4 r5
                go_wp2_with (fail)
                go_roundg (n2 - (m + 1))
                case measure => have := HG.out; omega
                case rel => exact ⟨m + 1, by omega, rfl, by go_num, yx, Lib.hid (by rw [← HI2.out, HTH.out, Bool.true_and])⟩
              | false =>
                obtain ⟨FI, hFI⟩ : ∃ X, fitsK l x1 ⟨x2, x3, x4, x5⟩ = X := ⟨_, rfl⟩
                have HFI := Lib.hid hFI
                have HTH : Hid (thereC l ⟨x1, false, x2, x3, x4, x5⟩ = FI) := Lib.hid (by unfold thereC; rw [HQ2.out, ← hFI]; rfl)
                clear hFI
                cases FI with
                | false =>
                  go_wp2_with (fail)
                  refine wp_region_class (by kernel_rfl) (by kernel_rfl) gg ?_
                  repeat (go_big_quiet_step (first | (go_at_call 71; with_reducible exact fitsR_class hT N.out h hb f0 f1 hsz _ HFI.out)))
                  refine wpQuiet_nil ?_
                  intro _ hw'
                  obtain ⟨xx, rfl⟩ := hw'
                  have yx := xx.ok.1
                  generalize xx.val = w8 at *
                  clear r0 r1 r2 r3 r4 r5
                  go_wp2_with (fail)
                  go_ret
                  exact ⟨ret_int (by rw [← HP.out, HF.out, show p.all (thereC l) = false by rw [HR2.out, ← HI2.out, HTH.out]; rfl]; rfl), yx⟩
                | true =>
                  go_wp2_with (fail)
                  refine wp_region_class (by kernel_rfl) (by kernel_rfl) gg ?_
                  repeat (go_big_quiet_step (first | (go_at_call 71; with_reducible exact fitsR_class hT N.out h hb f0 f1 hsz _ HFI.out)))
                  refine wpQuiet_nil ?_
                  intro _ hw'
                  obtain ⟨xx, rfl⟩ := hw'
                  have yx := xx.ok.1
                  generalize xx.val = w8 at *
                  clear r0 r1 r2 r3 r4 r5
                  go_wp2_with (fail)
                  go_roundg (n2 - (m + 1))
                  case measure => have := HG.out; omega
                  case rel => exact ⟨m + 1, by omega, rfl, by go_num, yx, Lib.hid (by rw [← HI2.out, HTH.out, Bool.true_and])⟩
          · have HF2 : Hid (p.all (thereC l) = true) := Lib.hid (by rw [HR2.out, ← HI.out, List.drop_eq_nil_of_le (by have := N2.out; omega)]; rfl)
            go_wp2_with (fail)
            go_ret
            exact ⟨ret_int (by rw [← HP.out, HF.out, HF2.out]; rfl), y⟩
end Go.Proofs.YtipoeidmblnbbaaGreatDoor
