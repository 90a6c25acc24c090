/- Merged texts: AttrsMayFn, DelFn, OpForm. -/
import Derived.Test.YtfnkjcodcoehcaaGreatDoorS12
import Derived.Test.YtfnkjcodcoehcaaGreatDoorS13
import Derived.Test.YtfnkjcodcoehcaaGreatDoorS1
import Derived.Test.YtfnkjcodcoehcaaGreatDoorS9
namespace Go.Proofs.YtfnkjcodcoehcaaGreatDoor
open Go.RowKit
set_option linter.unusedVariables false
set_option linter.unusedSimpArgs false

/-- the fields' ranges of the attributes' values -/
def okVr (p : List At) : Prop := ∀ c ∈ p, okV c.v
def loopS (l : List Ky) : Option Int → Int → List At → Int
  | _, e, [] => e
  | prev, e, c :: r => if (prev.all (fun k => decide (k < c.key)) && okA c) = true then loopS l (some c.key) (if thereA l c = true then e else 4) r else 3
theorem loopS_some (l : List Ky) : ∀ (p : List At) (k : Int) (e : Int), loopS l (some k) e p = if rise (k :: p.map (·.key)) = true ∧ p.all okA = true then (if p.all (thereA l) = true then e else 4) else 3
  | [], k, e => by simp [loopS, rise]
  | c :: r, k, e => by
    unfold loopS
    rw [loopS_some l r c.key]
    by_cases h1 : k < c.key
    · by_cases h2 : okA c = true
      · by_cases h3 : thereA l c = true
        · simp [h1, h2, h3, rise]
        · have h3 : thereA l c = false := by simpa using h3
          simp [h1, h2, h3, rise]
      · have h2 : okA c = false := by simpa using h2
        simp [h1, h2]
    · simp [h1, rise]
theorem loopS_none (l : List Ky) (p : List At) (h : p.length ≤ 64) : loopS l none 0 p = mayS l p := by
  unfold mayS
  rw [if_neg (by omega)]
  cases p with
  | nil => simp [loopS, riseA, rise]
  | cons c r =>
    unfold loopS
    rw [loopS_some]
    by_cases h2 : okA c = true
    · by_cases h3 : thereA l c = true
      · simp [h2, h3, riseA]
      · have h3 : thereA l c = false := by simpa using h3
        simp [h2, h3, riseA]
    · have h2 : okA c = false := by simpa using h2
      simp [h2]
theorem mayV_class {k n f : Int} {s : ByteArray} {b : Bool} {w : World} {O : List (Nat × Obj)} (hT : Lib.Utf8Tabs 1 2 w) (h0 : 0 ≤ f) (h1 : f < 18446744073709551616) (h : mayV ⟨k, n, f, s⟩ = b) (x : GW w O) :
    Calls Tryz.prog 184 #[.agg #[.int .u8 k, .int .i64 n, .int .u64 f, .string s]] x.val fun e w' => e = .returned (.bool b) ∧ ∃ y : GW w O, w' = y.val :=
  good_call x ((mayV_any k n f s x.val h0 h1 (tabs_good hT x)).mono fun e w' h' => ⟨by rw [h'.1, h], h'.2⟩)

set_option maxRecDepth 100000 in
set_option maxHeartbeats 3200000 in
theorem mayS_any (s : Nat) (l : List Ky) (A : Option Addr) (n c : Nat) (p : List At) (w : World) (hn : n = p.length) (h : RdAt w w.heap.size A p) (hb : n ≤ 140737488355328) (hS : Sch w s l) (hv : okVr p) (hT : Lib.Utf8Tabs 1 2 w) :
    Calls Tryz.prog 131 #[.pointer (some ⟨s, 0, none⟩), .slice A n c] w fun e w' => e = .returned (.int .i64 (mayS l p)) ∧ Below w.heap.size w w' := by
  have N := Lib.hid hn
  generalize hR : mayS l p = R
  have HR := Lib.hid hR
  clear hn hR
  by_cases h64 : (64 : Int) < (n : Int)
  · go_enter Tryz.func131, Tryz.ntmps131
    go_wp2_with (fail)
    go_ret
    refine ⟨ret_int ?_, Below.refl _ _⟩
    rw [← HR.out]
    have := N.out
    unfold mayS
    rw [if_pos (by omega)]
  have HP : Hid (loopS l none 0 p = R) := Lib.hid (by rw [← HR.out]; exact loopS_none l p (by have := N.out; omega))
  go_enter Tryz.func131, Tryz.ntmps131
  go_wp2_with (fail)
  go_loopg [5, 13] n (fun g ev iv wr => ∃ (m : Nat) (ei : Int), m ≤ n ∧ g = n - m ∧ ev = .int .i64 ei ∧ iv = .int .i64 (m : Int) ∧ Below w.heap.size w wr ∧ Hid (loopS l (if m = 0 then none else (p[m - 1]?).map (·.key)) ei (p.drop m) = R))
  case atStart => exact ⟨0, 0, by omega, rfl, rfl, rfl, Below.refl _ _, Lib.hid (by rw [List.drop_zero]; exact HP.out)⟩
  case round =>
    obtain ⟨m, ei, hm, hg, rfl, rfl, y, HI⟩ := hrel
    have HG := Lib.hid hg
    clear hg HR HP
    by_cases hlt : m < n
    · have hl1 : m < p.length := by have := N.out; omega
      obtain ⟨ad, x, rfl, had, hd1, hx1, hc0⟩ := (h.below y (Nat.le_refl _)).el hl1
      have hxv := hv x (List.mem_of_getElem? hx1)
      obtain ⟨x1, x2, x3, x4, x5⟩ := x
      obtain ⟨r0, r1, r2, r3, r4⟩ := at_cells hc0
      obtain ⟨f0, f1⟩ : 0 ≤ x4 ∧ x4 < 18446744073709551616 := ⟨hxv.f0, hxv.f1⟩
      have HI2 : Hid ((if ((if m = 0 then none else (p[m - 1]?).map (·.key)).all (fun k => decide (k < x1)) && okA ⟨x1, x2, x3, x4, x5⟩) = true then loopS l (some x1) (if thereA l ⟨x1, x2, x3, x4, x5⟩ = true then ei else 4) (p.drop (m + 1)) else 3) = R) := Lib.hid (by
        rw [← HI.out, hd1]; rfl)
      have HX := Lib.hid hx1
      have hk2 := heap_alloc_new wr (.cells #[.int .i64 x1, .int .u8 x2, .int .i64 x3, .int .u64 x4, .string x5] 43)
      have y2 := ext_trans y (ext_alloc wr (.cells #[.int .i64 x1, .int .u8 x2, .int .i64 x3, .int .u64 x4, .string x5] 43))
      have HK2 := Lib.hid hk2
      clear hc0 hd1 hx1 HI hxv
      have hw2 : IntKind.i64.wrap ((m:Int) + 1) = (m : Int) + 1 := IntWalk.i64_in _ (by omega)
      obtain ⟨M, hM⟩ : ∃ X, mayV ⟨x2, x3, x4, x5⟩ = X := ⟨_, rfl⟩
      have HM := Lib.hid hM
      have HOK : Hid (okA ⟨x1, x2, x3, x4, x5⟩ = M) := Lib.hid hM
      clear hM hk2
      go_wp2_with (fail)
      have hB : wr.heap.size = wr.heap.size := rfl
      obtain ⟨O, hO⟩ : ∃ O : List (Nat × Obj), O = [(wr.heap.size, .cells #[.int .i64 x1, .int .u8 x2, .int .i64 x3, .int .u64 x4, .string x5] 43 (0, 0))] := ⟨_, rfl⟩
      have gg : GoodB w O _ := ⟨y2, by rw [hO]; intro p hp; simp only [List.mem_cons, List.not_mem_nil, or_false] at hp; rcases hp with rfl; exact HK2.out⟩
      have b0 : ∀ x : GW w O, x.val.cell? ⟨wr.heap.size, 0, none⟩ = some (.int .i64 x1) := fun x => good_cells (cs := #[.int .i64 x1, .int .u8 x2, .int .i64 x3, .int .u64 x4, .string x5]) (t := 43) (by rw [hO]; simp) x 0 _ rfl
      have b1 : ∀ x : GW w O, x.val.cell? ⟨wr.heap.size, 1, none⟩ = some (.int .u8 x2) := fun x => good_cells (cs := #[.int .i64 x1, .int .u8 x2, .int .i64 x3, .int .u64 x4, .string x5]) (t := 43) (by rw [hO]; simp) x 1 _ rfl
      have b2 : ∀ x : GW w O, x.val.cell? ⟨wr.heap.size, 2, none⟩ = some (.int .i64 x3) := fun x => good_cells (cs := #[.int .i64 x1, .int .u8 x2, .int .i64 x3, .int .u64 x4, .string x5]) (t := 43) (by rw [hO]; simp) x 2 _ rfl
      have b3 : ∀ x : GW w O, x.val.cell? ⟨wr.heap.size, 3, none⟩ = some (.int .u64 x4) := fun x => good_cells (cs := #[.int .i64 x1, .int .u8 x2, .int .i64 x3, .int .u64 x4, .string x5]) (t := 43) (by rw [hO]; simp) x 3 _ rfl
      have b4 : ∀ x : GW w O, x.val.cell? ⟨wr.heap.size, 4, none⟩ = some (.string x5) := fun x => good_cells (cs := #[.int .i64 x1, .int .u8 x2, .int .i64 x3, .int .u64 x4, .string x5]) (t := 43) (by rw [hO]; simp) x 4 _ rfl
      have HBX : Hid (∀ x : GW w O, x.val.heap[wr.heap.size]? = some (.cells #[.int .i64 x1, .int .u8 x2, .int .i64 x3, .int .u64 x4, .string x5] 43 (0, 0))) := Lib.hid (fun x => good_block (by rw [hO]; simp) x)
      clear hO r0 r1 r2 r3 r4 hB
      haveI : Nonempty (GW w O) := ⟨⟨_, gg⟩⟩
      cases m with
      | zero =>
        have HI3 : Hid ((if okA ⟨x1, x2, x3, x4, x5⟩ = true then loopS l (some x1) (if thereA l ⟨x1, x2, x3, x4, x5⟩ = true then ei else 4) (p.drop (0 + 1)) else 3) = R) := Lib.hid (by rw [← HI2.out]; simp)
        clear HI2
        cases M with
        | false =>
          refine wp_region_class (by kernel_rfl) (by kernel_rfl) gg ?_
          repeat (go_big_quiet_step (first | (go_at_call 184; with_reducible exact mayV_class hT f0 f1 HM.out _)))
          refine wpQuiet_nil ?_
          intro _ hw'
          obtain ⟨xx, rfl⟩ := hw'
          have yx := xx.ok.1
          have hbx := HBX.out xx
          generalize xx.val = w8 at *
          clear b0 b1 b2 b3 b4
          go_wp2_with (fail)
          go_ret
          exact ⟨ret_int (by rw [← HI3.out, HOK.out]; rfl), yx⟩
        | true =>
          refine wp_region_class (by kernel_rfl) (by kernel_rfl) gg ?_
          repeat (go_big_quiet_step (first | (go_at_call 184; with_reducible exact mayV_class hT f0 f1 HM.out _)))
          refine wpQuiet_nil ?_
          intro _ hw'
          obtain ⟨xx, rfl⟩ := hw'
          have yx := xx.ok.1
          have hbx := HBX.out xx
          generalize xx.val = w8 at *
          clear b0 b1 b2 b3 b4
          obtain ⟨b0, b1, b2, b3, b4⟩ := box_at hbx
          have HTH : Hid (thereA l ⟨x1, x2, x3, x4, x5⟩ = fitsK l x1 ⟨x2, x3, x4, x5⟩) := Lib.hid rfl
          clear hbx
          go_wp2_with (go_at_call 185; refine Hid.out ?_)
          refine Lib.hid ?_
          refine (fitsS_any s l x1 x2 x3 x4 x5 _ (hS.ext yx) f0 f1 (Utf8Tabs_below hT yx)).mono ?_
          rintro e w7 ⟨rfl, y7⟩
          have yy7 := ext_trans yx y7
          generalize fitsK l x1 ⟨x2, x3, x4, x5⟩ = F at HTH ⊢
          cases F with
          | false =>
            go_wp2_with (fail)
            go_roundg (n - (0 + 1))
            case measure => have := HG.out; omega
            case rel => exact ⟨0 + 1, 4, by omega, rfl, rfl, by go_num, yy7, Lib.hid (by rw [← HI3.out, if_neg (show ¬ (0 + 1 = 0) by omega), Nat.add_sub_cancel, HX.out]; rw [HOK.out, HTH.out]; rfl)⟩
          | true =>
            go_wp2_with (fail)
            go_roundg (n - (0 + 1))
            case measure => have := HG.out; omega
            case rel => exact ⟨0 + 1, ei, by omega, rfl, rfl, by go_num, yy7, Lib.hid (by rw [← HI3.out, if_neg (show ¬ (0 + 1 = 0) by omega), Nat.add_sub_cancel, HX.out]; rw [HOK.out, HTH.out]; rfl)⟩
      | succ k =>
        obtain ⟨ad', z, e, _, _, hz1, hz0⟩ := h.el (show k < p.length by omega)
        injection e with e; subst e
        obtain ⟨z1, z2, z3, z4, z5⟩ := z
        have HZ := Lib.hid hz0
        have s0 : ∀ x : GW w O, x.val.cell? _ = some (Value.int IntKind.i64 z1) := fun x => (at_cells (HZ.out.keep (w' := x.val) fun q hq => x.ok.1.cell (by rw [hq, add_block]; exact had))).1
        have HI4 : Hid ((if (decide (z1 < x1) && okA ⟨x1, x2, x3, x4, x5⟩) = true then loopS l (some x1) (if thereA l ⟨x1, x2, x3, x4, x5⟩ = true then ei else 4) (p.drop (k + 1 + 1)) else 3) = R) := Lib.hid (by
          rw [← HI2.out, if_neg (show ¬ (k + 1 = 0) by omega), Nat.add_sub_cancel, hz1]; simp)
        clear HI2 hz1 hz0
        have hkn : k < n := by omega
        have hw1 : IntKind.i64.wrap (k:Int) = (k : Int) := IntWalk.i64_in _ (by omega)
        by_cases hle : x1 ≤ z1
        · have HI3 : Hid ((3 : Int) = R) := Lib.hid (by rw [← HI4.out, show decide (z1 < x1) = false from decide_eq_false (by omega)]; simp)
          clear HI4
          refine wp_region_class (by kernel_rfl) (by kernel_rfl) gg ?_
          repeat (go_big_quiet_step (first | (go_at_call 184; with_reducible exact mayV_class hT f0 f1 HM.out _)))
          refine wpQuiet_nil ?_
          intro _ hw'
          obtain ⟨xx, rfl⟩ := hw'
          have yx := xx.ok.1
          have hbx := HBX.out xx
          generalize xx.val = w8 at *
          clear b0 b1 b2 b3 b4 s0
          go_wp2_with (fail)
          go_ret
          exact ⟨ret_int HI3.out, yx⟩
        · have HI3 : Hid ((if okA ⟨x1, x2, x3, x4, x5⟩ = true then loopS l (some x1) (if thereA l ⟨x1, x2, x3, x4, x5⟩ = true then ei else 4) (p.drop (k + 1 + 1)) else 3) = R) := Lib.hid (by rw [← HI4.out, show decide (z1 < x1) = true from decide_eq_true (by omega)]; simp)
          clear HI4
          cases M with
          | false =>
            refine wp_region_class (by kernel_rfl) (by kernel_rfl) gg ?_
            repeat (go_big_quiet_step (first | (go_at_call 184; with_reducible exact mayV_class hT f0 f1 HM.out _)))
            refine wpQuiet_nil ?_
            intro _ hw'
            obtain ⟨xx, rfl⟩ := hw'
            have yx := xx.ok.1
            have hbx := HBX.out xx
            generalize xx.val = w8 at *
            clear b0 b1 b2 b3 b4 s0
            go_wp2_with (fail)
            go_ret
            exact ⟨ret_int (by rw [← HI3.out, HOK.out]; rfl), yx⟩
          | true =>
            refine wp_region_class (by kernel_rfl) (by kernel_rfl) gg ?_
            repeat (go_big_quiet_step (first | (go_at_call 184; with_reducible exact mayV_class hT f0 f1 HM.out _)))
            refine wpQuiet_nil ?_
            intro _ hw'
            obtain ⟨xx, rfl⟩ := hw'
            have yx := xx.ok.1
            have hbx := HBX.out xx
            generalize xx.val = w8 at *
            clear b0 b1 b2 b3 b4 s0
            obtain ⟨b0, b1, b2, b3, b4⟩ := box_at hbx
            have HTH : Hid (thereA l ⟨x1, x2, x3, x4, x5⟩ = fitsK l x1 ⟨x2, x3, x4, x5⟩) := Lib.hid rfl
            clear hbx
            go_wp2_with (go_at_call 185; refine Hid.out ?_)
            refine Lib.hid ?_
            refine (fitsS_any s l x1 x2 x3 x4 x5 _ (hS.ext yx) f0 f1 (Utf8Tabs_below hT yx)).mono ?_
            rintro e w7 ⟨rfl, y7⟩
            have yy7 := ext_trans yx y7
            generalize fitsK l x1 ⟨x2, x3, x4, x5⟩ = F at HTH ⊢
            cases F with
            | false =>
              go_wp2_with (fail)
              go_roundg (n - ((k + 1) + 1))
              case measure => have := HG.out; omega
              case rel => exact ⟨(k + 1) + 1, 4, by omega, rfl, rfl, by go_num, yy7, Lib.hid (by rw [← HI3.out, if_neg (show ¬ ((k + 1) + 1 = 0) by omega), Nat.add_sub_cancel, HX.out]; rw [HOK.out, HTH.out]; rfl)⟩
            | true =>
              go_wp2_with (fail)
              go_roundg (n - ((k + 1) + 1))
              case measure => have := HG.out; omega
              case rel => exact ⟨(k + 1) + 1, ei, by omega, rfl, rfl, by go_num, yy7, Lib.hid (by rw [← HI3.out, if_neg (show ¬ ((k + 1) + 1 = 0) by omega), Nat.add_sub_cancel, HX.out]; rw [HOK.out, HTH.out]; rfl)⟩
    · have hmn : m = n := by omega
      go_wp2_with (fail)
      go_ret
      refine ⟨ret_int ?_, y⟩
      rw [← HI.out, List.drop_eq_nil_of_le (by have := N.out; omega)]
      rfl
end Go.Proofs.YtfnkjcodcoehcaaGreatDoor
namespace Go.Proofs.YtfnkjcodcoehcaaGreatDoor
def IdxOut {α : Type} (pr : α → Bool) (l : List α) (i : Int) : Prop :=
  (i = -1 ∧ ∀ x ∈ l, pr x = false) ∨ ∃ j : Nat, i = j ∧ j < l.length ∧ (∀ x ∈ l.take j, pr x = false) ∧ ∃ x, l[j]? = some x ∧ pr x = true
end Go.Proofs.YtfnkjcodcoehcaaGreatDoor
namespace Go.Proofs.YtfnkjcodcoehcaaGreatDoor
open Go.RowKit
set_option linter.unusedVariables false
set_option linter.unusedSimpArgs false

set_option maxHeartbeats 400000 in
theorem formCl_any (r : Int) (w : World) : Calls Tryz.prog 231 #[.int .i32 r] w fun e w' => e = .returned (.bool (!mayR r)) ∧ w = w' := by
  go_enter Tryz.func231, Tryz.ntmps231
  go_wp2_with (go_at_call 130; refine Hid.out ?_)
  refine Lib.hid ?_
  refine (may_any r w).mono ?_
  rintro e w' ⟨rfl, rfl⟩
  go_wp2_with (fail)
  go_ret
  exact ⟨rfl, rfl⟩

set_option maxRecDepth 100000 in
set_option maxHeartbeats 400000 in
theorem indexR_any (A : Option Addr) (n c : Nat) (l : List Int) (w : World) (hn : n = l.length) (h : RdI32 w w.heap.size A l) (hb : n ≤ 140737488355328) :
    Calls Tryz.prog 240 #[.slice A n c, .func (.func 231) #[] #[]] w fun e w' => ∃ i : Int, e = .returned (.int .i64 i) ∧ IdxOut (fun r => !mayR r) l i ∧ w = w' := by
  have N := Lib.hid hn
  clear hn
  go_enter Tryz.func240, Tryz.ntmps240
  go_wp2_with (fail)
  go_loopg [8] n (fun g iv wr => ∃ i : Nat, i ≤ n ∧ g = n - i ∧ iv = .int .i64 i ∧ w = wr ∧ Hid (∀ x ∈ l.take i, (!mayR x) = false))
  case atStart => exact ⟨0, by omega, rfl, rfl, rfl, Lib.hid (by simp)⟩
  case round =>
    obtain ⟨i, hi, hg, rfl, rfl, HI⟩ := hrel
    have HG := Lib.hid hg
    clear hg
    by_cases hlt : i < n
    · have hil : i < l.length := by have := N.out; omega
      obtain ⟨ad, x, rfl, _, _, hx, hc1⟩ := h.el hil
      have HT : Hid (l.take (i + 1) = l.take i ++ [x]) := Lib.hid (by rw [List.take_add_one, hx]; rfl)
      have HX := Lib.hid hx
      have r0 := hc1 0 _ rfl
      rw [add_zero', Nat.mul_one] at r0
      clear hx hil hc1
      have hw2 : IntKind.i64.wrap ((i:Int) + 1) = (i : Int) + 1 := IntWalk.i64_in _ (by omega)
      cases hp : mayR x with
      | false =>
        have HP := Lib.hid hp
        clear hp
        go_wp2_with (go_at_call 231; refine Hid.out ?_)
        refine Lib.hid ?_
        refine (formCl_any x w).mono ?_
        rintro e w' ⟨rfl, rfl⟩
        rw [HP.out]
        go_wp2_with (fail)
        go_ret
        exact ⟨i, rfl, .inr ⟨i, rfl, by have := N.out; omega, HI.out, _, HX.out, by show (!mayR x) = true; rw [HP.out]; rfl⟩, rfl⟩
      | true =>
        have HP := Lib.hid hp
        clear hp
        go_wp2_with (go_at_call 231; refine Hid.out ?_)
        refine Lib.hid ?_
        refine (formCl_any x w).mono ?_
        rintro e w' ⟨rfl, rfl⟩
        rw [HP.out]
        go_wp2_with (fail)
        go_roundg (n - (i + 1))
        case measure => have := HG.out; omega
        case rel =>
          refine ⟨i + 1, by omega, rfl, by go_num, rfl, Lib.hid ?_⟩
          intro y hy
          rw [HT.out] at hy
          rcases List.mem_append.1 hy with hy | hy
          · exact HI.out y hy
          · simp at hy; rw [hy, HP.out]; rfl
    · go_wp2_with (fail)
      go_ret
      refine ⟨-1, rfl, .inl ⟨rfl, ?_⟩, rfl⟩
      have h1 := HI.out
      rw [List.take_of_length_le (by have := N.out; omega)] at h1
      exact h1

theorem idx_any {α : Type} {pr : α → Bool} {l : List α} {i : Int} (h : IdxOut pr l i) : decide (0 ≤ i) = l.any pr := by
  rcases h with ⟨rfl, h⟩ | ⟨j, rfl, hj, _, x, hx, hp⟩
  · have : l.any pr = false := List.any_eq_false.2 (fun x hx => by simp [h x hx])
    rw [this]; rfl
  · have : l.any pr = true := List.any_eq_true.2 ⟨x, List.mem_of_getElem? hx, hp⟩
    rw [this]
    simp
set_option maxHeartbeats 400000 in
theorem containsR_any (A : Option Addr) (n c : Nat) (l : List Int) (w : World) (hn : n = l.length) (h : RdI32 w w.heap.size A l) (hb : n ≤ 140737488355328) :
    Calls Tryz.prog 230 #[.slice A n c, .func (.func 231) #[] #[]] w fun e w' => e = .returned (.bool (l.any (fun r => !mayR r))) ∧ w = w' := by
  have N := Lib.hid hn
  clear hn
  generalize hr : l.any (fun r => !mayR r) = r
  have HR := Lib.hid hr
  clear hr
  go_enter Tryz.func230, Tryz.ntmps230
  go_wp2_with (go_at_call 240; refine Hid.out ?_)
  refine Lib.hid ?_
  refine (indexR_any A n c l w N.out h hb).mono ?_
  rintro e w1 ⟨i, rfl, hi, rfl⟩
  have hd := idx_any hi
  rw [HR.out] at hd
  clear hi
  go_wp2_with (fail)
  go_ret
  exact ⟨by first | rfl | exact ret_bool hd, rfl⟩

/-- has an op the form of its kind? -/
def formO (o : Opd) : Bool :=
  if o.k = 1 then decide (o.r.length = 0 ∧ o.s.length = 0)
  else if o.k = 3 then decide ((o.r.length = 0 ∧ o.s.length = 0) ∧ o.p.length = 0)
  else if o.k = 2 then decide (o.n = 0 ∧ o.p.length = 0) && !o.r.any (fun r => !mayR r)
  else false

set_option maxRecDepth 100000 in
set_option maxHeartbeats 1600000 in
theorem formO_any (k n : Int) (Ar As Ap : Option Addr) (r : List Int) (s : List At) (p : List Ch) (cr cs cp : Nat) (w : World) (h : RdI32 w w.heap.size Ar r) (hb : r.length ≤ 140737488355328) :
    Calls Tryz.prog 208 #[.agg #[.int .u8 k, .int .i64 n, .slice Ar r.length cr, .slice As s.length cs, .slice Ap p.length cp]] w fun e w' => e = .returned (.bool (formO ⟨k, n, r, s, p⟩)) ∧ Below w.heap.size w w' := by
  have y0 := ext_alloc w (.cells #[.int .u8 k, .int .i64 n, .slice Ar r.length cr, .slice As s.length cs, .slice Ap p.length cp] 50)
  have HH := Lib.hid (h.ext y0)
  obtain ⟨R, hR⟩ : ∃ X, formO ⟨k, n, r, s, p⟩ = X := ⟨_, rfl⟩
  rw [hR]
  unfold formO at hR
  have HR := Lib.hid hR
  obtain ⟨nr, hnr⟩ : ∃ X, r.length = X := ⟨_, rfl⟩
  obtain ⟨ns, hns⟩ : ∃ X, s.length = X := ⟨_, rfl⟩
  obtain ⟨np, hnp⟩ : ∃ X, p.length = X := ⟨_, rfl⟩
  have NR := Lib.hid hnr
  have NS := Lib.hid hns
  have NP := Lib.hid hnp
  rw [hnr, hns, hnp]
  rw [hnr, hns, hnp] at y0 HH
  rw [hnr] at hb
  clear hR hnr hns hnp h
  rcases Nat.eq_zero_or_pos nr with e1 | e1
  · subst e1
    rcases Nat.eq_zero_or_pos ns with e2 | e2
    · subst e2
      by_cases k1 : k = 1
      · subst k1
        go_enter Tryz.func208, Tryz.ntmps208
        go_wp2_with (fail)
        go_ret
        exact ⟨ret_bool (by rw [← HR.out]; simp only [NR.out, NS.out, NP.out]; first | (simp; done) | (simp <;> omega)), y0⟩
      have kb1 : (k == 1) = false := beq_eq_false_iff_ne.2 k1
      by_cases k3 : k = 3
      · subst k3
        by_cases hp : np = 0
        · subst hp
          go_enter Tryz.func208, Tryz.ntmps208
          go_wp2_with (fail)
          go_ret
          exact ⟨ret_bool (by rw [← HR.out]; simp only [NR.out, NS.out, NP.out]; first | (simp; done) | (simp <;> omega)), y0⟩
        · have hpb : ((np : Int) == 0) = false := beq_eq_false_iff_ne.2 (by omega)
          go_enter Tryz.func208, Tryz.ntmps208
          go_wp2_with (fail)
          go_ret
          exact ⟨ret_bool (by rw [← HR.out]; simp only [NR.out, NS.out, NP.out]; first | (simp [hp]; done) | (simp [hp] <;> omega)), y0⟩
      have kb3 : (k == 3) = false := beq_eq_false_iff_ne.2 k3
      by_cases k2 : k = 2
      · subst k2
        by_cases hn : n = 0
        · subst hn
          by_cases hp : np = 0
          · subst hp
            go_enter Tryz.func208, Tryz.ntmps208
            go_wp2_with (go_at_call 230; refine Hid.out ?_)
            refine Lib.hid ?_
            refine (containsR_any Ar _ cr r _ ?hn HH.out (by omega)).mono ?_
            case hn => first | exact NR.out.symm | (have := NR.out; omega)
            rintro e w' ⟨rfl, rfl⟩
            generalize hca : r.any (fun r => !mayR r) = C
            have HCA := Lib.hid hca
            clear hca
            go_wp2_with (fail)
            go_ret
            exact ⟨ret_bool (by rw [← HR.out]; simp [NP.out, HCA.out]), y0⟩
          · have hpb : ((np : Int) == 0) = false := beq_eq_false_iff_ne.2 (by omega)
            go_enter Tryz.func208, Tryz.ntmps208
            go_wp2_with (fail)
            go_ret
            exact ⟨ret_bool (by rw [← HR.out]; simp only [NR.out, NS.out, NP.out]; first | (simp [hp]; done) | (simp [hp] <;> omega)), y0⟩
        · have hnb : (n == 0) = false := beq_eq_false_iff_ne.2 hn
          go_enter Tryz.func208, Tryz.ntmps208
          go_wp2_with (fail)
          go_ret
          exact ⟨ret_bool (by rw [← HR.out]; simp only [NR.out, NS.out, NP.out]; first | (simp [hn]; done) | (simp [hn] <;> omega)), y0⟩
      have kb2 : (k == 2) = false := beq_eq_false_iff_ne.2 k2
      have HK1 := Lib.hid k1
      have HK2 := Lib.hid k2
      have HK3 := Lib.hid k3
      clear k1 k2 k3
      go_enter Tryz.func208, Tryz.ntmps208
      go_wp2_with (fail)
      go_ret
      exact ⟨ret_bool (by rw [← HR.out]; simp [HK1.out, HK2.out, HK3.out]), y0⟩
    · have hs0 : (0 : Int) < (ns : Int) := by omega
      by_cases k1 : k = 1
      · subst k1
        go_enter Tryz.func208, Tryz.ntmps208
        go_wp2_with (fail)
        go_ret
        exact ⟨ret_bool (by rw [← HR.out]; simp only [NR.out, NS.out, NP.out]; first | (simp; done) | (simp <;> omega)), y0⟩
      have kb1 : (k == 1) = false := beq_eq_false_iff_ne.2 k1
      by_cases k3 : k = 3
      · subst k3
        by_cases hp : np = 0
        · subst hp
          go_enter Tryz.func208, Tryz.ntmps208
          go_wp2_with (fail)
          go_ret
          exact ⟨ret_bool (by rw [← HR.out]; simp only [NR.out, NS.out, NP.out]; first | (simp; done) | (simp <;> omega)), y0⟩
        · have hpb : ((np : Int) == 0) = false := beq_eq_false_iff_ne.2 (by omega)
          go_enter Tryz.func208, Tryz.ntmps208
          go_wp2_with (fail)
          go_ret
          exact ⟨ret_bool (by rw [← HR.out]; simp only [NR.out, NS.out, NP.out]; first | (simp [hp]; done) | (simp [hp] <;> omega)), y0⟩
      have kb3 : (k == 3) = false := beq_eq_false_iff_ne.2 k3
      by_cases k2 : k = 2
      · subst k2
        by_cases hn : n = 0
        · subst hn
          by_cases hp : np = 0
          · subst hp
            go_enter Tryz.func208, Tryz.ntmps208
            go_wp2_with (go_at_call 230; refine Hid.out ?_)
            refine Lib.hid ?_
            refine (containsR_any Ar _ cr r _ ?hn HH.out (by omega)).mono ?_
            case hn => first | exact NR.out.symm | (have := NR.out; omega)
            rintro e w' ⟨rfl, rfl⟩
            generalize hca : r.any (fun r => !mayR r) = C
            have HCA := Lib.hid hca
            clear hca
            go_wp2_with (fail)
            go_ret
            exact ⟨ret_bool (by rw [← HR.out]; simp [NP.out, HCA.out]), y0⟩
          · have hpb : ((np : Int) == 0) = false := beq_eq_false_iff_ne.2 (by omega)
            go_enter Tryz.func208, Tryz.ntmps208
            go_wp2_with (fail)
            go_ret
            exact ⟨ret_bool (by rw [← HR.out]; simp only [NR.out, NS.out, NP.out]; first | (simp [hp]; done) | (simp [hp] <;> omega)), y0⟩
        · have hnb : (n == 0) = false := beq_eq_false_iff_ne.2 hn
          go_enter Tryz.func208, Tryz.ntmps208
          go_wp2_with (fail)
          go_ret
          exact ⟨ret_bool (by rw [← HR.out]; simp only [NR.out, NS.out, NP.out]; first | (simp [hn]; done) | (simp [hn] <;> omega)), y0⟩
      have kb2 : (k == 2) = false := beq_eq_false_iff_ne.2 k2
      have HK1 := Lib.hid k1
      have HK2 := Lib.hid k2
      have HK3 := Lib.hid k3
      clear k1 k2 k3
      go_enter Tryz.func208, Tryz.ntmps208
      go_wp2_with (fail)
      go_ret
      exact ⟨ret_bool (by rw [← HR.out]; simp [HK1.out, HK2.out, HK3.out]), y0⟩
  · have hr0 : (0 : Int) < (nr : Int) := by omega
    by_cases k1 : k = 1
    · subst k1
      go_enter Tryz.func208, Tryz.ntmps208
      go_wp2_with (fail)
      go_ret
      exact ⟨ret_bool (by rw [← HR.out]; simp only [NR.out, NS.out, NP.out]; first | (simp; done) | (simp <;> omega)), y0⟩
    have kb1 : (k == 1) = false := beq_eq_false_iff_ne.2 k1
    by_cases k3 : k = 3
    · subst k3
      by_cases hp : np = 0
      · subst hp
        go_enter Tryz.func208, Tryz.ntmps208
        go_wp2_with (fail)
        go_ret
        exact ⟨ret_bool (by rw [← HR.out]; simp only [NR.out, NS.out, NP.out]; first | (simp; done) | (simp <;> omega)), y0⟩
      · have hpb : ((np : Int) == 0) = false := beq_eq_false_iff_ne.2 (by omega)
        go_enter Tryz.func208, Tryz.ntmps208
        go_wp2_with (fail)
        go_ret
        exact ⟨ret_bool (by rw [← HR.out]; simp only [NR.out, NS.out, NP.out]; first | (simp [hp]; done) | (simp [hp] <;> omega)), y0⟩
    have kb3 : (k == 3) = false := beq_eq_false_iff_ne.2 k3
    by_cases k2 : k = 2
    · subst k2
      by_cases hn : n = 0
      · subst hn
        by_cases hp : np = 0
        · subst hp
          go_enter Tryz.func208, Tryz.ntmps208
          go_wp2_with (go_at_call 230; refine Hid.out ?_)
          refine Lib.hid ?_
          refine (containsR_any Ar _ cr r _ ?hn HH.out (by omega)).mono ?_
          case hn => first | exact NR.out.symm | (have := NR.out; omega)
          rintro e w' ⟨rfl, rfl⟩
          generalize hca : r.any (fun r => !mayR r) = C
          have HCA := Lib.hid hca
          clear hca
          go_wp2_with (fail)
          go_ret
          exact ⟨ret_bool (by rw [← HR.out]; simp [NP.out, HCA.out]), y0⟩
        · have hpb : ((np : Int) == 0) = false := beq_eq_false_iff_ne.2 (by omega)
          go_enter Tryz.func208, Tryz.ntmps208
          go_wp2_with (fail)
          go_ret
          exact ⟨ret_bool (by rw [← HR.out]; simp only [NR.out, NS.out, NP.out]; first | (simp [hp]; done) | (simp [hp] <;> omega)), y0⟩
      · have hnb : (n == 0) = false := beq_eq_false_iff_ne.2 hn
        go_enter Tryz.func208, Tryz.ntmps208
        go_wp2_with (fail)
        go_ret
        exact ⟨ret_bool (by rw [← HR.out]; simp only [NR.out, NS.out, NP.out]; first | (simp [hn]; done) | (simp [hn] <;> omega)), y0⟩
    have kb2 : (k == 2) = false := beq_eq_false_iff_ne.2 k2
    have HK1 := Lib.hid k1
    have HK2 := Lib.hid k2
    have HK3 := Lib.hid k3
    clear k1 k2 k3
    go_enter Tryz.func208, Tryz.ntmps208
    go_wp2_with (fail)
    go_ret
    exact ⟨ret_bool (by rw [← HR.out]; simp [HK1.out, HK2.out, HK3.out]), y0⟩
end Go.Proofs.YtfnkjcodcoehcaaGreatDoor
