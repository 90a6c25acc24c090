/- Merged texts: Class, ClassAt, AttrsMayFn, FitsClass, RefMay05, Apply, DelFn, DelPartA. -/
import Derived.Test.YthhjjaoppacnmaaDoorA1
import Derived.Test.YthhjjaoppacnmaaDoorA7
import Derived.Test.YthhjjaoppacnmaaDoorA9
import Derived.Test.YthhjjaoppacnmaaDoorA8
import Derived.Deep.LoopGhost
import Derived.Deep.DeepMust
namespace Go.Proofs.YthhjjaoppacnmaaDoor
open Go.RowKit
set_option linter.unusedVariables false

/-- Later than w, and these blocks stand. -/
def GoodB (w : World) (O : List (Nat × Obj)) (x : World) : Prop := Below w.heap.size w x ∧ ∀ p ∈ O, x.heap[p.1]? = some p.2
/-- A world of the class. -/
structure GW (w : World) (O : List (Nat × Obj)) where
  val : World
  ok : GoodB w O val

section
variable {P : Program} {w v : World} {O : List (Nat × Obj)}
theorem GoodB.later {x y : World} (h : GoodB w O x) (hy : Below x.heap.size x y) : GoodB w O y :=
  ⟨ext_trans h.1 hy, fun p hp => by
    have h1 := h.2 p hp
    rw [hy.block p.1 (Array.getElem?_eq_some_iff.1 h1).1]
    exact h1⟩
theorem good_call {f : FuncId} {args : Array Value} {r : Value} (x : GW w O) (h : Calls P f args x.val fun e w' => e = .returned r ∧ Below x.val.heap.size x.val w') :
    Calls P f args x.val fun e w' => e = .returned r ∧ ∃ y : GW w O, w' = y.val :=
  h.mono fun e w' ⟨he, hb⟩ => ⟨he, ⟨w', x.ok.later hb⟩, rfl⟩
theorem good_drawn (h : GoodB w O v) : ∃ x : GW w O, ({ v with drawn := v.drawn + 1 } : World) = x.val :=
  ⟨⟨{ v with drawn := v.drawn + 1 }, ⟨h.1.os, h.1.tape, h.1.output, h.1.size, h.1.block⟩, h.2⟩, rfl⟩
theorem wp_region_class {id : Nat} {Q : Exit → Act → World → Prop} {a : Act} {l : List Oper} (hm : P.follows .mixedOrders = true) (hB : Region.lexB .any l.toArray = true) (hC : GoodB w O v)
    (h : wpQuiet P l.toArray (fun w' => ∃ x : GW w O, w' = x.val) (fun a' => ∀ w', (∃ x : GW w O, w' = x.val) → Q .normal a' w') l a) : (Code.region id l.toArray true).wp P Q a v :=
  wp_region_quiet (C := fun w' => ∃ x : GW w O, w' = x.val) hm hB (good_drawn hC) (by simpa using h)
theorem good_block {b : Nat} {o : Obj} (h : (b, o) ∈ O) (x : GW w O) : x.val.heap[b]? = some o := x.ok.2 _ h
theorem good_cells {b : Nat} {cs : Array Value} {t : TypeId} (h : (b, Obj.cells cs t (0, 0)) ∈ O) (x : GW w O) (j : Nat) (u : Value) (hj : cs[j]? = some u) : x.val.cell? ⟨b, j, none⟩ = some u := by
  have := x.ok.2 _ h
  simp only [World.cell?, this]
  exact hj
end
end Go.Proofs.YthhjjaoppacnmaaDoor
namespace Go.Proofs.YthhjjaoppacnmaaDoor
open Go.RowKit

theorem tabs_good {w : World} {O : List (Nat × Obj)} {a b : Nat} (hT : Lib.Utf8Tabs a b w) (x : GW w O) : Lib.Utf8Tabs a b x.val := Utf8Tabs_below hT x.ok.1
end Go.Proofs.YthhjjaoppacnmaaDoor
namespace Go.Proofs.YthhjjaoppacnmaaDoor
open Go.RowKit
set_option linter.unusedVariables false
set_option linter.unusedSimpArgs false

/-- the fields' ranges of the attributes' values -/
def okVr (p : List At) : Prop := ∀ c ∈ p, okV c.v
def loopS (l : List Ky) : Option Int → Int → List At → Int
  | _, e, [] => e
  | prev, e, c :: r => if (prev.all (fun k => decide (k < c.key)) && okA c) = true then loopS l (some c.key) (if thereA l c = true then e else 4) r else 3
theorem loopS_some (l : List Ky) : ∀ (p : List At) (k : Int) (e : Int), loopS l (some k) e p = if rise (k :: p.map (·.key)) = true ∧ p.all okA = true then (if p.all (thereA l) = true then e else 4) else 3
  | [], k, e => by simp [loopS, rise]
  | c :: r, k, e => by
    unfold loopS
    rw [loopS_some l r c.key]
    by_cases h1 : k < c.key
    · by_cases h2 : okA c = true
      · by_cases h3 : thereA l c = true
        · simp [h1, h2, h3, rise]
        · have h3 : thereA l c = false := by simpa using h3
          simp [h1, h2, h3, rise]
      · have h2 : okA c = false := by simpa using h2
        simp [h1, h2]
    · simp [h1, rise]
theorem loopS_none (l : List Ky) (p : List At) (h : p.length ≤ 64) : loopS l none 0 p = mayS l p := by
  unfold mayS
  rw [if_neg (by omega)]
  cases p with
  | nil => simp [loopS, riseA, rise]
  | cons c r =>
    unfold loopS
    rw [loopS_some]
    by_cases h2 : okA c = true
    · by_cases h3 : thereA l c = true
      · simp [h2, h3, riseA]
      · have h3 : thereA l c = false := by simpa using h3
        simp [h2, h3, riseA]
    · have h2 : okA c = false := by simpa using h2
      simp [h2]
theorem mayV_class {k n f : Int} {s : ByteArray} {b : Bool} {w : World} {O : List (Nat × Obj)} (hT : Lib.Utf8Tabs 1 2 w) (h0 : 0 ≤ f) (h1 : f < 18446744073709551616) (h : mayV ⟨k, n, f, s⟩ = b) (x : GW w O) :
    Calls Tryd.prog 35 #[.agg #[.int .u8 k, .int .i64 n, .int .u64 f, .string s]] x.val fun e w' => e = .returned (.bool b) ∧ ∃ y : GW w O, w' = y.val :=
  good_call x ((mayV_any k n f s x.val h0 h1 (tabs_good hT x)).mono fun e w' h' => ⟨by rw [h'.1, h], h'.2⟩)

set_option maxRecDepth 100000 in
set_option maxHeartbeats 3200000 in
theorem mayS_any (s : Nat) (l : List Ky) (A : Option Addr) (n c : Nat) (p : List At) (w : World) (hn : n = p.length) (h : RdAt w w.heap.size A p) (hb : n ≤ 140737488355328) (hS : Sch w s l) (hv : okVr p) (hT : Lib.Utf8Tabs 1 2 w) :
    Calls Tryd.prog 9 #[.pointer (some ⟨s, 0, none⟩), .slice A n c] w fun e w' => e = .returned (.int .i64 (mayS l p)) ∧ Below w.heap.size w w' := by
  have N := Lib.hid hn
  generalize hR : mayS l p = R
  have HR := Lib.hid hR
  clear hn hR
  by_cases h64 : (64 : Int) < (n : Int)
  · go_enter Tryd.func9, Tryd.ntmps9
    go_wp2_with (fail)
    go_ret
    refine ⟨ret_int ?_, Below.refl _ _⟩
    rw [← HR.out]
    have := N.out
    unfold mayS
    rw [if_pos (by omega)]
  have HP : Hid (loopS l none 0 p = R) := Lib.hid (by rw [← HR.out]; exact loopS_none l p (by have := N.out; omega))
  go_enter Tryd.func9, Tryd.ntmps9
  go_wp2_with (fail)
  go_loopg [5, 13] n (fun g ev iv wr => ∃ (m : Nat) (ei : Int), m ≤ n ∧ g = n - m ∧ ev = .int .i64 ei ∧ iv = .int .i64 (m : Int) ∧ Below w.heap.size w wr ∧ Hid (loopS l (if m = 0 then none else (p[m - 1]?).map (·.key)) ei (p.drop m) = R))
  case atStart => exact ⟨0, 0, by omega, rfl, rfl, rfl, Below.refl _ _, Lib.hid (by rw [List.drop_zero]; exact HP.out)⟩
  case round =>
    obtain ⟨m, ei, hm, hg, rfl, rfl, y, HI⟩ := hrel
    have HG := Lib.hid hg
    clear hg HR HP
    by_cases hlt : m < n
    · have hl1 : m < p.length := by have := N.out; omega
      obtain ⟨ad, x, rfl, had, hd1, hx1, hc0⟩ := (h.below y (Nat.le_refl _)).el hl1
      have hxv := hv x (List.mem_of_getElem? hx1)
      obtain ⟨x1, x2, x3, x4, x5⟩ := x
      obtain ⟨r0, r1, r2, r3, r4⟩ := at_cells hc0
      obtain ⟨f0, f1⟩ : 0 ≤ x4 ∧ x4 < 18446744073709551616 := ⟨hxv.f0, hxv.f1⟩
      have HI2 : Hid ((if ((if m = 0 then none else (p[m - 1]?).map (·.key)).all (fun k => decide (k < x1)) && okA ⟨x1, x2, x3, x4, x5⟩) = true then loopS l (some x1) (if thereA l ⟨x1, x2, x3, x4, x5⟩ = true then ei else 4) (p.drop (m + 1)) else 3) = R) := Lib.hid (by
        rw [← HI.out, hd1]; rfl)
      have HX := Lib.hid hx1
      have hk2 := heap_alloc_new wr (.cells #[.int .i64 x1, .int .u8 x2, .int .i64 x3, .int .u64 x4, .string x5] 28)
      have y2 := ext_trans y (ext_alloc wr (.cells #[.int .i64 x1, .int .u8 x2, .int .i64 x3, .int .u64 x4, .string x5] 28))
      have HK2 := Lib.hid hk2
      clear hc0 hd1 hx1 HI hxv
      have hw2 : IntKind.i64.wrap ((m:Int) + 1) = (m : Int) + 1 := IntWalk.i64_in _ (by omega)
      obtain ⟨M, hM⟩ : ∃ X, mayV ⟨x2, x3, x4, x5⟩ = X := ⟨_, rfl⟩
      have HM := Lib.hid hM
      have HOK : Hid (okA ⟨x1, x2, x3, x4, x5⟩ = M) := Lib.hid hM
      clear hM hk2
      go_wp2_with (fail)
      have hB : wr.heap.size = wr.heap.size := rfl
      obtain ⟨O, hO⟩ : ∃ O : List (Nat × Obj), O = [(wr.heap.size, .cells #[.int .i64 x1, .int .u8 x2, .int .i64 x3, .int .u64 x4, .string x5] 28 (0, 0))] := ⟨_, rfl⟩
      have gg : GoodB w O _ := ⟨y2, by rw [hO]; intro p hp; simp only [List.mem_cons, List.not_mem_nil, or_false] at hp; rcases hp with rfl; exact HK2.out⟩
      have b0 : ∀ x : GW w O, x.val.cell? ⟨wr.heap.size, 0, none⟩ = some (.int .i64 x1) := fun x => good_cells (cs := #[.int .i64 x1, .int .u8 x2, .int .i64 x3, .int .u64 x4, .string x5]) (t := 28) (by rw [hO]; simp) x 0 _ rfl
      have b1 : ∀ x : GW w O, x.val.cell? ⟨wr.heap.size, 1, none⟩ = some (.int .u8 x2) := fun x => good_cells (cs := #[.int .i64 x1, .int .u8 x2, .int .i64 x3, .int .u64 x4, .string x5]) (t := 28) (by rw [hO]; simp) x 1 _ rfl
      have b2 : ∀ x : GW w O, x.val.cell? ⟨wr.heap.size, 2, none⟩ = some (.int .i64 x3) := fun x => good_cells (cs := #[.int .i64 x1, .int .u8 x2, .int .i64 x3, .int .u64 x4, .string x5]) (t := 28) (by rw [hO]; simp) x 2 _ rfl
      have b3 : ∀ x : GW w O, x.val.cell? ⟨wr.heap.size, 3, none⟩ = some (.int .u64 x4) := fun x => good_cells (cs := #[.int .i64 x1, .int .u8 x2, .int .i64 x3, .int .u64 x4, .string x5]) (t := 28) (by rw [hO]; simp) x 3 _ rfl
      have b4 : ∀ x : GW w O, x.val.cell? ⟨wr.heap.size, 4, none⟩ = some (.string x5) := fun x => good_cells (cs := #[.int .i64 x1, .int .u8 x2, .int .i64 x3, .int .u64 x4, .string x5]) (t := 28) (by rw [hO]; simp) x 4 _ rfl
      have HBX : Hid (∀ x : GW w O, x.val.heap[wr.heap.size]? = some (.cells #[.int .i64 x1, .int .u8 x2, .int .i64 x3, .int .u64 x4, .string x5] 28 (0, 0))) := Lib.hid (fun x => good_block (by rw [hO]; simp) x)
      clear hO r0 r1 r2 r3 r4 hB
      haveI : Nonempty (GW w O) := ⟨⟨_, gg⟩⟩
      cases m with
      | zero =>
        have HI3 : Hid ((if okA ⟨x1, x2, x3, x4, x5⟩ = true then loopS l (some x1) (if thereA l ⟨x1, x2, x3, x4, x5⟩ = true then ei else 4) (p.drop (0 + 1)) else 3) = R) := Lib.hid (by rw [← HI2.out]; simp)
        clear HI2
        cases M with
        | false =>
          refine wp_region_class (by kernel_rfl) (by kernel_rfl) gg ?_
          repeat (go_big_quiet_step (first | (go_at_call 35; with_reducible exact mayV_class hT f0 f1 HM.out _)))
          refine wpQuiet_nil ?_
          intro _ hw'
          obtain ⟨xx, rfl⟩ := hw'
          have yx := xx.ok.1
          have hbx := HBX.out xx
          generalize xx.val = w8 at *
          clear b0 b1 b2 b3 b4
          go_wp2_with (fail)
          go_ret
          exact ⟨ret_int (by rw [← HI3.out, HOK.out]; rfl), yx⟩
        | true =>
          refine wp_region_class (by kernel_rfl) (by kernel_rfl) gg ?_
          repeat (go_big_quiet_step (first | (go_at_call 35; with_reducible exact mayV_class hT f0 f1 HM.out _)))
          refine wpQuiet_nil ?_
          intro _ hw'
          obtain ⟨xx, rfl⟩ := hw'
          have yx := xx.ok.1
          have hbx := HBX.out xx
          generalize xx.val = w8 at *
          clear b0 b1 b2 b3 b4
          obtain ⟨b0, b1, b2, b3, b4⟩ := box_at hbx
          have HTH : Hid (thereA l ⟨x1, x2, x3, x4, x5⟩ = fitsK l x1 ⟨x2, x3, x4, x5⟩) := Lib.hid rfl
          clear hbx
          go_wp2_with (go_at_call 36; refine Hid.out ?_)
          refine Lib.hid ?_
          refine (fitsS_any s l x1 x2 x3 x4 x5 _ (hS.ext yx) f0 f1 (Utf8Tabs_below hT yx)).mono ?_
          rintro e w7 ⟨rfl, y7⟩
          have yy7 := ext_trans yx y7
          generalize fitsK l x1 ⟨x2, x3, x4, x5⟩ = F at HTH ⊢
          cases F with
          | false =>
            go_wp2_with (fail)
            go_roundg (n - (0 + 1))
            case measure => have := HG.out; omega
            case rel => exact ⟨0 + 1, 4, by omega, rfl, rfl, by go_num, yy7, Lib.hid (by rw [← HI3.out, if_neg (show ¬ (0 + 1 = 0) by omega), Nat.add_sub_cancel, HX.out]; rw [HOK.out, HTH.out]; rfl)⟩
          | true =>
            go_wp2_with (fail)
            go_roundg (n - (0 + 1))
            case measure => have := HG.out; omega
            case rel => exact ⟨0 + 1, ei, by omega, rfl, rfl, by go_num, yy7, Lib.hid (by rw [← HI3.out, if_neg (show ¬ (0 + 1 = 0) by omega), Nat.add_sub_cancel, HX.out]; rw [HOK.out, HTH.out]; rfl)⟩
      | succ k =>
        obtain ⟨ad', z, e, _, _, hz1, hz0⟩ := h.el (show k < p.length by omega)
        injection e with e; subst e
        obtain ⟨z1, z2, z3, z4, z5⟩ := z
        have HZ := Lib.hid hz0
        have s0 : ∀ x : GW w O, x.val.cell? _ = some (Value.int IntKind.i64 z1) := fun x => (at_cells (HZ.out.keep (w' := x.val) fun q hq => x.ok.1.cell (by rw [hq, add_block]; exact had))).1
        have HI4 : Hid ((if (decide (z1 < x1) && okA ⟨x1, x2, x3, x4, x5⟩) = true then loopS l (some x1) (if thereA l ⟨x1, x2, x3, x4, x5⟩ = true then ei else 4) (p.drop (k + 1 + 1)) else 3) = R) := Lib.hid (by
          rw [← HI2.out, if_neg (show ¬ (k + 1 = 0) by omega), Nat.add_sub_cancel, hz1]; simp)
        clear HI2 hz1 hz0
        have hkn : k < n := by omega
        have hw1 : IntKind.i64.wrap (k:Int) = (k : Int) := IntWalk.i64_in _ (by omega)
        by_cases hle : x1 ≤ z1
        · have HI3 : Hid ((3 : Int) = R) := Lib.hid (by rw [← HI4.out, show decide (z1 < x1) = false from decide_eq_false (by omega)]; simp)
          clear HI4
          refine wp_region_class (by kernel_rfl) (by kernel_rfl) gg ?_
          repeat (go_big_quiet_step (first | (go_at_call 35; with_reducible exact mayV_class hT f0 f1 HM.out _)))
          refine wpQuiet_nil ?_
          intro _ hw'
          obtain ⟨xx, rfl⟩ := hw'
          have yx := xx.ok.1
          have hbx := HBX.out xx
          generalize xx.val = w8 at *
          clear b0 b1 b2 b3 b4 s0
          go_wp2_with (fail)
          go_ret
          exact ⟨ret_int HI3.out, yx⟩
        · have HI3 : Hid ((if okA ⟨x1, x2, x3, x4, x5⟩ = true then loopS l (some x1) (if thereA l ⟨x1, x2, x3, x4, x5⟩ = true then ei else 4) (p.drop (k + 1 + 1)) else 3) = R) := Lib.hid (by rw [← HI4.out, show decide (z1 < x1) = true from decide_eq_true (by omega)]; simp)
          clear HI4
          cases M with
          | false =>
            refine wp_region_class (by kernel_rfl) (by kernel_rfl) gg ?_
            repeat (go_big_quiet_step (first | (go_at_call 35; with_reducible exact mayV_class hT f0 f1 HM.out _)))
            refine wpQuiet_nil ?_
            intro _ hw'
            obtain ⟨xx, rfl⟩ := hw'
            have yx := xx.ok.1
            have hbx := HBX.out xx
            generalize xx.val = w8 at *
            clear b0 b1 b2 b3 b4 s0
            go_wp2_with (fail)
            go_ret
            exact ⟨ret_int (by rw [← HI3.out, HOK.out]; rfl), yx⟩
          | true =>
            refine wp_region_class (by kernel_rfl) (by kernel_rfl) gg ?_
            repeat (go_big_quiet_step (first | (go_at_call 35; with_reducible exact mayV_class hT f0 f1 HM.out _)))
            refine wpQuiet_nil ?_
            intro _ hw'
            obtain ⟨xx, rfl⟩ := hw'
            have yx := xx.ok.1
            have hbx := HBX.out xx
            generalize xx.val = w8 at *
            clear b0 b1 b2 b3 b4 s0
            obtain ⟨b0, b1, b2, b3, b4⟩ := box_at hbx
            have HTH : Hid (thereA l ⟨x1, x2, x3, x4, x5⟩ = fitsK l x1 ⟨x2, x3, x4, x5⟩) := Lib.hid rfl
            clear hbx
            go_wp2_with (go_at_call 36; refine Hid.out ?_)
            refine Lib.hid ?_
            refine (fitsS_any s l x1 x2 x3 x4 x5 _ (hS.ext yx) f0 f1 (Utf8Tabs_below hT yx)).mono ?_
            rintro e w7 ⟨rfl, y7⟩
            have yy7 := ext_trans yx y7
            generalize fitsK l x1 ⟨x2, x3, x4, x5⟩ = F at HTH ⊢
            cases F with
            | false =>
              go_wp2_with (fail)
              go_roundg (n - ((k + 1) + 1))
              case measure => have := HG.out; omega
              case rel => exact ⟨(k + 1) + 1, 4, by omega, rfl, rfl, by go_num, yy7, Lib.hid (by rw [← HI3.out, if_neg (show ¬ ((k + 1) + 1 = 0) by omega), Nat.add_sub_cancel, HX.out]; rw [HOK.out, HTH.out]; rfl)⟩
            | true =>
              go_wp2_with (fail)
              go_roundg (n - ((k + 1) + 1))
              case measure => have := HG.out; omega
              case rel => exact ⟨(k + 1) + 1, ei, by omega, rfl, rfl, by go_num, yy7, Lib.hid (by rw [← HI3.out, if_neg (show ¬ ((k + 1) + 1 = 0) by omega), Nat.add_sub_cancel, HX.out]; rw [HOK.out, HTH.out]; rfl)⟩
    · have hmn : m = n := by omega
      go_wp2_with (fail)
      go_ret
      refine ⟨ret_int ?_, y⟩
      rw [← HI.out, List.drop_eq_nil_of_le (by have := N.out; omega)]
      rfl
end Go.Proofs.YthhjjaoppacnmaaDoor
namespace Go.Proofs.YthhjjaoppacnmaaDoor
open Go.RowKit
set_option linter.unusedVariables false
set_option linter.unusedSimpArgs false

theorem all_drop {α : Type} {f : α → Bool} {l : List α} {m : Nat} {x : α} {R : Bool} (hd : l.drop m = x :: l.drop (m + 1)) (h : (l.drop m).all f = R) : (f x && (l.drop (m + 1)).all f) = R := by
  rw [hd] at h; simpa using h
theorem fitsR_class {A : Option Addr} {nn cc : Nat} {l : List Ky} {id k n f : Int} {t : ByteArray} {w : World} {O : List (Nat × Obj)} {b : Bool} (hT : Lib.Utf8Tabs 1 2 w) (hn : nn = l.length) (h : RdKy w w.heap.size A l) (hb : nn ≤ 140737488355328) (h0 : 0 ≤ f) (h1 : f < 18446744073709551616) (hsz : t.size ≤ 100000000) (x : GW w O) (hf : fitsK l id ⟨k, n, f, t⟩ = b) :
    Calls Tryd.prog 38 #[.slice A nn cc, .int .i64 id, .agg #[.int .u8 k, .int .i64 n, .int .u64 f, .string t]] x.val fun e w' => e = .returned (.bool b) ∧ ∃ y : GW w O, w' = y.val :=
  good_call x ((fitsR_any A nn cc l id k n f t x.val hn (h.ext x.ok.1) hb h0 h1 hsz (tabs_good hT x)).mono fun e w' h' => ⟨by rw [h'.1, hf], h'.2⟩)
end Go.Proofs.YthhjjaoppacnmaaDoor
namespace Go.Proofs.YthhjjaoppacnmaaDoor
open Go.RowKit
set_option linter.unusedVariables false
set_option linter.unusedSimpArgs false

set_option maxRecDepth 100000 in
set_option maxHeartbeats 3200000 in
theorem mayR5_any (A B : Option Addr) (n c n2 c2 : Nat) (l : List Ky) (p : List At) (w : World) (hn : n = l.length) (h : RdKy w w.heap.size A l) (hb : n ≤ 140737488355328) (hn2 : n2 = p.length) (h2 : RdAt w w.heap.size B p) (hb2 : n2 ≤ 140737488355328) (hv : okVa p) (hT : Lib.Utf8Tabs 1 2 w) :
    Calls Tryd.prog 10 #[.slice A n c, .slice B n2 c2] w fun e w' => e = .returned (.int .i64 (mayS l p)) ∧ Below w.heap.size w w' := by
  have N := Lib.hid hn
  have N2 := Lib.hid hn2
  generalize hR : mayS l p = R
  have HR := Lib.hid hR
  clear hn hn2 hR
  go_enter Tryd.func10, Tryd.ntmps10
  go_wp2_with (go_at_call 14; refine Hid.out ?_)
  refine Lib.hid ?_
  refine (risingA_any B n2 c2 p w N2.out h2 hb2).mono ?_
  rintro e w1 ⟨rfl, d, rfl⟩
  generalize hrr : riseA p = Q
  have HQ := Lib.hid hrr
  clear hrr
  cases Q with
  | false =>
    go_wp2_with (fail)
    go_ret
    refine ⟨ret_int ?_, ext_drew _ _⟩
    rw [← HR.out]
    unfold mayS
    rw [HQ.out]
    by_cases h : 64 < p.length <;> simp [h]
  | true =>
    by_cases h64 : (64 : Int) < (n2 : Int)
    · go_wp2_with (fail)
      go_ret
      refine ⟨ret_int ?_, ext_drew _ _⟩
      rw [← HR.out]
      unfold mayS
      rw [if_pos (by have := N2.out; omega)]
    have HP : Hid ((if p.all okA = true then (if p.all (thereA l) = true then 0 else 4) else 3) = R) := Lib.hid (by
      rw [← HR.out]
      unfold mayS
      rw [if_neg (show ¬ (64 < p.length) by have := N2.out; omega), HQ.out]
      simp)
    obtain ⟨R1, hR1⟩ : ∃ X, p.all okA = X := ⟨_, rfl⟩
    have HR1 := Lib.hid hR1
    clear hR1
    go_wp2_with (fail)
    go_loopg [5] n2 (fun g iv wr => ∃ m : Nat, m ≤ n2 ∧ g = n2 - m ∧ iv = .int .i64 (m : Int) ∧ Below w.heap.size w wr ∧ Hid ((p.drop m).all okA = R1))
    case atStart => exact ⟨0, by omega, rfl, rfl, ext_drew _ _, Lib.hid (by rw [List.drop_zero]; exact HR1.out)⟩
    case round =>
      obtain ⟨m, hm, hg, rfl, y, HI⟩ := hrel
      have HG := Lib.hid hg
      clear hg HR
      by_cases hlt : m < n2
      · have hl1 : m < p.length := by have := N2.out; omega
        obtain ⟨ad, x, rfl, had, hd1, hx1, hc0⟩ := (h2.below y (Nat.le_refl _)).el hl1
        have hxv := hv x (List.mem_of_getElem? hx1)
        have HI2 := Lib.hid (all_drop hd1 HI.out)
        obtain ⟨x1, x2, x3, x4, x5⟩ := x
        obtain ⟨r0, r1, r2, r3, r4⟩ := at_cells hc0
        obtain ⟨f0, f1⟩ : 0 ≤ x4 ∧ x4 < 18446744073709551616 := ⟨hxv.1.f0, hxv.1.f1⟩
        have hsz : x5.size ≤ 100000000 := hxv.2
        clear hc0 hd1 hx1 hxv HI
        have hw2 : IntKind.i64.wrap ((m:Int) + 1) = (m : Int) + 1 := IntWalk.i64_in _ (by omega)
        go_wp2_with (go_at_call 37; refine Hid.out ?_)
        refine Lib.hid ?_
        refine (refMayV_any x2 x3 x4 x5 _ f0 f1 hsz ?tb).mono ?_
        case tb => exact tabs_at hT y rfl
        rintro e w6 ⟨rfl, y6⟩
        have HOK : Hid (okA ⟨x1, x2, x3, x4, x5⟩ = mayV ⟨x2, x3, x4, x5⟩) := Lib.hid rfl
        generalize mayV ⟨x2, x3, x4, x5⟩ = M at HOK ⊢
        have yy6 := below_at y y6 rfl rfl rfl rfl
        cases M with
        | false =>
          have HF : Hid (p.all okA = false) := Lib.hid (by rw [HR1.out, ← HI2.out, HOK.out]; rfl)
          go_wp2_with (fail)
          go_ret
          exact ⟨ret_int (by rw [← HP.out, HF.out]; rfl), yy6⟩
        | true =>
          go_wp2_with (fail)
          go_roundg (n2 - (m + 1))
          case measure => have := HG.out; omega
          case rel => exact ⟨m + 1, by omega, rfl, by go_num, yy6, Lib.hid (by rw [← HI2.out, HOK.out, Bool.true_and])⟩
      · have HF : Hid (p.all okA = true) := Lib.hid (by rw [HR1.out, ← HI.out, List.drop_eq_nil_of_le (by have := N2.out; omega)]; rfl)
        clear HI HR1
        obtain ⟨R2, hR2⟩ : ∃ X, p.all (thereA l) = X := ⟨_, rfl⟩
        have HR2 := Lib.hid hR2
        clear hR2
        go_wp2_with (fail)
        go_loopg [6] n2 (fun g iv wr => ∃ m : Nat, m ≤ n2 ∧ g = n2 - m ∧ iv = .int .i64 (m : Int) ∧ Below w.heap.size w wr ∧ Hid ((p.drop m).all (thereA l) = R2))
        case atStart => exact ⟨0, by omega, rfl, rfl, y, Lib.hid (by rw [List.drop_zero]; exact HR2.out)⟩
        case round =>
          obtain ⟨m, hm, hg, rfl, y, HI⟩ := hrel
          have HG := Lib.hid hg
          clear hg
          by_cases hlt : m < n2
          · have hl1 : m < p.length := by have := N2.out; omega
            obtain ⟨ad, x, rfl, had, hd1, hx1, hcw⟩ := h2.el hl1
            have hxv := hv x (List.mem_of_getElem? hx1)
            have HI2 := Lib.hid (all_drop hd1 HI.out)
            obtain ⟨x1, x2, x3, x4, x5⟩ := x
            have HCW := Lib.hid hcw
            obtain ⟨f0, f1⟩ : 0 ≤ x4 ∧ x4 < 18446744073709551616 := ⟨hxv.1.f0, hxv.1.f1⟩
            have hsz : x5.size ≤ 100000000 := hxv.2
            clear hd1 hx1 hxv HI hcw
            have hw2 : IntKind.i64.wrap ((m:Int) + 1) = (m : Int) + 1 := IntWalk.i64_in _ (by omega)
            have gg : GoodB w [] wr := ⟨y, by intro p hp; cases hp⟩
            have hx : ∀ x : GW w [], CellsAt x.val (ad.add (m * 5)) (At.enc ⟨x1, x2, x3, x4, x5⟩) := fun x => HCW.out.keep fun q hq => x.ok.1.cell (by rw [hq, add_block]; exact had)
            have r0 : ∀ x : GW w [], _ := fun x => (at_cells (hx x)).1
            have r1 : ∀ x : GW w [], _ := fun x => (at_cells (hx x)).2.1
            have r2 : ∀ x : GW w [], _ := fun x => (at_cells (hx x)).2.2.1
            have r3 : ∀ x : GW w [], _ := fun x => (at_cells (hx x)).2.2.2.1
            have r4 : ∀ x : GW w [], _ := fun x => (at_cells (hx x)).2.2.2.2
            clear hx
            haveI : Nonempty (GW w []) := ⟨⟨_, gg⟩⟩
            obtain ⟨FI, hFI⟩ : ∃ X, fitsK l x1 ⟨x2, x3, x4, x5⟩ = X := ⟨_, rfl⟩
            have HFI := Lib.hid hFI
            have HTH : Hid (thereA l ⟨x1, x2, x3, x4, x5⟩ = FI) := Lib.hid hFI
            clear hFI
            cases FI with
            | false =>
              go_wp2_with (fail)
              refine wp_region_class (by kernel_rfl) (by kernel_rfl) gg ?_
              repeat (go_big_quiet_step (first | (go_at_call 38; with_reducible exact fitsR_class hT N.out h hb f0 f1 hsz _ HFI.out)))
              refine wpQuiet_nil ?_
              intro _ hw'
              obtain ⟨xx, rfl⟩ := hw'
              have yx := xx.ok.1
              generalize xx.val = w8 at *
              clear r0 r1 r2 r3 r4
              go_wp2_with (fail)
              go_ret
              exact ⟨ret_int (by rw [← HP.out, HF.out, show p.all (thereA l) = false by rw [HR2.out, ← HI2.out, HTH.out]; rfl]; rfl), yx⟩
            | true =>
              go_wp2_with (fail)
              refine wp_region_class (by kernel_rfl) (by kernel_rfl) gg ?_
              repeat (go_big_quiet_step (first | (go_at_call 38; with_reducible exact fitsR_class hT N.out h hb f0 f1 hsz _ HFI.out)))
              refine wpQuiet_nil ?_
              intro _ hw'
              obtain ⟨xx, rfl⟩ := hw'
              have yx := xx.ok.1
              generalize xx.val = w8 at *
              clear r0 r1 r2 r3 r4
              go_wp2_with (fail)
              go_roundg (n2 - (m + 1))
              case measure => have := HG.out; omega
              case rel => exact ⟨m + 1, by omega, rfl, by go_num, yx, Lib.hid (by rw [← HI2.out, HTH.out, Bool.true_and])⟩
          · have HF2 : Hid (p.all (thereA l) = true) := Lib.hid (by rw [HR2.out, ← HI.out, List.drop_eq_nil_of_le (by have := N2.out; omega)]; rfl)
            go_wp2_with (fail)
            go_ret
            exact ⟨ret_int (by rw [← HP.out, HF.out, HF2.out]; rfl), y⟩
end Go.Proofs.YthhjjaoppacnmaaDoor
namespace Go.Proofs.YthhjjaoppacnmaaDoor
open Go.RowKit
set_option linter.unusedVariables false
set_option linter.unusedSimpArgs false

/-- what a call hands back that makes a list in new memory -/
def NewAt (r : List At) (w : World) (e : Ending) (w' : World) : Prop :=
  ∃ A c, e = .returned (.slice A r.length c) ∧ OwAt w' w.heap.size (.slice A r.length c) r ∧ Below w.heap.size w w'
end Go.Proofs.YthhjjaoppacnmaaDoor
namespace Go.Proofs.YthhjjaoppacnmaaDoor
def IdxOut {α : Type} (pr : α → Bool) (l : List α) (i : Int) : Prop :=
  (i = -1 ∧ ∀ x ∈ l, pr x = false) ∨ ∃ j : Nat, i = j ∧ j < l.length ∧ (∀ x ∈ l.take j, pr x = false) ∧ ∃ x, l[j]? = some x ∧ pr x = true
end Go.Proofs.YthhjjaoppacnmaaDoor
namespace Go.Proofs.YthhjjaoppacnmaaDoor
open Go.RowKit
set_option linter.unusedVariables false
set_option linter.unusedSimpArgs false

set_option maxRecDepth 100000 in
set_option maxHeartbeats 400000 in
theorem indexPartA_any (b1 b2 : Nat) (pr : At → Bool) (A : Option Addr) (n c : Nat) (l : List At) (w : World) (hn : n = l.length) (h : RdAt w w.heap.size A l) (hb : n ≤ 140737488355328)
    (hcl : ∀ (x1 x2 x3 x4 : Int) (x5 : ByteArray) (w' : World), Below w.heap.size w w' → Calls Tryd.prog 45 #[.agg #[.int .i64 x1, .int .u8 x2, .int .i64 x3, .int .u64 x4, .string x5], .pointer (some ⟨b1, 0, none⟩), .pointer (some ⟨b2, 0, none⟩)] w' fun e w'' => e = .returned (.bool (pr ⟨x1, ⟨x2, x3, x4, x5⟩⟩)) ∧ Below w'.heap.size w' w'') :
    Calls Tryd.prog 66 #[.slice A n c, .func (.func 45) #[] #[.pointer (some ⟨b1, 0, none⟩), .pointer (some ⟨b2, 0, none⟩)]] w fun e w' => ∃ i : Int, e = .returned (.int .i64 i) ∧ IdxOut pr l i ∧ Below w.heap.size w w' := by
  have N := Lib.hid hn
  have HCL := Lib.hid hcl
  clear hn hcl
  go_enter Tryd.func66, Tryd.ntmps66
  go_wp2_with (fail)
  go_loopg [8] n (fun g iv wr => ∃ i : Nat, i ≤ n ∧ g = n - i ∧ iv = .int .i64 i ∧ Below w.heap.size w wr ∧ Hid (∀ x ∈ l.take i, pr x = false))
  case atStart => exact ⟨0, by omega, rfl, rfl, Below.refl _ _, Lib.hid (by simp)⟩
  case round =>
    obtain ⟨i, hi, hg, rfl, hbw, HI⟩ := hrel
    have HG := Lib.hid hg
    clear hg
    by_cases hlt : i < n
    · have hil : i < l.length := by have := N.out; omega
      obtain ⟨ad, x, rfl, _, _, hx, hc1⟩ := (h.below hbw (Nat.le_refl _)).el hil
      have HT : Hid (l.take (i + 1) = l.take i ++ [x]) := Lib.hid (by rw [List.take_add_one, hx]; rfl)
      have HX := Lib.hid hx
      clear hx hil
      obtain ⟨x1, x2, x3, x4, x5⟩ := x
      obtain ⟨r0, r1, r2, r3, r4⟩ := at_cells hc1
      clear hc1
      by_cases hp : pr ⟨x1, ⟨x2, x3, x4, x5⟩⟩ = true
      · go_wp2_with (go_at_call 45; refine (HCL.out _ _ _ _ _ _ hbw).mono ?_; rintro e w' ⟨rfl, hb'⟩)
        go_ret
        exact ⟨i, rfl, .inr ⟨i, rfl, by have := N.out; omega, HI.out, _, HX.out, hp⟩, hbw.trans (hb'.mono hbw.size)⟩
      · have hp' : pr ⟨x1, ⟨x2, x3, x4, x5⟩⟩ = false := by simpa using hp
        clear hp
        go_wp2_with (go_at_call 45; refine (HCL.out _ _ _ _ _ _ hbw).mono ?_; rintro e w' ⟨rfl, hb'⟩)
        have hbw' := hbw.trans (hb'.mono hbw.size)
        go_roundg (n - (i + 1))
        case measure => have := HG.out; omega
        case rel =>
          refine ⟨i + 1, by omega, rfl, by go_num, hbw', Lib.hid ?_⟩
          intro y hy
          rw [HT.out] at hy
          rcases List.mem_append.1 hy with hy | hy
          · exact HI.out y hy
          · simp at hy; rw [hy]; exact hp'
    · go_wp2_with (fail)
      go_ret
      refine ⟨-1, rfl, .inl ⟨rfl, ?_⟩, hbw⟩
      have h1 := HI.out
      rw [List.take_of_length_le (by have := N.out; omega)] at h1
      exact h1

set_option maxRecDepth 100000 in
set_option maxHeartbeats 1000000 in
theorem deletePartA_any (b1 b2 : Nat) (pr : At → Bool) (A : Option Addr) (n c base : Nat) (l : List At) (w : World) (hown : OwAt w base (.slice A n c) l) (hbase : base ≤ w.heap.size) (hb : n ≤ 100000000) (hn : n = l.length)
    (hcl : ∀ (x1 x2 x3 x4 : Int) (x5 : ByteArray) (w' : World), Below base w w' → Calls Tryd.prog 45 #[.agg #[.int .i64 x1, .int .u8 x2, .int .i64 x3, .int .u64 x4, .string x5], .pointer (some ⟨b1, 0, none⟩), .pointer (some ⟨b2, 0, none⟩)] w' fun e w'' => e = .returned (.bool (pr ⟨x1, ⟨x2, x3, x4, x5⟩⟩)) ∧ Below w'.heap.size w' w'') :
    Calls Tryd.prog 43 #[.slice A n c, .func (.func 45) #[] #[.pointer (some ⟨b1, 0, none⟩), .pointer (some ⟨b2, 0, none⟩)]] w fun e w' =>
      ∃ A' c', e = .returned (.slice A' (l.filter (fun x => !pr x)).length c') ∧ OwAt w' base (.slice A' (l.filter (fun x => !pr x)).length c') (l.filter (fun x => !pr x)) ∧ Below base w w' := by
  have N := Lib.hid hn
  have HCL := Lib.hid hcl
  have hcap := hown.cap
  have hlc : n ≤ c := by rw [hn]; exact hcap.1
  have hcm : c ≤ 2 ^ 63 - 1 := hcap.2
  clear hn hcl hcap
  generalize hR : l.filter (fun x => !pr x) = R
  have HR := Lib.hid hR
  clear hR
  go_enter Tryd.func43, Tryd.ntmps43
  go_wp2_with (go_at_call 66; refine Hid.out ?_)
  refine Lib.hid ?_
  refine (indexPartA_any b1 b2 pr A n c l w N.out (hown.rd At.enc_len) (by omega) (fun x1 x2 x3 x4 x5 w' hb' => HCL.out x1 x2 x3 x4 x5 w' (hb'.mono hbase))).mono ?_
  rintro e w1 ⟨ix, rfl, hix, hb1⟩
  have hbw1 : Below base w w1 := hb1.mono hbase
  have hown1 := hown.below hb1 (Nat.le_refl _)
  have hbase1 : base ≤ w1.heap.size := Nat.le_trans hbase hb1.size
  clear hown hb1
  rcases hix with ⟨rfl, hall⟩ | ⟨i0, rfl, hi0, hpre, x0, hx0, hpx0⟩
  · have hRl : R = l := by
      rw [← HR.out]
      exact List.filter_eq_self.2 (fun x hx => by simp [hall x hx])
    have HRL := Lib.hid hRl
    clear hRl hall
    go_wp2_with (fail)
    go_ret
    refine ⟨A, c, ?_, ?_, hbw1⟩
    · rw [HRL.out, ← N.out]; rfl
    · rw [HRL.out, ← N.out]; exact hown1
  · have hne : ((i0 : Int) == -1) = false := beq_eq_false_iff_ne.2 (by omega)
    have hi0n : i0 < n := by rw [N.out]; exact hi0
    have hst : Hid (l.take i0 = (l.take (i0 + 1)).filter (fun x => !pr x)) := Lib.hid (by
      rw [List.take_add_one, hx0, List.filter_append, List.filter_eq_self.2 (fun x hx => by simp [hpre x hx])]
      simp [hpx0])
    clear hpre hx0 hpx0 hi0
    go_wp2_with (fail)
    go_loopg [5, 6] (n - (i0 + 1)) (fun g iv jv wr => ∃ (i j : Nat) (m : List At), i < j ∧ j ≤ n ∧ g = n - j ∧ iv = .int .i64 i ∧ jv = .int .i64 j ∧ OwAt wr base (.slice A n c) m ∧ base ≤ wr.heap.size ∧ Below base w wr ∧
      Hid (m.length = n ∧ m.drop j = l.drop j ∧ m.take i = (l.take j).filter (fun x => !pr x)))
    case atStart => exact ⟨i0, i0 + 1, l, by omega, by omega, rfl, rfl, by go_num, hown1, hbase1, hbw1, Lib.hid ⟨N.out.symm, rfl, hst.out⟩⟩
    case round =>
      clear hown1 hbase1 hbw1 hst hne hi0n
      obtain ⟨i, j, m, hij, hj, hg, rfl, rfl, hown, hbs, hbw, HI⟩ := hrel
      have HG := Lib.hid hg
      clear hg
      by_cases hlt : j < n
      · have hjm : j < m.length := by have := HI.out.1; omega
        obtain ⟨ad, x, rfl, _, hdm, hx, hc1⟩ := (hown.rd At.enc_len).el hjm
        have HX : Hid (l.take (j + 1) = l.take j ++ [x] ∧ m.drop (j + 1) = l.drop (j + 1)) := Lib.hid (by
          obtain ⟨h1, h2, h3⟩ := HI.out
          have h4 : l[j]? = some x := by
            have := congrArg (fun t => t[0]?) h2
            simp only [List.getElem?_drop, Nat.add_zero] at this
            rw [← this, hx]
          refine ⟨by rw [List.take_add_one, h4]; rfl, ?_⟩
          have := congrArg (fun t => t.drop 1) h2
          simpa [List.drop_drop] using this)
        clear hdm hx hjm
        obtain ⟨x1, x2, x3, x4, x5⟩ := x
        obtain ⟨r0, r1, r2, r3, r4⟩ := at_cells hc1
        clear hc1
        have hbx0 := heap_alloc_new wr (.cells #[.int .i64 x1, .int .u8 x2, .int .i64 x3, .int .u64 x4, .string x5] 28)
        have hbwA := hbw.alloc hbs (.cells #[.int .i64 x1, .int .u8 x2, .int .i64 x3, .int .u64 x4, .string x5] 28)
        have hownA := hown.alloc (.cells #[.int .i64 x1, .int .u8 x2, .int .i64 x3, .int .u64 x4, .string x5] 28)
        have hsz := size_alloc' wr (.cells #[.int .i64 x1, .int .u8 x2, .int .i64 x3, .int .u64 x4, .string x5] 28)
        have hwbA : ∀ k, wb (.slice (some ad) n c) = some k → k < wr.heap.size := fun k hk => (hown.wb_lt k hk).2
        by_cases hp : pr ⟨x1, ⟨x2, x3, x4, x5⟩⟩ = true
        · have HBX0 := Lib.hid hbx0
          have HWB := Lib.hid hwbA
          have HSZ := Lib.hid hsz
          clear hbx0 hwbA hsz
          go_wp2_with (go_at_call 45; refine (HCL.out _ _ _ _ _ _ hbwA).mono ?_; rintro e w2 ⟨rfl, hb2⟩)
          have hbw2 : Below base w w2 := hbwA.trans (hb2.mono (by rw [← HSZ.out]; omega))
          have hown2 := hownA.below hb2 (Nat.le_refl _)
          have hbs2 : base ≤ w2.heap.size := by have := hb2.size; rw [← HSZ.out] at this; omega
          go_roundg (n - (j + 1))
          case measure => have := HG.out; omega
          case rel =>
            obtain ⟨h1, h2, h3⟩ := HI.out
            obtain ⟨h4, h5⟩ := HX.out
            exact ⟨i, j + 1, m, by omega, by omega, rfl, rfl, by go_num, hown2, hbs2, hbw2, Lib.hid ⟨h1, h5, by rw [h4, List.filter_append, h3]; simp [hp]⟩⟩
        · have hp' : pr ⟨x1, ⟨x2, x3, x4, x5⟩⟩ = false := by simpa using hp
          clear hp
          have HBX0 := Lib.hid hbx0
          have HWB := Lib.hid hwbA
          have HSZ := Lib.hid hsz
          clear hbx0 hwbA hsz
          go_wp2_with (go_at_call 45; refine Hid.out ?_)
          refine Lib.hid ?_
          refine (HCL.out _ _ _ _ _ _ hbwA).mono ?_
          rintro e w2 ⟨rfl, hb2⟩
          have hbw2 : Below base w w2 := hbwA.trans (hb2.mono (by rw [← HSZ.out]; omega))
          have hown2 := hownA.below hb2 (Nat.le_refl _)
          have hbs2 : base ≤ w2.heap.size := by have := hb2.size; rw [← HSZ.out] at this; omega
          have hbx2 := (hb2.block wr.heap.size (by rw [← HSZ.out]; omega)).trans HBX0.out
          obtain ⟨b0, b1, b2, b3, b4⟩ := box_at hbx2
          have him : i < m.length := by have := HI.out.1; omega
          have hin : i < n := by omega
          clear hbx2
          obtain ⟨i1, hi1, hz1, hz2, hz3⟩ := info_parts Tryd.infoAt
          have I1 := Lib.hid hi1
          have Z2 := Lib.hid hz2
          clear hi1 hz1 hz2 hz3 hownA hbwA
          go_wp2_with (refine wpList_set_own rfl 28 (.tmp 33) (.tmp 32) rfl rfl i1 I1.out Z2.out At.enc_len At.enc_one hown2 him ⟨x1, ⟨x2, x3, x4, x5⟩⟩ (cs := #[.int .i64 x1, .int .u8 x2, .int .i64 x3, .int .u64 x4, .string x5]) rfl (p := ad.add (i * 5)) rfl rfl rfl ?_; intro w3 hown3 hg3)
          have hbw3 : Below base w w3 := hbw2.grown hg3 hbs2 (fun k hk => (hown2.wb_lt k hk).1)
          have hbs3 : base ≤ w3.heap.size := Nat.le_trans hbs2 hg3.size
          go_roundg (n - (j + 1))
          case measure => have := HG.out; omega
          case rel =>
            obtain ⟨h1, h2, h3⟩ := HI.out
            obtain ⟨h4, h5⟩ := HX.out
            refine ⟨i + 1, j + 1, m.set i ⟨x1, ⟨x2, x3, x4, x5⟩⟩, by omega, by omega, rfl, by go_num, by go_num, hown3, hbs3, hbw3, Lib.hid ⟨by rw [List.length_set]; exact h1, by rw [List.drop_set_of_lt (by omega)]; exact h5, ?_⟩⟩
            rw [h4, List.filter_append, List.take_add_one, List.getElem?_set_self him, List.take_set_of_le (Nat.le_refl i), h3]
            simp [hp']
      · have hjn : j = n := by omega
        have hm0 := HI.out
        obtain ⟨i1, hi1, hz1, hz2, hz3⟩ := info_parts Tryd.infoAt
        have I1 := Lib.hid hi1
        have Z1 := Lib.hid hz1
        have hmR : m.take i = R := by
          obtain ⟨h1, h2, h3⟩ := hm0
          rw [h3, ← HR.out, List.take_of_length_le (by have := N.out; omega)]
        have him : i ≤ m.length := by have := hm0.1; omega
        have hiR : i = R.length := by rw [← hmR, List.length_take, Nat.min_eq_left him]
        have HIR := Lib.hid hiR
        have HMR := Lib.hid hmR
        have HML : Hid (m.length = n) := Lib.hid hm0.1
        clear hi1 hz1 hz2 hz3 hmR hiR hm0 hjn
        rcases Nat.lt_or_ge i c with hci | hci
        · have hne : ¬ c = i := by omega
          go_wp2_with (refine wpList_clear_own (i := i) (X := A.map (fun x => x.add (i * 5))) rfl (.tmp 38) _ rfl rfl Tryd.slAt i1 _ I1.out Z1.out rfl (by intro u hu; exact At.enc_one ⟨0, V.zero⟩ u hu) At.enc_len hown him (by exact .inr rfl) (by rw [HML.out]) rfl ?_; intro w3 hown3 hg3)
          have hbw3 : Below base w w3 := hbw.grown hg3 hbs (fun k hk => (hown.wb_lt k hk).1)
          rw [HMR.out] at hown3
          have hri := HIR.out
          subst hri
          go_ret
          exact ⟨A, c, rfl, hown3, hbw3⟩
        · go_wp2_with (refine wpList_clear_own (i := i) (X := A) rfl (.tmp 38) _ rfl rfl Tryd.slAt i1 _ I1.out Z1.out rfl (by intro u hu; exact At.enc_one ⟨0, V.zero⟩ u hu) At.enc_len hown him (by have := HML.out; left; omega) (by rw [HML.out]) rfl ?_; intro w3 hown3 hg3)
          have hbw3 : Below base w w3 := hbw.grown hg3 hbs (fun k hk => (hown.wb_lt k hk).1)
          rw [HMR.out] at hown3
          have hri := HIR.out
          subst hri
          go_ret
          exact ⟨A, c, rfl, hown3, hbw3⟩
end Go.Proofs.YthhjjaoppacnmaaDoor
