/- Merged texts: MayDef, Class, ClassAt, AttrsMayFn, DelFn, OpForm, OpMay. -/
import Derived.Test.YtfnkjcodcoehcaaGreatDoorY4
import Derived.Test.YtfnkjcodcoehcaaGreatDoorY1
import Derived.Test.YtfnkjcodcoehcaaGreatDoorY7
import Derived.Test.YtfnkjcodcoehcaaGreatDoorY5
namespace Go.Proofs.YtfnkjcodcoehcaaGreatDoor
set_option linter.unusedVariables false
set_option linter.unusedSimpArgs false

def okA (a : At) : Bool := mayV a.v
def thereA (l : List Ky) (a : At) : Bool := fitsK l a.key a.v
def mayS (l : List Ky) (p : List At) : Int := if 64 < p.length then 3 else if riseA p = true ∧ p.all okA = true then (if p.all (thereA l) = true then 0 else 4) else 3
theorem mayS_zero {l : List Ky} {p : List At} (h : mayS l p = 0) : p.length ≤ 64 ∧ riseA p = true ∧ (∀ a ∈ p, okA a = true) ∧ ∀ a ∈ p, thereA l a = true := by
  unfold mayS at h
  by_cases h1 : 64 < p.length
  · rw [if_pos h1] at h; cases h
  · rw [if_neg h1] at h
    by_cases h2 : riseA p = true ∧ p.all okA = true
    · rw [if_pos h2] at h
      by_cases h3 : p.all (thereA l) = true
      · exact ⟨by omega, h2.1, List.all_eq_true.1 h2.2, List.all_eq_true.1 h3⟩
      · rw [if_neg h3] at h; cases h
    · rw [if_neg h2] at h; cases h
open Go.RowKit

def GoodB (w : World) (O : List (Nat × Obj)) (x : World) : Prop := Below w.heap.size w x ∧ ∀ p ∈ O, x.heap[p.1]? = some p.2
structure GW (w : World) (O : List (Nat × Obj)) where
  val : World
  ok : GoodB w O val

section
variable {P : Program} {w v : World} {O : List (Nat × Obj)}
theorem GoodB.later {x y : World} (h : GoodB w O x) (hy : Below x.heap.size x y) : GoodB w O y :=
  ⟨ext_trans h.1 hy, fun p hp => by
    have h1 := h.2 p hp
    rw [hy.block p.1 (Array.getElem?_eq_some_iff.1 h1).1]
    exact h1⟩
theorem good_call {f : FuncId} {args : Array Value} {r : Value} (x : GW w O) (h : Calls P f args x.val fun e w' => e = .returned r ∧ Below x.val.heap.size x.val w') :
    Calls P f args x.val fun e w' => e = .returned r ∧ ∃ y : GW w O, w' = y.val :=
  h.mono fun e w' ⟨he, hb⟩ => ⟨he, ⟨w', x.ok.later hb⟩, rfl⟩
theorem good_drawn (h : GoodB w O v) : ∃ x : GW w O, ({ v with drawn := v.drawn + 1 } : World) = x.val :=
  ⟨⟨{ v with drawn := v.drawn + 1 }, ⟨h.1.os, h.1.tape, h.1.output, h.1.size, h.1.block⟩, h.2⟩, rfl⟩
theorem wp_region_class {id : Nat} {Q : Exit → Act → World → Prop} {a : Act} {l : List Oper} (hm : P.follows .mixedOrders = true) (hB : Region.lexB .any l.toArray = true) (hC : GoodB w O v)
    (h : wpQuiet P l.toArray (fun w' => ∃ x : GW w O, w' = x.val) (fun a' => ∀ w', (∃ x : GW w O, w' = x.val) → Q .normal a' w') l a) : (Code.region id l.toArray true).wp P Q a v :=
  wp_region_quiet (C := fun w' => ∃ x : GW w O, w' = x.val) hm hB (good_drawn hC) (by simpa using h)
theorem good_block {b : Nat} {o : Obj} (h : (b, o) ∈ O) (x : GW w O) : x.val.heap[b]? = some o := x.ok.2 _ h
theorem good_cells {b : Nat} {cs : Array Value} {t : TypeId} (h : (b, Obj.cells cs t (0, 0)) ∈ O) (x : GW w O) (j : Nat) (u : Value) (hj : cs[j]? = some u) : x.val.cell? ⟨b, j, none⟩ = some u := by
  have := x.ok.2 _ h
  simp only [World.cell?, this]
  exact hj
end
open Go.RowKit

theorem tabs_good {w : World} {O : List (Nat × Obj)} {a b : Nat} (hT : Lib.Utf8Tabs a b w) (x : GW w O) : Lib.Utf8Tabs a b x.val := Utf8Tabs_below hT x.ok.1
set_option linter.unusedVariables false
set_option linter.unusedSimpArgs false

def okVr (p : List At) : Prop := ∀ c ∈ p, okV c.v
def loopS (l : List Ky) : Option Int → Int → List At → Int
  | _, e, [] => e
  | prev, e, c :: r => if (prev.all (fun k => decide (k < c.key)) && okA c) = true then loopS l (some c.key) (if thereA l c = true then e else 4) r else 3
theorem loopS_some (l : List Ky) : ∀ (p : List At) (k : Int) (e : Int), loopS l (some k) e p = if rise (k :: p.map (·.key)) = true ∧ p.all okA = true then (if p.all (thereA l) = true then e else 4) else 3
  | [], k, e => by simp [loopS, rise]
  | c :: r, k, e => by
    unfold loopS
    rw [loopS_some l r c.key]
    by_cases h1 : k < c.key
    · by_cases h2 : okA c = true
      · by_cases h3 : thereA l c = true
        · simp [h1, h2, h3, rise]
        · have h3 : thereA l c = false := by simpa using h3
          simp [h1, h2, h3, rise]
      · have h2 : okA c = false := by simpa using h2
        simp [h1, h2]
    · simp [h1, rise]
theorem loopS_none (l : List Ky) (p : List At) (h : p.length ≤ 64) : loopS l none 0 p = mayS l p := by
  unfold mayS
  rw [if_neg (by omega)]
  cases p with
  | nil => simp [loopS, riseA, rise]
  | cons c r =>
    unfold loopS
    rw [loopS_some]
    by_cases h2 : okA c = true
    · by_cases h3 : thereA l c = true
      · simp [h2, h3, riseA]
      · have h3 : thereA l c = false := by simpa using h3
        simp [h2, h3, riseA]
    · have h2 : okA c = false := by simpa using h2
      simp [h2]
theorem mayV_class {k n f : Int} {s : ByteArray} {b : Bool} {w : World} {O : List (Nat × Obj)} (hT : Lib.Utf8Tabs 1 2 w) (h0 : 0 ≤ f) (h1 : f < 18446744073709551616) (h : mayV ⟨k, n, f, s⟩ = b) (x : GW w O) :
    Calls Tryz.prog 184 #[.agg #[.int .u8 k, .int .i64 n, .int .u64 f, .string s]] x.val fun e w' => e = .returned (.bool b) ∧ ∃ y : GW w O, w' = y.val :=
  good_call x ((mayV_any k n f s x.val h0 h1 (tabs_good hT x)).mono fun e w' h' => ⟨by rw [h'.1, h], h'.2⟩)

set_option maxRecDepth 100000 in
set_option maxHeartbeats 3200000 in
theorem mayS_any (s : Nat) (l : List Ky) (A : Option Addr) (n c : Nat) (p : List At) (w : World) (hn : n = p.length) (h : RdAt w w.heap.size A p) (hb : n ≤ 140737488355328) (hS : Sch w s l) (hv : okVr p) (hT : Lib.Utf8Tabs 1 2 w) :
    Calls Tryz.prog 131 #[.pointer (some ⟨s, 0, none⟩), .slice A n c] w fun e w' => e = .returned (.int .i64 (mayS l p)) ∧ Below w.heap.size w w' := by
  have N := Lib.hid hn
  generalize hR : mayS l p = R
  have HR := Lib.hid hR
  clear hn hR
  by_cases h64 : (64 : Int) < (n : Int)
  · go_enter Tryz.func131, Tryz.ntmps131
    go_wp2_with (fail)
    go_ret
    refine ⟨ret_int ?_, Below.refl _ _⟩
    rw [← HR.out]
    have := N.out
    unfold mayS
    rw [if_pos (by omega)]
  have HP : Hid (loopS l none 0 p = R) := Lib.hid (by rw [← HR.out]; exact loopS_none l p (by have := N.out; omega))
  go_enter Tryz.func131, Tryz.ntmps131
  go_wp2_with (fail)
  go_loopg [5, 13] n (fun g ev iv wr => ∃ (m : Nat) (ei : Int), m ≤ n ∧ g = n - m ∧ ev = .int .i64 ei ∧ iv = .int .i64 (m : Int) ∧ Below w.heap.size w wr ∧ Hid (loopS l (if m = 0 then none else (p[m - 1]?).map (·.key)) ei (p.drop m) = R))
  case atStart => exact ⟨0, 0, by omega, rfl, rfl, rfl, Below.refl _ _, Lib.hid (by rw [List.drop_zero]; exact HP.out)⟩
  case round =>
    obtain ⟨m, ei, hm, hg, rfl, rfl, y, HI⟩ := hrel
    have HG := Lib.hid hg
    clear hg HR HP
    by_cases hlt : m < n
    · have hl1 : m < p.length := by have := N.out; omega
      obtain ⟨ad, x, rfl, had, hd1, hx1, hc0⟩ := (h.below y (Nat.le_refl _)).el hl1
      have hxv := hv x (List.mem_of_getElem? hx1)
      obtain ⟨x1, x2, x3, x4, x5⟩ := x
      obtain ⟨r0, r1, r2, r3, r4⟩ := at_cells hc0
      obtain ⟨f0, f1⟩ : 0 ≤ x4 ∧ x4 < 18446744073709551616 := ⟨hxv.f0, hxv.f1⟩
      have HI2 : Hid ((if ((if m = 0 then none else (p[m - 1]?).map (·.key)).all (fun k => decide (k < x1)) && okA ⟨x1, x2, x3, x4, x5⟩) = true then loopS l (some x1) (if thereA l ⟨x1, x2, x3, x4, x5⟩ = true then ei else 4) (p.drop (m + 1)) else 3) = R) := Lib.hid (by
        rw [← HI.out, hd1]; rfl)
      have HX := Lib.hid hx1
      have hk2 := heap_alloc_new wr (.cells #[.int .i64 x1, .int .u8 x2, .int .i64 x3, .int .u64 x4, .string x5] 43)
      have y2 := ext_trans y (ext_alloc wr (.cells #[.int .i64 x1, .int .u8 x2, .int .i64 x3, .int .u64 x4, .string x5] 43))
      have HK2 := Lib.hid hk2
      clear hc0 hd1 hx1 HI hxv
      have hw2 : IntKind.i64.wrap ((m:Int) + 1) = (m : Int) + 1 := IntWalk.i64_in _ (by omega)
      obtain ⟨M, hM⟩ : ∃ X, mayV ⟨x2, x3, x4, x5⟩ = X := ⟨_, rfl⟩
      have HM := Lib.hid hM
      have HOK : Hid (okA ⟨x1, x2, x3, x4, x5⟩ = M) := Lib.hid hM
      clear hM hk2
      go_wp2_with (fail)
      have hB : wr.heap.size = wr.heap.size := rfl
      obtain ⟨O, hO⟩ : ∃ O : List (Nat × Obj), O = [(wr.heap.size, .cells #[.int .i64 x1, .int .u8 x2, .int .i64 x3, .int .u64 x4, .string x5] 43 (0, 0))] := ⟨_, rfl⟩
      have gg : GoodB w O _ := ⟨y2, by rw [hO]; intro p hp; simp only [List.mem_cons, List.not_mem_nil, or_false] at hp; rcases hp with rfl; exact HK2.out⟩
      have b0 : ∀ x : GW w O, x.val.cell? ⟨wr.heap.size, 0, none⟩ = some (.int .i64 x1) := fun x => good_cells (cs := #[.int .i64 x1, .int .u8 x2, .int .i64 x3, .int .u64 x4, .string x5]) (t := 43) (by rw [hO]; simp) x 0 _ rfl
      have b1 : ∀ x : GW w O, x.val.cell? ⟨wr.heap.size, 1, none⟩ = some (.int .u8 x2) := fun x => good_cells (cs := #[.int .i64 x1, .int .u8 x2, .int .i64 x3, .int .u64 x4, .string x5]) (t := 43) (by rw [hO]; simp) x 1 _ rfl
      have b2 : ∀ x : GW w O, x.val.cell? ⟨wr.heap.size, 2, none⟩ = some (.int .i64 x3) := fun x => good_cells (cs := #[.int .i64 x1, .int .u8 x2, .int .i64 x3, .int .u64 x4, .string x5]) (t := 43) (by rw [hO]; simp) x 2 _ rfl
      have b3 : ∀ x : GW w O, x.val.cell? ⟨wr.heap.size, 3, none⟩ = some (.int .u64 x4) := fun x => good_cells (cs := #[.int .i64 x1, .int .u8 x2, .int .i64 x3, .int .u64 x4, .string x5]) (t := 43) (by rw [hO]; simp) x 3 _ rfl
      have b4 : ∀ x : GW w O, x.val.cell? ⟨wr.heap.size, 4, none⟩ = some (.string x5) := fun x => good_cells (cs := #[.int .i64 x1, .int .u8 x2, .int .i64 x3, .int .u64 x4, .string x5]) (t := 43) (by rw [hO]; simp) x 4 _ rfl
      have HBX : Hid (∀ x : GW w O, x.val.heap[wr.heap.size]? = some (.cells #[.int .i64 x1, .int .u8 x2, .int .i64 x3, .int .u64 x4, .string x5] 43 (0, 0))) := Lib.hid (fun x => good_block (by rw [hO]; simp) x)
      clear hO r0 r1 r2 r3 r4 hB
      haveI : Nonempty (GW w O) := ⟨⟨_, gg⟩⟩
      cases m with
      | zero =>
        have HI3 : Hid ((if okA ⟨x1, x2, x3, x4, x5⟩ = true then loopS l (some x1) (if thereA l ⟨x1, x2, x3, x4, x5⟩ = true then ei else 4) (p.drop (0 + 1)) else 3) = R) := Lib.hid (by rw [← HI2.out]; simp)
        clear HI2
        cases M with
        | false =>
          refine wp_region_class (by kernel_rfl) (by kernel_rfl) gg ?_
          repeat (go_big_quiet_step (first | (go_at_call 184; with_reducible exact mayV_class hT f0 f1 HM.out _)))
          refine wpQuiet_nil ?_
          intro _ hw'
          obtain ⟨xx, rfl⟩ := hw'
          have yx := xx.ok.1
          have hbx := HBX.out xx
          generalize xx.val = w8 at *
          clear b0 b1 b2 b3 b4
          go_wp2_with (fail)
          go_ret
          exact ⟨ret_int (by rw [← HI3.out, HOK.out]; rfl), yx⟩
        | true =>
          refine wp_region_class (by kernel_rfl) (by kernel_rfl) gg ?_
          repeat (go_big_quiet_step (first | (go_at_call 184; with_reducible exact mayV_class hT f0 f1 HM.out _)))
          refine wpQuiet_nil ?_
          intro _ hw'
          obtain ⟨xx, rfl⟩ := hw'
          have yx := xx.ok.1
          have hbx := HBX.out xx
          generalize xx.val = w8 at *
          clear b0 b1 b2 b3 b4
          obtain ⟨b0, b1, b2, b3, b4⟩ := box_at hbx
          have HTH : Hid (thereA l ⟨x1, x2, x3, x4, x5⟩ = fitsK l x1 ⟨x2, x3, x4, x5⟩) := Lib.hid rfl
          clear hbx
          go_wp2_with (go_at_call 185; refine Hid.out ?_)
          refine Lib.hid ?_
          refine (fitsS_any s l x1 x2 x3 x4 x5 _ (hS.ext yx) f0 f1 (Utf8Tabs_below hT yx)).mono ?_
          rintro e w7 ⟨rfl, y7⟩
          have yy7 := ext_trans yx y7
          generalize fitsK l x1 ⟨x2, x3, x4, x5⟩ = F at HTH ⊢
          cases F with
          | false =>
            go_wp2_with (fail)
            go_roundg (n - (0 + 1))
            case measure => have := HG.out; omega
            case rel => exact ⟨0 + 1, 4, by omega, rfl, rfl, by go_num, yy7, Lib.hid (by rw [← HI3.out, if_neg (show ¬ (0 + 1 = 0) by omega), Nat.add_sub_cancel, HX.out]; rw [HOK.out, HTH.out]; rfl)⟩
          | true =>
            go_wp2_with (fail)
            go_roundg (n - (0 + 1))
            case measure => have := HG.out; omega
            case rel => exact ⟨0 + 1, ei, by omega, rfl, rfl, by go_num, yy7, Lib.hid (by rw [← HI3.out, if_neg (show ¬ (0 + 1 = 0) by omega), Nat.add_sub_cancel, HX.out]; rw [HOK.out, HTH.out]; rfl)⟩
      | succ k =>
        obtain ⟨ad', z, e, _, _, hz1, hz0⟩ := h.el (show k < p.length by omega)
        injection e with e; subst e
        obtain ⟨z1, z2, z3, z4, z5⟩ := z
        have HZ := Lib.hid hz0
        have s0 : ∀ x : GW w O, x.val.cell? _ = some (Value.int IntKind.i64 z1) := fun x => (at_cells (HZ.out.keep (w' := x.val) fun q hq => x.ok.1.cell (by rw [hq, add_block]; exact had))).1
        have HI4 : Hid ((if (decide (z1 < x1) && okA ⟨x1, x2, x3, x4, x5⟩) = true then loopS l (some x1) (if thereA l ⟨x1, x2, x3, x4, x5⟩ = true then ei else 4) (p.drop (k + 1 + 1)) else 3) = R) := Lib.hid (by
          rw [← HI2.out, if_neg (show ¬ (k + 1 = 0) by omega), Nat.add_sub_cancel, hz1]; simp)
        clear HI2 hz1 hz0
        have hkn : k < n := by omega
        have hw1 : IntKind.i64.wrap (k:Int) = (k : Int) := IntWalk.i64_in _ (by omega)
        by_cases hle : x1 ≤ z1
        · have HI3 : Hid ((3 : Int) = R) := Lib.hid (by rw [← HI4.out, show decide (z1 < x1) = false from decide_eq_false (by omega)]; simp)
          clear HI4
          refine wp_region_class (by kernel_rfl) (by kernel_rfl) gg ?_
          repeat (go_big_quiet_step (first | (go_at_call 184; with_reducible exact mayV_class hT f0 f1 HM.out _)))
          refine wpQuiet_nil ?_
          intro _ hw'
          obtain ⟨xx, rfl⟩ := hw'
          have yx := xx.ok.1
          have hbx := HBX.out xx
          generalize xx.val = w8 at *
          clear b0 b1 b2 b3 b4 s0
          go_wp2_with (fail)
          go_ret
          exact ⟨ret_int HI3.out, yx⟩
        · have HI3 : Hid ((if okA ⟨x1, x2, x3, x4, x5⟩ = true then loopS l (some x1) (if thereA l ⟨x1, x2, x3, x4, x5⟩ = true then ei else 4) (p.drop (k + 1 + 1)) else 3) = R) := Lib.hid (by rw [← HI4.out, show decide (z1 < x1) = true from decide_eq_true (by omega)]; simp)
          clear HI4
          cases M with
          | false =>
            refine wp_region_class (by kernel_rfl) (by kernel_rfl) gg ?_
            repeat (go_big_quiet_step (first | (go_at_call 184; with_reducible exact mayV_class hT f0 f1 HM.out _)))
            refine wpQuiet_nil ?_
            intro _ hw'
            obtain ⟨xx, rfl⟩ := hw'
            have yx := xx.ok.1
            have hbx := HBX.out xx
            generalize xx.val = w8 at *
            clear b0 b1 b2 b3 b4 s0
            go_wp2_with (fail)
            go_ret
            exact ⟨ret_int (by rw [← HI3.out, HOK.out]; rfl), yx⟩
          | true =>
            refine wp_region_class (by kernel_rfl) (by kernel_rfl) gg ?_
            repeat (go_big_quiet_step (first | (go_at_call 184; with_reducible exact mayV_class hT f0 f1 HM.out _)))
            refine wpQuiet_nil ?_
            intro _ hw'
            obtain ⟨xx, rfl⟩ := hw'
            have yx := xx.ok.1
            have hbx := HBX.out xx
            generalize xx.val = w8 at *
            clear b0 b1 b2 b3 b4 s0
            obtain ⟨b0, b1, b2, b3, b4⟩ := box_at hbx
            have HTH : Hid (thereA l ⟨x1, x2, x3, x4, x5⟩ = fitsK l x1 ⟨x2, x3, x4, x5⟩) := Lib.hid rfl
            clear hbx
            go_wp2_with (go_at_call 185; refine Hid.out ?_)
            refine Lib.hid ?_
            refine (fitsS_any s l x1 x2 x3 x4 x5 _ (hS.ext yx) f0 f1 (Utf8Tabs_below hT yx)).mono ?_
            rintro e w7 ⟨rfl, y7⟩
            have yy7 := ext_trans yx y7
            generalize fitsK l x1 ⟨x2, x3, x4, x5⟩ = F at HTH ⊢
            cases F with
            | false =>
              go_wp2_with (fail)
              go_roundg (n - ((k + 1) + 1))
              case measure => have := HG.out; omega
              case rel => exact ⟨(k + 1) + 1, 4, by omega, rfl, rfl, by go_num, yy7, Lib.hid (by rw [← HI3.out, if_neg (show ¬ ((k + 1) + 1 = 0) by omega), Nat.add_sub_cancel, HX.out]; rw [HOK.out, HTH.out]; rfl)⟩
            | true =>
              go_wp2_with (fail)
              go_roundg (n - ((k + 1) + 1))
              case measure => have := HG.out; omega
              case rel => exact ⟨(k + 1) + 1, ei, by omega, rfl, rfl, by go_num, yy7, Lib.hid (by rw [← HI3.out, if_neg (show ¬ ((k + 1) + 1 = 0) by omega), Nat.add_sub_cancel, HX.out]; rw [HOK.out, HTH.out]; rfl)⟩
    · have hmn : m = n := by omega
      go_wp2_with (fail)
      go_ret
      refine ⟨ret_int ?_, y⟩
      rw [← HI.out, List.drop_eq_nil_of_le (by have := N.out; omega)]
      rfl
def IdxOut {α : Type} (pr : α → Bool) (l : List α) (i : Int) : Prop :=
  (i = -1 ∧ ∀ x ∈ l, pr x = false) ∨ ∃ j : Nat, i = j ∧ j < l.length ∧ (∀ x ∈ l.take j, pr x = false) ∧ ∃ x, l[j]? = some x ∧ pr x = true

set_option maxHeartbeats 400000 in
theorem formCl_any (r : Int) (w : World) : Calls Tryz.prog 231 #[.int .i32 r] w fun e w' => e = .returned (.bool (!mayR r)) ∧ w = w' := by
  go_enter Tryz.func231, Tryz.ntmps231
  go_wp2_with (go_at_call 130; refine Hid.out ?_)
  refine Lib.hid ?_
  refine (may_any r w).mono ?_
  rintro e w' ⟨rfl, rfl⟩
  go_wp2_with (fail)
  go_ret
  exact ⟨rfl, rfl⟩

set_option maxRecDepth 100000 in
set_option maxHeartbeats 400000 in
theorem indexR_any (A : Option Addr) (n c : Nat) (l : List Int) (w : World) (hn : n = l.length) (h : RdI32 w w.heap.size A l) (hb : n ≤ 140737488355328) :
    Calls Tryz.prog 240 #[.slice A n c, .func (.func 231) #[] #[]] w fun e w' => ∃ i : Int, e = .returned (.int .i64 i) ∧ IdxOut (fun r => !mayR r) l i ∧ w = w' := by
  have N := Lib.hid hn
  clear hn
  go_enter Tryz.func240, Tryz.ntmps240
  go_wp2_with (fail)
  go_loopg [8] n (fun g iv wr => ∃ i : Nat, i ≤ n ∧ g = n - i ∧ iv = .int .i64 i ∧ w = wr ∧ Hid (∀ x ∈ l.take i, (!mayR x) = false))
  case atStart => exact ⟨0, by omega, rfl, rfl, rfl, Lib.hid (by simp)⟩
  case round =>
    obtain ⟨i, hi, hg, rfl, rfl, HI⟩ := hrel
    have HG := Lib.hid hg
    clear hg
    by_cases hlt : i < n
    · have hil : i < l.length := by have := N.out; omega
      obtain ⟨ad, x, rfl, _, _, hx, hc1⟩ := h.el hil
      have HT : Hid (l.take (i + 1) = l.take i ++ [x]) := Lib.hid (by rw [List.take_add_one, hx]; rfl)
      have HX := Lib.hid hx
      have r0 := hc1 0 _ rfl
      rw [add_zero', Nat.mul_one] at r0
      clear hx hil hc1
      have hw2 : IntKind.i64.wrap ((i:Int) + 1) = (i : Int) + 1 := IntWalk.i64_in _ (by omega)
      cases hp : mayR x with
      | false =>
        have HP := Lib.hid hp
        clear hp
        go_wp2_with (go_at_call 231; refine Hid.out ?_)
        refine Lib.hid ?_
        refine (formCl_any x w).mono ?_
        rintro e w' ⟨rfl, rfl⟩
        rw [HP.out]
        go_wp2_with (fail)
        go_ret
        exact ⟨i, rfl, .inr ⟨i, rfl, by have := N.out; omega, HI.out, _, HX.out, by show (!mayR x) = true; rw [HP.out]; rfl⟩, rfl⟩
      | true =>
        have HP := Lib.hid hp
        clear hp
        go_wp2_with (go_at_call 231; refine Hid.out ?_)
        refine Lib.hid ?_
        refine (formCl_any x w).mono ?_
        rintro e w' ⟨rfl, rfl⟩
        rw [HP.out]
        go_wp2_with (fail)
        go_roundg (n - (i + 1))
        case measure => have := HG.out; omega
        case rel =>
          refine ⟨i + 1, by omega, rfl, by go_num, rfl, Lib.hid ?_⟩
          intro y hy
          rw [HT.out] at hy
          rcases List.mem_append.1 hy with hy | hy
          · exact HI.out y hy
          · simp at hy; rw [hy, HP.out]; rfl
    · go_wp2_with (fail)
      go_ret
      refine ⟨-1, rfl, .inl ⟨rfl, ?_⟩, rfl⟩
      have h1 := HI.out
      rw [List.take_of_length_le (by have := N.out; omega)] at h1
      exact h1

theorem idx_any {α : Type} {pr : α → Bool} {l : List α} {i : Int} (h : IdxOut pr l i) : decide (0 ≤ i) = l.any pr := by
  rcases h with ⟨rfl, h⟩ | ⟨j, rfl, hj, _, x, hx, hp⟩
  · have : l.any pr = false := List.any_eq_false.2 (fun x hx => by simp [h x hx])
    rw [this]; rfl
  · have : l.any pr = true := List.any_eq_true.2 ⟨x, List.mem_of_getElem? hx, hp⟩
    rw [this]
    simp
set_option maxHeartbeats 400000 in
theorem containsR_any (A : Option Addr) (n c : Nat) (l : List Int) (w : World) (hn : n = l.length) (h : RdI32 w w.heap.size A l) (hb : n ≤ 140737488355328) :
    Calls Tryz.prog 230 #[.slice A n c, .func (.func 231) #[] #[]] w fun e w' => e = .returned (.bool (l.any (fun r => !mayR r))) ∧ w = w' := by
  have N := Lib.hid hn
  clear hn
  generalize hr : l.any (fun r => !mayR r) = r
  have HR := Lib.hid hr
  clear hr
  go_enter Tryz.func230, Tryz.ntmps230
  go_wp2_with (go_at_call 240; refine Hid.out ?_)
  refine Lib.hid ?_
  refine (indexR_any A n c l w N.out h hb).mono ?_
  rintro e w1 ⟨i, rfl, hi, rfl⟩
  have hd := idx_any hi
  rw [HR.out] at hd
  clear hi
  go_wp2_with (fail)
  go_ret
  exact ⟨by first | rfl | exact ret_bool hd, rfl⟩

def formO (o : Opd) : Bool :=
  if o.k = 1 then decide (o.r.length = 0 ∧ o.s.length = 0)
  else if o.k = 3 then decide ((o.r.length = 0 ∧ o.s.length = 0) ∧ o.p.length = 0)
  else if o.k = 2 then decide (o.n = 0 ∧ o.p.length = 0) && !o.r.any (fun r => !mayR r)
  else false

set_option maxRecDepth 100000 in
set_option maxHeartbeats 1600000 in
theorem formO_any (k n : Int) (Ar As Ap : Option Addr) (r : List Int) (s : List At) (p : List Ch) (cr cs cp : Nat) (w : World) (h : RdI32 w w.heap.size Ar r) (hb : r.length ≤ 140737488355328) :
    Calls Tryz.prog 208 #[.agg #[.int .u8 k, .int .i64 n, .slice Ar r.length cr, .slice As s.length cs, .slice Ap p.length cp]] w fun e w' => e = .returned (.bool (formO ⟨k, n, r, s, p⟩)) ∧ Below w.heap.size w w' := by
  have y0 := ext_alloc w (.cells #[.int .u8 k, .int .i64 n, .slice Ar r.length cr, .slice As s.length cs, .slice Ap p.length cp] 50)
  have HH := Lib.hid (h.ext y0)
  obtain ⟨R, hR⟩ : ∃ X, formO ⟨k, n, r, s, p⟩ = X := ⟨_, rfl⟩
  rw [hR]
  unfold formO at hR
  have HR := Lib.hid hR
  obtain ⟨nr, hnr⟩ : ∃ X, r.length = X := ⟨_, rfl⟩
  obtain ⟨ns, hns⟩ : ∃ X, s.length = X := ⟨_, rfl⟩
  obtain ⟨np, hnp⟩ : ∃ X, p.length = X := ⟨_, rfl⟩
  have NR := Lib.hid hnr
  have NS := Lib.hid hns
  have NP := Lib.hid hnp
  rw [hnr, hns, hnp]
  rw [hnr, hns, hnp] at y0 HH
  rw [hnr] at hb
  clear hR hnr hns hnp h
  rcases Nat.eq_zero_or_pos nr with e1 | e1
  · subst e1
    rcases Nat.eq_zero_or_pos ns with e2 | e2
    · subst e2
      by_cases k1 : k = 1
      · subst k1
        go_enter Tryz.func208, Tryz.ntmps208
        go_wp2_with (fail)
        go_ret
        exact ⟨ret_bool (by rw [← HR.out]; simp only [NR.out, NS.out, NP.out]; first | (simp; done) | (simp <;> omega)), y0⟩
      have kb1 : (k == 1) = false := beq_eq_false_iff_ne.2 k1
      by_cases k3 : k = 3
      · subst k3
        by_cases hp : np = 0
        · subst hp
          go_enter Tryz.func208, Tryz.ntmps208
          go_wp2_with (fail)
          go_ret
          exact ⟨ret_bool (by rw [← HR.out]; simp only [NR.out, NS.out, NP.out]; first | (simp; done) | (simp <;> omega)), y0⟩
        · have hpb : ((np : Int) == 0) = false := beq_eq_false_iff_ne.2 (by omega)
          go_enter Tryz.func208, Tryz.ntmps208
          go_wp2_with (fail)
          go_ret
          exact ⟨ret_bool (by rw [← HR.out]; simp only [NR.out, NS.out, NP.out]; first | (simp [hp]; done) | (simp [hp] <;> omega)), y0⟩
      have kb3 : (k == 3) = false := beq_eq_false_iff_ne.2 k3
      by_cases k2 : k = 2
      · subst k2
        by_cases hn : n = 0
        · subst hn
          by_cases hp : np = 0
          · subst hp
            go_enter Tryz.func208, Tryz.ntmps208
            go_wp2_with (go_at_call 230; refine Hid.out ?_)
            refine Lib.hid ?_
            refine (containsR_any Ar _ cr r _ ?hn HH.out (by omega)).mono ?_
            case hn => first | exact NR.out.symm | (have := NR.out; omega)
            rintro e w' ⟨rfl, rfl⟩
            generalize hca : r.any (fun r => !mayR r) = C
            have HCA := Lib.hid hca
            clear hca
            go_wp2_with (fail)
            go_ret
            exact ⟨ret_bool (by rw [← HR.out]; simp [NP.out, HCA.out]), y0⟩
          · have hpb : ((np : Int) == 0) = false := beq_eq_false_iff_ne.2 (by omega)
            go_enter Tryz.func208, Tryz.ntmps208
            go_wp2_with (fail)
            go_ret
            exact ⟨ret_bool (by rw [← HR.out]; simp only [NR.out, NS.out, NP.out]; first | (simp [hp]; done) | (simp [hp] <;> omega)), y0⟩
        · have hnb : (n == 0) = false := beq_eq_false_iff_ne.2 hn
          go_enter Tryz.func208, Tryz.ntmps208
          go_wp2_with (fail)
          go_ret
          exact ⟨ret_bool (by rw [← HR.out]; simp only [NR.out, NS.out, NP.out]; first | (simp [hn]; done) | (simp [hn] <;> omega)), y0⟩
      have kb2 : (k == 2) = false := beq_eq_false_iff_ne.2 k2
      have HK1 := Lib.hid k1
      have HK2 := Lib.hid k2
      have HK3 := Lib.hid k3
      clear k1 k2 k3
      go_enter Tryz.func208, Tryz.ntmps208
      go_wp2_with (fail)
      go_ret
      exact ⟨ret_bool (by rw [← HR.out]; simp [HK1.out, HK2.out, HK3.out]), y0⟩
    · have hs0 : (0 : Int) < (ns : Int) := by omega
      by_cases k1 : k = 1
      · subst k1
        go_enter Tryz.func208, Tryz.ntmps208
        go_wp2_with (fail)
        go_ret
        exact ⟨ret_bool (by rw [← HR.out]; simp only [NR.out, NS.out, NP.out]; first | (simp; done) | (simp <;> omega)), y0⟩
      have kb1 : (k == 1) = false := beq_eq_false_iff_ne.2 k1
      by_cases k3 : k = 3
      · subst k3
        by_cases hp : np = 0
        · subst hp
          go_enter Tryz.func208, Tryz.ntmps208
          go_wp2_with (fail)
          go_ret
          exact ⟨ret_bool (by rw [← HR.out]; simp only [NR.out, NS.out, NP.out]; first | (simp; done) | (simp <;> omega)), y0⟩
        · have hpb : ((np : Int) == 0) = false := beq_eq_false_iff_ne.2 (by omega)
          go_enter Tryz.func208, Tryz.ntmps208
          go_wp2_with (fail)
          go_ret
          exact ⟨ret_bool (by rw [← HR.out]; simp only [NR.out, NS.out, NP.out]; first | (simp [hp]; done) | (simp [hp] <;> omega)), y0⟩
      have kb3 : (k == 3) = false := beq_eq_false_iff_ne.2 k3
      by_cases k2 : k = 2
      · subst k2
        by_cases hn : n = 0
        · subst hn
          by_cases hp : np = 0
          · subst hp
            go_enter Tryz.func208, Tryz.ntmps208
            go_wp2_with (go_at_call 230; refine Hid.out ?_)
            refine Lib.hid ?_
            refine (containsR_any Ar _ cr r _ ?hn HH.out (by omega)).mono ?_
            case hn => first | exact NR.out.symm | (have := NR.out; omega)
            rintro e w' ⟨rfl, rfl⟩
            generalize hca : r.any (fun r => !mayR r) = C
            have HCA := Lib.hid hca
            clear hca
            go_wp2_with (fail)
            go_ret
            exact ⟨ret_bool (by rw [← HR.out]; simp [NP.out, HCA.out]), y0⟩
          · have hpb : ((np : Int) == 0) = false := beq_eq_false_iff_ne.2 (by omega)
            go_enter Tryz.func208, Tryz.ntmps208
            go_wp2_with (fail)
            go_ret
            exact ⟨ret_bool (by rw [← HR.out]; simp only [NR.out, NS.out, NP.out]; first | (simp [hp]; done) | (simp [hp] <;> omega)), y0⟩
        · have hnb : (n == 0) = false := beq_eq_false_iff_ne.2 hn
          go_enter Tryz.func208, Tryz.ntmps208
          go_wp2_with (fail)
          go_ret
          exact ⟨ret_bool (by rw [← HR.out]; simp only [NR.out, NS.out, NP.out]; first | (simp [hn]; done) | (simp [hn] <;> omega)), y0⟩
      have kb2 : (k == 2) = false := beq_eq_false_iff_ne.2 k2
      have HK1 := Lib.hid k1
      have HK2 := Lib.hid k2
      have HK3 := Lib.hid k3
      clear k1 k2 k3
      go_enter Tryz.func208, Tryz.ntmps208
      go_wp2_with (fail)
      go_ret
      exact ⟨ret_bool (by rw [← HR.out]; simp [HK1.out, HK2.out, HK3.out]), y0⟩
  · have hr0 : (0 : Int) < (nr : Int) := by omega
    by_cases k1 : k = 1
    · subst k1
      go_enter Tryz.func208, Tryz.ntmps208
      go_wp2_with (fail)
      go_ret
      exact ⟨ret_bool (by rw [← HR.out]; simp only [NR.out, NS.out, NP.out]; first | (simp; done) | (simp <;> omega)), y0⟩
    have kb1 : (k == 1) = false := beq_eq_false_iff_ne.2 k1
    by_cases k3 : k = 3
    · subst k3
      by_cases hp : np = 0
      · subst hp
        go_enter Tryz.func208, Tryz.ntmps208
        go_wp2_with (fail)
        go_ret
        exact ⟨ret_bool (by rw [← HR.out]; simp only [NR.out, NS.out, NP.out]; first | (simp; done) | (simp <;> omega)), y0⟩
      · have hpb : ((np : Int) == 0) = false := beq_eq_false_iff_ne.2 (by omega)
        go_enter Tryz.func208, Tryz.ntmps208
        go_wp2_with (fail)
        go_ret
        exact ⟨ret_bool (by rw [← HR.out]; simp only [NR.out, NS.out, NP.out]; first | (simp [hp]; done) | (simp [hp] <;> omega)), y0⟩
    have kb3 : (k == 3) = false := beq_eq_false_iff_ne.2 k3
    by_cases k2 : k = 2
    · subst k2
      by_cases hn : n = 0
      · subst hn
        by_cases hp : np = 0
        · subst hp
          go_enter Tryz.func208, Tryz.ntmps208
          go_wp2_with (go_at_call 230; refine Hid.out ?_)
          refine Lib.hid ?_
          refine (containsR_any Ar _ cr r _ ?hn HH.out (by omega)).mono ?_
          case hn => first | exact NR.out.symm | (have := NR.out; omega)
          rintro e w' ⟨rfl, rfl⟩
          generalize hca : r.any (fun r => !mayR r) = C
          have HCA := Lib.hid hca
          clear hca
          go_wp2_with (fail)
          go_ret
          exact ⟨ret_bool (by rw [← HR.out]; simp [NP.out, HCA.out]), y0⟩
        · have hpb : ((np : Int) == 0) = false := beq_eq_false_iff_ne.2 (by omega)
          go_enter Tryz.func208, Tryz.ntmps208
          go_wp2_with (fail)
          go_ret
          exact ⟨ret_bool (by rw [← HR.out]; simp only [NR.out, NS.out, NP.out]; first | (simp [hp]; done) | (simp [hp] <;> omega)), y0⟩
      · have hnb : (n == 0) = false := beq_eq_false_iff_ne.2 hn
        go_enter Tryz.func208, Tryz.ntmps208
        go_wp2_with (fail)
        go_ret
        exact ⟨ret_bool (by rw [← HR.out]; simp only [NR.out, NS.out, NP.out]; first | (simp [hn]; done) | (simp [hn] <;> omega)), y0⟩
    have kb2 : (k == 2) = false := beq_eq_false_iff_ne.2 k2
    have HK1 := Lib.hid k1
    have HK2 := Lib.hid k2
    have HK3 := Lib.hid k3
    clear k1 k2 k3
    go_enter Tryz.func208, Tryz.ntmps208
    go_wp2_with (fail)
    go_ret
    exact ⟨ret_bool (by rw [← HR.out]; simp [HK1.out, HK2.out, HK3.out]), y0⟩

def oneP (l : List Ky) (o : Opd) : Int :=
  if formO o = true ∧ 1 ≤ sizeO o ∧ sizeO o ≤ 536870912 then (if mayS l o.s = 0 then mayP l o.p else mayS l o.s) else 3
def okOp (o : Opd) : Prop := okVr o.s ∧ okVs o.p ∧ o.r.length ≤ 100000000 ∧ o.s.length ≤ 100000000 ∧ o.p.length ≤ 100000000

set_option maxRecDepth 100000 in
set_option maxHeartbeats 1600000 in
theorem opOne_any (sc : Nat) (l : List Ky) (k n : Int) (Ar As Ap : Option Addr) (r : List Int) (s : List At) (p : List Ch) (cr cs cp : Nat) (w : World) (hS : Sch w sc l) (h1 : RdI32 w w.heap.size Ar r) (h2 : RdAt w w.heap.size As s) (h3 : RdCh w w.heap.size Ap p) (ho : okOp ⟨k, n, r, s, p⟩) (hT : Lib.Utf8Tabs 1 2 w) :
    Calls Tryz.prog 161 #[.pointer (some ⟨sc, 0, none⟩), .agg #[.int .u8 k, .int .i64 n, .slice Ar r.length cr, .slice As s.length cs, .slice Ap p.length cp]] w fun e w' => e = .returned (.int .i64 (oneP l ⟨k, n, r, s, p⟩)) ∧ Below w.heap.size w w' := by
  obtain ⟨v1, v2, b1, b2, b3⟩ := ho
  simp only at v1 v2 b1 b2 b3
  have y := ext_alloc w (.cells #[.int .u8 k, .int .i64 n, .slice Ar r.length cr, .slice As s.length cs, .slice Ap p.length cp] 50)
  have hbx := heap_alloc_new w (.cells #[.int .u8 k, .int .i64 n, .slice Ar r.length cr, .slice As s.length cs, .slice Ap p.length cp] 50)
  obtain ⟨R, hR⟩ : ∃ X, oneP l ⟨k, n, r, s, p⟩ = X := ⟨_, rfl⟩
  rw [hR]
  unfold oneP at hR
  have HR := Lib.hid hR
  have HBX := Lib.hid hbx
  clear hR hbx
  go_enter Tryz.func161, Tryz.ntmps161
  go_wp2_with (go_at_call 208; refine Hid.out ?_)
  refine Lib.hid ?_
  refine (formO_any k n Ar As Ap r s p cr cs cp _ (h1.ext y) (by omega)).mono ?_
  rintro e w1 ⟨rfl, y1⟩
  have HBX := Lib.hid ((y1.block _ (lt_of_some HBX.out)).trans HBX.out)
  replace y := ext_trans y y1
  clear y1
  generalize hF : formO ⟨k, n, r, s, p⟩ = F
  have HF := Lib.hid hF
  clear hF
  cases F with
  | false =>
    go_wp2_with (fail)
    go_ret
    exact ⟨ret_int (by rw [← HR.out, HF.out]; rfl), y⟩
  | true =>
    obtain ⟨c0, c1, c2, c3, c4⟩ := box_at HBX.out
    go_wp2_with (go_at_call 173; refine Hid.out ?_)
    refine Lib.hid ?_
    refine (sizeO_any k n Ar As Ap r.length s.length p.length cr cs cp _).mono ?_
    rintro e w2 ⟨rfl, y2⟩
    have HBX := Lib.hid ((y2.block _ (lt_of_some HBX.out)).trans HBX.out)
    replace y := ext_trans y y2
    clear y2 c0 c1 c2 c3 c4
    obtain ⟨Z, hZ⟩ : ∃ Z : Int, (if k = 2 then (r.length : Int) else n) = Z := ⟨_, rfl⟩
    rw [hZ]
    have HZ : Hid (sizeO ⟨k, n, r, s, p⟩ = Z) := Lib.hid hZ
    have HZ2 := Lib.hid hZ
    clear hZ
    by_cases z1 : Z < 1
    · go_wp2_with (fail)
      go_ret
      exact ⟨ret_int (by rw [← HR.out, HZ.out, if_neg (show ¬ (_ ∧ 1 ≤ Z ∧ _) by omega)]), y⟩
    · obtain ⟨c0, c1, c2, c3, c4⟩ := box_at HBX.out
      go_wp2_with (go_at_call 173; refine Hid.out ?_)
      refine Lib.hid ?_
      refine (sizeO_any k n Ar As Ap r.length s.length p.length cr cs cp _).mono ?_
      rintro e w2 ⟨rfl, y2⟩
      have HBX := Lib.hid ((y2.block _ (lt_of_some HBX.out)).trans HBX.out)
      replace y := ext_trans y y2
      clear y2 c0 c1 c2 c3 c4
      rw [HZ2.out]
      by_cases z2 : 536870912 < Z
      · go_wp2_with (fail)
        go_ret
        exact ⟨ret_int (by rw [← HR.out, HZ.out, if_neg (show ¬ (_ ∧ 1 ≤ Z ∧ Z ≤ 536870912) by omega)]), y⟩
      · have HR2 : Hid ((if mayS l s = 0 then mayP l p else mayS l s) = R) := Lib.hid (by rw [← HR.out, HZ.out, HF.out, if_pos (show true = true ∧ 1 ≤ Z ∧ Z ≤ 536870912 from ⟨rfl, by omega, by omega⟩)])
        obtain ⟨c0, c1, c2, c3, c4⟩ := box_at HBX.out
        go_wp2_with (go_at_call 131; refine Hid.out ?_)
        refine Lib.hid ?_
        refine (mayS_any sc l As s.length cs s _ rfl (h2.ext y) (by omega) (hS.ext y) v1 (Utf8Tabs_below hT y)).mono ?_
        rintro e w3 ⟨rfl, y3⟩
        have HBX := Lib.hid ((y3.block _ (lt_of_some HBX.out)).trans HBX.out)
        replace y := ext_trans y y3
        clear y3 c0 c1 c2 c3 c4
        generalize mayS l s = E at HR2 ⊢
        by_cases hE : E = 0
        · subst hE
          have HR3 : Hid (mayP l p = R) := Lib.hid (by rw [← HR2.out, if_pos rfl])
          obtain ⟨c0, c1, c2, c3, c4⟩ := box_at HBX.out
          go_wp2_with (go_at_call 135; refine Hid.out ?_)
          refine Lib.hid ?_
          refine (mayP_any sc l Ap p.length cp p _ rfl (h3.ext y) (by omega) (hS.ext y) v2 (Utf8Tabs_below hT y)).mono ?_
          rintro e w4 ⟨rfl, y4⟩
          rw [HR3.out]
          replace y := ext_trans y y4
          go_wp2_with (fail)
          go_ret
          exact ⟨rfl, y⟩
        · have hne : (E == 0) = false := beq_eq_false_iff_ne.2 hE
          have HE : Hid (E = R) := Lib.hid (by rw [← HR2.out, if_neg hE])
          clear hE
          go_wp2_with (fail)
          go_ret
          exact ⟨ret_int HE.out, y⟩

def mayStep (l : List Ky) (st : Bool × Int) (x : OpS) : Bool × Int :=
  if st.1 = true then st else if oneP l x.o = 3 then (true, 3) else (false, if oneP l x.o = 0 then st.2 else oneP l x.o)
def mayO (l : List Ky) (x : List OpS) : Int :=
  if (x.foldl (mayStep l) (false, 0)).1 = true then 3 else if takesP x ≤ 536870912 ∧ makesP x ≤ 536870912 then (x.foldl (mayStep l) (false, 0)).2 else 3
theorem mayStep_true (l : List Ky) (a : Int) : ∀ x : List OpS, x.foldl (mayStep l) (true, a) = (true, a)
  | [] => rfl
  | x :: r => by rw [List.foldl_cons]; unfold mayStep; simp only [if_true]; exact mayStep_true l a r
theorem mstep_drop {l : List Ky} {x : List OpS} {m : Nat} {o : OpS} {a : Int} {R : Bool × Int} (hd : x.drop m = o :: x.drop (m + 1)) (h : (x.drop m).foldl (mayStep l) (false, a) = R) : (x.drop (m + 1)).foldl (mayStep l) (mayStep l (false, a) o) = R := by
  rw [hd] at h; exact h
set_option maxRecDepth 100000 in
set_option maxHeartbeats 1600000 in
theorem mayO_any (sc : Nat) (l : List Ky) (A : Option Addr) (n c : Nat) (x : List OpS) (w : World) (hn : n = x.length) (h : RdOp w w.heap.size A x) (hb : n ≤ 140737488355328) (hS : Sch w sc l) (ho : ∀ o ∈ x, okOp o.o) (hT : Lib.Utf8Tabs 1 2 w) :
    Calls Tryz.prog 88 #[.pointer (some ⟨sc, 0, none⟩), .slice A n c] w fun e w' => e = .returned (.int .i64 (mayO l x)) ∧ Below w.heap.size w w' := by
  have N := Lib.hid hn
  obtain ⟨R, hR⟩ : ∃ X, mayO l x = X := ⟨_, rfl⟩
  rw [hR]
  unfold mayO at hR
  obtain ⟨ST, hST⟩ : ∃ X, x.foldl (mayStep l) (false, 0) = X := ⟨_, rfl⟩
  rw [hST] at hR
  have HR := Lib.hid hR
  have HST := Lib.hid hST
  clear hR hST hn
  go_enter Tryz.func88, Tryz.ntmps88
  go_wp2_with (fail)
  go_loopg [5, 11] n (fun g av iv wr => ∃ (m : Nat) (a : Int), m ≤ n ∧ g = n - m ∧ av = .int .i64 a ∧ iv = .int .i64 (m : Int) ∧ Below w.heap.size w wr ∧ Hid ((x.drop m).foldl (mayStep l) (false, a) = ST))
  case atStart => exact ⟨0, 0, by omega, rfl, rfl, rfl, Below.refl _ _, Lib.hid (by rw [List.drop_zero]; exact HST.out)⟩
  case round =>
    obtain ⟨m, a, hm, hg, rfl, rfl, y, HI⟩ := hrel
    have HG := Lib.hid hg
    clear hg
    by_cases hlt : m < n
    · have hl1 : m < x.length := by have := N.out; omega
      obtain ⟨ad, o, had0, had, hd1, hx1, hc0⟩ := (h.1.below y (Nat.le_refl _)).el hl1
      subst had0
      have hmem := List.mem_of_getElem? hx1
      have hok := ho o hmem
      obtain ⟨g1, g2, g3⟩ := h.2 o hmem
      have HI2 := Lib.hid (mstep_drop hd1 HI.out)
      obtain ⟨⟨k, nn, r, s, p⟩, Ar, cr, As, cs, Ap, cp⟩ := o
      obtain ⟨r0, r1, r2, r3, r4⟩ := op_cells hc0
      simp only at g1 g2 g3
      have y2 := ext_trans y (ext_alloc wr (.cells #[.int .u8 k, .int .i64 nn, .slice Ar r.length cr, .slice As s.length cs, .slice Ap p.length cp] 50))
      have hw2 : IntKind.i64.wrap ((m:Int) + 1) = (m : Int) + 1 := IntWalk.i64_in _ (by omega)
      clear hc0 hd1 hx1 hmem HI
      go_wp2_with (go_at_call 161; refine Hid.out ?_)
      refine Lib.hid ?_
      refine (opOne_any sc l k nn Ar As Ap r s p cr cs cp _ (hS.ext y2) (g1.ext y2) (g2.ext y2) (g3.ext y2) hok (Utf8Tabs_below hT y2)).mono ?_
      rintro e w3 ⟨rfl, y3⟩
      have yy := ext_trans y2 y3
      have HI3 : Hid ((x.drop (m + 1)).foldl (mayStep l) (if oneP l ⟨k, nn, r, s, p⟩ = 3 then (true, 3) else (false, if oneP l ⟨k, nn, r, s, p⟩ = 0 then a else oneP l ⟨k, nn, r, s, p⟩)) = ST) := Lib.hid HI2.out
      generalize oneP l ⟨k, nn, r, s, p⟩ = E at HI3 ⊢
      clear HI2
      by_cases e3 : E = 3
      · subst e3
        have HS3 : Hid (ST = (true, 3)) := Lib.hid (by rw [← HI3.out, if_pos rfl, mayStep_true])
        go_wp2_with (fail)
        go_ret
        exact ⟨ret_int (by rw [← HR.out, HS3.out]; rfl), yy⟩
      · have e3b : (E == 3) = false := beq_eq_false_iff_ne.2 e3
        by_cases e0 : E = 0
        · subst e0
          have HI4 : Hid ((x.drop (m + 1)).foldl (mayStep l) (false, a) = ST) := Lib.hid (by rw [← HI3.out, if_neg e3, if_pos rfl])
          clear e3 e3b
          go_wp2_with (fail)
          go_roundg (n - (m + 1))
          case measure => have := HG.out; omega
          case rel => exact ⟨m + 1, a, by omega, rfl, rfl, by go_num, yy, HI4⟩
        · have e0b : (E == 0) = false := beq_eq_false_iff_ne.2 e0
          have HI4 : Hid ((x.drop (m + 1)).foldl (mayStep l) (false, E) = ST) := Lib.hid (by rw [← HI3.out, if_neg e3, if_neg e0])
          clear e3 e0
          go_wp2_with (fail)
          go_roundg (n - (m + 1))
          case measure => have := HG.out; omega
          case rel => exact ⟨m + 1, E, by omega, rfl, rfl, by go_num, yy, HI4⟩
    · have HS4 : Hid (ST = (false, a)) := Lib.hid (by rw [← HI.out, List.drop_eq_nil_of_le (by have := N.out; omega)]; rfl)
      have HR2 : Hid ((if takesP x ≤ 536870912 ∧ makesP x ≤ 536870912 then a else 3) = R) := Lib.hid (by rw [← HR.out, HS4.out]; rfl)
      clear HI HG
      go_wp2_with (go_at_call 104; refine Hid.out ?_)
      refine Lib.hid ?_
      refine (takes_any A n c x _ N.out (h.ext y).1 hb).mono ?_
      rintro e w3 ⟨rfl, y3⟩
      replace y := ext_trans y y3
      generalize takesP x = T at HR2 ⊢
      by_cases t1 : 536870912 < T
      · go_wp2_with (fail)
        go_ret
        exact ⟨ret_int (by rw [← HR2.out, if_neg (by omega)]), y⟩
      · go_wp2_with (go_at_call 105; refine Hid.out ?_)
        refine Lib.hid ?_
        refine (makes_any A n c x _ N.out (h.ext y).1 hb).mono ?_
        rintro e w4 ⟨rfl, y4⟩
        replace y := ext_trans y y4
        generalize makesP x = U at HR2 ⊢
        by_cases u1 : 536870912 < U
        · go_wp2_with (fail)
          go_ret
          exact ⟨ret_int (by rw [← HR2.out, if_neg (by omega)]), y⟩
        · have HR3 : Hid (a = R) := Lib.hid (by rw [← HR2.out, if_pos ⟨by omega, by omega⟩])
          go_wp2_with (fail)
          go_ret
          exact ⟨ret_int HR3.out, y⟩
end Go.Proofs.YtfnkjcodcoehcaaGreatDoor
