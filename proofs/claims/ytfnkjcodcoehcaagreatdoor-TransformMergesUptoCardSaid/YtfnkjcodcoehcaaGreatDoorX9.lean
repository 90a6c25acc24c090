/- Merged texts. -/
import Derived.RegionTactic
import Derived.BigRegion
import Derived.ChangeAlike
import Derived.Test.YtfnkjcodcoehcaaGreatDoorX8
namespace Go.Proofs.YtfnkjcodcoehcaaGreatDoor
set_option maxRecDepth 100000
set_option maxHeartbeats 3200000
open Go.RowKit
open Go.Lib (hid Utf8Tabs)
set_option linter.unusedVariables false
set_option linter.unusedSimpArgs false
theorem MapK.drew {w : World} {b : Nat} {l : List Ky} (h : MapK w b l) : MapK w.drew b l := h
def Y4X (l : List Ky) (w : World) (e : Ending) (w' : World) : Prop :=
 Below w.heap.size w w' ∧ ((Z6D l = true ∧ ∃ s, e = .returned (.tuple #[.pointer (some ⟨s, 0, none⟩), .int .i64 0]) ∧ Sch w' s l) ∨ (Z6D l = false ∧ e = .returned (.tuple #[.pointer none, .int .i64 3])))
theorem Y16 (A : Option Addr) (n c : Nat) (l : List Ky) (w : World) (hn : n = l.length) (h : RdKy w w.heap.size A l) (hb : n ≤ 140737488355328) :
 Calls Tryz.prog 13 #[.slice A n c] w (Y4X l w) := by
 have N := hid hn
 generalize hR : Z6D l = R
 have HR := hid hR
 clear hn hR
 unfold Y4X
 rw [HR.out]
 by_cases h64 : (64 : Int) < (n : Int)
 ·go_enter Tryz.func13, Tryz.ntmps13
  go_wp2_with (fail)
  have hf : R = false := by
   rw [← HR.out]
   have := N.out
   simp [Z6D]; omega
  refine bodyPost_ret (v := .tuple #[.pointer none, .int .i64 3]) (by simp [results, Tryz.results13, go_sem]) rfl ?_
  exact ⟨Below.refl _ _, .inr ⟨hf, rfl⟩⟩
 have HP : Hid (Z6C [] l = R) := hid (by rw [← HR.out]; have := N.out; simp [Z6D]; intro h; omega)
 have hmm := @run_makeMap Tryz.prog
 go_enter Tryz.func13, Tryz.ntmps13
 go_wp2_with (go_at_call 67; refine Hid.out ?_)
 refine hid ?_
 refine (Z82 A n c l w N.out h (by omega)).mono ?_
 rintro e w1 ⟨A', c', rfl, hown, y1⟩
 have HOW := hid hown
 clear hown
 go_wp2_with (fail)
 go_loopg [19] n (fun g iv wr => ∃ m : Nat, m ≤ n ∧ g = n - m ∧ iv = .int .i64 (m : Int) ∧ Below w.heap.size w wr ∧ w1.heap.size + 2 ≤ wr.heap.size ∧ wr.heap[w1.heap.size + 1]? = some (.cells #[.slice A' l.length c', .map (some w1.heap.size)] 109 (0, 0)) ∧ MapK wr w1.heap.size (l.take m) ∧ OwKy wr w.heap.size (.slice A' l.length c') l ∧ Hid (Z6C (l.take m) (l.drop m) = R))
 case atStart =>
  have ya := Z0b w1 (.map #[] 0)
  have yb := Z0b (w1.alloc (.map #[] 0)) (.cells #[.slice A' l.length c', .map (some w1.heap.size)] 109)
  have hm0 := heap_alloc_new w1 (.map #[] 0)
  have hb0 := heap_alloc_new (w1.alloc (.map #[] 0)) (.cells #[.slice A' l.length c', .map (some w1.heap.size)] 109)
  rw [World.size_alloc] at hb0
  refine ⟨0, by omega, rfl, rfl, Z0a y1 (Z0a ya yb), by simp, hb0, ⟨#[], 0, (yb.block _ (by simp)).trans hm0, by simp⟩, (HOW.out.alloc _).alloc _, hid (by rw [List.drop_zero, List.take_zero]; exact HP.out)⟩
 case round =>
  obtain ⟨m, hm, hg, rfl, y, hs2, hbx, hmk, how, HI⟩ := hrel
  have HG := hid hg
  clear hg HR HP
  by_cases hlt : m < n
  ·have hl1 : m < l.length := by have := N.out; omega
   obtain ⟨ad, x, rfl, had, hd1, hx1, hc0⟩ := (h.below y (Nat.le_refl _)).el hl1
   obtain ⟨x1, x2, x3, x4, x5, x6⟩ := x
   obtain ⟨r0, r1, r2, r3, r4, r5⟩ := Z4l hc0
   have HI2 : Hid ((mayK ⟨x1, x2, x3, x4, x5, x6⟩ && (Z0N (l.take m) x1).isNone && Z6C (l.take (m + 1)) (l.drop (m + 1))) = R) := hid (by
    rw [← HI.out, hd1]
    simp only [Z6C]
    rw [List.take_add_one, hx1]; rfl)
   have HX := hid hx1
   have y2 := Z0b wr (.cells #[.int .i64 x1, .bool x2, .int .u8 x3, .bool x4, .bool x5, .int .i64 x6] 97)
   have hk2 := heap_alloc_new wr (.cells #[.int .i64 x1, .bool x2, .int .u8 x3, .bool x4, .bool x5, .int .i64 x6] 97)
   have hb2 := (y2.block _ (Z0c hbx)).trans hbx
   have hmk2 := hmk.ext y2
   have how2 := how.alloc (.cells #[.int .i64 x1, .bool x2, .int .u8 x3, .bool x4, .bool x5, .int .i64 x6] 97)
   obtain ⟨b0, b1⟩ := Y0O hb2
   obtain ⟨k0, k1, k2, k3, k4, k5⟩ := Z32 hk2
   have HMK := hid hmk2
   have HB2 := hid hb2
   have HK2 := hid hk2
   have HOW2 := hid how2
   have y3 := Z0b (wr.alloc (.cells #[.int .i64 x1, .bool x2, .int .u8 x3, .bool x4, .bool x5, .int .i64 x6] 97)) (.cells #[.int .i64 0, .bool false, .int .u8 0, .bool false, .bool false, .int .i64 0] 97)
   have hb3 := (y3.block _ (Z0c hb2)).trans hb2
   have hk3 := (y3.block _ (Z0c hk2)).trans hk2
   have hmk3 := hmk2.ext y3
   obtain ⟨b0', b1'⟩ := Y0O hb3
   obtain ⟨k0', -⟩ := Z32 hk3
   have hl := hmk2.drew.look x1
   have hl' := hmk3.drew.look x1
   have hz3 := heap_alloc_new (wr.alloc (.cells #[.int .i64 x1, .bool x2, .int .u8 x3, .bool x4, .bool x5, .int .i64 x6] 97)) (.cells #[.int .i64 0, .bool false, .int .u8 0, .bool false, .bool false, .int .i64 0] 97)
   clear hb3 hk3 hmk3
   generalize (Z0N (l.take m) x1).getD Ky.zero = F at hl hl'
   generalize hF2 : (Z0N (l.take m) x1).isSome = G at hl hl'
   obtain ⟨z1, z2, z3, z4, z5, z6⟩ := F
   simp only [Ky.val] at hl hl'
   have HF2 := hid hF2
   clear hF2
   clear hc0 hd1 hx1 HI hmk hmk2 hbx hb2 hk2 how how2
   go_wp2_with (fail)
   go_big_region
   all_goals
    have y5 := Z0a y2 (Z0b (wr.alloc (.cells #[.int .i64 x1, .bool x2, .int .u8 x3, .bool x4, .bool x5, .int .i64 x6] 97)) (.cells #[.int .i64 z1, .bool z2, .int .u8 z3, .bool z4, .bool z5, .int .i64 z6] 97))
    have y5 : Below wr.heap.size wr ((wr.alloc (.cells #[.int .i64 x1, .bool x2, .int .u8 x3, .bool x4, .bool x5, .int .i64 x6] 97)).alloc (.cells #[.int .i64 z1, .bool z2, .int .u8 z3, .bool z4, .bool z5, .int .i64 z6] 97)).drew := y5.drew
    have y6 : Below (wr.alloc (.cells #[.int .i64 x1, .bool x2, .int .u8 x3, .bool x4, .bool x5, .int .i64 x6] 97)).heap.size (wr.alloc (.cells #[.int .i64 x1, .bool x2, .int .u8 x3, .bool x4, .bool x5, .int .i64 x6] 97)) ((wr.alloc (.cells #[.int .i64 x1, .bool x2, .int .u8 x3, .bool x4, .bool x5, .int .i64 x6] 97)).alloc (.cells #[.int .i64 z1, .bool z2, .int .u8 z3, .bool z4, .bool z5, .int .i64 z6] 97)).drew := (Z0b (wr.alloc (.cells #[.int .i64 x1, .bool x2, .int .u8 x3, .bool x4, .bool x5, .int .i64 x6] 97)) (.cells #[.int .i64 z1, .bool z2, .int .u8 z3, .bool z4, .bool z5, .int .i64 z6] 97)).drew
    generalize ((wr.alloc (.cells #[.int .i64 x1, .bool x2, .int .u8 x3, .bool x4, .bool x5, .int .i64 x6] 97)).alloc (.cells #[.int .i64 z1, .bool z2, .int .u8 z3, .bool z4, .bool z5, .int .i64 z6] 97)).drew = w5 at *
    have hb5 := (y6.block _ (Z0c HB2.out)).trans HB2.out
    have hk5 := (y6.block _ (Z0c HK2.out)).trans HK2.out
    have hmk5 := HMK.out.ext y6
    have how5 := HOW2.out.below y6 (Nat.le_refl _)
    obtain ⟨b0, b1⟩ := Y0O hb5
    obtain ⟨k0, k1, k2, k3, k4, k5⟩ := Z32 hk5
    cases G with
    | true =>
      go_wp2_with (fail)
      refine bodyPost_ret (v := .tuple #[.pointer none, .int .i64 3]) (by simp [results, Tryz.results13, go_sem]) rfl ?_
      refine ⟨Z0a y y5, .inr ⟨?_, rfl⟩⟩
      have h2 := HF2.out
      rw [← HI2.out]
      cases hq : Z0N (l.take m) x1 with
      | none => rw [hq] at h2; cases h2
      | some q => simp
    | false =>
      have hnone : Z0N (l.take m) x1 = none := by
       have h2 := HF2.out
       cases hq : Z0N (l.take m) x1 with
       | none => rfl
       | some q => rw [hq] at h2; cases h2
      have HNO := hid hnone
      have HB5 := hid hb5
      have HK5 := hid hk5
      have HM5 := hid hmk5
      have HO5 := hid how5
      clear hnone hb5 hk5 hmk5 how5
      go_wp2_with (go_at_call 68; refine Hid.out ?_)
      refine hid ?_
      refine (Y3U x1 x6 x3 x2 x4 x5 w5).mono ?_
      rintro e w6 ⟨rfl, y7⟩
      generalize hmay : mayK ⟨x1, x2, x3, x4, x5, x6⟩ = M
      have HMA := hid hmay
      clear hmay b0 b1 k0 k1 k2 k3 k4 k5
      have hb6 := (y7.block _ (Z0c HB5.out)).trans HB5.out
      have hk6 := (y7.block _ (Z0c HK5.out)).trans HK5.out
      have hmk6 := HM5.out.ext y7
      have how6 := HO5.out.below y7 (Nat.le_refl _)
      have HO6 := hid how6
      have HB6 := hid hb6
      obtain ⟨b0, b1⟩ := Y0O hb6
      obtain ⟨k0, k1, k2, k3, k4, k5⟩ := Z32 hk6
      cases M with
      | false =>
        go_wp2_with (fail)
        refine bodyPost_ret (v := .tuple #[.pointer none, .int .i64 3]) (by simp [results, Tryz.results13, go_sem]) rfl ?_
        refine ⟨Z0a y (Z0a y5 y7), .inr ⟨?_, rfl⟩⟩
        rw [← HI2.out, HMA.out]; simp
      | true =>
        obtain ⟨w7, hrun, hm7, hh7, hs7, ho7, ht7, hu7⟩ := hmk6.drew.store ⟨x1, x2, x3, x4, x5, x6⟩ HNO.out
        simp only [Ky.val] at hrun
        clear hb6 hk6 hmk6 how6
        go_wp2_with (fail)
        go_region
        have hw2 : IntKind.i64.wrap ((m:Int) + 1) = (m : Int) + 1 := IntWalk.i64_in _ (by omega)
        go_wp2_with (fail)
        go_roundg (n - (m + 1))
        case measure => have := HG.out; omega
        case rel =>
         have hws := y1.size
         have hB : w.heap.size ≤ w6.drew.heap.size := (Z0a y (Z0a y5 y7)).size
         have e67 : Below w.heap.size w6.drew w7 := ⟨ho7, ht7, hu7, by rw [hs7]; exact Nat.le_refl _, fun k hk => hh7 k (by omega)⟩
         have hsz6 : w5.heap.size ≤ w6.heap.size := y7.size
         have hsz5 : wr.heap.size ≤ w5.heap.size := y5.size
         refine ⟨m + 1, by omega, rfl, by go_num, (Z0a y (Z0a y5 y7)).drew.trans e67, ?_, (hh7 _ (by omega)).trans HB6.out, ?_, ?_, hid (by rw [← HI2.out, HMA.out, HNO.out]; simp)⟩
         ·rw [hs7]
          show w1.heap.size + 2 ≤ w6.heap.size
          omega
         ·rw [List.take_add_one, HX.out]
          exact hm7
         ·refine HO6.out.drew.keep fun k hk => hh7 k ?_
          have := (HOW.out.wb_lt k hk).2
          omega
  ·have hmn : m = n := by omega
   have hfull : l.take m = l := List.take_of_length_le (by have := N.out; omega)
   have hR : R = true := by rw [← HI.out, List.drop_eq_nil_of_le (by have := N.out; omega)]; rfl
   have hRT := hid hR
   have HF := hid hfull
   obtain ⟨b0, b1⟩ := Y0O hbx
   have HB := hid hbx
   have HM := hid hmk
   have HO := hid how
   clear hR hfull hbx hmk how
   go_wp2_with (go_at_call 69; refine Hid.out ?_)
   refine hid ?_
   refine (Y0V A' l.length c' w.heap.size l wr HO.out (by have := N.out; omega)).mono ?_
   rintro e w2 ⟨rfl, ls, hp, hs, hr, y2, hk⟩
   have hwb : ∀ j, w1.heap.size ≤ j → j < wr.heap.size → w2.heap[j]? = wr.heap[j]? := fun j hj hj2 => hk j hj2 (fun k hk2 => by have := (HOW.out.wb_lt k hk2).2; omega)
   have hb2 := (hwb (w1.heap.size + 1) (by omega) (by omega)).trans HB.out
   have hm2 := HM.out
   rw [HF.out] at hm2
   have hm2 := hm2.keep (hwb w1.heap.size (by omega) (by omega))
   have HH : Hid (Sch w2 (w1.heap.size + 1) l) := hid ⟨w1.heap.size, A', l.length, c', ls, hb2, hm2, hp.length_eq.symm, hp, hs, hr⟩
   have yy := y.trans y2
   clear hp hs hr hk hwb hb2 hm2 b0 b1
   go_wp2_with (fail)
   refine bodyPost_ret (v := .tuple #[.pointer (some ⟨w1.heap.size + 1, 0, none⟩), .int .i64 0]) (by simp [results, Tryz.results13, go_sem]) rfl ?_
   exact ⟨yy, .inl ⟨hRT.out, _, rfl, HH.out⟩⟩
theorem Sch.at_ {v W w' : World} {s : Nat} {l : List Ky} (h : Sch v s l) (y : Below W.heap.size W w') (e : W.heap = v.heap) : Sch w' s l := by
 have hc : ∀ p, W.cell? p = v.cell? p := fun p => by simp only [World.cell?, e]
 have h' : Sch W s l := by
  obtain ⟨bm, A, n, c, ls, hb, ⟨es, clock, hm, hk⟩, hn, hp, hs, hr⟩ := h
  exact ⟨bm, A, n, c, ls, by rw [e]; exact hb, ⟨es, clock, by rw [e]; exact hm, hk⟩, hn, hp, hs, by rw [e]; exact hr.keep fun p _ => hc p⟩
 exact h'.ext y
def okC (c : Ch) : Bool := if c.gone = true then beqV c.v V.zero else mayV c.v
def Z0T (l : List Ky) (c : Ch) : Bool := (Z0N l c.key).isSome && (c.gone || Z2C l c.key c.v)
def mayP (l : List Ky) (p : List Ch) : Int := if 64 < p.length then 3 else if Z1W p = true ∧ p.all okC = true then (if p.all (Z0T l) = true then 0 else 4) else 3
def Z41 (l : List Ky) : Option Int → Int → List Ch → Int
 | _, e, [] => e
 | prev, e, c :: r => if (prev.all (fun k => decide (k < c.key)) && okC c) = true then Z41 l (some c.key) (if Z0T l c = true then e else 4) r else 3
theorem Z6S (l : List Ky) : ∀ (p : List Ch) (k : Int) (e : Int), Z41 l (some k) e p = if rise (k :: p.map (·.key)) = true ∧ p.all okC = true then (if p.all (Z0T l) = true then e else 4) else 3
 | [], k, e => by simp [Z41, rise]
 | c :: r, k, e => by
   unfold Z41
   rw [Z6S l r c.key]
   by_cases h1 : k < c.key
   ·by_cases h2 : okC c = true
    ·by_cases h3 : Z0T l c = true
     ·simp [h1, h2, h3, rise]
     ·have h3 : Z0T l c = false := by simpa using h3
      simp [h1, h2, h3, rise]
    ·have h2 : okC c = false := by simpa using h2
     simp [h1, h2]
   ·simp [h1, rise]
theorem Y0W (l : List Ky) (p : List Ch) (h : p.length ≤ 64) : Z41 l none 0 p = mayP l p := by
 unfold mayP
 rw [if_neg (by omega)]
 cases p with
 | nil => simp [Z41, Z1W, rise]
 | cons c r =>
   unfold Z41
   rw [Z6S]
   by_cases h2 : okC c = true
   ·by_cases h3 : Z0T l c = true
    ·simp [h2, h3, Z1W]
    ·have h3 : Z0T l c = false := by simpa using h3
     simp [h2, h3, Z1W]
   ·have h2 : okC c = false := by simpa using h2
    simp [h2]
def okVc (p : List Ch) : Prop := ∀ c ∈ p, okV c.v
def okVs (p : List Ch) : Prop := ∀ c ∈ p, okV c.v ∧ c.v.s.size ≤ 100000000
theorem Y17 (s : Nat) (l : List Ky) (A : Option Addr) (n c : Nat) (p : List Ch) (w : World) (hn : n = p.length) (h : RdCh w w.heap.size A p) (hb : n ≤ 140737488355328) (hS : Sch w s l) (hv : okVc p) (hT : Utf8Tabs 1 2 w) :
 Calls Tryz.prog 135 #[.pointer (some ⟨s, 0, none⟩), .slice A n c] w fun e w' => e = .returned (.int .i64 (mayP l p)) ∧ Below w.heap.size w w' := by
 have N := hid hn
 generalize hR : mayP l p = R
 have HR := hid hR
 clear hn hR
 by_cases h64 : (64 : Int) < (n : Int)
 ·go_enter Tryz.func135, Tryz.ntmps135
  go_wp2_with (fail)
  go_ret
  refine ⟨Z0r ?_, Below.refl _ _⟩
  rw [← HR.out]
  have := N.out
  unfold mayP
  rw [if_pos (by omega)]
 have HP : Hid (Z41 l none 0 p = R) := hid (by rw [← HR.out]; exact Y0W l p (by have := N.out; omega))
 go_enter Tryz.func135, Tryz.ntmps135
 go_wp2_with (fail)
 go_loopg [5, 15] n (fun g ev iv wr => ∃ (m : Nat) (ei : Int), m ≤ n ∧ g = n - m ∧ ev = .int .i64 ei ∧ iv = .int .i64 (m : Int) ∧ Below w.heap.size w wr ∧ Hid (Z41 l (if m = 0 then none else (p[m - 1]?).map (·.key)) ei (p.drop m) = R))
 case atStart => exact ⟨0, 0, by omega, rfl, rfl, rfl, Below.refl _ _, hid (by rw [List.drop_zero]; exact HP.out)⟩
 case round =>
  obtain ⟨m, ei, hm, hg, rfl, rfl, y, HI⟩ := hrel
  have HG := hid hg
  clear hg HR HP
  by_cases hlt : m < n
  ·have hl1 : m < p.length := by have := N.out; omega
   obtain ⟨ad, x, rfl, had, hd1, hx1, hc0⟩ := (h.below y (Nat.le_refl _)).el hl1
   have hxv := hv x (List.mem_of_getElem? hx1)
   obtain ⟨x1, g, x2, x3, x4, x5⟩ := x
   obtain ⟨r0, r1, r2, r3, r4, r5⟩ := Z0I hc0
   obtain ⟨f0, f1⟩ : 0 ≤ x4 ∧ x4 < 18446744073709551616 := ⟨hxv.f0, hxv.f1⟩
   have HI2 : Hid ((if ((if m = 0 then none else (p[m - 1]?).map (·.key)).all (fun k => decide (k < x1)) && okC ⟨x1, g, x2, x3, x4, x5⟩) = true then Z41 l (some x1) (if Z0T l ⟨x1, g, x2, x3, x4, x5⟩ = true then ei else 4) (p.drop (m + 1)) else 3) = R) := hid (by
    rw [← HI.out, hd1]; rfl)
   have HX := hid hx1
   have y2 := Z0b wr (.cells #[.int .i64 x1, .bool g, .int .u8 x2, .int .i64 x3, .int .u64 x4, .string x5] 77)
   have hk2 := heap_alloc_new wr (.cells #[.int .i64 x1, .bool g, .int .u8 x2, .int .i64 x3, .int .u64 x4, .string x5] 77)
   have HK2 := hid hk2
   have HS2 := hid ((hS.ext y).ext y2)
   have HT2 := hid (Utf8Tabs_below (Utf8Tabs_below hT y) y2)
   clear hc0 hd1 hx1 HI hk2 hxv
   have hw2 : IntKind.i64.wrap ((m:Int) + 1) = (m : Int) + 1 := IntWalk.i64_in _ (by omega)
   go_wp2_with (go_at_call 62; refine Hid.out ?_)
   refine hid ?_
   generalize hw0 : wr.alloc _ = w0 at *
   clear hw0
   refine (Z4o s l x1 w0 HS2.out).mono ?_
   rintro e w3 ⟨k1, k2, k3, k4, k5, k6, q, rfl, hq1, hq2, y3⟩
   have HQ2 := hid hq2
   have y4 := Z0b w3 (.cells #[.int .i64 k1, .bool k2, .int .u8 k3, .bool k4, .bool k5, .int .i64 k6] 97)
   have hk5 := (y4.block _ (Z0c ((y3.block _ (Z0c HK2.out)).trans HK2.out))).trans ((y3.block _ (Z0c HK2.out)).trans HK2.out)
   have y5 := Z0a y (Z0a y2 (Z0a y3 y4))
   have HS5 := hid (HS2.out.ext (Z0a y3 y4))
   have HT5 := hid (Utf8Tabs_below HT2.out (Z0a y3 y4))
   have hh5 := h.below y5 (Nat.le_refl _)
   obtain ⟨b0, b1, b2, b3, b4, b5⟩ := Z5R hk5
   have HK5 := hid hk5
   clear hk5 hq1 hq2 r0 r1 r2 r3 r4 r5 HK2 HS2 HT2
   cases m with
   | zero =>
     have HI3 : Hid ((if okC ⟨x1, g, x2, x3, x4, x5⟩ = true then Z41 l (some x1) (if Z0T l ⟨x1, g, x2, x3, x4, x5⟩ = true then ei else 4) (p.drop (0 + 1)) else 3) = R) := hid (by rw [← HI2.out]; simp)
     clear HI2
     go_wp2_with (fail)
     go_quiet (fail)
     cases g with
     | true =>
       cases hz : beqV ⟨x2, x3, x4, x5⟩ ⟨0, 0, 0, ⟨#[]⟩⟩ with
       | false =>
         have hok : okC ⟨x1, true, x2, x3, x4, x5⟩ = false := hz
         have HOK := hid hok
         clear hok
         go_wp2_with (fail)
         go_ret
         exact ⟨Z0r (by rw [← HI3.out]; rw [HOK.out]; rfl), y5.trans (Z0m _ _ |>.mono (y5.size))⟩
       | true =>
         have hok : okC ⟨x1, true, x2, x3, x4, x5⟩ = true := hz
         have HOK := hid hok
         clear hok
         have HTH : Hid (Z0T l ⟨x1, true, x2, x3, x4, x5⟩ = q) := hid (by unfold Z0T; rw [HQ2.out]; simp)
         cases q with
         | false =>
           go_wp2_with (fail)
           go_roundg (n - (0 + 1))
           case measure => have := HG.out; omega
           case rel => exact ⟨0 + 1, 4, by omega, rfl, rfl, by go_num, y5.trans ((Z0m _ _).mono y5.size), hid (by rw [← HI3.out, if_neg (show ¬ (0 + 1 = 0) by omega), Nat.add_sub_cancel, HX.out]; rw [HOK.out, HTH.out]; rfl)⟩
         | true =>
           go_wp2_with (fail)
           go_roundg (n - (0 + 1))
           case measure => have := HG.out; omega
           case rel => exact ⟨0 + 1, ei, by omega, rfl, rfl, by go_num, y5.trans ((Z0m _ _).mono y5.size), hid (by rw [← HI3.out, if_neg (show ¬ (0 + 1 = 0) by omega), Nat.add_sub_cancel, HX.out]; rw [HOK.out, HTH.out]; rfl)⟩
     | false =>
       go_wp2_with (go_at_call 184; refine Hid.out ?_)
       refine hid ?_
       refine (Z5A x2 x3 x4 x5 _ f0 f1 ?tb).mono ?_
       case tb => exact Z4Y hT y5 rfl
       rintro e w6 ⟨rfl, y6⟩
       have HOK : Hid (okC ⟨x1, false, x2, x3, x4, x5⟩ = mayV ⟨x2, x3, x4, x5⟩) := hid rfl
       generalize mayV ⟨x2, x3, x4, x5⟩ = M at HOK ⊢
       have yy6 := Z2H y5 y6 rfl rfl rfl rfl
       have hk6 := Y3T HK5.out y6 rfl
       have HS6 := hid (Sch.at_ HS5.out y6 rfl)
       clear b0 b1 b2 b3 b4 b5
       obtain ⟨b0, b1, b2, b3, b4, b5⟩ := Z5R hk6
       clear hk6
       cases M with
       | false =>
         go_wp2_with (fail)
         go_ret
         exact ⟨Z0r (by rw [← HI3.out]; rw [HOK.out]; rfl), yy6⟩
       | true =>
         cases q with
         | false =>
           have HTH : Hid (Z0T l ⟨x1, false, x2, x3, x4, x5⟩ = false) := hid (by unfold Z0T; rw [HQ2.out]; rfl)
           go_wp2_with (fail)
           go_roundg (n - (0 + 1))
           case measure => have := HG.out; omega
           case rel => exact ⟨0 + 1, 4, by omega, rfl, rfl, by go_num, yy6, hid (by rw [← HI3.out, if_neg (show ¬ (0 + 1 = 0) by omega), Nat.add_sub_cancel, HX.out]; rw [HOK.out, HTH.out]; rfl)⟩
         | true =>
           have HTH : Hid (Z0T l ⟨x1, false, x2, x3, x4, x5⟩ = Z2C l x1 ⟨x2, x3, x4, x5⟩) := hid (by unfold Z0T; rw [HQ2.out]; rfl)
           go_wp2_with (go_at_call 185; refine Hid.out ?_)
           refine hid ?_
           refine (Z4p s l x1 x2 x3 x4 x5 _ ?sc f0 f1 ?tb).mono ?_
           case sc => exact HS6.out
           case tb => exact Z4Y hT yy6 rfl
           rintro e w7 ⟨rfl, y7⟩
           have yy7 := Z2H yy6 y7 rfl rfl rfl rfl
           generalize Z2C l x1 ⟨x2, x3, x4, x5⟩ = F at HTH ⊢
           cases F with
           | false =>
             go_wp2_with (fail)
             go_roundg (n - (0 + 1))
             case measure => have := HG.out; omega
             case rel => exact ⟨0 + 1, 4, by omega, rfl, rfl, by go_num, yy7, hid (by rw [← HI3.out, if_neg (show ¬ (0 + 1 = 0) by omega), Nat.add_sub_cancel, HX.out]; rw [HOK.out, HTH.out]; rfl)⟩
           | true =>
             go_wp2_with (fail)
             go_roundg (n - (0 + 1))
             case measure => have := HG.out; omega
             case rel => exact ⟨0 + 1, ei, by omega, rfl, rfl, by go_num, yy7, hid (by rw [← HI3.out, if_neg (show ¬ (0 + 1 = 0) by omega), Nat.add_sub_cancel, HX.out]; rw [HOK.out, HTH.out]; rfl)⟩
   | succ k =>
     obtain ⟨ad', z, e, _, _, hz1, hz0⟩ := hh5.el (show k < p.length by omega)
     injection e with e; subst e
     obtain ⟨z1, zg, z2, z3, z4, z5⟩ := z
     obtain ⟨s0, -⟩ := Z0I hz0
     have HI4 : Hid ((if (decide (z1 < x1) && okC ⟨x1, g, x2, x3, x4, x5⟩) = true then Z41 l (some x1) (if Z0T l ⟨x1, g, x2, x3, x4, x5⟩ = true then ei else 4) (p.drop (k + 1 + 1)) else 3) = R) := hid (by
      rw [← HI2.out, if_neg (show ¬ (k + 1 = 0) by omega), Nat.add_sub_cancel, hz1]; simp)
     clear HI2 hz1 hz0
     have hkn : k < n := by omega
     have hw1 : IntKind.i64.wrap (k:Int) = (k : Int) := IntWalk.i64_in _ (by omega)
     by_cases hle : x1 ≤ z1
     ·have HI3 : Hid ((3 : Int) = R) := hid (by rw [← HI4.out, show decide (z1 < x1) = false from decide_eq_false (by omega)]; simp)
      clear HI4
      go_wp2_with (fail)
      go_quiet (fail)
      go_wp2_with (fail)
      go_ret
      exact ⟨Z0r HI3.out, y5.trans ((Z0m _ _).mono y5.size)⟩
     ·have HI3 : Hid ((if okC ⟨x1, g, x2, x3, x4, x5⟩ = true then Z41 l (some x1) (if Z0T l ⟨x1, g, x2, x3, x4, x5⟩ = true then ei else 4) (p.drop (k + 1 + 1)) else 3) = R) := hid (by rw [← HI4.out, show decide (z1 < x1) = true from decide_eq_true (by omega)]; simp)
      clear HI4
      go_wp2_with (fail)
      go_quiet (fail)
      cases g with
      | true =>
        cases hz : beqV ⟨x2, x3, x4, x5⟩ ⟨0, 0, 0, ⟨#[]⟩⟩ with
        | false =>
          have hok : okC ⟨x1, true, x2, x3, x4, x5⟩ = false := hz
          have HOK := hid hok
          clear hok
          go_wp2_with (fail)
          go_ret
          exact ⟨Z0r (by rw [← HI3.out]; rw [HOK.out]; rfl), y5.trans (Z0m _ _ |>.mono (y5.size))⟩
        | true =>
          have hok : okC ⟨x1, true, x2, x3, x4, x5⟩ = true := hz
          have HOK := hid hok
          clear hok
          have HTH : Hid (Z0T l ⟨x1, true, x2, x3, x4, x5⟩ = q) := hid (by unfold Z0T; rw [HQ2.out]; simp)
          cases q with
          | false =>
            go_wp2_with (fail)
            go_roundg (n - ((k + 1) + 1))
            case measure => have := HG.out; omega
            case rel => exact ⟨(k + 1) + 1, 4, by omega, rfl, rfl, by go_num, y5.trans ((Z0m _ _).mono y5.size), hid (by rw [← HI3.out, if_neg (show ¬ ((k + 1) + 1 = 0) by omega), Nat.add_sub_cancel, HX.out]; rw [HOK.out, HTH.out]; rfl)⟩
          | true =>
            go_wp2_with (fail)
            go_roundg (n - ((k + 1) + 1))
            case measure => have := HG.out; omega
            case rel => exact ⟨(k + 1) + 1, ei, by omega, rfl, rfl, by go_num, y5.trans ((Z0m _ _).mono y5.size), hid (by rw [← HI3.out, if_neg (show ¬ ((k + 1) + 1 = 0) by omega), Nat.add_sub_cancel, HX.out]; rw [HOK.out, HTH.out]; rfl)⟩
      | false =>
        go_wp2_with (go_at_call 184; refine Hid.out ?_)
        refine hid ?_
        refine (Z5A x2 x3 x4 x5 _ f0 f1 ?tb).mono ?_
        case tb => exact Z4Y hT y5 rfl
        rintro e w6 ⟨rfl, y6⟩
        have HOK : Hid (okC ⟨x1, false, x2, x3, x4, x5⟩ = mayV ⟨x2, x3, x4, x5⟩) := hid rfl
        generalize mayV ⟨x2, x3, x4, x5⟩ = M at HOK ⊢
        have yy6 := Z2H y5 y6 rfl rfl rfl rfl
        have hk6 := Y3T HK5.out y6 rfl
        have HS6 := hid (Sch.at_ HS5.out y6 rfl)
        clear b0 b1 b2 b3 b4 b5
        obtain ⟨b0, b1, b2, b3, b4, b5⟩ := Z5R hk6
        clear hk6
        cases M with
        | false =>
          go_wp2_with (fail)
          go_ret
          exact ⟨Z0r (by rw [← HI3.out]; rw [HOK.out]; rfl), yy6⟩
        | true =>
          cases q with
          | false =>
            have HTH : Hid (Z0T l ⟨x1, false, x2, x3, x4, x5⟩ = false) := hid (by unfold Z0T; rw [HQ2.out]; rfl)
            go_wp2_with (fail)
            go_roundg (n - ((k + 1) + 1))
            case measure => have := HG.out; omega
            case rel => exact ⟨(k + 1) + 1, 4, by omega, rfl, rfl, by go_num, yy6, hid (by rw [← HI3.out, if_neg (show ¬ ((k + 1) + 1 = 0) by omega), Nat.add_sub_cancel, HX.out]; rw [HOK.out, HTH.out]; rfl)⟩
          | true =>
            have HTH : Hid (Z0T l ⟨x1, false, x2, x3, x4, x5⟩ = Z2C l x1 ⟨x2, x3, x4, x5⟩) := hid (by unfold Z0T; rw [HQ2.out]; rfl)
            go_wp2_with (go_at_call 185; refine Hid.out ?_)
            refine hid ?_
            refine (Z4p s l x1 x2 x3 x4 x5 _ ?sc f0 f1 ?tb).mono ?_
            case sc => exact HS6.out
            case tb => exact Z4Y hT yy6 rfl
            rintro e w7 ⟨rfl, y7⟩
            have yy7 := Z2H yy6 y7 rfl rfl rfl rfl
            generalize Z2C l x1 ⟨x2, x3, x4, x5⟩ = F at HTH ⊢
            cases F with
            | false =>
              go_wp2_with (fail)
              go_roundg (n - ((k + 1) + 1))
              case measure => have := HG.out; omega
              case rel => exact ⟨(k + 1) + 1, 4, by omega, rfl, rfl, by go_num, yy7, hid (by rw [← HI3.out, if_neg (show ¬ ((k + 1) + 1 = 0) by omega), Nat.add_sub_cancel, HX.out]; rw [HOK.out, HTH.out]; rfl)⟩
            | true =>
              go_wp2_with (fail)
              go_roundg (n - ((k + 1) + 1))
              case measure => have := HG.out; omega
              case rel => exact ⟨(k + 1) + 1, ei, by omega, rfl, rfl, by go_num, yy7, hid (by rw [← HI3.out, if_neg (show ¬ ((k + 1) + 1 = 0) by omega), Nat.add_sub_cancel, HX.out]; rw [HOK.out, HTH.out]; rfl)⟩
  ·have hmn : m = n := by omega
   go_wp2_with (fail)
   go_ret
   refine ⟨Z0r ?_, y⟩
   rw [← HI.out, List.drop_eq_nil_of_le (by have := N.out; omega)]
   rfl
theorem Y30 (s : Nat) (l : List Ky) (A : Option Addr) (n c : Nat) (p : List Ch) (w : World) (hn : n = p.length) (h : RdCh w w.heap.size A p) (hb : n ≤ 140737488355328) (hS : Sch w s l) (hv : okVs p) (hT : Utf8Tabs 1 2 w) :
 Calls Tryz.prog 135 #[.pointer (some ⟨s, 0, none⟩), .slice A n c] w fun e w' => e = .returned (.int .i64 (mayP l p)) ∧ Below w.heap.size w w' :=
 Y17 s l A n c p w hn h hb hS (fun c hc => (hv c hc).1) hT
theorem Z0U {l : List Ky} {p : List Ch} (h : mayP l p = 0) : p.length ≤ 64 ∧ Z1W p = true ∧ p.all okC = true ∧ p.all (Z0T l) = true := by
 unfold mayP at h
 by_cases h1 : 64 < p.length
 ·rw [if_pos h1] at h; cases h
 ·rw [if_neg h1] at h
  by_cases h2 : Z1W p = true ∧ p.all okC = true
  ·rw [if_pos h2] at h
   by_cases h3 : p.all (Z0T l) = true
   ·exact ⟨by omega, h2.1, h2.2, h3⟩
   ·rw [if_neg h3] at h; cases h
  ·rw [if_neg h2] at h; cases h
theorem Y5n {l : List Ky} {p : List Ch} (h0 : p.length ≤ 64) (h1 : Z1W p = true) (h2 : ∀ c ∈ p, okC c = true) (h3 : ∀ c ∈ p, Z0T l c = true) : mayP l p = 0 := by
 unfold mayP
 rw [if_neg (by omega), if_pos ⟨h1, List.all_eq_true.2 h2⟩, if_pos (List.all_eq_true.2 h3)]
theorem Z9U {l : List Ky} {b : Bool} {p : List Ch} (hp : Srt Ch.key p) : Srt Ch.key (Z1t l b p) := hp.filter Ch.key _
def actC (l : List Ky) (c : Cl) (p : List Ch) : Cl := ⟨c.r, Z04 (Z1t l (c.r == 10) p) c.s⟩
theorem Z2I (l : List Ky) (c : Cl) : actC l c [] = c := by cases c; rfl
def app (l : List Ky) : List Un → List Cl → List Cl
 | [], d => d
 | .ins r s :: us, d => ⟨r, s⟩ :: app l us d
 | .del :: us, d => app l us (d.drop 1)
 | .ret p :: us, d => (d.take 1).map (fun c => actC l c p) ++ app l us (d.drop 1)
theorem Z2j (l : List Ky) : ∀ (us : List Un) (d : List Cl), Z0k us ≤ d.length → (app l us d).length + Z0k us = d.length + Z0p us
 | [], d, _ => by simp [app, Z0k, Z0p]
 | .ins r s :: us, d, h => by have := Z2j l us d h; simp [app, Z0k, Z0p]; omega
 | .del :: us, d, h => by
   simp only [Z0k] at h
   have := Z2j l us (d.drop 1) (by rw [List.length_drop]; omega)
   rw [List.length_drop] at this
   simp only [app, Z0k, Z0p]; omega
 | .ret p :: us, d, h => by
   simp only [Z0k] at h
   have := Z2j l us (d.drop 1) (by rw [List.length_drop]; omega)
   rw [List.length_drop] at this
   simp only [app, Z0k, Z0p, List.length_append, List.length_map, List.length_take]; omega
theorem Z3N (l : List Ky) : ∀ (a b : List Un) (d : List Cl), app l (a ++ b) d = (app l a (d.take (Z0k a))) ++ app l b (d.drop (Z0k a))
 | [], b, d => by simp [app, Z0k]
 | .ins r s :: a, b, d => by show _ :: app l (a ++ b) d = _; rw [Z3N l a b d]; rfl
 | .del :: a, b, d => by
   show app l (a ++ b) (d.drop 1) = _
   rw [Z3N l a b (d.drop 1)]
   simp only [app, Z0k]
   rw [List.drop_drop, Nat.add_comm 1, List.drop_take, Nat.add_sub_cancel]
 | .ret p :: a, b, d => by
   show (d.take 1).map _ ++ app l (a ++ b) (d.drop 1) = _
   rw [Z3N l a b (d.drop 1)]
   simp only [app, Z0k]
   rw [List.drop_drop, Nat.add_comm 1, List.drop_take, Nat.add_sub_cancel, List.take_take, Nat.min_eq_left (by omega), List.append_assoc]
theorem Y31 (l : List Ky) (us : List Un) (d : List Cl) : app l (trim us) d = app l us d := by
 induction us generalizing d with
 | nil => rfl
 | cons u us ih =>
   rw [trim]
   cases ht : trim us with
   | nil =>
     have h1 : ∀ e : List Cl, app l us e = e := fun e => by rw [← ih e, ht]; rfl
     simp only
     by_cases hu : u = .ret []
     ·rw [if_pos hu, hu]
      simp only [app]
      rw [h1]
      have : (d.take 1).map (fun c => actC l c []) = d.take 1 := by simp [Z2I]
      rw [this, List.take_append_drop]
     ·rw [if_neg hu]
      cases u with
      | ins r s => simp [app, h1]
      | del => simp [app, h1]
      | ret p => simp [app, h1]
   | cons v vs =>
     simp only
     rw [← ht]
     cases u with
     | ins r s => simp [app, ih]
     | del => simp [app, ih]
     | ret p => simp [app, ih]
theorem Y6f (l : List Ky) (us : List Un) : ∀ (I : List Un) (g : Nat) (d : List Cl), (∀ u ∈ I, ∃ r s, u = .ins r s) → app l (cn us I g) d = app l I [] ++ app l us (d.drop g) := by
 have hI : ∀ (I rest : List Un) (d : List Cl), (∀ u ∈ I, ∃ r s, u = .ins r s) → app l (I ++ rest) d = app l I [] ++ app l rest d := by
  intro I
  induction I with
  | nil => intro rest d _; rfl
  | cons u I ih =>
    intro rest d h
    obtain ⟨r, s, rfl⟩ := h u (by simp)
    show _ :: app l (I ++ rest) d = _
    rw [ih rest d (fun v hv => h v (List.mem_cons_of_mem _ hv))]; rfl
 have hD : ∀ (g : Nat) (rest : List Un) (d : List Cl), app l (List.replicate g .del ++ rest) d = app l rest (d.drop g) := by
  intro g
  induction g with
  | zero => intro rest d; rfl
  | succ g ih => intro rest d; rw [List.replicate_succ]; show app l (List.replicate g .del ++ rest) (d.drop 1) = _; rw [ih, List.drop_drop, Nat.add_comm 1]
 induction us with
 | nil =>
   intro I g d h
   rw [cn, hI I _ d h]
   have := hD g [] d
   rw [List.append_nil] at this
   rw [this]
 | cons u us ih =>
   intro I g d h
   cases u with
   | ins r s =>
     have h2 : ∀ u ∈ I ++ [Un.ins r s], ∃ r s, u = .ins r s := fun v hv => by
      rcases List.mem_append.1 hv with hv | hv
      ·exact h v hv
      ·simp at hv; exact ⟨r, s, hv⟩
     rw [cn, ih _ _ _ h2, hI I [.ins r s] [] h, List.append_assoc]
     rfl
   | del =>
     rw [cn, ih _ _ _ h]
     show _ = _ ++ app l us ((d.drop g).drop 1)
     rw [List.drop_drop]
   | ret p =>
     rw [cn, List.append_assoc, hI I _ d h, hD]
     rw [show app l (.ret p :: cn us [] 0) (d.drop g) = ((d.drop g).take 1).map (fun c => actC l c p) ++ app l (cn us [] 0) ((d.drop g).drop 1) from rfl, ih [] 0 _ (by simp)]
     simp [app]
theorem Y18 (l : List Ky) (us : List Un) (d : List Cl) : app l (Z2i us) d = app l us d := by
 rw [Z2i, Y6f l us [] 0 d (by simp)]; rfl
theorem Z6T (l : List Ky) (us : List Un) (d : List Cl) : app l (nf us) d = app l us d := by rw [nf, Y31, Y18]
theorem Y0X (us : List Un) : Z0k (trim us) ≤ Z0k us := by
 induction us with
 | nil => simp [trim]
 | cons u us ih =>
   rw [trim]
   cases ht : trim us with
   | nil =>
     simp only
     by_cases hu : u = .ret []
     ·rw [if_pos hu]; simp [Z0k]
     ·rw [if_neg hu]; cases u <;> simp [Z0k]
   | cons v vs =>
     simp only
     rw [ht] at ih
     cases u with
     | ins r s => rw [Z1k, Z1k]; exact ih
     | del => rw [Z07, Z07]; omega
     | ret p => rw [Z0Q, Z0Q]; omega
theorem Z5C (us : List Un) : Z0k (nf us) ≤ Z0k us := by
 rw [nf]; exact Nat.le_trans (Y0X _) (by rw [Z56]; exact Nat.le_refl _)
def okA (a : At) : Bool := mayV a.v
def Z1u (l : List Ky) (a : At) : Bool := Z2C l a.key a.v
def mayS (l : List Ky) (p : List At) : Int := if 64 < p.length then 3 else if Z1H p = true ∧ p.all okA = true then (if p.all (Z1u l) = true then 0 else 4) else 3
def okVa (p : List At) : Prop := ∀ c ∈ p, okV c.v ∧ c.v.s.size ≤ 100000000
theorem Z00 {l : List Ky} {p : List At} (h : mayS l p = 0) : p.length ≤ 64 ∧ Z1H p = true ∧ (∀ a ∈ p, okA a = true) ∧ ∀ a ∈ p, Z1u l a = true := by
 unfold mayS at h
 by_cases h1 : 64 < p.length
 ·rw [if_pos h1] at h; cases h
 ·rw [if_neg h1] at h
  by_cases h2 : Z1H p = true ∧ p.all okA = true
  ·rw [if_pos h2] at h
   by_cases h3 : p.all (Z1u l) = true
   ·exact ⟨by omega, h2.1, List.all_eq_true.1 h2.2, List.all_eq_true.1 h3⟩
   ·rw [if_neg h3] at h; cases h
  ·rw [if_neg h2] at h; cases h
def GoodB (w : World) (O : List (Nat × Obj)) (x : World) : Prop := Below w.heap.size w x ∧ ∀ p ∈ O, x.heap[p.1]? = some p.2
structure GW (w : World) (O : List (Nat × Obj)) where
 val : World
 ok : GoodB w O val
section
variable {P : Program} {w v : World} {O : List (Nat × Obj)}
theorem GoodB.later {x y : World} (h : GoodB w O x) (hy : Below x.heap.size x y) : GoodB w O y :=
 ⟨Z0a h.1 hy, fun p hp => by
  have h1 := h.2 p hp
  rw [hy.block p.1 (Array.getElem?_eq_some_iff.1 h1).1]
  exact h1⟩
theorem Z8c {f : FuncId} {args : Array Value} {r : Value} (x : GW w O) (h : Calls P f args x.val fun e w' => e = .returned r ∧ Below x.val.heap.size x.val w') :
 Calls P f args x.val fun e w' => e = .returned r ∧ ∃ y : GW w O, w' = y.val :=
 h.mono fun e w' ⟨he, hb⟩ => ⟨he, ⟨w', x.ok.later hb⟩, rfl⟩
theorem Y0Y (h : GoodB w O v) : ∃ x : GW w O, ({ v with drawn := v.drawn + 1 } : World) = x.val :=
 ⟨⟨{ v with drawn := v.drawn + 1 }, ⟨h.1.os, h.1.tape, h.1.output, h.1.size, h.1.block⟩, h.2⟩, rfl⟩
theorem Z0H {id : Nat} {Q : Exit → Act → World → Prop} {a : Act} {l : List Oper} (hm : P.follows .mixedOrders = true) (hB : Region.lexB .any l.toArray = true) (hC : GoodB w O v)
 (h : wpQuiet P l.toArray (fun w' => ∃ x : GW w O, w' = x.val) (fun a' => ∀ w', (∃ x : GW w O, w' = x.val) → Q .normal a' w') l a) : (Code.region id l.toArray true).wp P Q a v :=
 wp_region_quiet (C := fun w' => ∃ x : GW w O, w' = x.val) hm hB (Y0Y hC) (by simpa using h)
theorem Y0Z {b : Nat} {o : Obj} (h : (b, o) ∈ O) (x : GW w O) : x.val.heap[b]? = some o := x.ok.2 _ h
theorem Z2W {b : Nat} {cs : Array Value} {t : TypeId} (h : (b, Obj.cells cs t (0, 0)) ∈ O) (x : GW w O) (j : Nat) (u : Value) (hj : cs[j]? = some u) : x.val.cell? ⟨b, j, none⟩ = some u := by
 have := x.ok.2 _ h
 simp only [World.cell?, this]
 exact hj
end
open Go.RowKit
theorem Z8d {w : World} {O : List (Nat × Obj)} {a b : Nat} (hT : Utf8Tabs a b w) (x : GW w O) : Utf8Tabs a b x.val := Utf8Tabs_below hT x.ok.1
end Go.Proofs.YtfnkjcodcoehcaaGreatDoor
