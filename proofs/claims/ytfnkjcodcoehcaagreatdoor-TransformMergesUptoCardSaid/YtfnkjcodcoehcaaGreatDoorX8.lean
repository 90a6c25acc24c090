/- Merged texts. -/
import Derived.Shelf.SlSortCmp.NoneTotal
import Derived.Test.YtfnkjcodcoehcaaGreatDoorX7
namespace Go.Proofs.YtfnkjcodcoehcaaGreatDoor
set_option maxRecDepth 100000
set_option maxHeartbeats 3200000
open Go.RowKit
open Go.Lib (hid Utf8Tabs)
set_option linter.unusedVariables false
set_option linter.unusedSimpArgs false
theorem Y0T {l : List Ky} {m : Nat} {x : Ky} {id : Int} {R : Option Ky} (hd : l.drop m = x :: l.drop (m + 1)) (h : Z0N (l.drop m) id = R) (hx : x.id ≠ id) : Z0N (l.drop (m + 1)) id = R := by
 rw [hd] at h
 rw [← h]
 simp [Z0N, hx]
theorem Y1X {l : List Ky} {m : Nat} {x : Ky} {id : Int} {R : Option Ky} (hd : l.drop m = x :: l.drop (m + 1)) (h : Z0N (l.drop m) id = R) (hx : x.id = id) : R = some x := by
 rw [hd] at h
 rw [← h]
 simp [Z0N, hx]
theorem Y1Y {l : List Ky} {m : Nat} {id : Int} {R : Option Ky} (hm : l.length ≤ m) (h : Z0N (l.drop m) id = R) : R = none := by
 rw [List.drop_eq_nil_of_le hm] at h
 rw [← h]
 rfl
theorem Z3v (A : Option Addr) (n c : Nat) (l : List Ky) (id : Int) (w : World) (hn : n = l.length) (h : RdKy w w.heap.size A l) (hb : n ≤ 140737488355328) :
 Calls Tryz.prog 151 #[.slice A n c, .int .i64 id] w (Z7t l id w) := by
 have N := hid hn
 generalize hR : Z0N l id = R
 have HR := hid hR
 clear hn hR
 unfold Z7t
 rw [HR.out]
 have y0 := Z0b w (.cells #[.int .i64 0, .bool false, .int .u8 0, .bool false, .bool false, .int .i64 0] 97)
 have HB := hid (heap_alloc_new w (.cells #[.int .i64 0, .bool false, .int .u8 0, .bool false, .bool false, .int .i64 0] 97))
 go_enter Tryz.func151, Tryz.ntmps151
 go_wp2_with (fail)
 go_loopg [6] n (fun g iv wr => ∃ m : Nat, m ≤ n ∧ g = n - m ∧ iv = .int .i64 (m : Int) ∧ wr = w.alloc (.cells #[.int .i64 0, .bool false, .int .u8 0, .bool false, .bool false, .int .i64 0] 97) ∧ Hid (Z0N (l.drop m) id = R))
 case atStart => exact ⟨0, by omega, rfl, rfl, rfl, hid (by rw [List.drop_zero]; exact HR.out)⟩
 case round =>
  obtain ⟨m, hm, hg, rfl, rfl, HI⟩ := hrel
  have HG := hid hg
  clear hg HR
  by_cases hlt : m < n
  ·have hl1 : m < l.length := by have := N.out; omega
   obtain ⟨ad, x, rfl, had, hd1, _, hc0⟩ := h.el hl1
   have hc1 := hc0.keep (w' := w.alloc (.cells #[.int .i64 0, .bool false, .int .u8 0, .bool false, .bool false, .int .i64 0] 97)) (fun q hq => World.cell?_alloc_lt w _ q (by rw [hq, Z0q]; exact had))
   have HD := hid hd1
   obtain ⟨x1, x2, x3, x4, x5, x6⟩ := x
   obtain ⟨r0, r1, r2, r3, r4, r5⟩ := Z4l hc1
   clear hc0 hc1 hd1
   have hw2 : IntKind.i64.wrap ((m:Int) + 1) = (m : Int) + 1 := IntWalk.i64_in _ (by omega)
   obtain ⟨b0, b1, b2, b3, b4, b5⟩ := Z32 HB.out
   by_cases hle : x1 = id
   ·subst hle
    go_wp2_with (fail)
    refine bodyPost_ret (v := .tuple #[.agg #[.int .i64 x1, .bool x2, .int .u8 x3, .bool x4, .bool x5, .int .i64 x6], .bool true]) (by simp [results, Tryz.results151, go_sem]) rfl ?_
    have hr := Y1X HD.out HI.out rfl
    exact ⟨x1, x2, x3, x4, x5, x6, true, rfl, by rw [hr]; rfl, by rw [hr]; rfl, by first | exact Z0b w _ | trace_state⟩
   ·go_wp2_with (fail)
    go_roundg (n - (m + 1))
    case measure => have := HG.out; omega
    case rel => exact ⟨m + 1, by omega, rfl, by go_num, rfl, hid (Y0T HD.out HI.out hle)⟩
  ·have HE := hid (Y1Y (m := m) (by have := N.out; omega) HI.out)
   go_wp2_with (fail)
   refine bodyPost_ret (v := .tuple #[.agg #[.int .i64 0, .bool false, .int .u8 0, .bool false, .bool false, .int .i64 0], .bool false]) (by simp [results, Tryz.results151, go_sem]) rfl ?_
   exact ⟨0, false, 0, false, false, 0, false, rfl, by rw [HE.out]; rfl, by rw [HE.out]; rfl, by first | exact Z0b w _ | trace_state⟩
theorem Y1Z (A : Option Addr) (nn cc : Nat) (l : List Ky) (id k n f : Int) (t : ByteArray) (w : World) (hn : nn = l.length) (h : RdKy w w.heap.size A l) (hb : nn ≤ 140737488355328) (h0 : 0 ≤ f) (h1 : f < 18446744073709551616) (hsz : t.size ≤ 100000000)
 (hT : Utf8Tabs 1 2 w) :
 Calls Tryz.prog 175 #[.slice A nn cc, .int .i64 id, .agg #[.int .u8 k, .int .i64 n, .int .u64 f, .string t]] w fun e w' => e = .returned (.bool (Z2C l id ⟨k, n, f, t⟩)) ∧ Below w.heap.size w w' := by
 obtain ⟨R, hR⟩ : ∃ X, Z2C l id ⟨k, n, f, t⟩ = X := ⟨_, rfl⟩
 obtain ⟨m, hm⟩ : ∃ X, mayV ⟨k, n, f, t⟩ = X := ⟨_, rfl⟩
 rw [hR]
 unfold Z2C at hR
 rw [hm] at hR
 have HR := hid hR
 have HMV := hid hm
 have HN := hid hn
 have y0 := Z0b w (.cells #[.int .u8 k, .int .i64 n, .int .u64 f, .string t] 41)
 have hv0 := heap_alloc_new w (.cells #[.int .u8 k, .int .i64 n, .int .u64 f, .string t] 41)
 have hs0 := h.ext y0
 have hT0 := Utf8Tabs_below hT y0
 clear hR hm h hn
 go_enter Tryz.func175, Tryz.ntmps175
 go_wp2_with (go_at_call 151; refine Hid.out ?_)
 refine hid ?_
 have H0 := hid hv0
 clear hv0
 generalize hw0 : w.alloc _ = w0 at *
 clear hw0
 refine (Z3v A nn cc l id w0 HN.out hs0 hb).mono ?_
 rintro e w1 ⟨i, c, kd, d, g, q, b, rfl, hk, hb, y1⟩
 have hv1 := (y1.block w.heap.size (Z0c H0.out)).trans H0.out
 have y1' := Z0a y0 y1
 have y2 := Z0b w1 (.cells #[.int .i64 i, .bool c, .int .u8 kd, .bool d, .bool g, .int .i64 q] 97)
 have hk2 := heap_alloc_new w1 (.cells #[.int .i64 i, .bool c, .int .u8 kd, .bool d, .bool g, .int .i64 q] 97)
 have hv2 := (y2.block w.heap.size (Z0c hv1)).trans hv1
 have hT2 := Utf8Tabs_below hT0 (Z0a y1 y2)
 have yy := Z0a y1' y2
 obtain ⟨a0, a1, a2, a3⟩ := Z37 hv2
 have HV2 := hid hv2
 have HK2 := hid hk2
 have HB := hid hb
 have HK := hid hk
 clear hv1 hv2 hk2 H0 hb hk hT hT0 hs0
 cases b with
 | false =>
   go_wp2_with (fail)
   go_ret
   refine ⟨Z0f ?_, yy⟩
   have h := HR.out
   have hb := HB.out
   cases hq : Z0N l id with
   | none => rw [hq] at h; exact h
   | some k => rw [hq] at hb; simp at hb
 | true =>
   obtain ⟨K, hK⟩ : ∃ K, Z0N l id = some K := Option.isSome_iff_exists.1 HB.out
   have hR := HR.out
   have hk := HK.out
   rw [hK] at hR hk
   simp only [Option.getD_some] at hk
   subst hk
   simp only at hR
   have HR := hid hR
   clear hR
   go_wp2_with (go_at_call 174; refine Hid.out ?_)
   refine hid ?_
   refine (Z38 k n f t _ h0 h1 hsz hT2).mono ?_
   rintro e w3 ⟨rfl, y3⟩
   rw [HMV.out]
   have yy3 := Z2H yy y3 rfl rfl rfl rfl
   obtain ⟨hv3, hk3⟩ := kept2 HV2.out HK2.out y3 rfl
   obtain ⟨a0, a1, a2, a3⟩ := Z37 hv3
   obtain ⟨k0, k1, k2, k3, k4, k5⟩ := Z32 hk3
   clear hv3 hk3 y3
   cases m with
   | false =>
     go_wp2_with (fail)
     go_ret
     refine ⟨Z0f ?_, yy3⟩
     rw [← HR.out]; simp
   | true =>
     go_wp2_with (fail)
     go_ret
     refine ⟨Z0f ?_, yy3⟩
     rw [← HR.out, Bool.and_true]
     by_cases hq : kd = k
     ·subst hq; simp
     ·have hq' : ¬ k = kd := fun e => hq e.symm
      simp [hq, hq']
def Z6C (seen : List Ky) : List Ky → Bool
 | [] => true
 | k :: r => mayK k && (Z0N seen k.id).isNone && Z6C (seen ++ [k]) r
def Z6D (l : List Ky) : Bool := decide (l.length ≤ 64) && Z6C [] l
theorem Z3w {l : List Ky} {m j : Nat} {x : Ky} {id : Int} (hd : l.drop j = x :: l.drop (j + 1)) (hj : j < m) : Z0N ((l.take m).drop j) id = if x.id = id then some x else Z0N ((l.take m).drop (j + 1)) id := by
 have hl : j < l.length := by rcases Nat.lt_or_ge j l.length with h | h; · exact h
                              ·rw [List.drop_eq_nil_of_le h] at hd; simp at hd
 have hx : l[j] = x := by rw [List.drop_eq_getElem_cons hl] at hd; exact (List.cons.inj hd).1
 have hl2 : j < (l.take m).length := by rw [List.length_take]; omega
 rw [List.drop_eq_getElem_cons hl2, List.getElem_take, hx]
 simp only [Z0N, List.find?_cons]
 by_cases h : x.id = id <;> simp [h]
theorem Y11 (A : Option Addr) (n c : Nat) (l : List Ky) (w : World) (hn : n = l.length) (h : RdKy w w.heap.size A l) (hb : n ≤ 140737488355328) :
 Calls Tryz.prog 14 #[.slice A n c] w fun e w' => e = .returned (.bool (Z6D l)) ∧ Below w.heap.size w w' := by
 have N := hid hn
 generalize hR : Z6D l = R
 have HR := hid hR
 clear hn hR
 by_cases h64 : (64 : Int) < (n : Int)
 ·go_enter Tryz.func14, Tryz.ntmps14
  go_wp2_with (fail)
  go_ret
  refine ⟨Z0f ?_, Below.refl _ _⟩
  rw [← HR.out]
  have := N.out
  simp [Z6D]; omega
 have HP : Hid (Z6C [] l = R) := hid (by rw [← HR.out]; have := N.out; simp [Z6D]; intro h; omega)
 go_enter Tryz.func14, Tryz.ntmps14
 go_wp2_with (fail)
 go_loopg [3] n (fun g iv wr => ∃ m : Nat, m ≤ n ∧ g = n - m ∧ iv = .int .i64 (m : Int) ∧ Below w.heap.size w wr ∧ Hid (Z6C (l.take m) (l.drop m) = R))
 case atStart => exact ⟨0, by omega, rfl, rfl, Below.refl _ _, hid (by rw [List.drop_zero, List.take_zero]; exact HP.out)⟩
 case round =>
  obtain ⟨m, hm, hg, rfl, y, HI⟩ := hrel
  have HG := hid hg
  clear hg HR HP
  by_cases hlt : m < n
  ·have hl1 : m < l.length := by have := N.out; omega
   obtain ⟨ad, x, rfl, had, hd1, hx1, hc0⟩ := (h.below y (Nat.le_refl _)).el hl1
   have hh := h.below y (Nat.le_refl _)
   obtain ⟨x1, x2, x3, x4, x5, x6⟩ := x
   obtain ⟨r0, r1, r2, r3, r4, r5⟩ := Z4l hc0
   have HI2 : Hid ((mayK ⟨x1, x2, x3, x4, x5, x6⟩ && (Z0N (l.take m) x1).isNone && Z6C (l.take (m + 1)) (l.drop (m + 1))) = R) := hid (by
    rw [← HI.out, hd1]
    simp only [Z6C]
    rw [List.take_add_one, hx1]; rfl)
   have HD := hid hd1
   have yb := Z0b wr (.cells #[.int .i64 x1, .bool x2, .int .u8 x3, .bool x4, .bool x5, .int .i64 x6] 97)
   have HBX := hid (heap_alloc_new wr (.cells #[.int .i64 x1, .bool x2, .int .u8 x3, .bool x4, .bool x5, .int .i64 x6] 97))
   clear hc0 hd1 hx1 HI
   have hw2 : IntKind.i64.wrap ((m:Int) + 1) = (m : Int) + 1 := IntWalk.i64_in _ (by omega)
   by_cases h1 : x1 < 1
   ·skip
    go_wp2_with (fail)
    go_ret
    exact ⟨Z0f (by rw [← HI2.out, show mayK ⟨x1, x2, x3, x4, x5, x6⟩ = false by unfold mayK; simp; omega]; simp), Z0a y yb⟩
   by_cases h2 : 1000 < x1
   ·skip
    go_wp2_with (fail)
    go_ret
    exact ⟨Z0f (by rw [← HI2.out, show mayK ⟨x1, x2, x3, x4, x5, x6⟩ = false by unfold mayK; simp; omega]; simp), Z0a y yb⟩
   by_cases h3 : x3 < 1
   ·skip
    go_wp2_with (fail)
    go_ret
    exact ⟨Z0f (by rw [← HI2.out, show mayK ⟨x1, x2, x3, x4, x5, x6⟩ = false by unfold mayK; simp; omega]; simp), Z0a y yb⟩
   by_cases h4 : 4 < x3
   ·skip
    go_wp2_with (fail)
    go_ret
    exact ⟨Z0f (by rw [← HI2.out, show mayK ⟨x1, x2, x3, x4, x5, x6⟩ = false by unfold mayK; simp; omega]; simp), Z0a y yb⟩
   by_cases h5 : x6 < 0
   ·skip
    go_wp2_with (fail)
    go_ret
    exact ⟨Z0f (by rw [← HI2.out, show mayK ⟨x1, x2, x3, x4, x5, x6⟩ = false by unfold mayK; simp; intros; cases x2 <;> simp <;> omega]; simp), Z0a y yb⟩
   by_cases h6 : 8 < x6
   ·skip
    go_wp2_with (fail)
    go_ret
    exact ⟨Z0f (by rw [← HI2.out, show mayK ⟨x1, x2, x3, x4, x5, x6⟩ = false by unfold mayK; simp; intros; cases x2 <;> simp <;> omega]; simp), Z0a y yb⟩
   have hgo : (x2 = true ∧ x5 = true) ∨ (x2 = false ∧ ¬ x6 = 0) ∨ mayK ⟨x1, x2, x3, x4, x5, x6⟩ = true := by
    unfold mayK
    cases x2 <;> cases x5 <;> simp <;> omega
   rcases hgo with ⟨rfl, rfl⟩ | ⟨rfl, h7⟩ | hgo
   ·go_wp2_with (fail)
    go_ret
    exact ⟨Z0f (by rw [← HI2.out, show mayK ⟨x1, true, x3, x4, true, x6⟩ = false by unfold mayK; simp]; simp), Z0a y yb⟩
   ·go_wp2_with (fail)
    go_ret
    exact ⟨Z0f (by rw [← HI2.out, show mayK ⟨x1, false, x3, x4, x5, x6⟩ = false by unfold mayK; simp [h7]]; simp), Z0a y yb⟩
   have HGO := hid hgo
   clear hgo
   cases x2 with
   | true =>
     have hx5 : x5 = false := by
      have h := HGO.out
      cases x5 with
      | false => rfl
      | true => simp [mayK] at h
     subst hx5
     go_wp2_with (fail)
     obtain ⟨R2, hR2⟩ : ∃ X, Z0N (l.take m) x1 = X := ⟨_, rfl⟩
     have HR2 := hid hR2
     clear hR2
     go_loopg [5] m (fun g2 jv wi => ∃ j : Nat, j ≤ m ∧ g2 = m - j ∧ jv = .int .i64 (j : Int) ∧ (∃ d, wi = (wr.alloc (.cells #[.int .i64 x1, .bool true, .int .u8 x3, .bool x4, .bool false, .int .i64 x6] 97)).drewN d) ∧ Hid (Z0N ((l.take m).drop j) x1 = R2))
     case atStart => exact ⟨0, by omega, rfl, rfl, ⟨0, rfl⟩, hid (by rw [List.drop_zero]; exact HR2.out)⟩
     case round =>
      obtain ⟨j, hj, hg2, rfl, ⟨d, rfl⟩, HJ⟩ := hrel
      have HG2 := hid hg2
      clear hg2
      by_cases hjm : j < m
      ·have hl2 : j < l.length := by omega
       obtain ⟨ad', z, e, had2, hd2, _, hz0⟩ := hh.el hl2
       injection e with e; subst e
       have hz1 := hz0.keep (w' := wr.alloc (.cells #[.int .i64 x1, .bool true, .int .u8 x3, .bool x4, .bool false, .int .i64 x6] 97)) (fun q hq => World.cell?_alloc_lt wr _ q (by rw [hq, Z0q]; exact Nat.lt_of_lt_of_le had2 y.size))
       obtain ⟨z1, z2, z3, z4, z5, z6⟩ := z
       obtain ⟨s0, -⟩ := Z4l hz1
       have hbx : (wr.alloc (.cells #[.int .i64 x1, .bool true, .int .u8 x3, .bool x4, .bool false, .int .i64 x6] 97)).heap[wr.heap.size]? = some (.cells #[.int .i64 x1, .bool true, .int .u8 x3, .bool x4, .bool false, .int .i64 x6] 97 (0, 0)) := HBX.out
       obtain ⟨b0, -⟩ := Z32 hbx
       have HT := hid (Z3w (m := m) (id := x1) hd2 hjm)
       clear hz0 hz1 hd2 hbx
       have hjn : j < n := by omega
       have hw3 : IntKind.i64.wrap ((j:Int) + 1) = (j : Int) + 1 := IntWalk.i64_in _ (by omega)
       by_cases hzx : z1 = x1
       ·subst hzx
        go_wp2_with (go_quiet (fail))
        go_ret
        have h2 := HJ.out
        rw [HT.out, if_pos (by simp)] at h2
        have h3 := HR2.out
        exact ⟨Z0f (by rw [← HI2.out, h3, ← h2]; simp), Z0a y (Z0a yb (Z0m _ _))⟩
       ·go_wp2_with (go_quiet (fail))
        go_roundg (m - (j + 1))
        case measure => have := HG2.out; omega
        case rel => exact ⟨j + 1, by omega, rfl, by go_num, ⟨_, rfl⟩, hid (by rw [← HJ.out, HT.out, if_neg hzx])⟩
      ·have hR2 : R2 = none := by rw [← HJ.out, List.drop_eq_nil_of_le (by rw [List.length_take]; omega)]; rfl
       have HF := hid (HR2.out.trans hR2)
       clear hR2
       go_wp2_with (fail)
       go_roundg (n - (m + 1))
       case measure => have := HG.out; omega
       case rel => exact ⟨m + 1, by omega, rfl, by go_num, Z0a y (Z0a yb (Z0m _ _)), hid (by rw [← HI2.out, HGO.out, HF.out]; simp)⟩
   | false =>
     have hx6 : x6 = 0 := by
      have h := HGO.out
      simp [mayK] at h
      exact h.2
     subst hx6
     go_wp2_with (fail)
     obtain ⟨R2, hR2⟩ : ∃ X, Z0N (l.take m) x1 = X := ⟨_, rfl⟩
     have HR2 := hid hR2
     clear hR2
     go_loopg [5] m (fun g2 jv wi => ∃ j : Nat, j ≤ m ∧ g2 = m - j ∧ jv = .int .i64 (j : Int) ∧ (∃ d, wi = (wr.alloc (.cells #[.int .i64 x1, .bool false, .int .u8 x3, .bool x4, .bool x5, .int .i64 0] 97)).drewN d) ∧ Hid (Z0N ((l.take m).drop j) x1 = R2))
     case atStart => exact ⟨0, by omega, rfl, rfl, ⟨0, rfl⟩, hid (by rw [List.drop_zero]; exact HR2.out)⟩
     case round =>
      obtain ⟨j, hj, hg2, rfl, ⟨d, rfl⟩, HJ⟩ := hrel
      have HG2 := hid hg2
      clear hg2
      by_cases hjm : j < m
      ·have hl2 : j < l.length := by omega
       obtain ⟨ad', z, e, had2, hd2, _, hz0⟩ := hh.el hl2
       injection e with e; subst e
       have hz1 := hz0.keep (w' := wr.alloc (.cells #[.int .i64 x1, .bool false, .int .u8 x3, .bool x4, .bool x5, .int .i64 0] 97)) (fun q hq => World.cell?_alloc_lt wr _ q (by rw [hq, Z0q]; exact Nat.lt_of_lt_of_le had2 y.size))
       obtain ⟨z1, z2, z3, z4, z5, z6⟩ := z
       obtain ⟨s0, -⟩ := Z4l hz1
       have hbx : (wr.alloc (.cells #[.int .i64 x1, .bool false, .int .u8 x3, .bool x4, .bool x5, .int .i64 0] 97)).heap[wr.heap.size]? = some (.cells #[.int .i64 x1, .bool false, .int .u8 x3, .bool x4, .bool x5, .int .i64 0] 97 (0, 0)) := HBX.out
       obtain ⟨b0, -⟩ := Z32 hbx
       have HT := hid (Z3w (m := m) (id := x1) hd2 hjm)
       clear hz0 hz1 hd2 hbx
       have hjn : j < n := by omega
       have hw3 : IntKind.i64.wrap ((j:Int) + 1) = (j : Int) + 1 := IntWalk.i64_in _ (by omega)
       by_cases hzx : z1 = x1
       ·subst hzx
        go_wp2_with (go_quiet (fail))
        go_ret
        have h2 := HJ.out
        rw [HT.out, if_pos (by simp)] at h2
        have h3 := HR2.out
        exact ⟨Z0f (by rw [← HI2.out, h3, ← h2]; simp), Z0a y (Z0a yb (Z0m _ _))⟩
       ·go_wp2_with (go_quiet (fail))
        go_roundg (m - (j + 1))
        case measure => have := HG2.out; omega
        case rel => exact ⟨j + 1, by omega, rfl, by go_num, ⟨_, rfl⟩, hid (by rw [← HJ.out, HT.out, if_neg hzx])⟩
      ·have hR2 : R2 = none := by rw [← HJ.out, List.drop_eq_nil_of_le (by rw [List.length_take]; omega)]; rfl
       have HF := hid (HR2.out.trans hR2)
       clear hR2
       go_wp2_with (fail)
       go_roundg (n - (m + 1))
       case measure => have := HG.out; omega
       case rel => exact ⟨m + 1, by omega, rfl, by go_num, Z0a y (Z0a yb (Z0m _ _)), hid (by rw [← HI2.out, HGO.out, HF.out]; simp)⟩
  ·go_wp2_with (fail)
   go_ret
   refine ⟨Z0f ?_, y⟩
   rw [← HI.out, List.drop_eq_nil_of_le (by have := N.out; omega)]; rfl
open Go.RowKit Go.Shelf Go.Lib Go.Sort
def Tryz.sortKy_ren : Go.Shelf.Ren := ⟨fun | 6 => 69 | 15 => 148 | 14 => 147 | 28 => 203 | 29 => 204 | 20 => 195 | 21 => 196 | 22 => 197 | 23 => 198 | 24 => 199 | 25 => 200 | 26 => 201 | 27 => 202 | 46 => 225 | 47 => 226 | 48 => 227 | 49 => 228 | 50 => 229 | 57 => 239 | n => n, fun | 22 => 22 | 24 => 97 | 25 => 113 | 3 => 3 | 39 => 185 | 0 => 0 | 53 => 224 | 55 => 39 | 4 => 4 | 46 => 218 | 45 => 217 | 50 => 212 | 5 => 5 | 9 => 9 | 66 => 245 | 70 => 249 | 76 => 258 | 77 => 51 | n => n, fun | n => n⟩
theorem Tryz.sortKy : Go.Proofs.SlLaysF0.n6 Tryz.prog Tryz.sortKy_ren := {
 mixed := by kernel_rfl
 f6 := ⟨Tryz.f69.name, by decide, Tryz.func69.trans (congrArg some (by kernel_rfl))⟩
 f14 := ⟨Tryz.f147.name, by decide, Tryz.func147.trans (congrArg some (by kernel_rfl))⟩
 f15 := Tryz.func148.trans (congrArg some (by kernel_rfl))
 f20 := ⟨Tryz.f195.name, by decide, Tryz.func195.trans (congrArg some (by kernel_rfl))⟩
 f21 := ⟨Tryz.f196.name, by decide, Tryz.func196.trans (congrArg some (by kernel_rfl))⟩
 f22 := ⟨Tryz.f197.name, by decide, Tryz.func197.trans (congrArg some (by kernel_rfl))⟩
 f23 := ⟨Tryz.f198.name, by decide, Tryz.func198.trans (congrArg some (by kernel_rfl))⟩
 f24 := ⟨Tryz.f199.name, by decide, Tryz.func199.trans (congrArg some (by kernel_rfl))⟩
 f25 := ⟨Tryz.f200.name, by decide, Tryz.func200.trans (congrArg some (by kernel_rfl))⟩
 f26 := ⟨Tryz.f201.name, by decide, Tryz.func201.trans (congrArg some (by kernel_rfl))⟩
 f27 := ⟨Tryz.f202.name, by decide, Tryz.func202.trans (congrArg some (by kernel_rfl))⟩
 f28 := Tryz.func203.trans (congrArg some (by kernel_rfl))
 f29 := Tryz.func204.trans (congrArg some (by kernel_rfl))
 f46 := ⟨Tryz.f225.name, by decide, Tryz.func225.trans (congrArg some (by kernel_rfl))⟩
 f47 := Tryz.func226.trans (congrArg some (by kernel_rfl))
 f48 := Tryz.func227.trans (congrArg some (by kernel_rfl))
 f49 := ⟨Tryz.f228.name, by decide, Tryz.func228.trans (congrArg some (by kernel_rfl))⟩
 f50 := ⟨Tryz.f229.name, by decide, Tryz.func229.trans (congrArg some (by kernel_rfl))⟩
 f57 := ⟨Tryz.f239.name, by decide, Tryz.func239.trans (congrArg some (by kernel_rfl))⟩
 t0 := Tryz.underlying0
 a0 := Tryz.isAgg0
 z0 := Tryz.sizeOf0
 v0 := Tryz.zeroValue0
 t3 := Tryz.underlying3
 a3 := Tryz.isAgg3
 z3 := Tryz.sizeOf3
 v3 := Tryz.zeroValue3
 t4 := Tryz.underlying4
 a4 := Tryz.isAgg4
 z4 := Tryz.sizeOf4
 v4 := Tryz.zeroValue4
 t5 := Tryz.underlying5
 a5 := Tryz.isAgg5
 z5 := Tryz.sizeOf5
 v5 := Tryz.zeroValue5
 t9 := Tryz.underlying9
 a9 := Tryz.isAgg9
 z9 := Tryz.sizeOf9
 v9 := Tryz.zeroValue9
 t22 := Tryz.underlying22
 a22 := Tryz.isAgg22
 z22 := Tryz.sizeOf22
 v22 := Tryz.zeroValue22
 t25 := Tryz.underlying113
 a25 := Tryz.isAgg113
 z25 := Tryz.sizeOf113
 v25 := Tryz.zeroValue113
 t39 := Tryz.underlying185
 a39 := Tryz.isAgg185
 z39 := Tryz.sizeOf185
 v39 := Tryz.zeroValue185
 t45 := Tryz.underlying217
 a45 := Tryz.isAgg217
 z45 := Tryz.sizeOf217
 v45 := Tryz.zeroValue217
 t46 := Tryz.underlying218
 a46 := Tryz.isAgg218
 z46 := Tryz.sizeOf218
 v46 := Tryz.zeroValue218
 t50 := Tryz.underlying212
 a50 := Tryz.isAgg212
 z50 := Tryz.sizeOf212
 v50 := Tryz.zeroValue212
 t53 := Tryz.underlying224
 a53 := Tryz.isAgg224
 z53 := Tryz.sizeOf224
 v53 := Tryz.zeroValue224
 t55 := Tryz.underlying39
 a55 := Tryz.isAgg39
 z55 := Tryz.sizeOf39
 v55 := Tryz.zeroValue39
 t66 := Tryz.underlying245
 a66 := Tryz.isAgg245
 z66 := Tryz.sizeOf245
 v66 := Tryz.zeroValue245
 t70 := Tryz.underlying249
 a70 := Tryz.isAgg249
 z70 := Tryz.sizeOf249
 v70 := Tryz.zeroValue249
 t76 := Tryz.underlying258
 a76 := Tryz.isAgg258
 z76 := Tryz.sizeOf258
 v76 := Tryz.zeroValue258
 t77 := Tryz.underlying51
 a77 := Tryz.isAgg51
 z77 := Tryz.sizeOf51
 v77 := Tryz.zeroValue51 }
def Z79 (x y : Ky) : Int := cmpI x.id y.id
theorem ltKy (x y : Ky) : ltOf Z79 x y = decide (x.id < y.id) := by
 unfold ltOf Z79 cmpI
 by_cases h1 : x.id < y.id
 ·simp [h1]
 ·by_cases h2 : y.id < x.id <;> simp [h1, h2]
theorem swoKy : SWO (ltOf Z79) where
 irrefl x := by rw [ltKy]; simp
 trans x y z h1 h2 := by rw [ltKy] at *; simp at *; omega
 ntrans x y z h1 h2 := by rw [ltKy] at *; simp at *; omega
instance : Inhabited Ky := ⟨Ky.zero⟩
theorem Y0U (x y : Ky) (W : World) : Calls Tryz.prog 70 #[.agg #[.int .i64 x.id, .bool x.block, .int .u8 x.kind, .bool x.after, .bool x.before, .int .i64 x.group], .agg #[.int .i64 y.id, .bool y.block, .int .u8 y.kind, .bool y.after, .bool y.before, .int .i64 y.group]] W
 fun e w' => e = .returned (.int .i64 (Z79 x y)) ∧ ∃ q os', w' = grow (W.drewN q) os' := by
 unfold Z79
 have hcon := fun W' => Z80 x.id y.id W'
 generalize cmpI x.id y.id = r at hcon ⊢
 go_enter Tryz.func70, Tryz.ntmps70
 go_wp2_with (go_at_call 71; refine (hcon _).mono ?_; rintro e w' ⟨rfl, rfl⟩)
 go_ret
 exact ⟨rfl, 0, _, by rw [alloc_eq_grow, alloc_eq_grow, grow_grow]; rfl⟩
theorem Y12 (blk off size : Nat) (w : World) : CmpLays Tryz.prog 70 #[] Ky.enc 6 Z79 blk off size w :=
 fun _ _ _ _ x y => Y0U x y _
def Y13 (A : Option Addr) (n c : Nat) (l : List Ky) (w : World) (base : Nat) (e : Ending) (w' : World) : Prop :=
 e = .returned (.tuple #[]) ∧ ∃ l' : List Ky, l'.Perm l ∧ l'.Pairwise (fun a b => a.id ≤ b.id) ∧ RdKy w' w'.heap.size A l' ∧ Below base w w' ∧ ∀ j, j < w.heap.size → (∀ k, wb (.slice A n c) = some k → k ≠ j) → w'.heap[j]? = w.heap[j]?
theorem Z8a (w : World) (blk off : Nat) (d : Array Ky) (j : Nat) (h : j ≠ blk) : (putRowK Ky.enc 6 w blk off d).heap[j]? = w.heap[j]? := by
 simp only [putRowK, putRow, mapBlock]
 rw [Array.getElem?_modify, if_neg (fun e => h e.symm)]
theorem Z3x (w : World) (blk off : Nat) (d : Array Ky) : (putRowK Ky.enc 6 w blk off d).heap.size = w.heap.size := by
 simp only [putRowK, putRow, mapBlock, Array.size_modify]
theorem Y5m {d d' : Array Ky} (h : PermIn 0 d.size d d') : d'.toList.Perm d.toList := by
 have h1 := h.1
 have h2 := h.2.2
 have e1 : d'.extract 0 d.size = d' := by rw [← h1]; simp
 have e2 : d.extract 0 d.size = d := by simp
 rw [e1, e2] at h2
 exact h2
theorem Y14 {d : Array Ky} {n : Nat} (hn : d.size = n) (h : SortedIn (ltOf Z79) 0 n d) : d.toList.Pairwise (fun a b => a.id ≤ b.id) := by
 rw [List.pairwise_iff_getElem]
 intro i j hi hj hij
 have h2 := h i j (Nat.zero_le _) hij (by rw [← hn]; simpa using hj)
 rw [ltKy] at h2
 have hi' : i < d.size := by simpa using hi
 have hj' : j < d.size := by simpa using hj
 rw [getElem!_pos d i hi', getElem!_pos d j hj'] at h2
 simp at h2
 simpa using h2
theorem Y0V (A : Option Addr) (n c base : Nat) (l : List Ky) (w : World) (hown : OwKy w base (.slice A n c) l) (hb : n ≤ 100000000) :
 Calls Tryz.prog 69 #[.slice A n c, .func (.func 70) #[] #[]] w (Y13 A n c l w base) := by
 have eg : ∀ args w, (callFunc 70 args).run Tryz.prog w = .ok (.enter 70 args) w := enters_of Tryz.func70 (by kernel_rfl) rfl
 have none_case : l = [] → n = 0 → Calls Tryz.prog 69 #[.slice A n c, .func (.func 70) #[] #[]] w (Y13 A n c l w base) := by
  intro h1 h2
  subst h1 h2
  have hcon := AnyF.slices_SortFunc_none Tryz.sortKy A c (.func (.func 70) #[] #[]) w
  change Calls Tryz.prog 69 _ _ _ at hcon
  refine hcon.mono ?_
  rintro e w' ⟨rfl, rfl⟩
  exact ⟨rfl, [], List.Perm.refl _, List.Pairwise.nil, Rd.nil, Below.refl _ _, fun _ _ _ => rfl⟩
 rcases hown with ⟨h1, A', h2⟩ | ⟨hx, ⟨h1, h2⟩ | ⟨g, cap, cur, h1, hg, hblk, hn1, hn2, hsz, htk⟩⟩
 ·injection h2 with _ h2 _
  exact none_case h1 h2
 ·injection h1 with _ h1 _
  exact none_case (List.eq_nil_of_length_eq_zero h2) h1
 ·injection h1 with hA hnl hc
  subst hA hnl hc
  by_cases hl0 : l.length = 0
  ·exact none_case (List.eq_nil_of_length_eq_zero hl0) hl0
  have hwb : ∀ j, (∀ k, wb (.slice (some ⟨g, 0, none⟩) l.length c) = some k → k ≠ j) → j ≠ g := by
   intro j hk e
   cases c with
   | zero => omega
   | succ c => exact hk g rfl e.symm
  have hlt : g < w.heap.size := (Array.getElem?_eq_some_iff.1 hblk).1
  have hcell : ∀ j u, (l.flatMap Ky.enc)[j]? = some u → w.cell? ⟨g, j, none⟩ = some u := by
   intro j u hu
   rw [← htk] at hu
   have hj := (List.getElem?_eq_some_iff.1 hu).1
   rw [List.getElem?_take_of_lt (by rw [List.length_take] at hj; omega)] at hu
   simp only [World.cell?, hblk]
   simpa using hu
  have hH : HoldsK Ky.enc 6 w g 0 l.toArray := by
   intro j hj
   rw [size_flatK] at hj
   have hj' : j < l.length * 6 := by simpa using hj
   have hq : j / 6 < l.length := by omega
   refine ⟨?_, by simp [World.frozen?, hblk]⟩
   rw [get_flatK _ _ _ _ hj]
   simp only [id]
   have e1 : l.toArray[j / 6]! = l[j / 6] := by rw [getElem!_pos _ _ (by simpa using hq)]; simp
   rw [e1, Nat.zero_add]
   have hm : j % 6 < (Ky.enc l[j / 6]).length := by rw [Ky.enc_len]; omega
   rw [getElem!_pos (Ky.enc l[j / 6]) (j % 6) hm]
   have hf := Z3K (size := 6) Ky.enc_len l (j / 6) (j % 6) _ hq (List.getElem?_eq_getElem hm)
   rw [Nat.div_add_mod'] at hf
   exact hcell j _ hf
  have hcon := AnyQ.slices_SortFunc Tryz.sortKy 6 Tryz.isAgg97 Tryz.sizeOf97 Ky.enc Ky.enc_len Ky.enc_one Z79 swoKy 70 #[] g 0 c l.toArray w eg (Y12 g 0 _ w) hH hlt (by simp; omega)
  change Calls Tryz.prog 69 _ _ _ at hcon
  rw [List.size_toArray] at hcon
  refine hcon.mono ?_
  rintro e w' ⟨rfl, d', q, os, hp, hs, rfl⟩
  have hsize : d'.size = l.length := by simpa using hp.1
  have hH' : HoldsK Ky.enc 6 (sortWorldK Ky.enc 6 w g 0 q d' os) g 0 d' :=
   holdsK_grow Ky.enc 6 _ os g 0 d' (by rw [Z3x]; exact hlt) (holdsK_putRowK Ky.enc 6 (Sort.ahead w q) g 0 l.toArray d' hH (by simpa using hsize))
  have hheap : ∀ j, j < w.heap.size → j ≠ g → (sortWorldK Ky.enc 6 w g 0 q d' os).heap[j]? = w.heap[j]? := by
   intro j hj hne
   unfold sortWorldK
   rw [heap_grow_old _ _ (by rw [Z3x]; exact hj), Z8a _ _ _ _ _ hne]
   rfl
  have hsz2 : w.heap.size ≤ (sortWorldK Ky.enc 6 w g 0 q d' os).heap.size := by
   have : (sortWorldK Ky.enc 6 w g 0 q d' os).heap.size = (putRowK Ky.enc 6 (Sort.ahead w q) g 0 d').heap.size + os.size := by simp [sortWorldK, grow]
   rw [this, Z3x]
   exact Nat.le_add_right _ _
  refine ⟨rfl, d'.toList, by simpa using Y5m (d := l.toArray) (by simpa using hp), Y14 hsize hs, ?_, ⟨rfl, rfl, rfl, hsz2, fun j hj => hheap j (by omega) (by omega)⟩, fun j hj hne => hheap j hj (hwb j hne)⟩
  intro hl
  refine ⟨_, rfl, Nat.lt_of_lt_of_le hlt hsz2, fun i hi => ?_⟩
  intro j u hu
  have hi' : i < d'.size := by simpa using hi
  have hj6 : j < 6 := by have := (List.getElem?_eq_some_iff.1 hu).1; rw [Ky.enc_len] at this; exact this
  have h3 := (HoldsK.cell hH' hi' hj6).1
  have e3 : (Ky.enc d'[i]!)[j]! = u := by
   rw [getElem!_pos d' i hi', getElem!_pos (Ky.enc d'[i]) j (by rw [Ky.enc_len]; exact hj6)]
   have h4 := List.getElem?_eq_some_iff.1 hu
   obtain ⟨_, h4⟩ := h4
   simpa using h4
  rw [e3, Nat.zero_add] at h3
  rw [Z4j]
  have ea : (⟨g, 0, none⟩ : Addr).add (i * 6 + j) = ⟨g, i * 6 + j, none⟩ := by
   unfold Addr.add
   split
   ·rename_i h0; rw [h0]
   ·simp
  rw [ea]
  exact h3
section
variable {α : Type} {enc : α → List Value} {size : Nat} {e : TypeId} {w : World} {base n c : Nat} {A : Option Addr} {l : List α}
theorem Ow.cap (h : Ow enc size e w base (.slice A n c) l) : l.length ≤ c ∧ c ≤ maxLen := by
 obtain ⟨_, _, ev, hle, hcm⟩ := h.form
 injection ev with _ _ ev
 exact ⟨by omega, by omega⟩
end
open Go.RowKit
set_option linter.unusedVariables false
section
variable {α : Type} {enc : α → List Value} {size : Nat} {e : TypeId} {w w' : World} {base n c : Nat} {l : List α} {P : Program}
theorem Z8b (hs : ∀ a, (enc a).length = size) (l : List α) (i : Nat) : (l.flatMap enc).take (i * size) = (l.take i).flatMap enc := by
 induction l generalizing i with
 | nil => simp
 | cons a l ih =>
   cases i with
   | zero => simp
   | succ i =>
     simp only [List.flatMap_cons, List.take_succ_cons]
     rw [List.take_append, hs, Nat.add_mul, Nat.one_mul, List.take_of_length_le (by rw [hs]; omega), Nat.add_sub_cancel, ih]
theorem Y15 (hs : ∀ a, (enc a).length = size) (l : List α) (i : Nat) : (l.flatMap enc).drop (i * size) = (l.drop i).flatMap enc := by
 induction l generalizing i with
 | nil => simp
 | cons a l ih =>
   cases i with
   | zero => simp
   | succ i =>
     simp only [List.flatMap_cons, List.drop_succ_cons]
     rw [List.drop_append, hs, Nat.add_mul, Nat.one_mul, List.drop_of_length_le (by rw [hs]; omega), Nat.add_sub_cancel, ih]
     rfl
theorem Ow.row {A : Option Addr} (h : Ow enc size e w base (.slice A n c) l) (hl : 0 < l.length) :
 ∃ g cur, A = some ⟨g, 0, none⟩ ∧ n = l.length ∧ base ≤ g ∧ w.heap[g]? = some (.cells cur e (0, 0)) ∧ l.length ≤ c ∧ c ≤ maxLen ∧ cur.size = c * size ∧ cur.toList.take (l.length * size) = l.flatMap enc := by
 rcases h with ⟨rfl, _⟩ | ⟨_, ⟨_, h0⟩ | ⟨g, cap, cur, hv, hb, hg, h1, h2, h3, h4⟩⟩
 ·simp at hl
 ·omega
 ·injection hv with hA hn hc
  subst hA; subst hn; subst hc
  exact ⟨g, cur, rfl, rfl, hb, hg, h1, h2, h3, h4⟩
theorem Z40 (g i : Nat) : (⟨g, 0, none⟩ : Addr).add i = ⟨g, i, none⟩ := by
 unfold Addr.add
 split
 ·rename_i h; rw [h]
 ·simp
theorem Z81 (t : TypeId) (i0 : TypeInfo) (hi : P.info? t = some i0) (hsz : i0.size = size) (hs : ∀ a, (enc a).length = size) (h1 : ∀ a, ∀ u ∈ enc a, u.oneCell' = true)
 {A : Option Addr} (h : Ow enc size e w base (.slice A n c) l) {i : Nat} (hil : i < l.length) (b : α) {cs : Array Value} (hcs : cs.toList = enc b) {p : Addr} (hp : A.map (·.add (i * size)) = some p) :
 ∃ w', (Instr.storeAt t (.pointer (some p)) (.agg cs)).run P w = .ok () w' ∧ Ow enc size e w' base (.slice A n c) (l.set i b) ∧ w.grownBy w' (wb (.slice A n c)) := by
 obtain ⟨g, cur, rfl, hn, hb, hg, hlc, hcm, hcur, htake⟩ := h.row (by omega)
 simp only [Option.map_some, Z40, Option.some.injEq] at hp
 subst hp
 have hcsz : cs.size = size := by rw [← Array.length_toList, hcs, hs]
 have hfit : i * size + 0 + (enc b).length ≤ cur.size := by
  rw [hs, hcur, Nat.add_zero, ← Nat.succ_mul]
  exact Nat.mul_le_mul_right _ (by omega)
 have hst := run_storeCells_at P g (i * size) e (enc b) 0 cur w hg hfit (h1 b)
 refine ⟨w.setRow g (cur.toList.take (i * size + 0) ++ enc b ++ cur.toList.drop (i * size + 0 + (enc b).length)).toArray, ?_, ?_, ?_⟩
 ·simp [Instr.storeAt, Instr.sureAddr, storeVar, sizeOf, typeInfo, hi, hsz, Value.cells, hcsz, hcs]
  simpa using hst
 ·refine .inr ⟨by rw [Z2F hs], .inr ⟨g, c, _, by rw [hn, List.length_set], hb, setRow_heap w g cur _ e _ hg, by rw [List.length_set]; exact hlc, hcm, ?_, ?_⟩⟩
  ·simp only [List.size_toArray, List.length_append, List.length_take, List.length_drop, Array.length_toList]
   omega
  ·rw [List.length_set, Nat.add_zero]
   have e1 : (l.set i b).flatMap enc = (l.take i).flatMap enc ++ (enc b ++ (l.drop (i + 1)).flatMap enc) := by
    rw [List.set_eq_take_append_cons_drop, if_pos hil, List.flatMap_append, List.flatMap_cons]
   have hle : i * size ≤ l.length * size := Nat.mul_le_mul_right _ (by omega)
   have hle2 : (i + 1) * size ≤ l.length * size := Nat.mul_le_mul_right _ hil
   have e2 : cur.toList.take (i * size) = (l.take i).flatMap enc := by
    rw [← Z8b hs, ← htake, List.take_take, Nat.min_eq_left hle]
   have e3 : (cur.toList.drop ((i + 1) * size)).take (l.length * size - (i + 1) * size) = (l.drop (i + 1)).flatMap enc := by
    rw [← Y15 hs, ← htake, List.drop_take]
   rw [e1, ← e2, ← e3]
   simp only [List.append_assoc]
   have hl1 : (cur.toList.take (i * size)).length = i * size := by
    rw [List.length_take, Array.length_toList, hcur, Nat.min_eq_left]
    exact Nat.le_trans hle (Nat.mul_le_mul_right _ hlc)
   rw [List.take_append, hl1, List.take_of_length_le (by rw [hl1]; exact hle), List.take_append, hs, List.take_of_length_le (l := enc b) (by rw [hs]; rw [Nat.succ_mul] at hle2; omega)]
   congr 3
   ·rw [Nat.succ_mul]; omega
   ·rw [Nat.succ_mul]
 ·refine ⟨rfl, rfl, rfl, by simp, fun k _ hk => setRow_other w g k _ (fun e => hk ?_)⟩
  have : 0 < c := by omega
  cases c with
  | zero => omega
  | succ c => simp [wb, e]
theorem Z7y (t ty : TypeId) (ht : P.underlying t = some (.slice e)) (i0 : TypeInfo) (z : Value) (hi : P.info? e = some i0) (hz : i0.zero = some z) (hzs : z.cells.size = size) (hzo : ∀ u ∈ z.cells.toList, u.oneCell' = true) (hs : ∀ a, (enc a).length = size)
 {A X : Option Addr} (h : Ow enc size e w base (.slice A n c) l) {i k : Nat} (hil : i ≤ l.length) (hX : l.length - i = 0 ∨ X = A.map (·.add (i * size))) :
 ∃ w', (Builtin.clear_ #[t] ty #[.slice X (l.length - i) k]).run P w = .ok (.tuple #[]) w' ∧ Ow enc size e w' base (.slice A i c) (l.take i) ∧ w.grownBy w' (wb (.slice A n c)) := by
 rcases Nat.eq_zero_or_pos (l.length - i) with h0 | h0
 ·have hli : l.take i = l := List.take_of_length_le (by omega)
  have hil' : i = l.length := by omega
  refine ⟨w, ?_, ?_, World.grownBy.refl w _⟩
  ·rw [h0]
   cases X <;> simp [Builtin.clear_, run_underlying ht]
  ·rw [hli, hil']
   rcases Nat.eq_zero_or_pos l.length with hz0 | hp
   ·have hnil : l = [] := List.eq_nil_of_length_eq_zero hz0
    subst hnil
    rcases h with ⟨_, A', hv⟩ | ⟨h1, ⟨hv, hn⟩ | ⟨g, cap, cur, hv, r⟩⟩
    ·injection hv with a b c; subst a; subst b; subst c; exact .inl ⟨rfl, _, rfl⟩
    ·injection hv with a b c; subst a; subst b; subst c; exact .inl ⟨rfl, _, rfl⟩
    ·injection hv with a b c; subst a; subst b; subst c; exact .inr ⟨h1, .inr ⟨g, _, cur, rfl, r⟩⟩
   ·obtain ⟨g, cur, rfl, hn, r⟩ := h.row hp
    rw [← hn]; exact h
 ·obtain ⟨g, cur, rfl, hn, hb, hg, hlc, hcm, hcur, htake⟩ := h.row (by omega)
  rcases hX with hX | rfl
  ·omega
  have hzl : (Builtin.zeroCells z.cells (l.length - i)).toList.length = (l.length - i) * size := by rw [Array.length_toList, size_zeroCells, hzs]
  have hzo' : ∀ u ∈ (Builtin.zeroCells z.cells (l.length - i)).toList, u.oneCell' = true := by
   intro u hu
   simp only [Builtin.zeroCells, Array.toList_map, List.mem_map, Array.mem_toList_iff] at hu
   obtain ⟨j, _, rfl⟩ := hu
   have hpos : 0 < z.cells.size := by
    rcases Nat.eq_zero_or_pos z.cells.size with hz0 | hp
    ·rename_i hj; rw [hz0, Nat.mul_zero] at hj; simp at hj
    ·exact hp
   have hlt : j % z.cells.size < z.cells.size := Nat.mod_lt _ hpos
   rw [getElem!_pos z.cells _ hlt]
   exact hzo _ (Array.getElem_mem_toList hlt)
  have hfit : i * size + 0 + (Builtin.zeroCells z.cells (l.length - i)).toList.length ≤ cur.size := by
   rw [hzl, hcur, Nat.add_zero, ← Nat.add_mul]
   exact Nat.mul_le_mul_right _ (by omega)
  have hst := run_storeCells_at P g (i * size) e _ 0 cur w hg hfit hzo'
  refine ⟨w.setRow g (cur.toList.take (i * size + 0) ++ (Builtin.zeroCells z.cells (l.length - i)).toList ++ cur.toList.drop (i * size + 0 + (Builtin.zeroCells z.cells (l.length - i)).toList.length)).toArray, ?_, ?_, ?_⟩
  ·obtain ⟨m, hm⟩ : ∃ m, l.length - i = m + 1 := ⟨l.length - i - 1, by omega⟩
   rw [hm] at hst ⊢
   simp [Builtin.clear_, run_underlying ht, zeroValue, typeInfo, hi, hz, Z40]
   simp at hst
   rw [hst]
   simp
  ·refine .inr ⟨by rw [Z2F hs], .inr ⟨g, c, _, by rw [List.length_take, Nat.min_eq_left hil], hb, setRow_heap w g cur _ e _ hg, by rw [List.length_take]; omega, hcm, ?_, ?_⟩⟩
   ·simp only [List.size_toArray, List.length_append, List.length_take, List.length_drop, Array.length_toList]
    rw [Array.length_toList] at hfit
    omega
   ·have hle : i * size ≤ l.length * size := Nat.mul_le_mul_right _ hil
    have hle3 : i * size ≤ cur.size := by rw [hcur]; exact Nat.le_trans hle (Nat.mul_le_mul_right _ hlc)
    rw [List.length_take, Nat.min_eq_left hil, Nat.add_zero]
    simp only [List.append_assoc]
    rw [List.take_append, List.length_take, Array.length_toList, Nat.min_eq_left hle3, Nat.sub_self, List.take_zero, List.append_nil, List.take_of_length_le (by rw [List.length_take]; omega), ← Z8b hs, ← htake, List.take_take, Nat.min_eq_left hle]
  ·refine ⟨rfl, rfl, rfl, by simp, fun k _ hk => setRow_other w g k _ (fun e => hk ?_)⟩
   have : 0 < c := by omega
   cases c with
   | zero => omega
   | succ c => simp [wb, e]
theorem Z2Q {ops : Array Oper} {rest : List Oper} {o : Oper} {a : Act} {Q : Exit → Act → World → Prop} (hgd : o.guard = none) (t : TypeId) (x y : Operand) (ho : o.op = .store t x y) (hdst : o.dst = none)
 (i0 : TypeInfo) (hi : P.info? t = some i0) (hsz : i0.size = size) (hs : ∀ a, (enc a).length = size) (h1 : ∀ a, ∀ u ∈ enc a, u.oneCell' = true)
 {A : Option Addr} (h : Ow enc size e w base (.slice A n c) l) {i : Nat} (hil : i < l.length) (b : α) {cs : Array Value} (hcs : cs.toList = enc b) {p : Addr} (hp : A.map (·.add (i * size)) = some p)
 (hx : a.eval x = .pointer (some p)) (hy : a.eval y = .agg cs)
 (hK : ∀ w', Ow enc size e w' base (.slice A n c) (l.set i b) → w.grownBy w' (wb (.slice A n c)) → wpList P ops Q rest a w') : wpList P ops Q (o :: rest) a w :=
 wpList_plain hgd fun K hK' => by
  obtain ⟨w', hr, h2, h3⟩ := Z81 (P := P) t i0 hi hsz hs h1 h hil b hcs hp
  unfold Oper.wp execOp
  simp only [ho, hx, hy, hr, Sem.run_bind, Sem.run_pure, Result.andThen_ok]
  refine hK' _ _ ?_
  have := hK w' h2 h3
  simpa [Act.put, hdst] using this
theorem Z1h {ops : Array Oper} {rest : List Oper} {o : Oper} {a : Act} {Q : Exit → Act → World → Prop} (hgd : o.guard = none) (x : Operand) (t : TypeId)
 (ho : o.op = .call { callee := .builtin .clear, args := #[x], argTypes := #[t] }) (hdst : o.dst = none)
 (ht : P.underlying t = some (.slice e)) (i0 : TypeInfo) (z : Value) (hi : P.info? e = some i0) (hz : i0.zero = some z) (hzs : z.cells.size = size) (hzo : ∀ u ∈ z.cells.toList, u.oneCell' = true) (hs : ∀ a, (enc a).length = size)
 {A X : Option Addr} (h : Ow enc size e w base (.slice A n c) l) {i k : Nat} (hil : i ≤ l.length) (hX : l.length - i = 0 ∨ X = A.map (·.add (i * size))) {m : Nat} (hm : m = l.length - i) (hx : a.eval x = .slice X m k)
 (hK : ∀ w', Ow enc size e w' base (.slice A i c) (l.take i) → w.grownBy w' (wb (.slice A n c)) → wpList P ops Q rest a w') : wpList P ops Q (o :: rest) a w :=
 wpList_plain hgd fun K hK' => by
  subst hm
  obtain ⟨w', hr, h2, h3⟩ := Z7y (P := P) t o.type ht i0 z hi hz hzs hzo hs h (k := k) hil hX
  unfold Oper.wp execOp
  simp only [ho, resolve, invoke, builtin, Sem.run_bind, Sem.run_pure, Result.andThen_ok, List.map_toArray, List.map_cons, List.map_nil, hx, hr]
  refine hK' _ _ ?_
  have := hK w' h2 h3
  simpa [Act.put, hdst] using this
end
open Go.RowKit
set_option linter.unusedVariables false
set_option linter.unusedSimpArgs false
theorem Z82 (A : Option Addr) (n c : Nat) (l : List Ky) (w : World) (hn : n = l.length) (h : RdKy w w.heap.size A l) (hb : n ≤ 100000000) :
 Calls Tryz.prog 67 #[.slice A n c] w (NewKy l w) := by
 cases A with
 | none =>
   have hl : l = [] := by
    cases l with
    | nil => rfl
    | cons a l => obtain ⟨ad, e, _⟩ := h (by simp); cases e
   subst hl
   have hn0 : n = 0 := by simpa using hn
   subst hn0
   clear hn
   have hq := fun (w : World) => Lib.run_eql_slice_nil (P := Tryz.prog) w 22 97 none 0 c 0 0 Tryz.slKy
   go_enter Tryz.func67, Tryz.ntmps67
   go_wp2_with (fail)
   go_ret
   exact ⟨none, 0, rfl, Ow.nil _ _, Below.refl _ _⟩
 | some ad =>
   have N := hid hn
   clear hn
   have hq := fun (w : World) => Lib.run_eql_slice_nil (P := Tryz.prog) w 22 97 (some ad) n c 0 0 Tryz.slKy
   go_enter Tryz.func67, Tryz.ntmps67
   go_wp2_with (first
    | (at_builtin; refine Y5V (m := l) rfl (.tmp 5) (.tmp 6) rfl rfl (by exact Ow.empty _ w.heap.size _) _ _ _ _ rfl N.out (by exact h.ext (Z0b w _)) (by have := N.out; simp only [List.length_nil]; omega) (by simp) ?_; intro v' w' hown' hgr hv'))
   rw [List.nil_append] at hown'
   obtain ⟨A', c', rfl, _, _⟩ := hown'.form
   go_ret
   exact ⟨A', c', rfl, hown', (Z0b w _).grown hgr (by simp) (fun k hk => by cases hk)⟩
end Go.Proofs.YtfnkjcodcoehcaaGreatDoor
