/- The walk of schema.New. -/
import Derived.Test.YtfnkjcodcoehcaaSchema2
import Derived.Test.YtfnkjcodcoehcaaSortKy
import Derived.Test.YtfnkjcodcoehcaaKeyClone
import Derived.RegionTactic
import Derived.BigRegion
import Derived.ChangeAlike
namespace Go.Proofs.Ytfnkjcodcoehcaa
open Go.RowKit
set_option linter.unusedVariables false
set_option linter.unusedSimpArgs false

theorem MapK.drew {w : World} {b : Nat} {l : List Ky} (h : MapK w b l) : MapK w.drew b l := h

/-- what schema.New answers -/
def NewOut (l : List Ky) (w : World) (e : Ending) (w' : World) : Prop :=
  Below w.heap.size w w' ∧ ((mayKs l = true ∧ ∃ s, e = .returned (.tuple #[.pointer (some ⟨s, 0, none⟩), .int .i64 0]) ∧ Sch w' s l) ∨ (mayKs l = false ∧ e = .returned (.tuple #[.pointer none, .int .i64 3])))

set_option maxRecDepth 100000 in
set_option maxHeartbeats 3200000 in
theorem new_any (A : Option Addr) (n c : Nat) (l : List Ky) (w : World) (hn : n = l.length) (h : RdKy w w.heap.size A l) (hb : n ≤ 140737488355328) :
    Calls Try.prog 6 #[.slice A n c] w (NewOut l w) := by
  have N := Lib.hid hn
  generalize hR : mayKs l = R
  have HR := Lib.hid hR
  clear hn hR
  unfold NewOut
  rw [HR.out]
  by_cases h64 : (64 : Int) < (n : Int)
  · go_enter Try.func6, Try.ntmps6
    go_wp2_with (fail)
    have hf : R = false := by
      rw [← HR.out]
      have := N.out
      simp [mayKs]; omega
    refine bodyPost_ret (v := .tuple #[.pointer none, .int .i64 3]) (by simp [results, Try.results6, go_sem]) rfl ?_
    exact ⟨Below.refl _ _, .inr ⟨hf, rfl⟩⟩
  have HP : Hid (okPre [] l = R) := Lib.hid (by rw [← HR.out]; have := N.out; simp [mayKs]; intro h; omega)
  have hmm := @run_makeMap Try.prog
  go_enter Try.func6, Try.ntmps6
  go_wp2_with (go_at_call 20; refine Hid.out ?_)
  refine Lib.hid ?_
  refine (cloneKy_any A n c l w N.out h (by omega)).mono ?_
  rintro e w1 ⟨A', c', rfl, hown, y1⟩
  have HOW := Lib.hid hown
  clear hown
  go_wp2_with (fail)
  go_loopg [19] n (fun g iv wr => ∃ m : Nat, m ≤ n ∧ g = n - m ∧ iv = .int .i64 (m : Int) ∧ Below w.heap.size w wr ∧ w1.heap.size + 2 ≤ wr.heap.size ∧ wr.heap[w1.heap.size + 1]? = some (.cells #[.slice A' l.length c', .map (some w1.heap.size)] 59 (0, 0)) ∧ MapK wr w1.heap.size (l.take m) ∧ OwKy wr w.heap.size (.slice A' l.length c') l ∧ Hid (okPre (l.take m) (l.drop m) = R))
  case atStart =>
    have ya := ext_alloc w1 (.map #[] 0)
    have yb := ext_alloc (w1.alloc (.map #[] 0)) (.cells #[.slice A' l.length c', .map (some w1.heap.size)] 59)
    have hm0 := heap_alloc_new w1 (.map #[] 0)
    have hb0 := heap_alloc_new (w1.alloc (.map #[] 0)) (.cells #[.slice A' l.length c', .map (some w1.heap.size)] 59)
    rw [World.size_alloc] at hb0
    refine ⟨0, by omega, rfl, rfl, ext_trans y1 (ext_trans ya yb), by simp, hb0, ⟨#[], 0, (yb.block _ (by simp)).trans hm0, by simp⟩, (HOW.out.alloc _).alloc _, Lib.hid (by rw [List.drop_zero, List.take_zero]; exact HP.out)⟩
  case round =>
    obtain ⟨m, hm, hg, rfl, y, hs2, hbx, hmk, how, HI⟩ := hrel
    have HG := Lib.hid hg
    clear hg HR HP
    by_cases hlt : m < n
    · have hl1 : m < l.length := by have := N.out; omega
      obtain ⟨ad, x, rfl, had, hd1, hx1, hc0⟩ := (h.below y (Nat.le_refl _)).el hl1
      obtain ⟨x1, x2, x3, x4, x5, x6⟩ := x
      obtain ⟨r0, r1, r2, r3, r4, r5⟩ := ky_cells hc0
      have HI2 : Hid ((mayK ⟨x1, x2, x3, x4, x5, x6⟩ && (findK (l.take m) x1).isNone && okPre (l.take (m + 1)) (l.drop (m + 1))) = R) := Lib.hid (by
        rw [← HI.out, hd1]
        simp only [okPre]
        rw [List.take_add_one, hx1]; rfl)
      have HX := Lib.hid hx1
      have y2 := ext_alloc wr (.cells #[.int .i64 x1, .bool x2, .int .u8 x3, .bool x4, .bool x5, .int .i64 x6] 53)
      have hk2 := heap_alloc_new wr (.cells #[.int .i64 x1, .bool x2, .int .u8 x3, .bool x4, .bool x5, .int .i64 x6] 53)
      have hb2 := (y2.block _ (lt_of_some hbx)).trans hbx
      have hmk2 := hmk.ext y2
      have how2 := how.alloc (.cells #[.int .i64 x1, .bool x2, .int .u8 x3, .bool x4, .bool x5, .int .i64 x6] 53)
      obtain ⟨b0, b1⟩ := box_2 hb2
      obtain ⟨k0, k1, k2, k3, k4, k5⟩ := box_ky hk2
      have HMK := Lib.hid hmk2
      have HB2 := Lib.hid hb2
      have HK2 := Lib.hid hk2
      have HOW2 := Lib.hid how2
      have y3 := ext_alloc (wr.alloc (.cells #[.int .i64 x1, .bool x2, .int .u8 x3, .bool x4, .bool x5, .int .i64 x6] 53)) (.cells #[.int .i64 0, .bool false, .int .u8 0, .bool false, .bool false, .int .i64 0] 53)
      have hb3 := (y3.block _ (lt_of_some hb2)).trans hb2
      have hk3 := (y3.block _ (lt_of_some hk2)).trans hk2
      have hmk3 := hmk2.ext y3
      obtain ⟨b0', b1'⟩ := box_2 hb3
      obtain ⟨k0', -⟩ := box_ky hk3
      have hl := hmk2.drew.look x1
      have hl' := hmk3.drew.look x1
      have hz3 := heap_alloc_new (wr.alloc (.cells #[.int .i64 x1, .bool x2, .int .u8 x3, .bool x4, .bool x5, .int .i64 x6] 53)) (.cells #[.int .i64 0, .bool false, .int .u8 0, .bool false, .bool false, .int .i64 0] 53)
      clear hb3 hk3 hmk3
      generalize (findK (l.take m) x1).getD Ky.zero = F at hl hl'
      generalize hF2 : (findK (l.take m) x1).isSome = G at hl hl'
      obtain ⟨z1, z2, z3, z4, z5, z6⟩ := F
      simp only [Ky.val] at hl hl'
      have HF2 := Lib.hid hF2
      clear hF2
      clear hc0 hd1 hx1 HI hmk hmk2 hbx hb2 hk2 how how2
      go_wp2_with (fail)
      go_big_region
      all_goals
        have y5 := ext_trans y2 (ext_alloc (wr.alloc (.cells #[.int .i64 x1, .bool x2, .int .u8 x3, .bool x4, .bool x5, .int .i64 x6] 53)) (.cells #[.int .i64 z1, .bool z2, .int .u8 z3, .bool z4, .bool z5, .int .i64 z6] 53))
        have y5 : Below wr.heap.size wr ((wr.alloc (.cells #[.int .i64 x1, .bool x2, .int .u8 x3, .bool x4, .bool x5, .int .i64 x6] 53)).alloc (.cells #[.int .i64 z1, .bool z2, .int .u8 z3, .bool z4, .bool z5, .int .i64 z6] 53)).drew := y5.drew
        have y6 : Below (wr.alloc (.cells #[.int .i64 x1, .bool x2, .int .u8 x3, .bool x4, .bool x5, .int .i64 x6] 53)).heap.size (wr.alloc (.cells #[.int .i64 x1, .bool x2, .int .u8 x3, .bool x4, .bool x5, .int .i64 x6] 53)) ((wr.alloc (.cells #[.int .i64 x1, .bool x2, .int .u8 x3, .bool x4, .bool x5, .int .i64 x6] 53)).alloc (.cells #[.int .i64 z1, .bool z2, .int .u8 z3, .bool z4, .bool z5, .int .i64 z6] 53)).drew := (ext_alloc (wr.alloc (.cells #[.int .i64 x1, .bool x2, .int .u8 x3, .bool x4, .bool x5, .int .i64 x6] 53)) (.cells #[.int .i64 z1, .bool z2, .int .u8 z3, .bool z4, .bool z5, .int .i64 z6] 53)).drew
        generalize ((wr.alloc (.cells #[.int .i64 x1, .bool x2, .int .u8 x3, .bool x4, .bool x5, .int .i64 x6] 53)).alloc (.cells #[.int .i64 z1, .bool z2, .int .u8 z3, .bool z4, .bool z5, .int .i64 z6] 53)).drew = w5 at *
        have hb5 := (y6.block _ (lt_of_some HB2.out)).trans HB2.out
        have hk5 := (y6.block _ (lt_of_some HK2.out)).trans HK2.out
        have hmk5 := HMK.out.ext y6
        have how5 := HOW2.out.below y6 (Nat.le_refl _)
        obtain ⟨b0, b1⟩ := box_2 hb5
        obtain ⟨k0, k1, k2, k3, k4, k5⟩ := box_ky hk5
        cases G with
        | true =>
          go_wp2_with (fail)
          refine bodyPost_ret (v := .tuple #[.pointer none, .int .i64 3]) (by simp [results, Try.results6, go_sem]) rfl ?_
          refine ⟨ext_trans y y5, .inr ⟨?_, rfl⟩⟩
          have h2 := HF2.out
          rw [← HI2.out]
          cases hq : findK (l.take m) x1 with
          | none => rw [hq] at h2; cases h2
          | some q => simp
        | false =>
          have hnone : findK (l.take m) x1 = none := by
            have h2 := HF2.out
            cases hq : findK (l.take m) x1 with
            | none => rfl
            | some q => rw [hq] at h2; cases h2
          have HNO := Lib.hid hnone
          have HB5 := Lib.hid hb5
          have HK5 := Lib.hid hk5
          have HM5 := Lib.hid hmk5
          have HO5 := Lib.hid how5
          clear hnone hb5 hk5 hmk5 how5
          go_wp2_with (go_at_call 21; refine Hid.out ?_)
          refine Lib.hid ?_
          refine (mayK_any x1 x6 x3 x2 x4 x5 w5).mono ?_
          rintro e w6 ⟨rfl, y7⟩
          generalize hmay : mayK ⟨x1, x2, x3, x4, x5, x6⟩ = M
          have HMA := Lib.hid hmay
          clear hmay b0 b1 k0 k1 k2 k3 k4 k5
          have hb6 := (y7.block _ (lt_of_some HB5.out)).trans HB5.out
          have hk6 := (y7.block _ (lt_of_some HK5.out)).trans HK5.out
          have hmk6 := HM5.out.ext y7
          have how6 := HO5.out.below y7 (Nat.le_refl _)
          have HO6 := Lib.hid how6
          have HB6 := Lib.hid hb6
          obtain ⟨b0, b1⟩ := box_2 hb6
          obtain ⟨k0, k1, k2, k3, k4, k5⟩ := box_ky hk6
          cases M with
          | false =>
            go_wp2_with (fail)
            refine bodyPost_ret (v := .tuple #[.pointer none, .int .i64 3]) (by simp [results, Try.results6, go_sem]) rfl ?_
            refine ⟨ext_trans y (ext_trans y5 y7), .inr ⟨?_, rfl⟩⟩
            rw [← HI2.out, HMA.out]; simp
          | true =>
            obtain ⟨w7, hrun, hm7, hh7, hs7, ho7, ht7, hu7⟩ := hmk6.drew.store ⟨x1, x2, x3, x4, x5, x6⟩ HNO.out
            simp only [Ky.val] at hrun
            clear hb6 hk6 hmk6 how6
            go_wp2_with (fail)
            go_region
            have hw2 : IntKind.i64.wrap ((m:Int) + 1) = (m : Int) + 1 := IntWalk.i64_in _ (by omega)
            go_wp2_with (fail)
            go_roundg (n - (m + 1))
            case measure => have := HG.out; omega
            case rel =>
              have hws := y1.size
              have hB : w.heap.size ≤ w6.drew.heap.size := (ext_trans y (ext_trans y5 y7)).size
              have e67 : Below w.heap.size w6.drew w7 := ⟨ho7, ht7, hu7, by rw [hs7]; exact Nat.le_refl _, fun k hk => hh7 k (by omega)⟩
              have hsz6 : w5.heap.size ≤ w6.heap.size := y7.size
              have hsz5 : wr.heap.size ≤ w5.heap.size := y5.size
              refine ⟨m + 1, by omega, rfl, by go_num, (ext_trans y (ext_trans y5 y7)).drew.trans e67, ?_, (hh7 _ (by omega)).trans HB6.out, ?_, ?_, Lib.hid (by rw [← HI2.out, HMA.out, HNO.out]; simp)⟩
              · rw [hs7]
                show w1.heap.size + 2 ≤ w6.heap.size
                omega
              · rw [List.take_add_one, HX.out]
                exact hm7
              · refine HO6.out.drew.keep fun k hk => hh7 k ?_
                have := (HOW.out.wb_lt k hk).2
                omega
    · have hmn : m = n := by omega
      have hfull : l.take m = l := List.take_of_length_le (by have := N.out; omega)
      have hR : R = true := by rw [← HI.out, List.drop_eq_nil_of_le (by have := N.out; omega)]; rfl
      have hRT := Lib.hid hR
      have HF := Lib.hid hfull
      obtain ⟨b0, b1⟩ := box_2 hbx
      have HB := Lib.hid hbx
      have HM := Lib.hid hmk
      have HO := Lib.hid how
      clear hR hfull hbx hmk how
      go_wp2_with (go_at_call 22; refine Hid.out ?_)
      refine Lib.hid ?_
      refine (sortKy_any A' l.length c' w.heap.size l wr HO.out (by have := N.out; omega)).mono ?_
      rintro e w2 ⟨rfl, ls, hp, hs, hr, y2, hk⟩
      have hwb : ∀ j, w1.heap.size ≤ j → j < wr.heap.size → w2.heap[j]? = wr.heap[j]? := fun j hj hj2 => hk j hj2 (fun k hk2 => by have := (HOW.out.wb_lt k hk2).2; omega)
      have hb2 := (hwb (w1.heap.size + 1) (by omega) (by omega)).trans HB.out
      have hm2 := HM.out
      rw [HF.out] at hm2
      have hm2 := hm2.keep (hwb w1.heap.size (by omega) (by omega))
      have HH : Hid (Sch w2 (w1.heap.size + 1) l) := Lib.hid ⟨w1.heap.size, A', l.length, c', ls, hb2, hm2, hp.length_eq.symm, hp, hs, hr⟩
      have yy := y.trans y2
      clear hp hs hr hk hwb hb2 hm2 b0 b1
      go_wp2_with (fail)
      refine bodyPost_ret (v := .tuple #[.pointer (some ⟨w1.heap.size + 1, 0, none⟩), .int .i64 0]) (by simp [results, Try.results6, go_sem]) rfl ?_
      exact ⟨yy, .inl ⟨hRT.out, _, rfl, HH.out⟩⟩
end Go.Proofs.Ytfnkjcodcoehcaa
