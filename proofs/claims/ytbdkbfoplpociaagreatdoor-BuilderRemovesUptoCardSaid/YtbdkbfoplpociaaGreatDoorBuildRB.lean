/- Merged texts: BuildR. -/
import Derived.Test.YtbdkbfoplpociaaGreatDoorK28
import Derived.Test.YtbdkbfoplpociaaGreatDoorK29
import Derived.Test.YtbdkbfoplpociaaGreatDoorK31
import Derived.Test.YtbdkbfoplpociaaGreatDoorB3
namespace Go.Proofs.YtbdkbfoplpociaaGreatDoor
open Go.RowKit
set_option linter.unusedVariables false
set_option linter.unusedSimpArgs false

set_option maxRecDepth 100000 in
set_option maxHeartbeats 1600000 in
theorem remove_any (i k : Nat) (i0 j0 : Int) (hi : i0 = (i : Int)) (hj : j0 = (i : Int) + (k : Int)) (hb : i + k ≤ 1000000000000) (w : World) :
    Calls Tryz.prog 74 #[.int .i64 i0, .int .i64 j0] w (NewOpC (mkU (goneU i k)) w) := by
  subst hi hj
  have hF : ∀ k, k = w.heap.size → w.heap.size ≤ k := fun k hk => by omega
  have hsub : IntKind.i64.wrap ((i : Int) + (k : Int) - (i : Int)) = (k : Int) := by rw [IntWalk.i64_in _ (by omega)]; omega
  have hsub' : wrap64 ((i : Int) + (k : Int) - (i : Int)) = (k : Int) := by rw [w64_in _ (by omega)]; omega
  obtain ⟨m1, hm1⟩ : ∃ m, mkRetain Mk.new (i : Int) [] = m := ⟨_, rfl⟩
  obtain ⟨m2, hm2⟩ : ∃ m, mkDelete m1 (k : Int) = m := ⟨_, rfl⟩
  have T1 : Told m1 (List.replicate i (.ret [])) := by
    have := Told.new.retain (i : Int) [] (by simp; omega)
    rw [hm1, Int.toNat_natCast, List.nil_append] at this; exact this
  have TD : Hid (Told m2 (goneU i k)) := Lib.hid (by
    have := T1.delete (k : Int) (by rw [List.length_replicate]; omega) (by rw [List.length_replicate]; omega)
    rw [hm2, Int.toNat_natCast] at this; exact this)
  have B1 : MkB m1 2 64 := by
    have := (MkB.new 64).retain (i : Int) (p := []) (by simp)
    rw [hm1] at this; exact this
  have B2 : Hid (MkB m2 2 64) := Lib.hid (by have := B1.delete (k : Int); rw [hm2] at this; exact this)
  have HM1 := Lib.hid hm1
  have HM2 := Lib.hid hm2
  clear hm1 hm2 T1 B1 hb
  go_enter Tryz.func74, Tryz.ntmps74
  go_wp2_with (go_at_call 96; refine Hid.out ?_)
  refine Lib.hid ?_
  refine (mkNew_any w).mono ?_
  rintro e w1 ⟨rfl, hm, y1⟩
  have HM := Lib.hid hm
  have Y1 := Lib.hid y1
  clear hm y1
  go_wp2_with (go_at_call 121; refine Hid.out ?_)
  refine Lib.hid ?_
  refine (mkRetain_any w.heap.size none (i : Int) 0 0 [] w1 (fun k => k = w.heap.size) Mk.new HM.out rfl Rd.nil (fun ad e => by cases e) (by simp) (by simp [Mk.new]) (fun o ho => by simp [Mk.new, mkGap] at ho)).mono ?_
  rw [HM1.out]
  rintro e w2 ⟨rfl, F2, hm2, g2⟩
  have y2 := Lib.hid (Y1.out.trans (g2.below (B := w.heap.size) hF Y1.out.size))
  have low2 := Lib.hid (g2.low (B := w.heap.size) hF Y1.out.size)
  have HMA := Lib.hid hm2
  clear hm2 g2
  go_wp2_with (go_at_call 124; refine Hid.out ?_)
  refine Lib.hid ?_
  refine (mkDelete_any w.heap.size (k : Int) w2 F2 m1 HMA.out).mono ?_
  rw [HM2.out]
  rintro e w3 ⟨rfl, F3, hm3, g3⟩
  have y3 := Lib.hid (y2.out.trans (g3.below (B := w.heap.size) low2.out y2.out.size))
  have HMB := Lib.hid hm3
  clear hm3 g3
  go_wp2_with (go_at_call 103; refine Hid.out ?_)
  refine Lib.hid ?_
  refine (mkOps_any w.heap.size w3 F3 m2 HMB.out (by have := B2.out.len; omega) (fun o ho => by have := B2.out.gap.2 o ho; omega)).mono ?_
  intro e w4 hN
  have hN2 := NewOps.opC (hN.late y3.out) TD.out (fun u hu => by
    unfold goneU at hu
    rcases List.mem_append.1 hu with hu | hu
    · rw [(List.mem_replicate.1 hu).2]; intro c hc; cases hc
    · rw [(List.mem_replicate.1 hu).2]; trivial) B2.out (by omega) (by omega)
  obtain ⟨A, c, x, rfl, hx, ox, yx⟩ := hN2
  have HN : Hid (NewOpC (mkU (goneU i k)) w (.returned (.slice A x.length c)) w4) := Lib.hid ⟨A, c, x, rfl, hx, ox, yx⟩
  clear hN hx ox yx
  go_wp2_with (fail)
  go_ret
  exact HN.out
end Go.Proofs.YtbdkbfoplpociaaGreatDoor
