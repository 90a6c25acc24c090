/- The walk of rubriclaw03.ValueOrder. -/
import Derived.Test.YtclfplpggmefjaaDoorVaOrdFF
import Derived.Test.YtclfplpggmefjaaDoorVaOrdFT
import Derived.Test.YtclfplpggmefjaaDoorVaOrdTF
import Derived.Test.YtclfplpggmefjaaDoorVaOrdTT
namespace Go.Proofs.YtclfplpggmefjaaDoor
open Go.RowKit
set_option linter.unusedVariables false
set_option linter.unusedSimpArgs false

set_option maxRecDepth 8192 in
set_option maxHeartbeats 12800000 in
theorem valueOrder_any (k0 n0 f0 k1 n1 f1 k2 n2 f2 : Int) (s0 s1 s2 : ByteArray) (w : World) (o0 : okV ⟨k0, n0, f0, s0⟩) (o1 : okV ⟨k1, n1, f1, s1⟩) (o2 : okV ⟨k2, n2, f2, s2⟩)
    (hT : Lib.Utf8Tabs 1 2 w) :
    Calls Tryd.prog 5 #[.agg #[.int .u8 k0, .int .i64 n0, .int .u64 f0, .string s0], .agg #[.int .u8 k1, .int .i64 n1, .int .u64 f1, .string s1], .agg #[.int .u8 k2, .int .i64 n2, .int .u64 f2, .string s2]] w (YesB w) := by
  have f00 : 0 ≤ f0 := o0.f0
  have f01 : f0 < 18446744073709551616 := o0.f1
  have f10 : 0 ≤ f1 := o1.f0
  have f11 : f1 < 18446744073709551616 := o1.f1
  have f20 : 0 ≤ f2 := o2.f0
  have f21 : f2 < 18446744073709551616 := o2.f1
  by_cases hgz : 3000 < wrap64 (wrap64 ((s0.size : Int) + (s1.size : Int)) + (s2.size : Int))
  · skip
    go_enter Tryd.func5, Tryd.ntmps5
    go_wp2_with (go_at_call 10; refine Hid.out ?_)
    refine Lib.hid ?_
    have y0 := ext_alloc w (.cells #[.int .u8 k0, .int .i64 n0, .int .u64 f0, .string s0] 24)
    have HB0 := heap_alloc_new w (.cells #[.int .u8 k0, .int .i64 n0, .int .u64 f0, .string s0] 24)
    have hz0 : (w.alloc (.cells #[.int .u8 k0, .int .i64 n0, .int .u64 f0, .string s0] 24)).heap.size = w.heap.size + 1 := by rw [World.size_alloc]
    generalize w.alloc (.cells #[.int .u8 k0, .int .i64 n0, .int .u64 f0, .string s0] 24) = v0 at *
    have x0 := y0
    have y1 := ext_alloc v0 (.cells #[.int .u8 k1, .int .i64 n1, .int .u64 f1, .string s1] 24)
    have HB1 := heap_alloc_new v0 (.cells #[.int .u8 k1, .int .i64 n1, .int .u64 f1, .string s1] 24)
    have hz1 : (v0.alloc (.cells #[.int .u8 k1, .int .i64 n1, .int .u64 f1, .string s1] 24)).heap.size = w.heap.size + 2 := by rw [World.size_alloc, hz0]
    rw [hz0] at HB1
    generalize v0.alloc (.cells #[.int .u8 k1, .int .i64 n1, .int .u64 f1, .string s1] 24) = v1 at *
    have HB0 := (y1.block w.heap.size (by rw [hz0]; omega)).trans HB0
    have x1 := ext_trans x0 y1
    have y2 := ext_alloc v1 (.cells #[.int .u8 k2, .int .i64 n2, .int .u64 f2, .string s2] 24)
    have HB2 := heap_alloc_new v1 (.cells #[.int .u8 k2, .int .i64 n2, .int .u64 f2, .string s2] 24)
    have hz2 : (v1.alloc (.cells #[.int .u8 k2, .int .i64 n2, .int .u64 f2, .string s2] 24)).heap.size = w.heap.size + 3 := by rw [World.size_alloc, hz1]
    rw [hz1] at HB2
    generalize v1.alloc (.cells #[.int .u8 k2, .int .i64 n2, .int .u64 f2, .string s2] 24) = v2 at *
    have HB0 := (y2.block w.heap.size (by rw [hz1]; omega)).trans HB0
    have HB1 := (y2.block (w.heap.size + 1) (by rw [hz1]; omega)).trans HB1
    have x2 := ext_trans x1 y2
    have HB0 := Lib.hid HB0
    have HB1 := Lib.hid HB1
    have HB2 := Lib.hid HB2
    clear y0 y1 y2
    refine (known3_any v2 (Utf8Tabs_below hT x2)).mono ?_
    rintro e w1 ⟨rfl, y⟩
    go_wp2_with (fail)
    go_ret
    exact ⟨rfl, ext_trans x2 y⟩
  · skip
    obtain ⟨ma, hma⟩ : ∃ X, mayV ⟨k0, n0, f0, s0⟩ = X := ⟨_, rfl⟩
    obtain ⟨mb, hmb⟩ : ∃ X, mayV ⟨k1, n1, f1, s1⟩ = X := ⟨_, rfl⟩
    obtain ⟨mc, hmc⟩ : ∃ X, mayV ⟨k2, n2, f2, s2⟩ = X := ⟨_, rfl⟩
    have MA := Lib.hid hma
    have MB := Lib.hid hmb
    have MC := Lib.hid hmc
    clear hma hmb hmc
    by_cases hall : ma = true ∧ mb = true ∧ mc = true
    · obtain ⟨rfl, rfl, rfl⟩ := hall
      obtain ⟨p, hp⟩ : ∃ X, lessV ⟨k0, n0, f0, s0⟩ ⟨k1, n1, f1, s1⟩ = X := ⟨_, rfl⟩
      obtain ⟨q, hq⟩ : ∃ X, lessV ⟨k1, n1, f1, s1⟩ ⟨k0, n0, f0, s0⟩ = X := ⟨_, rfl⟩
      obtain ⟨r, hr⟩ : ∃ X, lessV ⟨k1, n1, f1, s1⟩ ⟨k2, n2, f2, s2⟩ = X := ⟨_, rfl⟩
      obtain ⟨t, ht⟩ : ∃ X, lessV ⟨k0, n0, f0, s0⟩ ⟨k2, n2, f2, s2⟩ = X := ⟨_, rfl⟩
      obtain ⟨e0, he⟩ : ∃ X, beqV ⟨k0, n0, f0, s0⟩ ⟨k1, n1, f1, s1⟩ = X := ⟨_, rfl⟩
      have e1 : e0 = (!p && !q) := by
        rw [less_eq o0 o1] at hp
        rw [less_eq o1 o0] at hq
        cases p with
        | true =>
          rw [← he]
          refine beqV_ne fun c => ?_
          rw [c, less_irr MB.out] at hp
          cases hp
        | false =>
          cases q with
          | true =>
            rw [← he]
            refine beqV_ne fun c => ?_
            rw [c, less_irr MB.out] at hq
            cases hq
          | false =>
            rw [← he]
            exact beqV_eq (less_tri o0 o1 MA.out MB.out hp hq)
      have e2 : p = true → q = false := fun h => by
        rw [less_eq o0 o1] at hp
        rw [less_eq o1 o0] at hq
        rw [← hq]
        exact less_asym MA.out MB.out (hp.trans h)
      have e3 : p = true → r = true → t = true := fun h h' => by
        rw [less_eq o0 o1] at hp
        rw [less_eq o1 o2] at hr
        rw [less_eq o0 o2] at ht
        rw [← ht]
        exact less_trans MA.out MB.out MC.out (hp.trans h) (hr.trans h')
      have a64 := may_size MA.out
      have b64 := may_size MB.out
      have c64 := may_size MC.out
      have z0 : s0.size ≤ 140737488355328 := Nat.le_trans a64 (by decide)
      have z1 : s1.size ≤ 140737488355328 := Nat.le_trans b64 (by decide)
      have z2 : s2.size ≤ 140737488355328 := Nat.le_trans c64 (by decide)
      replace hgz : ¬ ((3000 : Int) < (s0.size : Int) + (s1.size : Int) + (s2.size : Int)) := by
        have a64 : s0.size ≤ 64 := a64
        have b64 : s1.size ≤ 64 := b64
        have c64 : s2.size ≤ 64 := c64
        omega
      subst e1
      cases p with
      | false =>
        cases q with
        | false => exact valueOrder_FF k0 n0 f0 k1 n1 f1 k2 n2 f2 s0 s1 s2 w o0 o1 o2 z0 z1 z2 hT MA MB MC hgz (Lib.hid hp) (Lib.hid hq) he
        | true => exact valueOrder_FT k0 n0 f0 k1 n1 f1 k2 n2 f2 s0 s1 s2 w o0 o1 o2 z0 z1 z2 hT MA MB MC hgz (Lib.hid hp) (Lib.hid hq) he
      | true =>
        have e2 := e2 rfl
        subst e2
        cases r with
        | false => exact valueOrder_TF k0 n0 f0 k1 n1 f1 k2 n2 f2 s0 s1 s2 w o0 o1 o2 z0 z1 z2 hT MA MB MC hgz (Lib.hid hp) (Lib.hid hq) (Lib.hid hr) he
        | true =>
          have e3 := e3 rfl rfl
          subst e3
          exact valueOrder_TT k0 n0 f0 k1 n1 f1 k2 n2 f2 s0 s1 s2 w o0 o1 o2 z0 z1 z2 hT MA MB MC hgz (Lib.hid hp) (Lib.hid hq) (Lib.hid hr) (Lib.hid ht) he
    · skip
      go_enter Tryd.func5, Tryd.ntmps5
      go_wp2_with (go_at_call 16; refine Hid.out ?_)
      refine Lib.hid ?_
      have y0 := ext_alloc w (.cells #[.int .u8 k0, .int .i64 n0, .int .u64 f0, .string s0] 24)
      have HB0 := heap_alloc_new w (.cells #[.int .u8 k0, .int .i64 n0, .int .u64 f0, .string s0] 24)
      have hz0 : (w.alloc (.cells #[.int .u8 k0, .int .i64 n0, .int .u64 f0, .string s0] 24)).heap.size = w.heap.size + 1 := by rw [World.size_alloc]
      generalize w.alloc (.cells #[.int .u8 k0, .int .i64 n0, .int .u64 f0, .string s0] 24) = v0 at *
      have x0 := y0
      have y1 := ext_alloc v0 (.cells #[.int .u8 k1, .int .i64 n1, .int .u64 f1, .string s1] 24)
      have HB1 := heap_alloc_new v0 (.cells #[.int .u8 k1, .int .i64 n1, .int .u64 f1, .string s1] 24)
      have hz1 : (v0.alloc (.cells #[.int .u8 k1, .int .i64 n1, .int .u64 f1, .string s1] 24)).heap.size = w.heap.size + 2 := by rw [World.size_alloc, hz0]
      rw [hz0] at HB1
      generalize v0.alloc (.cells #[.int .u8 k1, .int .i64 n1, .int .u64 f1, .string s1] 24) = v1 at *
      have HB0 := (y1.block w.heap.size (by rw [hz0]; omega)).trans HB0
      have x1 := ext_trans x0 y1
      have y2 := ext_alloc v1 (.cells #[.int .u8 k2, .int .i64 n2, .int .u64 f2, .string s2] 24)
      have HB2 := heap_alloc_new v1 (.cells #[.int .u8 k2, .int .i64 n2, .int .u64 f2, .string s2] 24)
      have hz2 : (v1.alloc (.cells #[.int .u8 k2, .int .i64 n2, .int .u64 f2, .string s2] 24)).heap.size = w.heap.size + 3 := by rw [World.size_alloc, hz1]
      rw [hz1] at HB2
      generalize v1.alloc (.cells #[.int .u8 k2, .int .i64 n2, .int .u64 f2, .string s2] 24) = v2 at *
      have HB0 := (y2.block w.heap.size (by rw [hz1]; omega)).trans HB0
      have HB1 := (y2.block (w.heap.size + 1) (by rw [hz1]; omega)).trans HB1
      have x2 := ext_trans x1 y2
      have HB0 := Lib.hid HB0
      have HB1 := Lib.hid HB1
      have HB2 := Lib.hid HB2
      clear y0 y1 y2
      obtain ⟨a0, a1, a2, a3⟩ := box_v HB0.out
      obtain ⟨b0, b1, b2, b3⟩ := box_v HB1.out
      obtain ⟨c0, c1, c2, c3⟩ := box_v HB2.out
      have xx := x2
      clear x0 x1 x2
      refine (mayV_any k0 n0 f0 s0 _ f00 f01 (tabs_at hT xx rfl)).mono ?_
      rintro e w1 ⟨rfl, y⟩
      have xx := below_at xx y rfl rfl rfl rfl
      obtain ⟨hb0, hb1, hb2⟩ := kept3 HB0.out HB1.out HB2.out y rfl
      clear a0 a1 a2 a3 b0 b1 b2 b3 c0 c1 c2 c3
      obtain ⟨a0, a1, a2, a3⟩ := box_v hb0
      obtain ⟨b0, b1, b2, b3⟩ := box_v hb1
      obtain ⟨c0, c1, c2, c3⟩ := box_v hb2
      have HB0 := Lib.hid hb0
      have HB1 := Lib.hid hb1
      have HB2 := Lib.hid hb2
      clear hb0 hb1 hb2 y
      rw [MA.out]
      cases ma with
      | false =>
        go_wp2_with (go_at_call 16; refine Hid.out ?_)
        refine Lib.hid ?_
        refine (mayV_any k0 n0 f0 s0 _ f00 f01 (tabs_at hT xx rfl)).mono ?_
        rintro e w1 ⟨rfl, y⟩
        rw [MA.out]
        have xx := below_at xx y rfl rfl rfl rfl
        obtain ⟨hb0, hb1, hb2⟩ := kept3 HB0.out HB1.out HB2.out y rfl
        obtain ⟨a0, a1, a2, a3⟩ := box_v hb0
        obtain ⟨b0, b1, b2, b3⟩ := box_v hb1
        obtain ⟨c0, c1, c2, c3⟩ := box_v hb2
        have HB0 := Lib.hid hb0
        have HB1 := Lib.hid hb1
        have HB2 := Lib.hid hb2
        clear hb0 hb1 hb2 y
        have HL : Hid (lessV ⟨k0, n0, f0, s0⟩ ⟨k1, n1, f1, s1⟩ = false) := Lib.hid (by unfold lessV; rw [if_pos (by rw [MA.out]; rfl)])
        go_wp2_with (go_at_call 22; refine Hid.out ?_)
        refine Lib.hid ?_
        refine (lessV_any k0 n0 f0 k1 n1 f1 s0 s1 _ o0 o1 (tabs_at hT xx rfl)).mono ?_
        rintro e w1 ⟨rfl, y⟩
        rw [HL.out]
        have xx := below_at xx y rfl rfl rfl rfl
        obtain ⟨hb0, hb1, hb2⟩ := kept3 HB0.out HB1.out HB2.out y rfl
        obtain ⟨a0, a1, a2, a3⟩ := box_v hb0
        obtain ⟨b0, b1, b2, b3⟩ := box_v hb1
        obtain ⟨c0, c1, c2, c3⟩ := box_v hb2
        have HB0 := Lib.hid hb0
        have HB1 := Lib.hid hb1
        have HB2 := Lib.hid hb2
        clear hb0 hb1 hb2 y
        go_wp2_with (go_at_call 10; refine Hid.out ?_)
        refine Lib.hid ?_
        refine (known3_any _ (tabs_at hT xx rfl)).mono ?_
        rintro e w1 ⟨rfl, y⟩
        go_wp2_with (fail)
        go_ret
        exact ⟨rfl, below_at xx y rfl rfl rfl rfl⟩
      | true =>
        go_wp2_with (go_at_call 16; refine Hid.out ?_)
        refine Lib.hid ?_
        refine (mayV_any k1 n1 f1 s1 _ f10 f11 (tabs_at hT xx rfl)).mono ?_
        rintro e w1 ⟨rfl, y⟩
        rw [MB.out]
        have xx := below_at xx y rfl rfl rfl rfl
        obtain ⟨hb0, hb1, hb2⟩ := kept3 HB0.out HB1.out HB2.out y rfl
        obtain ⟨a0, a1, a2, a3⟩ := box_v hb0
        obtain ⟨b0, b1, b2, b3⟩ := box_v hb1
        obtain ⟨c0, c1, c2, c3⟩ := box_v hb2
        have HB0 := Lib.hid hb0
        have HB1 := Lib.hid hb1
        have HB2 := Lib.hid hb2
        clear hb0 hb1 hb2 y
        cases mb with
        | false =>
          go_wp2_with (go_at_call 16; refine Hid.out ?_)
          refine Lib.hid ?_
          refine (mayV_any k0 n0 f0 s0 _ f00 f01 (tabs_at hT xx rfl)).mono ?_
          rintro e w1 ⟨rfl, y⟩
          rw [MA.out]
          have xx := below_at xx y rfl rfl rfl rfl
          obtain ⟨hb0, hb1, hb2⟩ := kept3 HB0.out HB1.out HB2.out y rfl
          obtain ⟨a0, a1, a2, a3⟩ := box_v hb0
          obtain ⟨b0, b1, b2, b3⟩ := box_v hb1
          obtain ⟨c0, c1, c2, c3⟩ := box_v hb2
          have HB0 := Lib.hid hb0
          have HB1 := Lib.hid hb1
          have HB2 := Lib.hid hb2
          clear hb0 hb1 hb2 y
          go_wp2_with (go_at_call 16; refine Hid.out ?_)
          refine Lib.hid ?_
          refine (mayV_any k1 n1 f1 s1 _ f10 f11 (tabs_at hT xx rfl)).mono ?_
          rintro e w1 ⟨rfl, y⟩
          rw [MB.out]
          have xx := below_at xx y rfl rfl rfl rfl
          obtain ⟨hb0, hb1, hb2⟩ := kept3 HB0.out HB1.out HB2.out y rfl
          obtain ⟨a0, a1, a2, a3⟩ := box_v hb0
          obtain ⟨b0, b1, b2, b3⟩ := box_v hb1
          obtain ⟨c0, c1, c2, c3⟩ := box_v hb2
          have HB0 := Lib.hid hb0
          have HB1 := Lib.hid hb1
          have HB2 := Lib.hid hb2
          clear hb0 hb1 hb2 y
          have HL : Hid (lessV ⟨k0, n0, f0, s0⟩ ⟨k1, n1, f1, s1⟩ = false) := Lib.hid (by unfold lessV; rw [if_pos (by rw [MA.out, MB.out]; rfl)])
          go_wp2_with (go_at_call 22; refine Hid.out ?_)
          refine Lib.hid ?_
          refine (lessV_any k0 n0 f0 k1 n1 f1 s0 s1 _ o0 o1 (tabs_at hT xx rfl)).mono ?_
          rintro e w1 ⟨rfl, y⟩
          rw [HL.out]
          have xx := below_at xx y rfl rfl rfl rfl
          obtain ⟨hb0, hb1, hb2⟩ := kept3 HB0.out HB1.out HB2.out y rfl
          obtain ⟨a0, a1, a2, a3⟩ := box_v hb0
          obtain ⟨b0, b1, b2, b3⟩ := box_v hb1
          obtain ⟨c0, c1, c2, c3⟩ := box_v hb2
          have HB0 := Lib.hid hb0
          have HB1 := Lib.hid hb1
          have HB2 := Lib.hid hb2
          clear hb0 hb1 hb2 y
          go_wp2_with (go_at_call 10; refine Hid.out ?_)
          refine Lib.hid ?_
          refine (known3_any _ (tabs_at hT xx rfl)).mono ?_
          rintro e w1 ⟨rfl, y⟩
          go_wp2_with (fail)
          go_ret
          exact ⟨rfl, below_at xx y rfl rfl rfl rfl⟩
        | true =>
          go_wp2_with (go_at_call 16; refine Hid.out ?_)
          refine Lib.hid ?_
          refine (mayV_any k2 n2 f2 s2 _ f20 f21 (tabs_at hT xx rfl)).mono ?_
          rintro e w1 ⟨rfl, y⟩
          rw [MC.out]
          have xx := below_at xx y rfl rfl rfl rfl
          obtain ⟨hb0, hb1, hb2⟩ := kept3 HB0.out HB1.out HB2.out y rfl
          obtain ⟨a0, a1, a2, a3⟩ := box_v hb0
          obtain ⟨b0, b1, b2, b3⟩ := box_v hb1
          obtain ⟨c0, c1, c2, c3⟩ := box_v hb2
          have HB0 := Lib.hid hb0
          have HB1 := Lib.hid hb1
          have HB2 := Lib.hid hb2
          clear hb0 hb1 hb2 y
          cases mc with
          | false =>
            go_wp2_with (go_at_call 16; refine Hid.out ?_)
            refine Lib.hid ?_
            refine (mayV_any k0 n0 f0 s0 _ f00 f01 (tabs_at hT xx rfl)).mono ?_
            rintro e w1 ⟨rfl, y⟩
            rw [MA.out]
            have xx := below_at xx y rfl rfl rfl rfl
            obtain ⟨hb0, hb1, hb2⟩ := kept3 HB0.out HB1.out HB2.out y rfl
            obtain ⟨a0, a1, a2, a3⟩ := box_v hb0
            obtain ⟨b0, b1, b2, b3⟩ := box_v hb1
            obtain ⟨c0, c1, c2, c3⟩ := box_v hb2
            have HB0 := Lib.hid hb0
            have HB1 := Lib.hid hb1
            have HB2 := Lib.hid hb2
            clear hb0 hb1 hb2 y
            go_wp2_with (go_at_call 16; refine Hid.out ?_)
            refine Lib.hid ?_
            refine (mayV_any k1 n1 f1 s1 _ f10 f11 (tabs_at hT xx rfl)).mono ?_
            rintro e w1 ⟨rfl, y⟩
            rw [MB.out]
            have xx := below_at xx y rfl rfl rfl rfl
            obtain ⟨hb0, hb1, hb2⟩ := kept3 HB0.out HB1.out HB2.out y rfl
            obtain ⟨a0, a1, a2, a3⟩ := box_v hb0
            obtain ⟨b0, b1, b2, b3⟩ := box_v hb1
            obtain ⟨c0, c1, c2, c3⟩ := box_v hb2
            have HB0 := Lib.hid hb0
            have HB1 := Lib.hid hb1
            have HB2 := Lib.hid hb2
            clear hb0 hb1 hb2 y
            go_wp2_with (go_at_call 10; refine Hid.out ?_)
            refine Lib.hid ?_
            refine (known3_any _ (tabs_at hT xx rfl)).mono ?_
            rintro e w1 ⟨rfl, y⟩
            go_wp2_with (fail)
            go_ret
            exact ⟨rfl, below_at xx y rfl rfl rfl rfl⟩
          | true => exact absurd (by simp) hall
end Go.Proofs.YtclfplpggmefjaaDoor
