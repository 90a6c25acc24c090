/- rubriclaw03.ValueOrder where the answers of Less are TT. -/
import Derived.Test.YtclfplpggmefjaaDoorVaOrd0
namespace Go.Proofs.YtclfplpggmefjaaDoor
open Go.RowKit
set_option linter.unusedVariables false
set_option linter.unusedSimpArgs false

set_option maxRecDepth 8192 in
set_option maxHeartbeats 12800000 in
theorem valueOrder_TT (k0 n0 f0 k1 n1 f1 k2 n2 f2 : Int) (s0 s1 s2 : ByteArray) (w : World) (o0 : okV ⟨k0, n0, f0, s0⟩) (o1 : okV ⟨k1, n1, f1, s1⟩) (o2 : okV ⟨k2, n2, f2, s2⟩)
    (z0 : s0.size ≤ 140737488355328) (z1 : s1.size ≤ 140737488355328) (z2 : s2.size ≤ 140737488355328) (hT : Lib.Utf8Tabs 1 2 w) (MA : Hid (mayV ⟨k0, n0, f0, s0⟩ = true)) (MB : Hid (mayV ⟨k1, n1, f1, s1⟩ = true)) (MC : Hid (mayV ⟨k2, n2, f2, s2⟩ = true)) (hgz : ¬ ((3000 : Int) < (s0.size : Int) + (s1.size : Int) + (s2.size : Int))) (HP : Hid (lessV ⟨k0, n0, f0, s0⟩ ⟨k1, n1, f1, s1⟩ = true)) (HQ : Hid (lessV ⟨k1, n1, f1, s1⟩ ⟨k0, n0, f0, s0⟩ = false)) (HR : Hid (lessV ⟨k1, n1, f1, s1⟩ ⟨k2, n2, f2, s2⟩ = true)) (HL : Hid (lessV ⟨k0, n0, f0, s0⟩ ⟨k2, n2, f2, s2⟩ = true)) (he : beqV ⟨k0, n0, f0, s0⟩ ⟨k1, n1, f1, s1⟩ = false) :
    Calls Tryd.prog 5 #[.agg #[.int .u8 k0, .int .i64 n0, .int .u64 f0, .string s0], .agg #[.int .u8 k1, .int .i64 n1, .int .u64 f1, .string s1], .agg #[.int .u8 k2, .int .i64 n2, .int .u64 f2, .string s2]] w (YesB w) := by
  have f00 : 0 ≤ f0 := o0.f0
  have f01 : f0 < 18446744073709551616 := o0.f1
  have f10 : 0 ≤ f1 := o1.f0
  have f11 : f1 < 18446744073709551616 := o1.f1
  have f20 : 0 ≤ f2 := o2.f0
  have f21 : f2 < 18446744073709551616 := o2.f1
  go_enter Tryd.func5, Tryd.ntmps5
  go_wp2_with (go_at_call 16; refine Hid.out ?_)
  refine Lib.hid ?_
  have y0 := ext_alloc w (.cells #[.int .u8 k0, .int .i64 n0, .int .u64 f0, .string s0] 24)
  have HB0 := heap_alloc_new w (.cells #[.int .u8 k0, .int .i64 n0, .int .u64 f0, .string s0] 24)
  have hz0 : (w.alloc (.cells #[.int .u8 k0, .int .i64 n0, .int .u64 f0, .string s0] 24)).heap.size = w.heap.size + 1 := by rw [World.size_alloc]
  generalize w.alloc (.cells #[.int .u8 k0, .int .i64 n0, .int .u64 f0, .string s0] 24) = v0 at *
  have x0 := y0
  have y1 := ext_alloc v0 (.cells #[.int .u8 k1, .int .i64 n1, .int .u64 f1, .string s1] 24)
  have HB1 := heap_alloc_new v0 (.cells #[.int .u8 k1, .int .i64 n1, .int .u64 f1, .string s1] 24)
  have hz1 : (v0.alloc (.cells #[.int .u8 k1, .int .i64 n1, .int .u64 f1, .string s1] 24)).heap.size = w.heap.size + 2 := by rw [World.size_alloc, hz0]
  rw [hz0] at HB1
  generalize v0.alloc (.cells #[.int .u8 k1, .int .i64 n1, .int .u64 f1, .string s1] 24) = v1 at *
  have HB0 := (y1.block w.heap.size (by rw [hz0]; omega)).trans HB0
  have x1 := ext_trans x0 y1
  have y2 := ext_alloc v1 (.cells #[.int .u8 k2, .int .i64 n2, .int .u64 f2, .string s2] 24)
  have HB2 := heap_alloc_new v1 (.cells #[.int .u8 k2, .int .i64 n2, .int .u64 f2, .string s2] 24)
  have hz2 : (v1.alloc (.cells #[.int .u8 k2, .int .i64 n2, .int .u64 f2, .string s2] 24)).heap.size = w.heap.size + 3 := by rw [World.size_alloc, hz1]
  rw [hz1] at HB2
  generalize v1.alloc (.cells #[.int .u8 k2, .int .i64 n2, .int .u64 f2, .string s2] 24) = v2 at *
  have HB0 := (y2.block w.heap.size (by rw [hz1]; omega)).trans HB0
  have HB1 := (y2.block (w.heap.size + 1) (by rw [hz1]; omega)).trans HB1
  have x2 := ext_trans x1 y2
  have HB0 := Lib.hid HB0
  have HB1 := Lib.hid HB1
  have HB2 := Lib.hid HB2
  clear y0 y1 y2
  obtain ⟨a0, a1, a2, a3⟩ := box_v HB0.out
  obtain ⟨b0, b1, b2, b3⟩ := box_v HB1.out
  obtain ⟨c0, c1, c2, c3⟩ := box_v HB2.out
  have xx := x2
  clear x0 x1 x2
  refine (mayV_any k0 n0 f0 s0 _ f00 f01 (tabs_at hT xx rfl)).mono ?_
  rintro e w1 ⟨rfl, y⟩
  have xx := below_at xx y rfl rfl rfl rfl
  obtain ⟨hb0, hb1, hb2⟩ := kept3 HB0.out HB1.out HB2.out y rfl
  clear a0 a1 a2 a3 b0 b1 b2 b3 c0 c1 c2 c3
  obtain ⟨a0, a1, a2, a3⟩ := box_v hb0
  obtain ⟨b0, b1, b2, b3⟩ := box_v hb1
  obtain ⟨c0, c1, c2, c3⟩ := box_v hb2
  have HB0 := Lib.hid hb0
  have HB1 := Lib.hid hb1
  have HB2 := Lib.hid hb2
  clear hb0 hb1 hb2 y
  rw [MA.out]
  go_wp2_with (go_at_call 16; refine Hid.out ?_)
  refine Lib.hid ?_
  refine (mayV_any k1 n1 f1 s1 _ f10 f11 (tabs_at hT xx rfl)).mono ?_
  rintro e w1 ⟨rfl, y⟩
  rw [MB.out]
  have xx := below_at xx y rfl rfl rfl rfl
  obtain ⟨hb0, hb1, hb2⟩ := kept3 HB0.out HB1.out HB2.out y rfl
  obtain ⟨a0, a1, a2, a3⟩ := box_v hb0
  obtain ⟨b0, b1, b2, b3⟩ := box_v hb1
  obtain ⟨c0, c1, c2, c3⟩ := box_v hb2
  have HB0 := Lib.hid hb0
  have HB1 := Lib.hid hb1
  have HB2 := Lib.hid hb2
  clear hb0 hb1 hb2 y
  go_wp2_with (go_at_call 16; refine Hid.out ?_)
  refine Lib.hid ?_
  refine (mayV_any k2 n2 f2 s2 _ f20 f21 (tabs_at hT xx rfl)).mono ?_
  rintro e w1 ⟨rfl, y⟩
  rw [MC.out]
  have xx := below_at xx y rfl rfl rfl rfl
  obtain ⟨hb0, hb1, hb2⟩ := kept3 HB0.out HB1.out HB2.out y rfl
  obtain ⟨a0, a1, a2, a3⟩ := box_v hb0
  obtain ⟨b0, b1, b2, b3⟩ := box_v hb1
  obtain ⟨c0, c1, c2, c3⟩ := box_v hb2
  have HB0 := Lib.hid hb0
  have HB1 := Lib.hid hb1
  have HB2 := Lib.hid hb2
  clear hb0 hb1 hb2 y
  go_wp2_with (fail)
  obtain ⟨O, hO⟩ : ∃ O : List (Nat × Obj), O = [(w.heap.size, .cells #[.int .u8 k0, .int .i64 n0, .int .u64 f0, .string s0] 24 (0, 0)), (w.heap.size + 1, .cells #[.int .u8 k1, .int .i64 n1, .int .u64 f1, .string s1] 24 (0, 0)), (w.heap.size + 2, .cells #[.int .u8 k2, .int .i64 n2, .int .u64 f2, .string s2] 24 (0, 0))] := ⟨_, rfl⟩
  have gg : GoodB w O _ := ⟨xx, by rw [hO]; intro p hp; simp only [List.mem_cons, List.not_mem_nil, or_false] at hp; rcases hp with rfl | rfl | rfl; exact HB0.out; exact HB1.out; exact HB2.out⟩
  have ce00 : ∀ x : GW w O, x.val.cell? ⟨w.heap.size, 0, none⟩ = some (.int .u8 k0) := fun x => good_cells (cs := #[.int .u8 k0, .int .i64 n0, .int .u64 f0, .string s0]) (t := 24) (by rw [hO]; simp) x 0 _ rfl
  have ce01 : ∀ x : GW w O, x.val.cell? ⟨w.heap.size, 1, none⟩ = some (.int .i64 n0) := fun x => good_cells (cs := #[.int .u8 k0, .int .i64 n0, .int .u64 f0, .string s0]) (t := 24) (by rw [hO]; simp) x 1 _ rfl
  have ce02 : ∀ x : GW w O, x.val.cell? ⟨w.heap.size, 2, none⟩ = some (.int .u64 f0) := fun x => good_cells (cs := #[.int .u8 k0, .int .i64 n0, .int .u64 f0, .string s0]) (t := 24) (by rw [hO]; simp) x 2 _ rfl
  have ce03 : ∀ x : GW w O, x.val.cell? ⟨w.heap.size, 3, none⟩ = some (.string s0) := fun x => good_cells (cs := #[.int .u8 k0, .int .i64 n0, .int .u64 f0, .string s0]) (t := 24) (by rw [hO]; simp) x 3 _ rfl
  have HC0 : Hid (∀ x : GW w O, x.val.heap[w.heap.size]? = some (.cells #[.int .u8 k0, .int .i64 n0, .int .u64 f0, .string s0] 24 (0, 0))) := Lib.hid (fun x => good_block (by rw [hO]; simp) x)
  have ce10 : ∀ x : GW w O, x.val.cell? ⟨w.heap.size + 1, 0, none⟩ = some (.int .u8 k1) := fun x => good_cells (cs := #[.int .u8 k1, .int .i64 n1, .int .u64 f1, .string s1]) (t := 24) (by rw [hO]; simp) x 0 _ rfl
  have ce11 : ∀ x : GW w O, x.val.cell? ⟨w.heap.size + 1, 1, none⟩ = some (.int .i64 n1) := fun x => good_cells (cs := #[.int .u8 k1, .int .i64 n1, .int .u64 f1, .string s1]) (t := 24) (by rw [hO]; simp) x 1 _ rfl
  have ce12 : ∀ x : GW w O, x.val.cell? ⟨w.heap.size + 1, 2, none⟩ = some (.int .u64 f1) := fun x => good_cells (cs := #[.int .u8 k1, .int .i64 n1, .int .u64 f1, .string s1]) (t := 24) (by rw [hO]; simp) x 2 _ rfl
  have ce13 : ∀ x : GW w O, x.val.cell? ⟨w.heap.size + 1, 3, none⟩ = some (.string s1) := fun x => good_cells (cs := #[.int .u8 k1, .int .i64 n1, .int .u64 f1, .string s1]) (t := 24) (by rw [hO]; simp) x 3 _ rfl
  have HC1 : Hid (∀ x : GW w O, x.val.heap[w.heap.size + 1]? = some (.cells #[.int .u8 k1, .int .i64 n1, .int .u64 f1, .string s1] 24 (0, 0))) := Lib.hid (fun x => good_block (by rw [hO]; simp) x)
  have ce20 : ∀ x : GW w O, x.val.cell? ⟨w.heap.size + 1 + 1, 0, none⟩ = some (.int .u8 k2) := fun x => good_cells (cs := #[.int .u8 k2, .int .i64 n2, .int .u64 f2, .string s2]) (t := 24) (by rw [hO]; simp) x 0 _ rfl
  have ce21 : ∀ x : GW w O, x.val.cell? ⟨w.heap.size + 1 + 1, 1, none⟩ = some (.int .i64 n2) := fun x => good_cells (cs := #[.int .u8 k2, .int .i64 n2, .int .u64 f2, .string s2]) (t := 24) (by rw [hO]; simp) x 1 _ rfl
  have ce22 : ∀ x : GW w O, x.val.cell? ⟨w.heap.size + 1 + 1, 2, none⟩ = some (.int .u64 f2) := fun x => good_cells (cs := #[.int .u8 k2, .int .i64 n2, .int .u64 f2, .string s2]) (t := 24) (by rw [hO]; simp) x 2 _ rfl
  have ce23 : ∀ x : GW w O, x.val.cell? ⟨w.heap.size + 1 + 1, 3, none⟩ = some (.string s2) := fun x => good_cells (cs := #[.int .u8 k2, .int .i64 n2, .int .u64 f2, .string s2]) (t := 24) (by rw [hO]; simp) x 3 _ rfl
  have HC2 : Hid (∀ x : GW w O, x.val.heap[w.heap.size + 2]? = some (.cells #[.int .u8 k2, .int .i64 n2, .int .u64 f2, .string s2] 24 (0, 0))) := Lib.hid (fun x => good_block (by rw [hO]; simp) x)
  clear hO
  haveI : Nonempty (GW w O) := ⟨⟨_, gg⟩⟩
  refine wp_region_class (by kernel_rfl) (by kernel_rfl) gg ?_
  repeat (go_big_quiet_step (first
    | (go_at_call 22; with_reducible exact less_class hT o0 o1 _ HP.out)
    | (go_at_call 22; with_reducible exact less_class hT o1 o0 _ HQ.out)
    | (go_at_call 22; with_reducible exact less_class hT o1 o2 _ HR.out)
    | (go_at_call 22; with_reducible exact less_class hT o0 o2 _ HL.out)))
  refine wpQuiet_nil ?_
  intro _ hw'
  obtain ⟨x, rfl⟩ := hw'
  go_wp2_with (fail)
  have xx := x.ok.1
  have hb0 := HC0.out x
  have hb1 := HC1.out x
  have hb2 := HC2.out x
  generalize x.val = w1 at *
  clear ce00 ce01 ce02 ce03 ce10 ce11 ce12 ce13 ce20 ce21 ce22 ce23
  obtain ⟨a0, a1, a2, a3⟩ := box_v hb0
  obtain ⟨b0, b1, b2, b3⟩ := box_v hb1
  obtain ⟨c0, c1, c2, c3⟩ := box_v hb2
  have HB0 := Lib.hid hb0
  have HB1 := Lib.hid hb1
  have HB2 := Lib.hid hb2
  clear hb0 hb1 hb2
  obtain ⟨na, hna⟩ : ∃ X, numV ⟨k0, n0, f0, s0⟩ = X := ⟨_, rfl⟩
  obtain ⟨nb, hnb⟩ : ∃ X, numV ⟨k1, n1, f1, s1⟩ = X := ⟨_, rfl⟩
  have NA := Lib.hid hna
  have NB := Lib.hid hnb
  clear hna hnb
  go_wp2_with (go_at_call 13; refine Hid.out ?_)
  refine Lib.hid ?_
  refine (numV_any k0 n0 f0 s0 _ o0 (tabs_at hT xx rfl)).mono ?_
  rintro e w1 ⟨rfl, y⟩
  rw [NA.out]
  have xx := below_at xx y rfl rfl rfl rfl
  obtain ⟨hb0, hb1, hb2⟩ := kept3 HB0.out HB1.out HB2.out y rfl
  obtain ⟨a0, a1, a2, a3⟩ := box_v hb0
  obtain ⟨b0, b1, b2, b3⟩ := box_v hb1
  obtain ⟨c0, c1, c2, c3⟩ := box_v hb2
  have HB0 := Lib.hid hb0
  have HB1 := Lib.hid hb1
  have HB2 := Lib.hid hb2
  clear hb0 hb1 hb2 y
  go_wp2_with (go_at_call 13; refine Hid.out ?_)
  refine Lib.hid ?_
  refine (numV_any k1 n1 f1 s1 _ o1 (tabs_at hT xx rfl)).mono ?_
  rintro e w1 ⟨rfl, y⟩
  rw [NB.out]
  have xx := below_at xx y rfl rfl rfl rfl
  obtain ⟨hb0, hb1, hb2⟩ := kept3 HB0.out HB1.out HB2.out y rfl
  obtain ⟨a0, a1, a2, a3⟩ := box_v hb0
  obtain ⟨b0, b1, b2, b3⟩ := box_v hb1
  obtain ⟨c0, c1, c2, c3⟩ := box_v hb2
  have HB0 := Lib.hid hb0
  have HB1 := Lib.hid hb1
  have HB2 := Lib.hid hb2
  clear hb0 hb1 hb2 y
  cases na with
  | none =>
    have en : (none : Option Nat).isSome = false := rfl
    go_wp2_with (go_at_call 10; refine Hid.out ?_)
    refine Lib.hid ?_
    refine (known3_any _ (tabs_at hT xx rfl)).mono ?_
    rintro e w1 ⟨rfl, y⟩
    go_wp2_with (fail)
    go_ret
    exact ⟨rfl, below_at xx y rfl rfl rfl rfl⟩
  | some x =>
    cases nb with
    | none =>
      have en : (none : Option Nat).isSome = false := rfl
      have em : (some x : Option Nat).isSome = true := rfl
      go_wp2_with (go_at_call 10; refine Hid.out ?_)
      refine Lib.hid ?_
      refine (known3_any _ (tabs_at hT xx rfl)).mono ?_
      rintro e w1 ⟨rfl, y⟩
      go_wp2_with (fail)
      go_ret
      exact ⟨rfl, below_at xx y rfl rfl rfl rfl⟩
    | some y =>
      have em : (some x : Option Nat).isSome = true := rfl
      have en : (some y : Option Nat).isSome = true := rfl
      have ex : (some x : Option Nat).getD 0 = x := rfl
      have ey : (some y : Option Nat).getD 0 = y := rfl
      by_cases hk : k0 = k1
      · subst hk
        obtain ⟨lt, hlt⟩ : ∃ X, (FloatKind.f64.format.order x y == some Ordering.lt) = X := ⟨_, rfl⟩
        cases lt with
        | false =>
          go_wp2_with (go_at_call 10; refine Hid.out ?_)
          refine Lib.hid ?_
          refine (known3_any _ (tabs_at hT xx rfl)).mono ?_
          rintro e w1 ⟨rfl, y⟩
          go_wp2_with (fail)
          go_ret
          exact ⟨rfl, below_at xx y rfl rfl rfl rfl⟩
        | true =>
          go_wp2_with (go_at_call 22; refine Hid.out ?_)
          refine Lib.hid ?_
          refine (lessV_any k0 n0 f0 k0 n1 f1 s0 s1 _ o0 o1 (tabs_at hT xx rfl)).mono ?_
          rintro e w1 ⟨rfl, y⟩
          rw [HP.out]
          have xx := below_at xx y rfl rfl rfl rfl
          obtain ⟨hb0, hb1, hb2⟩ := kept3 HB0.out HB1.out HB2.out y rfl
          obtain ⟨a0, a1, a2, a3⟩ := box_v hb0
          obtain ⟨b0, b1, b2, b3⟩ := box_v hb1
          obtain ⟨c0, c1, c2, c3⟩ := box_v hb2
          have HB0 := Lib.hid hb0
          have HB1 := Lib.hid hb1
          have HB2 := Lib.hid hb2
          clear hb0 hb1 hb2 y
          go_wp2_with (go_at_call 10; refine Hid.out ?_)
          refine Lib.hid ?_
          refine (known3_any _ (tabs_at hT xx rfl)).mono ?_
          rintro e w1 ⟨rfl, y⟩
          go_wp2_with (fail)
          go_ret
          exact ⟨rfl, below_at xx y rfl rfl rfl rfl⟩
      · skip
        go_wp2_with (go_at_call 10; refine Hid.out ?_)
        refine Lib.hid ?_
        refine (known3_any _ (tabs_at hT xx rfl)).mono ?_
        rintro e w1 ⟨rfl, y⟩
        go_wp2_with (fail)
        go_ret
        exact ⟨rfl, below_at xx y rfl rfl rfl rfl⟩
end Go.Proofs.YtclfplpggmefjaaDoor
