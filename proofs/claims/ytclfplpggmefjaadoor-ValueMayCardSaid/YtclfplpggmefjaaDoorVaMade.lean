/- The walk of rubriclaw03.ValueMade. -/
import Derived.Test.YtclfplpggmefjaaDoorVaOrd0
namespace Go.Proofs.YtclfplpggmefjaaDoor
open Go.RowKit
set_option linter.unusedVariables false
set_option linter.unusedSimpArgs false

theorem made_float {f : Int} (h0 : 0 ≤ f) (h1 : f < 18446744073709551616) : ∃ g, (floatV (f.toNat : Int)).f = g ∧ 0 ≤ g ∧ g < 18446744073709551616 ∧ mayV ⟨3, 0, g, ⟨#[]⟩⟩ = true ∧ numV ⟨3, 0, g, ⟨#[]⟩⟩ = some g.toNat ∧
    (floatV (g.toNat : Int)).f = g ∧ isNanF g.toNat = isNanF f.toNat ∧ (isNanF f.toNat = false → g = f) := by
  refine ⟨_, rfl, ?_⟩
  rw [Int.toNat_of_nonneg h0]
  have e0 : nanF f = isNanF f.toNat := by rw [← nanF_nat, Int.toNat_of_nonneg h0]
  cases hN : isNanF f.toNat with
  | true =>
    have : (floatV f).f = 9221120237041090560 := by unfold floatV; rw [e0, hN]; rfl
    rw [this]
    exact ⟨by decide, by decide, by decide, by decide, by decide, by decide, by simp⟩
  | false =>
    have : (floatV f).f = f := by unfold floatV; rw [e0, hN]; rfl
    rw [this]
    have hm : mayV ⟨3, 0, f, ⟨#[]⟩⟩ = true := by
      unfold mayV
      rw [if_neg (by simp), if_neg (by simp), if_pos (by simp)]
      refine beqV_eq ?_
      unfold floatV
      rw [e0, hN]
      rfl
    refine ⟨h0, h1, hm, ?_, ?_, hN, fun _ => rfl⟩
    · unfold numV
      rw [if_pos hm, if_pos rfl]
    · rw [Int.toNat_of_nonneg h0]; exact this
theorem made_int (n : Int) : mayV ⟨2, n, 0, ⟨#[]⟩⟩ = true ∧ numV ⟨2, n, 0, ⟨#[]⟩⟩ = some (ofIntF n) := by
  have hm : mayV ⟨2, n, 0, ⟨#[]⟩⟩ = true := by
    unfold mayV
    rw [if_neg (by simp), if_pos (by simp)]
    exact beqV_eq rfl
  refine ⟨hm, ?_⟩
  unfold numV
  rw [if_pos hm, if_neg (by simp), if_pos rfl]
theorem made_flag (b : Bool) : mayV ⟨1, if b = true then 1 else 0, 0, ⟨#[]⟩⟩ = true ∧ numV ⟨1, if b = true then 1 else 0, 0, ⟨#[]⟩⟩ = none := by
  cases b <;> exact ⟨by decide, by decide⟩

theorem conv_back {n : Int} (hn : n.natAbs < 9007199254740992) (W : World) : (convert 30 2 (.float .f64 (ofIntF n))).run Tryd.prog W = .ok (.int .i64 n) W := by
  have h := toInt_int hn
  have h1 : IntKind.i64.min ≤ n ∧ n ≤ IntKind.i64.max := by
    have e1 : IntKind.i64.min = -9223372036854775808 := by decide
    have e2 : IntKind.i64.max = 9223372036854775807 := by decide
    rw [e1, e2]; omega
  simp [convert, Conv.floatToInt, go_sem, h, h1]
  intro h2
  omega
theorem float_class {w : World} {O : List (Nat × Obj)} {b : Nat} {g : Int} (x : GW w O) (hb : b < 18446744073709551616) (h : (floatV b).f = g) :
    Calls Tryd.prog 19 #[.float .f64 b] x.val fun e w' => e = .returned (.agg #[.int .u8 3, .int .i64 0, .int .u64 g, .string ⟨#[]⟩]) ∧ ∃ y : GW w O, w' = y.val :=
  good_call x ((float_any b x.val hb).mono fun e w' h' => ⟨by rw [h'.1, h], h'.2⟩)
set_option maxRecDepth 8192 in
set_option maxHeartbeats 3200000 in
theorem valueMade_any (f n : Int) (b : Bool) (w : World) (h0 : 0 ≤ f) (h1 : f < 18446744073709551616) (n0 : -9223372036854775808 ≤ n) (n1 : n ≤ 9223372036854775807) (hT : Lib.Utf8Tabs 1 2 w) :
    Calls Tryd.prog 6 #[.int .u64 f, .int .i64 n, .bool b] w (YesB w) := by
  obtain ⟨g, hg, g0, g1, hmf, hnf, hgg, hnn, hgf⟩ := made_float h0 h1
  obtain ⟨hmn, hni⟩ := made_int n
  obtain ⟨hmb, hnb⟩ := made_flag b
  obtain ⟨c, hc⟩ : ∃ X : Int, (if b = true then 1 else 0) = X := ⟨_, rfl⟩
  rw [hc] at hmb hnb
  have hgn : g.toNat < 18446744073709551616 := by omega
  have hokf : okV ⟨3, 0, g, ⟨#[]⟩⟩ := ⟨by simp, by simp, by simp, by simp, g0, by simp; omega⟩
  have hokn : okV ⟨2, n, 0, ⟨#[]⟩⟩ := ⟨by simp, by simp, n0, n1, by simp, by simp⟩
  have hokb : okV ⟨1, c, 0, ⟨#[]⟩⟩ := by rw [← hc]; cases b <;> exact ⟨by simp, by simp, by simp, by simp, by simp, by simp⟩
  have HG := Lib.hid hg
  have HMF := Lib.hid hmf
  have HNF := Lib.hid hnf
  have HMN := Lib.hid hmn
  have HNI := Lib.hid hni
  have HMB := Lib.hid hmb
  have HNB := Lib.hid hnb
  have HGG := Lib.hid hgg
  have HNN := Lib.hid hnn
  have HC := Lib.hid hc
  have HGF := Lib.hid hgf
  clear hg hmf hnf hmn hni hmb hnb hgg hnn hc hgf
  go_enter Tryd.func6, Tryd.ntmps6
  go_wp2_with (go_at_call 19; refine Hid.out ?_)
  refine Lib.hid ?_
  refine (float_any f.toNat _ (by omega)).mono ?_
  rintro e w1 ⟨rfl, y⟩
  rw [HG.out]
  have xx : Below w.heap.size w w1 := y
  clear y
  go_wp2_with (go_at_call 18; refine Hid.out ?_)
  refine Lib.hid ?_
  refine (int_any n _).mono ?_
  rintro e w1 ⟨rfl, y⟩
  have xx := below_at xx y rfl rfl rfl rfl
  clear y
  go_wp2_with (go_at_call 17; refine Hid.out ?_)
  refine Lib.hid ?_
  refine (flag_any b _).mono ?_
  rintro e w1 ⟨rfl, y⟩
  rw [HC.out]
  have xx := below_at xx y rfl rfl rfl rfl
  clear y
  go_wp2_with (go_at_call 16; refine Hid.out ?_)
  refine Lib.hid ?_
  have y0 := ext_alloc w1 (.cells #[.int .u8 3, .int .i64 0, .int .u64 g, .string ⟨#[]⟩] 24)
  have HB0 := heap_alloc_new w1 (.cells #[.int .u8 3, .int .i64 0, .int .u64 g, .string ⟨#[]⟩] 24)
  have hz0 : (w1.alloc (.cells #[.int .u8 3, .int .i64 0, .int .u64 g, .string ⟨#[]⟩] 24)).heap.size = w1.heap.size + 1 := by rw [World.size_alloc]
  generalize w1.alloc (.cells #[.int .u8 3, .int .i64 0, .int .u64 g, .string ⟨#[]⟩] 24) = v0 at *
  have x0 := y0
  have y1 := ext_alloc v0 (.cells #[.int .u8 2, .int .i64 n, .int .u64 0, .string ⟨#[]⟩] 24)
  have HB1 := heap_alloc_new v0 (.cells #[.int .u8 2, .int .i64 n, .int .u64 0, .string ⟨#[]⟩] 24)
  have hz1 : (v0.alloc (.cells #[.int .u8 2, .int .i64 n, .int .u64 0, .string ⟨#[]⟩] 24)).heap.size = w1.heap.size + 2 := by rw [World.size_alloc, hz0]
  rw [hz0] at HB1
  generalize v0.alloc (.cells #[.int .u8 2, .int .i64 n, .int .u64 0, .string ⟨#[]⟩] 24) = v1 at *
  have HB0 := (y1.block w1.heap.size (by rw [hz0]; omega)).trans HB0
  have x1 := ext_trans x0 y1
  have y2 := ext_alloc v1 (.cells #[.int .u8 1, .int .i64 c, .int .u64 0, .string ⟨#[]⟩] 24)
  have HB2 := heap_alloc_new v1 (.cells #[.int .u8 1, .int .i64 c, .int .u64 0, .string ⟨#[]⟩] 24)
  have hz2 : (v1.alloc (.cells #[.int .u8 1, .int .i64 c, .int .u64 0, .string ⟨#[]⟩] 24)).heap.size = w1.heap.size + 3 := by rw [World.size_alloc, hz1]
  rw [hz1] at HB2
  generalize v1.alloc (.cells #[.int .u8 1, .int .i64 c, .int .u64 0, .string ⟨#[]⟩] 24) = v2 at *
  have HB0 := (y2.block w1.heap.size (by rw [hz1]; omega)).trans HB0
  have HB1 := (y2.block (w1.heap.size + 1) (by rw [hz1]; omega)).trans HB1
  have x2 := ext_trans x1 y2
  have hb0 := HB0
  have hb1 := HB1
  have hb2 := HB2
  have xx0 := xx
  have xx := ext_trans xx0 x2
  have x2 := Lib.hid x2
  clear y0 y1 y2 x0 x1 hz0 hz1 hz2 HB0 HB1 HB2
  obtain ⟨a0, a1, a2, a3⟩ := box_v hb0
  obtain ⟨b0, b1, b2, b3⟩ := box_v hb1
  obtain ⟨c0, c1, c2, c3⟩ := box_v hb2
  have HB0 := Lib.hid hb0
  have HB1 := Lib.hid hb1
  have HB2 := Lib.hid hb2
  clear hb0 hb1 hb2
  refine (mayV_any 3 0 g ⟨#[]⟩ _ g0 g1 (tabs_at hT xx rfl)).mono ?_
  rintro e w2 ⟨rfl, y⟩
  rw [HMF.out]
  have xx := below_at xx y rfl rfl rfl rfl
  obtain ⟨hb0, hb1, hb2⟩ := kept3 HB0.out HB1.out HB2.out y rfl
  clear y
  obtain ⟨a0, a1, a2, a3⟩ := box_v hb0
  obtain ⟨b0, b1, b2, b3⟩ := box_v hb1
  obtain ⟨c0, c1, c2, c3⟩ := box_v hb2
  have HB0 := Lib.hid hb0
  have HB1 := Lib.hid hb1
  have HB2 := Lib.hid hb2
  clear hb0 hb1 hb2
  go_wp2_with (go_at_call 16; refine Hid.out ?_)
  refine Lib.hid ?_
  refine (mayV_any 2 n 0 ⟨#[]⟩ _ (by decide) (by decide) (tabs_at hT xx rfl)).mono ?_
  rintro e w2 ⟨rfl, y⟩
  rw [HMN.out]
  have xx := below_at xx y rfl rfl rfl rfl
  obtain ⟨hb0, hb1, hb2⟩ := kept3 HB0.out HB1.out HB2.out y rfl
  clear y
  obtain ⟨a0, a1, a2, a3⟩ := box_v hb0
  obtain ⟨b0, b1, b2, b3⟩ := box_v hb1
  obtain ⟨c0, c1, c2, c3⟩ := box_v hb2
  have HB0 := Lib.hid hb0
  have HB1 := Lib.hid hb1
  have HB2 := Lib.hid hb2
  clear hb0 hb1 hb2
  go_wp2_with (go_at_call 16; refine Hid.out ?_)
  refine Lib.hid ?_
  refine (mayV_any 1 c 0 ⟨#[]⟩ _ (by decide) (by decide) (tabs_at hT xx rfl)).mono ?_
  rintro e w2 ⟨rfl, y⟩
  rw [HMB.out]
  have xx := below_at xx y rfl rfl rfl rfl
  obtain ⟨hb0, hb1, hb2⟩ := kept3 HB0.out HB1.out HB2.out y rfl
  clear y
  obtain ⟨a0, a1, a2, a3⟩ := box_v hb0
  obtain ⟨b0, b1, b2, b3⟩ := box_v hb1
  obtain ⟨c0, c1, c2, c3⟩ := box_v hb2
  have HB0 := Lib.hid hb0
  have HB1 := Lib.hid hb1
  have HB2 := Lib.hid hb2
  clear hb0 hb1 hb2
  go_wp2_with (go_at_call 13; refine Hid.out ?_)
  refine Lib.hid ?_
  refine (numV_any 3 0 g ⟨#[]⟩ _ hokf (tabs_at hT xx rfl)).mono ?_
  rintro e w2 ⟨rfl, y⟩
  rw [HNF.out]
  have xx := below_at xx y rfl rfl rfl rfl
  obtain ⟨hb0, hb1, hb2⟩ := kept3 HB0.out HB1.out HB2.out y rfl
  clear y
  obtain ⟨a0, a1, a2, a3⟩ := box_v hb0
  obtain ⟨b0, b1, b2, b3⟩ := box_v hb1
  obtain ⟨c0, c1, c2, c3⟩ := box_v hb2
  have HB0 := Lib.hid hb0
  have HB1 := Lib.hid hb1
  have HB2 := Lib.hid hb2
  clear hb0 hb1 hb2
  go_wp2_with (go_at_call 13; refine Hid.out ?_)
  refine Lib.hid ?_
  refine (numV_any 2 n 0 ⟨#[]⟩ _ hokn (tabs_at hT xx rfl)).mono ?_
  rintro e w2 ⟨rfl, y⟩
  rw [HNI.out]
  have xx := below_at xx y rfl rfl rfl rfl
  obtain ⟨hb0, hb1, hb2⟩ := kept3 HB0.out HB1.out HB2.out y rfl
  clear y
  obtain ⟨a0, a1, a2, a3⟩ := box_v hb0
  obtain ⟨b0, b1, b2, b3⟩ := box_v hb1
  obtain ⟨c0, c1, c2, c3⟩ := box_v hb2
  have HB0 := Lib.hid hb0
  have HB1 := Lib.hid hb1
  have HB2 := Lib.hid hb2
  clear hb0 hb1 hb2
  have em : (some g.toNat : Option Nat).isSome = true := rfl
  have en : (some (ofIntF n) : Option Nat).isSome = true := rfl
  have ex : (some g.toNat : Option Nat).getD 0 = g.toNat := rfl
  have ey : (some (ofIntF n) : Option Nat).getD 0 = ofIntF n := rfl
  go_wp2_with (fail)
  have hgt : (g.toNat : Int) = g := Int.toNat_of_nonneg g0
  obtain ⟨O, hO⟩ : ∃ O : List (Nat × Obj), O = [(w1.heap.size, .cells #[.int .u8 3, .int .i64 0, .int .u64 g, .string ⟨#[]⟩] 24 (0, 0)), (w1.heap.size + 1, .cells #[.int .u8 2, .int .i64 n, .int .u64 0, .string ⟨#[]⟩] 24 (0, 0)), (w1.heap.size + 2, .cells #[.int .u8 1, .int .i64 c, .int .u64 0, .string ⟨#[]⟩] 24 (0, 0))] := ⟨_, rfl⟩
  have gg : GoodB w O _ := ⟨xx, by rw [hO]; intro p hp; simp only [List.mem_cons, List.not_mem_nil, or_false] at hp; rcases hp with rfl | rfl | rfl; exact HB0.out; exact HB1.out; exact HB2.out⟩
  have ce00 : ∀ x : GW w O, x.val.cell? ⟨w1.heap.size, 0, none⟩ = some (.int .u8 3) := fun x => good_cells (cs := #[.int .u8 3, .int .i64 0, .int .u64 g, .string ⟨#[]⟩]) (t := 24) (by rw [hO]; simp) x 0 _ rfl
  have ce01 : ∀ x : GW w O, x.val.cell? ⟨w1.heap.size, 1, none⟩ = some (.int .i64 0) := fun x => good_cells (cs := #[.int .u8 3, .int .i64 0, .int .u64 g, .string ⟨#[]⟩]) (t := 24) (by rw [hO]; simp) x 1 _ rfl
  have ce02 : ∀ x : GW w O, x.val.cell? ⟨w1.heap.size, 2, none⟩ = some (.int .u64 g) := fun x => good_cells (cs := #[.int .u8 3, .int .i64 0, .int .u64 g, .string ⟨#[]⟩]) (t := 24) (by rw [hO]; simp) x 2 _ rfl
  have ce03 : ∀ x : GW w O, x.val.cell? ⟨w1.heap.size, 3, none⟩ = some (.string ⟨#[]⟩) := fun x => good_cells (cs := #[.int .u8 3, .int .i64 0, .int .u64 g, .string ⟨#[]⟩]) (t := 24) (by rw [hO]; simp) x 3 _ rfl
  have HC0 : Hid (∀ x : GW w O, x.val.heap[w1.heap.size]? = some (.cells #[.int .u8 3, .int .i64 0, .int .u64 g, .string ⟨#[]⟩] 24 (0, 0))) := Lib.hid (fun x => good_block (by rw [hO]; simp) x)
  have ce10 : ∀ x : GW w O, x.val.cell? ⟨w1.heap.size + 1, 0, none⟩ = some (.int .u8 2) := fun x => good_cells (cs := #[.int .u8 2, .int .i64 n, .int .u64 0, .string ⟨#[]⟩]) (t := 24) (by rw [hO]; simp) x 0 _ rfl
  have ce11 : ∀ x : GW w O, x.val.cell? ⟨w1.heap.size + 1, 1, none⟩ = some (.int .i64 n) := fun x => good_cells (cs := #[.int .u8 2, .int .i64 n, .int .u64 0, .string ⟨#[]⟩]) (t := 24) (by rw [hO]; simp) x 1 _ rfl
  have ce12 : ∀ x : GW w O, x.val.cell? ⟨w1.heap.size + 1, 2, none⟩ = some (.int .u64 0) := fun x => good_cells (cs := #[.int .u8 2, .int .i64 n, .int .u64 0, .string ⟨#[]⟩]) (t := 24) (by rw [hO]; simp) x 2 _ rfl
  have ce13 : ∀ x : GW w O, x.val.cell? ⟨w1.heap.size + 1, 3, none⟩ = some (.string ⟨#[]⟩) := fun x => good_cells (cs := #[.int .u8 2, .int .i64 n, .int .u64 0, .string ⟨#[]⟩]) (t := 24) (by rw [hO]; simp) x 3 _ rfl
  have HC1 : Hid (∀ x : GW w O, x.val.heap[w1.heap.size + 1]? = some (.cells #[.int .u8 2, .int .i64 n, .int .u64 0, .string ⟨#[]⟩] 24 (0, 0))) := Lib.hid (fun x => good_block (by rw [hO]; simp) x)
  have ce20 : ∀ x : GW w O, x.val.cell? ⟨w1.heap.size + 1 + 1, 0, none⟩ = some (.int .u8 1) := fun x => good_cells (cs := #[.int .u8 1, .int .i64 c, .int .u64 0, .string ⟨#[]⟩]) (t := 24) (by rw [hO]; simp) x 0 _ rfl
  have ce21 : ∀ x : GW w O, x.val.cell? ⟨w1.heap.size + 1 + 1, 1, none⟩ = some (.int .i64 c) := fun x => good_cells (cs := #[.int .u8 1, .int .i64 c, .int .u64 0, .string ⟨#[]⟩]) (t := 24) (by rw [hO]; simp) x 1 _ rfl
  have ce22 : ∀ x : GW w O, x.val.cell? ⟨w1.heap.size + 1 + 1, 2, none⟩ = some (.int .u64 0) := fun x => good_cells (cs := #[.int .u8 1, .int .i64 c, .int .u64 0, .string ⟨#[]⟩]) (t := 24) (by rw [hO]; simp) x 2 _ rfl
  have ce23 : ∀ x : GW w O, x.val.cell? ⟨w1.heap.size + 1 + 1, 3, none⟩ = some (.string ⟨#[]⟩) := fun x => good_cells (cs := #[.int .u8 1, .int .i64 c, .int .u64 0, .string ⟨#[]⟩]) (t := 24) (by rw [hO]; simp) x 3 _ rfl
  have HC2 : Hid (∀ x : GW w O, x.val.heap[w1.heap.size + 2]? = some (.cells #[.int .u8 1, .int .i64 c, .int .u64 0, .string ⟨#[]⟩] 24 (0, 0))) := Lib.hid (fun x => good_block (by rw [hO]; simp) x)
  clear hO
  haveI : Nonempty (GW w O) := ⟨⟨_, gg⟩⟩
  have hq1 : (FloatKind.f64.format.order f.toNat f.toNat != some Ordering.eq) = isNanF f.toNat := order_self _
  have hq2 : (FloatKind.f64.format.order f.toNat f.toNat == some Ordering.eq) = !isNanF f.toNat := by rw [← order_self]; simp [bne]; rfl
  have hq3 : (FloatKind.f64.format.order g.toNat g.toNat == some Ordering.eq) = !isNanF g.toNat := by rw [← order_self]; simp [bne]; rfl
  have hbe : beqV ⟨3, 0, g, ⟨#[]⟩⟩ ⟨3, 0, g, ⟨#[]⟩⟩ = true := beqV_eq rfl
  cases hN : isNanF f.toNat
  · have hgf := HGF.out hN
    subst hgf
    rw [hN] at hq1 hq2 hq3
    refine wp_region_class (by kernel_rfl) (by kernel_rfl) gg ?_
    repeat (go_big_quiet_step (first
      | (go_at_call 19; with_reducible exact float_class _ hgn HGG.out)))
    refine wpQuiet_nil ?_
    intro _ hw'
    obtain ⟨x, rfl⟩ := hw'
    have xx := x.ok.1
    have hb0 := HC0.out x
    have hb1 := HC1.out x
    have hb2 := HC2.out x
    generalize x.val = w3 at *
    clear ce00 ce01 ce02 ce03 ce10 ce11 ce12 ce13 ce20 ce21 ce22 ce23
    obtain ⟨a0, a1, a2, a3⟩ := box_v hb0
    obtain ⟨b0, b1, b2, b3⟩ := box_v hb1
    obtain ⟨c0, c1, c2, c3⟩ := box_v hb2
    have HB0 := Lib.hid hb0
    have HB1 := Lib.hid hb1
    have HB2 := Lib.hid hb2
    clear hb0 hb1 hb2
    by_cases hlo : -9007199254740992 < n
    · by_cases hhi : n < 9007199254740992
      · have hcv := conv_back (n := n) (by omega)
        go_wp2_with (go_at_call 13; refine Hid.out ?_)
        refine Lib.hid ?_
        refine (numV_any 1 c 0 ⟨#[]⟩ _ hokb (tabs_at hT xx rfl)).mono ?_
        rintro e w2 ⟨rfl, y⟩
        rw [HNB.out]
        have xx := below_at xx y rfl rfl rfl rfl
        have eo : (none : Option Nat).isSome = false := rfl
        clear y
        go_wp2_with (go_at_call 10; refine Hid.out ?_)
        refine Lib.hid ?_
        refine (known3_any _ (tabs_at hT xx rfl)).mono ?_
        rintro e w2 ⟨rfl, y⟩
        go_wp2_with (fail)
        go_ret
        exact ⟨rfl, below_at xx y rfl rfl rfl rfl⟩
      · skip
        go_wp2_with (go_at_call 13; refine Hid.out ?_)
        refine Lib.hid ?_
        refine (numV_any 1 c 0 ⟨#[]⟩ _ hokb (tabs_at hT xx rfl)).mono ?_
        rintro e w2 ⟨rfl, y⟩
        rw [HNB.out]
        have xx := below_at xx y rfl rfl rfl rfl
        have eo : (none : Option Nat).isSome = false := rfl
        clear y
        go_wp2_with (go_at_call 10; refine Hid.out ?_)
        refine Lib.hid ?_
        refine (known3_any _ (tabs_at hT xx rfl)).mono ?_
        rintro e w2 ⟨rfl, y⟩
        go_wp2_with (fail)
        go_ret
        exact ⟨rfl, below_at xx y rfl rfl rfl rfl⟩
    · skip
      go_wp2_with (go_at_call 13; refine Hid.out ?_)
      refine Lib.hid ?_
      refine (numV_any 1 c 0 ⟨#[]⟩ _ hokb (tabs_at hT xx rfl)).mono ?_
      rintro e w2 ⟨rfl, y⟩
      rw [HNB.out]
      have xx := below_at xx y rfl rfl rfl rfl
      have eo : (none : Option Nat).isSome = false := rfl
      clear y
      go_wp2_with (go_at_call 10; refine Hid.out ?_)
      refine Lib.hid ?_
      refine (known3_any _ (tabs_at hT xx rfl)).mono ?_
      rintro e w2 ⟨rfl, y⟩
      go_wp2_with (fail)
      go_ret
      exact ⟨rfl, below_at xx y rfl rfl rfl rfl⟩
  · have hgn2 := HNN.out.trans hN
    rw [hN] at hq1 hq2
    rw [hgn2] at hq3
    refine wp_region_class (by kernel_rfl) (by kernel_rfl) gg ?_
    repeat (go_big_quiet_step (first
      | (go_at_call 19; with_reducible exact float_class _ hgn HGG.out)))
    refine wpQuiet_nil ?_
    intro _ hw'
    obtain ⟨x, rfl⟩ := hw'
    have xx := x.ok.1
    have hb0 := HC0.out x
    have hb1 := HC1.out x
    have hb2 := HC2.out x
    generalize x.val = w3 at *
    clear ce00 ce01 ce02 ce03 ce10 ce11 ce12 ce13 ce20 ce21 ce22 ce23
    obtain ⟨a0, a1, a2, a3⟩ := box_v hb0
    obtain ⟨b0, b1, b2, b3⟩ := box_v hb1
    obtain ⟨c0, c1, c2, c3⟩ := box_v hb2
    have HB0 := Lib.hid hb0
    have HB1 := Lib.hid hb1
    have HB2 := Lib.hid hb2
    clear hb0 hb1 hb2
    by_cases hlo : -9007199254740992 < n
    · by_cases hhi : n < 9007199254740992
      · have hcv := conv_back (n := n) (by omega)
        go_wp2_with (go_at_call 13; refine Hid.out ?_)
        refine Lib.hid ?_
        refine (numV_any 1 c 0 ⟨#[]⟩ _ hokb (tabs_at hT xx rfl)).mono ?_
        rintro e w2 ⟨rfl, y⟩
        rw [HNB.out]
        have xx := below_at xx y rfl rfl rfl rfl
        have eo : (none : Option Nat).isSome = false := rfl
        clear y
        go_wp2_with (go_at_call 10; refine Hid.out ?_)
        refine Lib.hid ?_
        refine (known3_any _ (tabs_at hT xx rfl)).mono ?_
        rintro e w2 ⟨rfl, y⟩
        go_wp2_with (fail)
        go_ret
        exact ⟨rfl, below_at xx y rfl rfl rfl rfl⟩
      · skip
        go_wp2_with (go_at_call 13; refine Hid.out ?_)
        refine Lib.hid ?_
        refine (numV_any 1 c 0 ⟨#[]⟩ _ hokb (tabs_at hT xx rfl)).mono ?_
        rintro e w2 ⟨rfl, y⟩
        rw [HNB.out]
        have xx := below_at xx y rfl rfl rfl rfl
        have eo : (none : Option Nat).isSome = false := rfl
        clear y
        go_wp2_with (go_at_call 10; refine Hid.out ?_)
        refine Lib.hid ?_
        refine (known3_any _ (tabs_at hT xx rfl)).mono ?_
        rintro e w2 ⟨rfl, y⟩
        go_wp2_with (fail)
        go_ret
        exact ⟨rfl, below_at xx y rfl rfl rfl rfl⟩
    · skip
      go_wp2_with (go_at_call 13; refine Hid.out ?_)
      refine Lib.hid ?_
      refine (numV_any 1 c 0 ⟨#[]⟩ _ hokb (tabs_at hT xx rfl)).mono ?_
      rintro e w2 ⟨rfl, y⟩
      rw [HNB.out]
      have xx := below_at xx y rfl rfl rfl rfl
      have eo : (none : Option Nat).isSome = false := rfl
      clear y
      go_wp2_with (go_at_call 10; refine Hid.out ?_)
      refine Lib.hid ?_
      refine (known3_any _ (tabs_at hT xx rfl)).mono ?_
      rintro e w2 ⟨rfl, y⟩
      go_wp2_with (fail)
      go_ret
      exact ⟨rfl, below_at xx y rfl rfl rfl rfl⟩
end Go.Proofs.YtclfplpggmefjaaDoor
