/- The walk of rubriclaw03.ValueMay. -/
import Derived.Test.YtclfplpggmefjaaDoorVaMade
namespace Go.Proofs.YtclfplpggmefjaaDoor
open Go.RowKit
set_option linter.unusedVariables false
set_option linter.unusedSimpArgs false
theorem mayV_4 (s : ByteArray) : mayV ⟨4, 0, 0, s⟩ = decide (s.size ≤ 64 ∧ textOk s = true) := by
  unfold mayV
  rw [if_neg (by simp), if_neg (by simp), if_neg (by simp), if_pos (by simp)]
  rw [show beqV ⟨4, 0, 0, s⟩ (textV s) = true from beqV_eq rfl, Bool.and_true]
theorem may_class {k n f : Int} {s : ByteArray} {b : Bool} {w : World} {O : List (Nat × Obj)} (hT : Lib.Utf8Tabs 1 2 w) (h0 : 0 ≤ f) (h1 : f < 18446744073709551616) (h : mayV ⟨k, n, f, s⟩ = b) (x : GW w O) :
    Calls Tryd.prog 16 #[.agg #[.int .u8 k, .int .i64 n, .int .u64 f, .string s]] x.val fun e w' => e = .returned (.bool b) ∧ ∃ y : GW w O, w' = y.val :=
  good_call x ((mayV_any k n f s x.val h0 h1 (tabs_good hT x)).mono fun e w' h' => ⟨by rw [h'.1, h], h'.2⟩)
theorem refMay_class {k n f : Int} {s : ByteArray} {b : Bool} {w : World} {O : List (Nat × Obj)} (hT : Lib.Utf8Tabs 1 2 w) (h0 : 0 ≤ f) (h1 : f < 18446744073709551616) (hs : s.size ≤ 100000000) (h : mayV ⟨k, n, f, s⟩ = b) (x : GW w O) :
    Calls Tryd.prog 12 #[.agg #[.int .u8 k, .int .i64 n, .int .u64 f, .string s]] x.val fun e w' => e = .returned (.bool b) ∧ ∃ y : GW w O, w' = y.val :=
  good_call x ((refMayV_any k n f s x.val h0 h1 hs (tabs_good hT x)).mono fun e w' h' => ⟨by rw [h'.1, h], h'.2⟩)
theorem flag_class {b : Bool} {c : Int} {w : World} {O : List (Nat × Obj)} (h : (if b = true then 1 else 0) = c) (x : GW w O) :
    Calls Tryd.prog 17 #[.bool b] x.val fun e w' => e = .returned (.agg #[.int .u8 1, .int .i64 c, .int .u64 0, .string ⟨#[]⟩]) ∧ ∃ y : GW w O, w' = y.val :=
  good_call x ((flag_any b x.val).mono fun e w' h' => ⟨by rw [h'.1, h], h'.2⟩)
theorem int_class {n : Int} {w : World} {O : List (Nat × Obj)}  (x : GW w O) :
    Calls Tryd.prog 18 #[.int .i64 n] x.val fun e w' => e = .returned (.agg #[.int .u8 2, .int .i64 n, .int .u64 0, .string ⟨#[]⟩]) ∧ ∃ y : GW w O, w' = y.val :=
  good_call x (int_any n x.val)
theorem refFloat_class {f g : Int} {w : World} {O : List (Nat × Obj)} (h0 : 0 ≤ f) (h1 : f < 18446744073709551616) (h : (floatV f).f = g) (x : GW w O) :
    Calls Tryd.prog 21 #[.int .u64 f] x.val fun e w' => e = .returned (.agg #[.int .u8 3, .int .i64 0, .int .u64 g, .string ⟨#[]⟩]) ∧ ∃ y : GW w O, w' = y.val :=
  good_call x ((refFloat_any f x.val h0 h1).mono fun e w' h' => ⟨by rw [h'.1, h], h'.2⟩)
theorem known3_class {w : World} {O : List (Nat × Obj)} (hT : Lib.Utf8Tabs 1 2 w) (x : GW w O) :
    Calls Tryd.prog 10 #[] x.val fun e w' => e = .returned (.bool true) ∧ ∃ y : GW w O, w' = y.val :=
  good_call x (known3_any x.val (tabs_good hT x))
set_option maxRecDepth 8192 in
set_option maxHeartbeats 3200000 in
theorem valueMay_000 (k n f f1 n1 : Int) (s s1 : ByteArray) (w : World) (hv : okV ⟨k, n, f, s⟩) (h0 : 0 ≤ f1) (h1 : f1 < 18446744073709551616) (n0 : -9223372036854775808 ≤ n1) (n2 : n1 ≤ 9223372036854775807)
    (hz : ¬ (1000 : Int) < (s.size : Int)) (hz1 : ¬ (1000 : Int) < (s1.size : Int)) (hT : Lib.Utf8Tabs 1 2 w)
    (hC : ¬ (s1.size ≤ 64 ∧ textOk s1 = true)) (hM : numV ⟨k, n, f, s⟩ = none) :
    Calls Tryd.prog 3 #[.agg #[.int .u8 k, .int .i64 n, .int .u64 f, .string s], .int .u64 f1, .int .i64 n1, .string s1, .bool false] w (YesB w) := by
  have hf0 : 0 ≤ f := hv.f0
  have hf1 : f < 18446744073709551616 := hv.f1
  have hmt := mayV_4 s1
  rw [decide_eq_false hC] at hmt
  have HMT := Lib.hid hmt
  have HC := Lib.hid hC
  have HM := Lib.hid hM
  clear hmt hC hM
  go_enter Tryd.func3, Tryd.ntmps3
  go_wp2_with (go_at_call 11; refine Hid.out ?_)
  refine Lib.hid ?_
  have ya := ext_alloc w (.cells #[.int .u8 k, .int .i64 n, .int .u64 f, .string s] 24)
  have HBa := heap_alloc_new w (.cells #[.int .u8 k, .int .i64 n, .int .u64 f, .string s] 24)
  have hza : (w.alloc (.cells #[.int .u8 k, .int .i64 n, .int .u64 f, .string s] 24)).heap.size = w.heap.size + 1 := by rw [World.size_alloc]
  generalize w.alloc (.cells #[.int .u8 k, .int .i64 n, .int .u64 f, .string s] 24) = ua at *
  have xa := ya
  have yb := ext_alloc ua (.cells #[.int .u8 1, .int .i64 0, .int .u64 0, .string ⟨#[]⟩] 24)
  have HBb := heap_alloc_new ua (.cells #[.int .u8 1, .int .i64 0, .int .u64 0, .string ⟨#[]⟩] 24)
  have hzb : (ua.alloc (.cells #[.int .u8 1, .int .i64 0, .int .u64 0, .string ⟨#[]⟩] 24)).heap.size = w.heap.size + 2 := by rw [World.size_alloc, hza]
  rw [hza] at HBb
  generalize ua.alloc (.cells #[.int .u8 1, .int .i64 0, .int .u64 0, .string ⟨#[]⟩] 24) = ub at *
  have HBa := (yb.block (w.heap.size) (by rw [hza]; omega)).trans HBa
  have xb := ext_trans xa yb
  have yc := ext_alloc ub (.cells #[.int .u8 4, .int .i64 0, .int .u64 0, .string s1] 24)
  have HBc := heap_alloc_new ub (.cells #[.int .u8 4, .int .i64 0, .int .u64 0, .string s1] 24)
  have hzc : (ub.alloc (.cells #[.int .u8 4, .int .i64 0, .int .u64 0, .string s1] 24)).heap.size = w.heap.size + 3 := by rw [World.size_alloc, hzb]
  rw [hzb] at HBc
  generalize ub.alloc (.cells #[.int .u8 4, .int .i64 0, .int .u64 0, .string s1] 24) = uc at *
  have HBa := (yc.block (w.heap.size) (by rw [hzb]; omega)).trans HBa
  have HBb := (yc.block (w.heap.size + 1) (by rw [hzb]; omega)).trans HBb
  have xc := ext_trans xb yc
  have hba := HBa
  have hbb := HBb
  have hbc := HBc
  have xx := xc
  clear ya yb yc xa xb xc hza hzb hzc HBa HBb HBc
  obtain ⟨a0, a1, a2, a3⟩ := box_v hba
  obtain ⟨b0, b1, b2, b3⟩ := box_v hbb
  obtain ⟨c0, c1, c2, c3⟩ := box_v hbc
  have HBa := Lib.hid hba
  have HBb := Lib.hid hbb
  have HBc := Lib.hid hbc
  clear hba hbb hbc
  refine (text_any s1 _ (tabs_at hT xx rfl)).mono ?_
  rintro e w2 ⟨rfl, y⟩
  rw [if_neg HC.out, if_neg HC.out]
  have xx := below_at xx y rfl rfl rfl rfl
  obtain ⟨hba, hbb, hbc⟩ := kept3 HBa.out HBb.out HBc.out y rfl
  clear y
  have y := ext_alloc w2 (.cells #[.int .u8 0, .int .i64 0, .int .u64 0, .string ⟨#[]⟩] 24)
  have hbd := heap_alloc_new w2 (.cells #[.int .u8 0, .int .i64 0, .int .u64 0, .string ⟨#[]⟩] 24)
  obtain ⟨hba, hbb, hbc⟩ := kept3 hba hbb hbc y rfl
  have hzd : w2.heap.size = w2.heap.size := rfl
  obtain ⟨a0, a1, a2, a3⟩ := box_v hba
  obtain ⟨b0, b1, b2, b3⟩ := box_v hbb
  obtain ⟨c0, c1, c2, c3⟩ := box_v hbc
  obtain ⟨d0, d1, d2, d3⟩ := box_v hbd
  have xx := ext_trans xx y
  have HBa := Lib.hid hba
  have HBb := Lib.hid hbb
  have HBc := Lib.hid hbc
  have HBd := Lib.hid hbd
  clear hba hbb hbc hbd y
  go_wp2_with (go_at_call 12; refine Hid.out ?_)
  refine Lib.hid ?_
  clear HC
  refine (refMayV_any 4 0 0 s1 _ (by decide) (by decide) (by omega) (tabs_at hT xx rfl)).mono ?_
  rintro e w3 ⟨rfl, y⟩
  rw [HMT.out]
  have xx := below_at xx y rfl rfl rfl rfl
  obtain ⟨hba, hbb⟩ := kept2 HBa.out HBb.out y rfl
  obtain ⟨hbc, hbd⟩ := kept2 HBc.out HBd.out y rfl
  clear y
  obtain ⟨a0, a1, a2, a3⟩ := box_v hba
  obtain ⟨b0, b1, b2, b3⟩ := box_v hbb
  obtain ⟨c0, c1, c2, c3⟩ := box_v hbc
  obtain ⟨d0, d1, d2, d3⟩ := box_v hbd
  have HBa := Lib.hid hba
  have HBb := Lib.hid hbb
  have HBc := Lib.hid hbc
  have HBd := Lib.hid hbd
  clear hba hbb hbc hbd
  have hbq : beqV ⟨0, 0, 0, ⟨#[]⟩⟩ ⟨0, 0, 0, ⟨#[]⟩⟩ = true := beqV_eq rfl
  go_wp2_with (go_at_call 13; refine Hid.out ?_)
  refine Lib.hid ?_
  refine (numV_any k n f s _ hv (tabs_at hT xx rfl)).mono ?_
  rintro e w4 ⟨rfl, y⟩
  rw [HM.out]
  have xx := below_at xx y rfl rfl rfl rfl
  obtain ⟨hba, hbb⟩ := kept2 HBa.out HBb.out y rfl
  clear y c0 c1 c2 c3 d0 d1 d2 d3
  obtain ⟨a0, a1, a2, a3⟩ := box_v hba
  obtain ⟨b0, b1, b2, b3⟩ := box_v hbb
  have HBa := Lib.hid hba
  have HBb := Lib.hid hbb
  clear hba hbb
  have em : (none : Option Nat).isSome = false := rfl
  have en : (none : Option Nat).getD 0 = 0 := rfl
  go_wp2_with (go_at_call 14; refine Hid.out ?_)
  refine Lib.hid ?_
  refine (refNumV_any k n f s _ hv (by omega) (tabs_at hT xx rfl)).mono ?_
  rintro e w5 ⟨rfl, y⟩
  rw [HM.out]
  have xx := below_at xx y rfl rfl rfl rfl
  obtain ⟨hba, hbb⟩ := kept2 HBa.out HBb.out y rfl
  clear y
  obtain ⟨a0, a1, a2, a3⟩ := box_v hba
  obtain ⟨b0, b1, b2, b3⟩ := box_v hbb
  have HBa := Lib.hid hba
  have HBb := Lib.hid hbb
  clear hba hbb
  have ho0 : (FloatKind.f64.format.order 0 0 == some Ordering.eq) = true := by decide
  have ho1 : (FloatKind.f64.format.order 0 0 != some Ordering.eq) = false := by decide
  go_wp2_with (fail)
  obtain ⟨R, hR⟩ : ∃ X, mayV ⟨k, n, f, s⟩ = X := ⟨_, rfl⟩
  obtain ⟨g, hg⟩ : ∃ X, (floatV f1).f = X := ⟨_, rfl⟩
  have hg1 : (floatV (f1.toNat : Int)).f = g := by rw [Int.toNat_of_nonneg h0]; exact hg
  have HR := Lib.hid hR
  have HG := Lib.hid hg
  have HG1 := Lib.hid hg1
  have hfn : f1.toNat < 18446744073709551616 := by omega
  have hs8 : s.size ≤ 100000000 := by omega
  have hfl : (if false = true then (1 : Int) else 0) = 0 := by simp
  have HFL := Lib.hid hfl
  clear hR hg hg1 hfl
  obtain ⟨O, hO⟩ : ∃ O : List (Nat × Obj), O = [(w.heap.size, .cells #[.int .u8 k, .int .i64 n, .int .u64 f, .string s] 24 (0, 0)), (w.heap.size + 1, .cells #[.int .u8 1, .int .i64 0, .int .u64 0, .string ⟨#[]⟩] 24 (0, 0))] := ⟨_, rfl⟩
  have gg : GoodB w O _ := ⟨xx, by rw [hO]; intro p hp; simp only [List.mem_cons, List.not_mem_nil, or_false] at hp; rcases hp with rfl | rfl; exact HBa.out; exact HBb.out⟩
  have ce00 : ∀ x : GW w O, x.val.cell? ⟨w.heap.size, 0, none⟩ = some (.int .u8 k) := fun x => good_cells (cs := #[.int .u8 k, .int .i64 n, .int .u64 f, .string s]) (t := 24) (by rw [hO]; simp) x 0 _ rfl
  have ce01 : ∀ x : GW w O, x.val.cell? ⟨w.heap.size, 1, none⟩ = some (.int .i64 n) := fun x => good_cells (cs := #[.int .u8 k, .int .i64 n, .int .u64 f, .string s]) (t := 24) (by rw [hO]; simp) x 1 _ rfl
  have ce02 : ∀ x : GW w O, x.val.cell? ⟨w.heap.size, 2, none⟩ = some (.int .u64 f) := fun x => good_cells (cs := #[.int .u8 k, .int .i64 n, .int .u64 f, .string s]) (t := 24) (by rw [hO]; simp) x 2 _ rfl
  have ce03 : ∀ x : GW w O, x.val.cell? ⟨w.heap.size, 3, none⟩ = some (.string s) := fun x => good_cells (cs := #[.int .u8 k, .int .i64 n, .int .u64 f, .string s]) (t := 24) (by rw [hO]; simp) x 3 _ rfl
  have ce10 : ∀ x : GW w O, x.val.cell? ⟨w.heap.size + 1, 0, none⟩ = some (.int .u8 1) := fun x => good_cells (cs := #[.int .u8 1, .int .i64 0, .int .u64 0, .string ⟨#[]⟩]) (t := 24) (by rw [hO]; simp) x 0 _ rfl
  have ce11 : ∀ x : GW w O, x.val.cell? ⟨w.heap.size + 1, 1, none⟩ = some (.int .i64 0) := fun x => good_cells (cs := #[.int .u8 1, .int .i64 0, .int .u64 0, .string ⟨#[]⟩]) (t := 24) (by rw [hO]; simp) x 1 _ rfl
  have ce12 : ∀ x : GW w O, x.val.cell? ⟨w.heap.size + 1, 2, none⟩ = some (.int .u64 0) := fun x => good_cells (cs := #[.int .u8 1, .int .i64 0, .int .u64 0, .string ⟨#[]⟩]) (t := 24) (by rw [hO]; simp) x 2 _ rfl
  have ce13 : ∀ x : GW w O, x.val.cell? ⟨w.heap.size + 1, 3, none⟩ = some (.string ⟨#[]⟩) := fun x => good_cells (cs := #[.int .u8 1, .int .i64 0, .int .u64 0, .string ⟨#[]⟩]) (t := 24) (by rw [hO]; simp) x 3 _ rfl
  clear hO
  haveI : Nonempty (GW w O) := ⟨⟨_, gg⟩⟩
  have hb1 : beqV ⟨1, 0, 0, ⟨#[]⟩⟩ ⟨1, 0, 0, ⟨#[]⟩⟩ = true := beqV_eq rfl
  have hb2 : beqV ⟨2, n1, 0, ⟨#[]⟩⟩ ⟨2, n1, 0, ⟨#[]⟩⟩ = true := beqV_eq rfl
  have hb3 : beqV ⟨3, 0, g, ⟨#[]⟩⟩ ⟨3, 0, g, ⟨#[]⟩⟩ = true := beqV_eq rfl
  clear a0 a1 a2 a3 b0 b1 b2 b3
  refine wp_region_class (by kernel_rfl) (by kernel_rfl) gg ?_
  repeat (go_big_quiet_step (first
    | (go_at_call 16; with_reducible exact may_class hT hf0 hf1 HR.out _)
    | (go_at_call 12; with_reducible exact refMay_class hT hf0 hf1 hs8 HR.out _)
    | (go_at_call 17; with_reducible exact flag_class HFL.out _)
    | (go_at_call 18; with_reducible exact int_class _)
    | (go_at_call 19; with_reducible exact float_class _ hfn HG1.out)
    | (go_at_call 21; with_reducible exact refFloat_class h0 h1 HG.out _)
    | (go_at_call 10; with_reducible exact known3_class hT _)))
  refine wpQuiet_nil ?_
  intro _ hw'
  obtain ⟨x, rfl⟩ := hw'
  go_wp2_with (fail)
  go_ret
  exact ⟨rfl, x.ok.1⟩
set_option maxRecDepth 8192 in
set_option maxHeartbeats 3200000 in
theorem valueMay_001 (k n f f1 n1 : Int) (s s1 : ByteArray) (w : World) (hv : okV ⟨k, n, f, s⟩) (h0 : 0 ≤ f1) (h1 : f1 < 18446744073709551616) (n0 : -9223372036854775808 ≤ n1) (n2 : n1 ≤ 9223372036854775807)
    (hz : ¬ (1000 : Int) < (s.size : Int)) (hz1 : ¬ (1000 : Int) < (s1.size : Int)) (hT : Lib.Utf8Tabs 1 2 w)
    (hC : ¬ (s1.size ≤ 64 ∧ textOk s1 = true)) (m : Nat) (hM : numV ⟨k, n, f, s⟩ = some m) :
    Calls Tryd.prog 3 #[.agg #[.int .u8 k, .int .i64 n, .int .u64 f, .string s], .int .u64 f1, .int .i64 n1, .string s1, .bool false] w (YesB w) := by
  have hf0 : 0 ≤ f := hv.f0
  have hf1 : f < 18446744073709551616 := hv.f1
  have hmt := mayV_4 s1
  rw [decide_eq_false hC] at hmt
  have HMT := Lib.hid hmt
  have HC := Lib.hid hC
  have HM := Lib.hid hM
  clear hmt hC hM
  go_enter Tryd.func3, Tryd.ntmps3
  go_wp2_with (go_at_call 11; refine Hid.out ?_)
  refine Lib.hid ?_
  have ya := ext_alloc w (.cells #[.int .u8 k, .int .i64 n, .int .u64 f, .string s] 24)
  have HBa := heap_alloc_new w (.cells #[.int .u8 k, .int .i64 n, .int .u64 f, .string s] 24)
  have hza : (w.alloc (.cells #[.int .u8 k, .int .i64 n, .int .u64 f, .string s] 24)).heap.size = w.heap.size + 1 := by rw [World.size_alloc]
  generalize w.alloc (.cells #[.int .u8 k, .int .i64 n, .int .u64 f, .string s] 24) = ua at *
  have xa := ya
  have yb := ext_alloc ua (.cells #[.int .u8 1, .int .i64 0, .int .u64 0, .string ⟨#[]⟩] 24)
  have HBb := heap_alloc_new ua (.cells #[.int .u8 1, .int .i64 0, .int .u64 0, .string ⟨#[]⟩] 24)
  have hzb : (ua.alloc (.cells #[.int .u8 1, .int .i64 0, .int .u64 0, .string ⟨#[]⟩] 24)).heap.size = w.heap.size + 2 := by rw [World.size_alloc, hza]
  rw [hza] at HBb
  generalize ua.alloc (.cells #[.int .u8 1, .int .i64 0, .int .u64 0, .string ⟨#[]⟩] 24) = ub at *
  have HBa := (yb.block (w.heap.size) (by rw [hza]; omega)).trans HBa
  have xb := ext_trans xa yb
  have yc := ext_alloc ub (.cells #[.int .u8 4, .int .i64 0, .int .u64 0, .string s1] 24)
  have HBc := heap_alloc_new ub (.cells #[.int .u8 4, .int .i64 0, .int .u64 0, .string s1] 24)
  have hzc : (ub.alloc (.cells #[.int .u8 4, .int .i64 0, .int .u64 0, .string s1] 24)).heap.size = w.heap.size + 3 := by rw [World.size_alloc, hzb]
  rw [hzb] at HBc
  generalize ub.alloc (.cells #[.int .u8 4, .int .i64 0, .int .u64 0, .string s1] 24) = uc at *
  have HBa := (yc.block (w.heap.size) (by rw [hzb]; omega)).trans HBa
  have HBb := (yc.block (w.heap.size + 1) (by rw [hzb]; omega)).trans HBb
  have xc := ext_trans xb yc
  have hba := HBa
  have hbb := HBb
  have hbc := HBc
  have xx := xc
  clear ya yb yc xa xb xc hza hzb hzc HBa HBb HBc
  obtain ⟨a0, a1, a2, a3⟩ := box_v hba
  obtain ⟨b0, b1, b2, b3⟩ := box_v hbb
  obtain ⟨c0, c1, c2, c3⟩ := box_v hbc
  have HBa := Lib.hid hba
  have HBb := Lib.hid hbb
  have HBc := Lib.hid hbc
  clear hba hbb hbc
  refine (text_any s1 _ (tabs_at hT xx rfl)).mono ?_
  rintro e w2 ⟨rfl, y⟩
  rw [if_neg HC.out, if_neg HC.out]
  have xx := below_at xx y rfl rfl rfl rfl
  obtain ⟨hba, hbb, hbc⟩ := kept3 HBa.out HBb.out HBc.out y rfl
  clear y
  have y := ext_alloc w2 (.cells #[.int .u8 0, .int .i64 0, .int .u64 0, .string ⟨#[]⟩] 24)
  have hbd := heap_alloc_new w2 (.cells #[.int .u8 0, .int .i64 0, .int .u64 0, .string ⟨#[]⟩] 24)
  obtain ⟨hba, hbb, hbc⟩ := kept3 hba hbb hbc y rfl
  have hzd : w2.heap.size = w2.heap.size := rfl
  obtain ⟨a0, a1, a2, a3⟩ := box_v hba
  obtain ⟨b0, b1, b2, b3⟩ := box_v hbb
  obtain ⟨c0, c1, c2, c3⟩ := box_v hbc
  obtain ⟨d0, d1, d2, d3⟩ := box_v hbd
  have xx := ext_trans xx y
  have HBa := Lib.hid hba
  have HBb := Lib.hid hbb
  have HBc := Lib.hid hbc
  have HBd := Lib.hid hbd
  clear hba hbb hbc hbd y
  go_wp2_with (go_at_call 12; refine Hid.out ?_)
  refine Lib.hid ?_
  clear HC
  refine (refMayV_any 4 0 0 s1 _ (by decide) (by decide) (by omega) (tabs_at hT xx rfl)).mono ?_
  rintro e w3 ⟨rfl, y⟩
  rw [HMT.out]
  have xx := below_at xx y rfl rfl rfl rfl
  obtain ⟨hba, hbb⟩ := kept2 HBa.out HBb.out y rfl
  obtain ⟨hbc, hbd⟩ := kept2 HBc.out HBd.out y rfl
  clear y
  obtain ⟨a0, a1, a2, a3⟩ := box_v hba
  obtain ⟨b0, b1, b2, b3⟩ := box_v hbb
  obtain ⟨c0, c1, c2, c3⟩ := box_v hbc
  obtain ⟨d0, d1, d2, d3⟩ := box_v hbd
  have HBa := Lib.hid hba
  have HBb := Lib.hid hbb
  have HBc := Lib.hid hbc
  have HBd := Lib.hid hbd
  clear hba hbb hbc hbd
  have hbq : beqV ⟨0, 0, 0, ⟨#[]⟩⟩ ⟨0, 0, 0, ⟨#[]⟩⟩ = true := beqV_eq rfl
  go_wp2_with (go_at_call 13; refine Hid.out ?_)
  refine Lib.hid ?_
  refine (numV_any k n f s _ hv (tabs_at hT xx rfl)).mono ?_
  rintro e w4 ⟨rfl, y⟩
  rw [HM.out]
  have xx := below_at xx y rfl rfl rfl rfl
  obtain ⟨hba, hbb⟩ := kept2 HBa.out HBb.out y rfl
  clear y c0 c1 c2 c3 d0 d1 d2 d3
  obtain ⟨a0, a1, a2, a3⟩ := box_v hba
  obtain ⟨b0, b1, b2, b3⟩ := box_v hbb
  have HBa := Lib.hid hba
  have HBb := Lib.hid hbb
  clear hba hbb
  have em : (some m : Option Nat).isSome = true := rfl
  have en : (some m : Option Nat).getD 0 = m := rfl
  go_wp2_with (go_at_call 14; refine Hid.out ?_)
  refine Lib.hid ?_
  refine (refNumV_any k n f s _ hv (by omega) (tabs_at hT xx rfl)).mono ?_
  rintro e w5 ⟨rfl, y⟩
  rw [HM.out]
  have xx := below_at xx y rfl rfl rfl rfl
  obtain ⟨hba, hbb⟩ := kept2 HBa.out HBb.out y rfl
  clear y
  obtain ⟨a0, a1, a2, a3⟩ := box_v hba
  obtain ⟨b0, b1, b2, b3⟩ := box_v hbb
  have HBa := Lib.hid hba
  have HBb := Lib.hid hbb
  clear hba hbb
  have ho0 : (FloatKind.f64.format.order 0 0 == some Ordering.eq) = true := by decide
  have ho1 : (FloatKind.f64.format.order 0 0 != some Ordering.eq) = false := by decide
  go_wp2_with (fail)
  obtain ⟨R, hR⟩ : ∃ X, mayV ⟨k, n, f, s⟩ = X := ⟨_, rfl⟩
  obtain ⟨g, hg⟩ : ∃ X, (floatV f1).f = X := ⟨_, rfl⟩
  have hg1 : (floatV (f1.toNat : Int)).f = g := by rw [Int.toNat_of_nonneg h0]; exact hg
  have HR := Lib.hid hR
  have HG := Lib.hid hg
  have HG1 := Lib.hid hg1
  have hfn : f1.toNat < 18446744073709551616 := by omega
  have hs8 : s.size ≤ 100000000 := by omega
  have hfl : (if false = true then (1 : Int) else 0) = 0 := by simp
  have HFL := Lib.hid hfl
  clear hR hg hg1 hfl
  obtain ⟨O, hO⟩ : ∃ O : List (Nat × Obj), O = [(w.heap.size, .cells #[.int .u8 k, .int .i64 n, .int .u64 f, .string s] 24 (0, 0)), (w.heap.size + 1, .cells #[.int .u8 1, .int .i64 0, .int .u64 0, .string ⟨#[]⟩] 24 (0, 0))] := ⟨_, rfl⟩
  have gg : GoodB w O _ := ⟨xx, by rw [hO]; intro p hp; simp only [List.mem_cons, List.not_mem_nil, or_false] at hp; rcases hp with rfl | rfl; exact HBa.out; exact HBb.out⟩
  have ce00 : ∀ x : GW w O, x.val.cell? ⟨w.heap.size, 0, none⟩ = some (.int .u8 k) := fun x => good_cells (cs := #[.int .u8 k, .int .i64 n, .int .u64 f, .string s]) (t := 24) (by rw [hO]; simp) x 0 _ rfl
  have ce01 : ∀ x : GW w O, x.val.cell? ⟨w.heap.size, 1, none⟩ = some (.int .i64 n) := fun x => good_cells (cs := #[.int .u8 k, .int .i64 n, .int .u64 f, .string s]) (t := 24) (by rw [hO]; simp) x 1 _ rfl
  have ce02 : ∀ x : GW w O, x.val.cell? ⟨w.heap.size, 2, none⟩ = some (.int .u64 f) := fun x => good_cells (cs := #[.int .u8 k, .int .i64 n, .int .u64 f, .string s]) (t := 24) (by rw [hO]; simp) x 2 _ rfl
  have ce03 : ∀ x : GW w O, x.val.cell? ⟨w.heap.size, 3, none⟩ = some (.string s) := fun x => good_cells (cs := #[.int .u8 k, .int .i64 n, .int .u64 f, .string s]) (t := 24) (by rw [hO]; simp) x 3 _ rfl
  have ce10 : ∀ x : GW w O, x.val.cell? ⟨w.heap.size + 1, 0, none⟩ = some (.int .u8 1) := fun x => good_cells (cs := #[.int .u8 1, .int .i64 0, .int .u64 0, .string ⟨#[]⟩]) (t := 24) (by rw [hO]; simp) x 0 _ rfl
  have ce11 : ∀ x : GW w O, x.val.cell? ⟨w.heap.size + 1, 1, none⟩ = some (.int .i64 0) := fun x => good_cells (cs := #[.int .u8 1, .int .i64 0, .int .u64 0, .string ⟨#[]⟩]) (t := 24) (by rw [hO]; simp) x 1 _ rfl
  have ce12 : ∀ x : GW w O, x.val.cell? ⟨w.heap.size + 1, 2, none⟩ = some (.int .u64 0) := fun x => good_cells (cs := #[.int .u8 1, .int .i64 0, .int .u64 0, .string ⟨#[]⟩]) (t := 24) (by rw [hO]; simp) x 2 _ rfl
  have ce13 : ∀ x : GW w O, x.val.cell? ⟨w.heap.size + 1, 3, none⟩ = some (.string ⟨#[]⟩) := fun x => good_cells (cs := #[.int .u8 1, .int .i64 0, .int .u64 0, .string ⟨#[]⟩]) (t := 24) (by rw [hO]; simp) x 3 _ rfl
  clear hO
  haveI : Nonempty (GW w O) := ⟨⟨_, gg⟩⟩
  have hb1 : beqV ⟨1, 0, 0, ⟨#[]⟩⟩ ⟨1, 0, 0, ⟨#[]⟩⟩ = true := beqV_eq rfl
  have hb2 : beqV ⟨2, n1, 0, ⟨#[]⟩⟩ ⟨2, n1, 0, ⟨#[]⟩⟩ = true := beqV_eq rfl
  have hb3 : beqV ⟨3, 0, g, ⟨#[]⟩⟩ ⟨3, 0, g, ⟨#[]⟩⟩ = true := beqV_eq rfl
  clear a0 a1 a2 a3 b0 b1 b2 b3
  refine wp_region_class (by kernel_rfl) (by kernel_rfl) gg ?_
  repeat (go_big_quiet_step (first
    | (go_at_call 16; with_reducible exact may_class hT hf0 hf1 HR.out _)
    | (go_at_call 12; with_reducible exact refMay_class hT hf0 hf1 hs8 HR.out _)
    | (go_at_call 17; with_reducible exact flag_class HFL.out _)
    | (go_at_call 18; with_reducible exact int_class _)
    | (go_at_call 19; with_reducible exact float_class _ hfn HG1.out)
    | (go_at_call 21; with_reducible exact refFloat_class h0 h1 HG.out _)
    | (go_at_call 10; with_reducible exact known3_class hT _)))
  refine wpQuiet_nil ?_
  intro _ hw'
  obtain ⟨x, rfl⟩ := hw'
  go_wp2_with (fail)
  go_ret
  exact ⟨rfl, x.ok.1⟩
set_option maxRecDepth 8192 in
set_option maxHeartbeats 3200000 in
theorem valueMay_010 (k n f f1 n1 : Int) (s s1 : ByteArray) (w : World) (hv : okV ⟨k, n, f, s⟩) (h0 : 0 ≤ f1) (h1 : f1 < 18446744073709551616) (n0 : -9223372036854775808 ≤ n1) (n2 : n1 ≤ 9223372036854775807)
    (hz : ¬ (1000 : Int) < (s.size : Int)) (hz1 : ¬ (1000 : Int) < (s1.size : Int)) (hT : Lib.Utf8Tabs 1 2 w)
    (hC : (s1.size ≤ 64 ∧ textOk s1 = true)) (hM : numV ⟨k, n, f, s⟩ = none) :
    Calls Tryd.prog 3 #[.agg #[.int .u8 k, .int .i64 n, .int .u64 f, .string s], .int .u64 f1, .int .i64 n1, .string s1, .bool false] w (YesB w) := by
  have hf0 : 0 ≤ f := hv.f0
  have hf1 : f < 18446744073709551616 := hv.f1
  have hmt := mayV_4 s1
  rw [decide_eq_true hC] at hmt
  have HMT := Lib.hid hmt
  have HC := Lib.hid hC
  have HM := Lib.hid hM
  clear hmt hC hM
  go_enter Tryd.func3, Tryd.ntmps3
  go_wp2_with (go_at_call 11; refine Hid.out ?_)
  refine Lib.hid ?_
  have ya := ext_alloc w (.cells #[.int .u8 k, .int .i64 n, .int .u64 f, .string s] 24)
  have HBa := heap_alloc_new w (.cells #[.int .u8 k, .int .i64 n, .int .u64 f, .string s] 24)
  have hza : (w.alloc (.cells #[.int .u8 k, .int .i64 n, .int .u64 f, .string s] 24)).heap.size = w.heap.size + 1 := by rw [World.size_alloc]
  generalize w.alloc (.cells #[.int .u8 k, .int .i64 n, .int .u64 f, .string s] 24) = ua at *
  have xa := ya
  have yb := ext_alloc ua (.cells #[.int .u8 1, .int .i64 0, .int .u64 0, .string ⟨#[]⟩] 24)
  have HBb := heap_alloc_new ua (.cells #[.int .u8 1, .int .i64 0, .int .u64 0, .string ⟨#[]⟩] 24)
  have hzb : (ua.alloc (.cells #[.int .u8 1, .int .i64 0, .int .u64 0, .string ⟨#[]⟩] 24)).heap.size = w.heap.size + 2 := by rw [World.size_alloc, hza]
  rw [hza] at HBb
  generalize ua.alloc (.cells #[.int .u8 1, .int .i64 0, .int .u64 0, .string ⟨#[]⟩] 24) = ub at *
  have HBa := (yb.block (w.heap.size) (by rw [hza]; omega)).trans HBa
  have xb := ext_trans xa yb
  have yc := ext_alloc ub (.cells #[.int .u8 4, .int .i64 0, .int .u64 0, .string s1] 24)
  have HBc := heap_alloc_new ub (.cells #[.int .u8 4, .int .i64 0, .int .u64 0, .string s1] 24)
  have hzc : (ub.alloc (.cells #[.int .u8 4, .int .i64 0, .int .u64 0, .string s1] 24)).heap.size = w.heap.size + 3 := by rw [World.size_alloc, hzb]
  rw [hzb] at HBc
  generalize ub.alloc (.cells #[.int .u8 4, .int .i64 0, .int .u64 0, .string s1] 24) = uc at *
  have HBa := (yc.block (w.heap.size) (by rw [hzb]; omega)).trans HBa
  have HBb := (yc.block (w.heap.size + 1) (by rw [hzb]; omega)).trans HBb
  have xc := ext_trans xb yc
  have hba := HBa
  have hbb := HBb
  have hbc := HBc
  have xx := xc
  clear ya yb yc xa xb xc hza hzb hzc HBa HBb HBc
  obtain ⟨a0, a1, a2, a3⟩ := box_v hba
  obtain ⟨b0, b1, b2, b3⟩ := box_v hbb
  obtain ⟨c0, c1, c2, c3⟩ := box_v hbc
  have HBa := Lib.hid hba
  have HBb := Lib.hid hbb
  have HBc := Lib.hid hbc
  clear hba hbb hbc
  refine (text_any s1 _ (tabs_at hT xx rfl)).mono ?_
  rintro e w2 ⟨rfl, y⟩
  rw [if_pos HC.out, if_pos HC.out]
  have xx := below_at xx y rfl rfl rfl rfl
  obtain ⟨hba, hbb, hbc⟩ := kept3 HBa.out HBb.out HBc.out y rfl
  clear y
  have y := ext_alloc w2 (.cells #[.int .u8 4, .int .i64 0, .int .u64 0, .string s1] 24)
  have hbd := heap_alloc_new w2 (.cells #[.int .u8 4, .int .i64 0, .int .u64 0, .string s1] 24)
  obtain ⟨hba, hbb, hbc⟩ := kept3 hba hbb hbc y rfl
  have hzd : w2.heap.size = w2.heap.size := rfl
  obtain ⟨a0, a1, a2, a3⟩ := box_v hba
  obtain ⟨b0, b1, b2, b3⟩ := box_v hbb
  obtain ⟨c0, c1, c2, c3⟩ := box_v hbc
  obtain ⟨d0, d1, d2, d3⟩ := box_v hbd
  have xx := ext_trans xx y
  have HBa := Lib.hid hba
  have HBb := Lib.hid hbb
  have HBc := Lib.hid hbc
  have HBd := Lib.hid hbd
  clear hba hbb hbc hbd y
  go_wp2_with (go_at_call 12; refine Hid.out ?_)
  refine Lib.hid ?_
  clear HC
  refine (refMayV_any 4 0 0 s1 _ (by decide) (by decide) (by omega) (tabs_at hT xx rfl)).mono ?_
  rintro e w3 ⟨rfl, y⟩
  rw [HMT.out]
  have xx := below_at xx y rfl rfl rfl rfl
  obtain ⟨hba, hbb⟩ := kept2 HBa.out HBb.out y rfl
  obtain ⟨hbc, hbd⟩ := kept2 HBc.out HBd.out y rfl
  clear y
  obtain ⟨a0, a1, a2, a3⟩ := box_v hba
  obtain ⟨b0, b1, b2, b3⟩ := box_v hbb
  obtain ⟨c0, c1, c2, c3⟩ := box_v hbc
  obtain ⟨d0, d1, d2, d3⟩ := box_v hbd
  have HBa := Lib.hid hba
  have HBb := Lib.hid hbb
  have HBc := Lib.hid hbc
  have HBd := Lib.hid hbd
  clear hba hbb hbc hbd
  have hbq : beqV ⟨4, 0, 0, s1⟩ ⟨4, 0, 0, s1⟩ = true := beqV_eq rfl
  go_wp2_with (go_at_call 13; refine Hid.out ?_)
  refine Lib.hid ?_
  refine (numV_any k n f s _ hv (tabs_at hT xx rfl)).mono ?_
  rintro e w4 ⟨rfl, y⟩
  rw [HM.out]
  have xx := below_at xx y rfl rfl rfl rfl
  obtain ⟨hba, hbb⟩ := kept2 HBa.out HBb.out y rfl
  clear y c0 c1 c2 c3 d0 d1 d2 d3
  obtain ⟨a0, a1, a2, a3⟩ := box_v hba
  obtain ⟨b0, b1, b2, b3⟩ := box_v hbb
  have HBa := Lib.hid hba
  have HBb := Lib.hid hbb
  clear hba hbb
  have em : (none : Option Nat).isSome = false := rfl
  have en : (none : Option Nat).getD 0 = 0 := rfl
  go_wp2_with (go_at_call 14; refine Hid.out ?_)
  refine Lib.hid ?_
  refine (refNumV_any k n f s _ hv (by omega) (tabs_at hT xx rfl)).mono ?_
  rintro e w5 ⟨rfl, y⟩
  rw [HM.out]
  have xx := below_at xx y rfl rfl rfl rfl
  obtain ⟨hba, hbb⟩ := kept2 HBa.out HBb.out y rfl
  clear y
  obtain ⟨a0, a1, a2, a3⟩ := box_v hba
  obtain ⟨b0, b1, b2, b3⟩ := box_v hbb
  have HBa := Lib.hid hba
  have HBb := Lib.hid hbb
  clear hba hbb
  have ho0 : (FloatKind.f64.format.order 0 0 == some Ordering.eq) = true := by decide
  have ho1 : (FloatKind.f64.format.order 0 0 != some Ordering.eq) = false := by decide
  go_wp2_with (fail)
  obtain ⟨R, hR⟩ : ∃ X, mayV ⟨k, n, f, s⟩ = X := ⟨_, rfl⟩
  obtain ⟨g, hg⟩ : ∃ X, (floatV f1).f = X := ⟨_, rfl⟩
  have hg1 : (floatV (f1.toNat : Int)).f = g := by rw [Int.toNat_of_nonneg h0]; exact hg
  have HR := Lib.hid hR
  have HG := Lib.hid hg
  have HG1 := Lib.hid hg1
  have hfn : f1.toNat < 18446744073709551616 := by omega
  have hs8 : s.size ≤ 100000000 := by omega
  have hfl : (if false = true then (1 : Int) else 0) = 0 := by simp
  have HFL := Lib.hid hfl
  clear hR hg hg1 hfl
  obtain ⟨O, hO⟩ : ∃ O : List (Nat × Obj), O = [(w.heap.size, .cells #[.int .u8 k, .int .i64 n, .int .u64 f, .string s] 24 (0, 0)), (w.heap.size + 1, .cells #[.int .u8 1, .int .i64 0, .int .u64 0, .string ⟨#[]⟩] 24 (0, 0))] := ⟨_, rfl⟩
  have gg : GoodB w O _ := ⟨xx, by rw [hO]; intro p hp; simp only [List.mem_cons, List.not_mem_nil, or_false] at hp; rcases hp with rfl | rfl; exact HBa.out; exact HBb.out⟩
  have ce00 : ∀ x : GW w O, x.val.cell? ⟨w.heap.size, 0, none⟩ = some (.int .u8 k) := fun x => good_cells (cs := #[.int .u8 k, .int .i64 n, .int .u64 f, .string s]) (t := 24) (by rw [hO]; simp) x 0 _ rfl
  have ce01 : ∀ x : GW w O, x.val.cell? ⟨w.heap.size, 1, none⟩ = some (.int .i64 n) := fun x => good_cells (cs := #[.int .u8 k, .int .i64 n, .int .u64 f, .string s]) (t := 24) (by rw [hO]; simp) x 1 _ rfl
  have ce02 : ∀ x : GW w O, x.val.cell? ⟨w.heap.size, 2, none⟩ = some (.int .u64 f) := fun x => good_cells (cs := #[.int .u8 k, .int .i64 n, .int .u64 f, .string s]) (t := 24) (by rw [hO]; simp) x 2 _ rfl
  have ce03 : ∀ x : GW w O, x.val.cell? ⟨w.heap.size, 3, none⟩ = some (.string s) := fun x => good_cells (cs := #[.int .u8 k, .int .i64 n, .int .u64 f, .string s]) (t := 24) (by rw [hO]; simp) x 3 _ rfl
  have ce10 : ∀ x : GW w O, x.val.cell? ⟨w.heap.size + 1, 0, none⟩ = some (.int .u8 1) := fun x => good_cells (cs := #[.int .u8 1, .int .i64 0, .int .u64 0, .string ⟨#[]⟩]) (t := 24) (by rw [hO]; simp) x 0 _ rfl
  have ce11 : ∀ x : GW w O, x.val.cell? ⟨w.heap.size + 1, 1, none⟩ = some (.int .i64 0) := fun x => good_cells (cs := #[.int .u8 1, .int .i64 0, .int .u64 0, .string ⟨#[]⟩]) (t := 24) (by rw [hO]; simp) x 1 _ rfl
  have ce12 : ∀ x : GW w O, x.val.cell? ⟨w.heap.size + 1, 2, none⟩ = some (.int .u64 0) := fun x => good_cells (cs := #[.int .u8 1, .int .i64 0, .int .u64 0, .string ⟨#[]⟩]) (t := 24) (by rw [hO]; simp) x 2 _ rfl
  have ce13 : ∀ x : GW w O, x.val.cell? ⟨w.heap.size + 1, 3, none⟩ = some (.string ⟨#[]⟩) := fun x => good_cells (cs := #[.int .u8 1, .int .i64 0, .int .u64 0, .string ⟨#[]⟩]) (t := 24) (by rw [hO]; simp) x 3 _ rfl
  clear hO
  haveI : Nonempty (GW w O) := ⟨⟨_, gg⟩⟩
  have hb1 : beqV ⟨1, 0, 0, ⟨#[]⟩⟩ ⟨1, 0, 0, ⟨#[]⟩⟩ = true := beqV_eq rfl
  have hb2 : beqV ⟨2, n1, 0, ⟨#[]⟩⟩ ⟨2, n1, 0, ⟨#[]⟩⟩ = true := beqV_eq rfl
  have hb3 : beqV ⟨3, 0, g, ⟨#[]⟩⟩ ⟨3, 0, g, ⟨#[]⟩⟩ = true := beqV_eq rfl
  clear a0 a1 a2 a3 b0 b1 b2 b3
  refine wp_region_class (by kernel_rfl) (by kernel_rfl) gg ?_
  repeat (go_big_quiet_step (first
    | (go_at_call 16; with_reducible exact may_class hT hf0 hf1 HR.out _)
    | (go_at_call 12; with_reducible exact refMay_class hT hf0 hf1 hs8 HR.out _)
    | (go_at_call 17; with_reducible exact flag_class HFL.out _)
    | (go_at_call 18; with_reducible exact int_class _)
    | (go_at_call 19; with_reducible exact float_class _ hfn HG1.out)
    | (go_at_call 21; with_reducible exact refFloat_class h0 h1 HG.out _)
    | (go_at_call 10; with_reducible exact known3_class hT _)))
  refine wpQuiet_nil ?_
  intro _ hw'
  obtain ⟨x, rfl⟩ := hw'
  go_wp2_with (fail)
  go_ret
  exact ⟨rfl, x.ok.1⟩
set_option maxRecDepth 8192 in
set_option maxHeartbeats 3200000 in
theorem valueMay_011 (k n f f1 n1 : Int) (s s1 : ByteArray) (w : World) (hv : okV ⟨k, n, f, s⟩) (h0 : 0 ≤ f1) (h1 : f1 < 18446744073709551616) (n0 : -9223372036854775808 ≤ n1) (n2 : n1 ≤ 9223372036854775807)
    (hz : ¬ (1000 : Int) < (s.size : Int)) (hz1 : ¬ (1000 : Int) < (s1.size : Int)) (hT : Lib.Utf8Tabs 1 2 w)
    (hC : (s1.size ≤ 64 ∧ textOk s1 = true)) (m : Nat) (hM : numV ⟨k, n, f, s⟩ = some m) :
    Calls Tryd.prog 3 #[.agg #[.int .u8 k, .int .i64 n, .int .u64 f, .string s], .int .u64 f1, .int .i64 n1, .string s1, .bool false] w (YesB w) := by
  have hf0 : 0 ≤ f := hv.f0
  have hf1 : f < 18446744073709551616 := hv.f1
  have hmt := mayV_4 s1
  rw [decide_eq_true hC] at hmt
  have HMT := Lib.hid hmt
  have HC := Lib.hid hC
  have HM := Lib.hid hM
  clear hmt hC hM
  go_enter Tryd.func3, Tryd.ntmps3
  go_wp2_with (go_at_call 11; refine Hid.out ?_)
  refine Lib.hid ?_
  have ya := ext_alloc w (.cells #[.int .u8 k, .int .i64 n, .int .u64 f, .string s] 24)
  have HBa := heap_alloc_new w (.cells #[.int .u8 k, .int .i64 n, .int .u64 f, .string s] 24)
  have hza : (w.alloc (.cells #[.int .u8 k, .int .i64 n, .int .u64 f, .string s] 24)).heap.size = w.heap.size + 1 := by rw [World.size_alloc]
  generalize w.alloc (.cells #[.int .u8 k, .int .i64 n, .int .u64 f, .string s] 24) = ua at *
  have xa := ya
  have yb := ext_alloc ua (.cells #[.int .u8 1, .int .i64 0, .int .u64 0, .string ⟨#[]⟩] 24)
  have HBb := heap_alloc_new ua (.cells #[.int .u8 1, .int .i64 0, .int .u64 0, .string ⟨#[]⟩] 24)
  have hzb : (ua.alloc (.cells #[.int .u8 1, .int .i64 0, .int .u64 0, .string ⟨#[]⟩] 24)).heap.size = w.heap.size + 2 := by rw [World.size_alloc, hza]
  rw [hza] at HBb
  generalize ua.alloc (.cells #[.int .u8 1, .int .i64 0, .int .u64 0, .string ⟨#[]⟩] 24) = ub at *
  have HBa := (yb.block (w.heap.size) (by rw [hza]; omega)).trans HBa
  have xb := ext_trans xa yb
  have yc := ext_alloc ub (.cells #[.int .u8 4, .int .i64 0, .int .u64 0, .string s1] 24)
  have HBc := heap_alloc_new ub (.cells #[.int .u8 4, .int .i64 0, .int .u64 0, .string s1] 24)
  have hzc : (ub.alloc (.cells #[.int .u8 4, .int .i64 0, .int .u64 0, .string s1] 24)).heap.size = w.heap.size + 3 := by rw [World.size_alloc, hzb]
  rw [hzb] at HBc
  generalize ub.alloc (.cells #[.int .u8 4, .int .i64 0, .int .u64 0, .string s1] 24) = uc at *
  have HBa := (yc.block (w.heap.size) (by rw [hzb]; omega)).trans HBa
  have HBb := (yc.block (w.heap.size + 1) (by rw [hzb]; omega)).trans HBb
  have xc := ext_trans xb yc
  have hba := HBa
  have hbb := HBb
  have hbc := HBc
  have xx := xc
  clear ya yb yc xa xb xc hza hzb hzc HBa HBb HBc
  obtain ⟨a0, a1, a2, a3⟩ := box_v hba
  obtain ⟨b0, b1, b2, b3⟩ := box_v hbb
  obtain ⟨c0, c1, c2, c3⟩ := box_v hbc
  have HBa := Lib.hid hba
  have HBb := Lib.hid hbb
  have HBc := Lib.hid hbc
  clear hba hbb hbc
  refine (text_any s1 _ (tabs_at hT xx rfl)).mono ?_
  rintro e w2 ⟨rfl, y⟩
  rw [if_pos HC.out, if_pos HC.out]
  have xx := below_at xx y rfl rfl rfl rfl
  obtain ⟨hba, hbb, hbc⟩ := kept3 HBa.out HBb.out HBc.out y rfl
  clear y
  have y := ext_alloc w2 (.cells #[.int .u8 4, .int .i64 0, .int .u64 0, .string s1] 24)
  have hbd := heap_alloc_new w2 (.cells #[.int .u8 4, .int .i64 0, .int .u64 0, .string s1] 24)
  obtain ⟨hba, hbb, hbc⟩ := kept3 hba hbb hbc y rfl
  have hzd : w2.heap.size = w2.heap.size := rfl
  obtain ⟨a0, a1, a2, a3⟩ := box_v hba
  obtain ⟨b0, b1, b2, b3⟩ := box_v hbb
  obtain ⟨c0, c1, c2, c3⟩ := box_v hbc
  obtain ⟨d0, d1, d2, d3⟩ := box_v hbd
  have xx := ext_trans xx y
  have HBa := Lib.hid hba
  have HBb := Lib.hid hbb
  have HBc := Lib.hid hbc
  have HBd := Lib.hid hbd
  clear hba hbb hbc hbd y
  go_wp2_with (go_at_call 12; refine Hid.out ?_)
  refine Lib.hid ?_
  clear HC
  refine (refMayV_any 4 0 0 s1 _ (by decide) (by decide) (by omega) (tabs_at hT xx rfl)).mono ?_
  rintro e w3 ⟨rfl, y⟩
  rw [HMT.out]
  have xx := below_at xx y rfl rfl rfl rfl
  obtain ⟨hba, hbb⟩ := kept2 HBa.out HBb.out y rfl
  obtain ⟨hbc, hbd⟩ := kept2 HBc.out HBd.out y rfl
  clear y
  obtain ⟨a0, a1, a2, a3⟩ := box_v hba
  obtain ⟨b0, b1, b2, b3⟩ := box_v hbb
  obtain ⟨c0, c1, c2, c3⟩ := box_v hbc
  obtain ⟨d0, d1, d2, d3⟩ := box_v hbd
  have HBa := Lib.hid hba
  have HBb := Lib.hid hbb
  have HBc := Lib.hid hbc
  have HBd := Lib.hid hbd
  clear hba hbb hbc hbd
  have hbq : beqV ⟨4, 0, 0, s1⟩ ⟨4, 0, 0, s1⟩ = true := beqV_eq rfl
  go_wp2_with (go_at_call 13; refine Hid.out ?_)
  refine Lib.hid ?_
  refine (numV_any k n f s _ hv (tabs_at hT xx rfl)).mono ?_
  rintro e w4 ⟨rfl, y⟩
  rw [HM.out]
  have xx := below_at xx y rfl rfl rfl rfl
  obtain ⟨hba, hbb⟩ := kept2 HBa.out HBb.out y rfl
  clear y c0 c1 c2 c3 d0 d1 d2 d3
  obtain ⟨a0, a1, a2, a3⟩ := box_v hba
  obtain ⟨b0, b1, b2, b3⟩ := box_v hbb
  have HBa := Lib.hid hba
  have HBb := Lib.hid hbb
  clear hba hbb
  have em : (some m : Option Nat).isSome = true := rfl
  have en : (some m : Option Nat).getD 0 = m := rfl
  go_wp2_with (go_at_call 14; refine Hid.out ?_)
  refine Lib.hid ?_
  refine (refNumV_any k n f s _ hv (by omega) (tabs_at hT xx rfl)).mono ?_
  rintro e w5 ⟨rfl, y⟩
  rw [HM.out]
  have xx := below_at xx y rfl rfl rfl rfl
  obtain ⟨hba, hbb⟩ := kept2 HBa.out HBb.out y rfl
  clear y
  obtain ⟨a0, a1, a2, a3⟩ := box_v hba
  obtain ⟨b0, b1, b2, b3⟩ := box_v hbb
  have HBa := Lib.hid hba
  have HBb := Lib.hid hbb
  clear hba hbb
  have ho0 : (FloatKind.f64.format.order 0 0 == some Ordering.eq) = true := by decide
  have ho1 : (FloatKind.f64.format.order 0 0 != some Ordering.eq) = false := by decide
  go_wp2_with (fail)
  obtain ⟨R, hR⟩ : ∃ X, mayV ⟨k, n, f, s⟩ = X := ⟨_, rfl⟩
  obtain ⟨g, hg⟩ : ∃ X, (floatV f1).f = X := ⟨_, rfl⟩
  have hg1 : (floatV (f1.toNat : Int)).f = g := by rw [Int.toNat_of_nonneg h0]; exact hg
  have HR := Lib.hid hR
  have HG := Lib.hid hg
  have HG1 := Lib.hid hg1
  have hfn : f1.toNat < 18446744073709551616 := by omega
  have hs8 : s.size ≤ 100000000 := by omega
  have hfl : (if false = true then (1 : Int) else 0) = 0 := by simp
  have HFL := Lib.hid hfl
  clear hR hg hg1 hfl
  obtain ⟨O, hO⟩ : ∃ O : List (Nat × Obj), O = [(w.heap.size, .cells #[.int .u8 k, .int .i64 n, .int .u64 f, .string s] 24 (0, 0)), (w.heap.size + 1, .cells #[.int .u8 1, .int .i64 0, .int .u64 0, .string ⟨#[]⟩] 24 (0, 0))] := ⟨_, rfl⟩
  have gg : GoodB w O _ := ⟨xx, by rw [hO]; intro p hp; simp only [List.mem_cons, List.not_mem_nil, or_false] at hp; rcases hp with rfl | rfl; exact HBa.out; exact HBb.out⟩
  have ce00 : ∀ x : GW w O, x.val.cell? ⟨w.heap.size, 0, none⟩ = some (.int .u8 k) := fun x => good_cells (cs := #[.int .u8 k, .int .i64 n, .int .u64 f, .string s]) (t := 24) (by rw [hO]; simp) x 0 _ rfl
  have ce01 : ∀ x : GW w O, x.val.cell? ⟨w.heap.size, 1, none⟩ = some (.int .i64 n) := fun x => good_cells (cs := #[.int .u8 k, .int .i64 n, .int .u64 f, .string s]) (t := 24) (by rw [hO]; simp) x 1 _ rfl
  have ce02 : ∀ x : GW w O, x.val.cell? ⟨w.heap.size, 2, none⟩ = some (.int .u64 f) := fun x => good_cells (cs := #[.int .u8 k, .int .i64 n, .int .u64 f, .string s]) (t := 24) (by rw [hO]; simp) x 2 _ rfl
  have ce03 : ∀ x : GW w O, x.val.cell? ⟨w.heap.size, 3, none⟩ = some (.string s) := fun x => good_cells (cs := #[.int .u8 k, .int .i64 n, .int .u64 f, .string s]) (t := 24) (by rw [hO]; simp) x 3 _ rfl
  have ce10 : ∀ x : GW w O, x.val.cell? ⟨w.heap.size + 1, 0, none⟩ = some (.int .u8 1) := fun x => good_cells (cs := #[.int .u8 1, .int .i64 0, .int .u64 0, .string ⟨#[]⟩]) (t := 24) (by rw [hO]; simp) x 0 _ rfl
  have ce11 : ∀ x : GW w O, x.val.cell? ⟨w.heap.size + 1, 1, none⟩ = some (.int .i64 0) := fun x => good_cells (cs := #[.int .u8 1, .int .i64 0, .int .u64 0, .string ⟨#[]⟩]) (t := 24) (by rw [hO]; simp) x 1 _ rfl
  have ce12 : ∀ x : GW w O, x.val.cell? ⟨w.heap.size + 1, 2, none⟩ = some (.int .u64 0) := fun x => good_cells (cs := #[.int .u8 1, .int .i64 0, .int .u64 0, .string ⟨#[]⟩]) (t := 24) (by rw [hO]; simp) x 2 _ rfl
  have ce13 : ∀ x : GW w O, x.val.cell? ⟨w.heap.size + 1, 3, none⟩ = some (.string ⟨#[]⟩) := fun x => good_cells (cs := #[.int .u8 1, .int .i64 0, .int .u64 0, .string ⟨#[]⟩]) (t := 24) (by rw [hO]; simp) x 3 _ rfl
  clear hO
  haveI : Nonempty (GW w O) := ⟨⟨_, gg⟩⟩
  have hb1 : beqV ⟨1, 0, 0, ⟨#[]⟩⟩ ⟨1, 0, 0, ⟨#[]⟩⟩ = true := beqV_eq rfl
  have hb2 : beqV ⟨2, n1, 0, ⟨#[]⟩⟩ ⟨2, n1, 0, ⟨#[]⟩⟩ = true := beqV_eq rfl
  have hb3 : beqV ⟨3, 0, g, ⟨#[]⟩⟩ ⟨3, 0, g, ⟨#[]⟩⟩ = true := beqV_eq rfl
  clear a0 a1 a2 a3 b0 b1 b2 b3
  refine wp_region_class (by kernel_rfl) (by kernel_rfl) gg ?_
  repeat (go_big_quiet_step (first
    | (go_at_call 16; with_reducible exact may_class hT hf0 hf1 HR.out _)
    | (go_at_call 12; with_reducible exact refMay_class hT hf0 hf1 hs8 HR.out _)
    | (go_at_call 17; with_reducible exact flag_class HFL.out _)
    | (go_at_call 18; with_reducible exact int_class _)
    | (go_at_call 19; with_reducible exact float_class _ hfn HG1.out)
    | (go_at_call 21; with_reducible exact refFloat_class h0 h1 HG.out _)
    | (go_at_call 10; with_reducible exact known3_class hT _)))
  refine wpQuiet_nil ?_
  intro _ hw'
  obtain ⟨x, rfl⟩ := hw'
  go_wp2_with (fail)
  go_ret
  exact ⟨rfl, x.ok.1⟩
set_option maxRecDepth 8192 in
set_option maxHeartbeats 3200000 in
theorem valueMay_100 (k n f f1 n1 : Int) (s s1 : ByteArray) (w : World) (hv : okV ⟨k, n, f, s⟩) (h0 : 0 ≤ f1) (h1 : f1 < 18446744073709551616) (n0 : -9223372036854775808 ≤ n1) (n2 : n1 ≤ 9223372036854775807)
    (hz : ¬ (1000 : Int) < (s.size : Int)) (hz1 : ¬ (1000 : Int) < (s1.size : Int)) (hT : Lib.Utf8Tabs 1 2 w)
    (hC : ¬ (s1.size ≤ 64 ∧ textOk s1 = true)) (hM : numV ⟨k, n, f, s⟩ = none) :
    Calls Tryd.prog 3 #[.agg #[.int .u8 k, .int .i64 n, .int .u64 f, .string s], .int .u64 f1, .int .i64 n1, .string s1, .bool true] w (YesB w) := by
  have hf0 : 0 ≤ f := hv.f0
  have hf1 : f < 18446744073709551616 := hv.f1
  have hmt := mayV_4 s1
  rw [decide_eq_false hC] at hmt
  have HMT := Lib.hid hmt
  have HC := Lib.hid hC
  have HM := Lib.hid hM
  clear hmt hC hM
  go_enter Tryd.func3, Tryd.ntmps3
  go_wp2_with (go_at_call 11; refine Hid.out ?_)
  refine Lib.hid ?_
  have ya := ext_alloc w (.cells #[.int .u8 k, .int .i64 n, .int .u64 f, .string s] 24)
  have HBa := heap_alloc_new w (.cells #[.int .u8 k, .int .i64 n, .int .u64 f, .string s] 24)
  have hza : (w.alloc (.cells #[.int .u8 k, .int .i64 n, .int .u64 f, .string s] 24)).heap.size = w.heap.size + 1 := by rw [World.size_alloc]
  generalize w.alloc (.cells #[.int .u8 k, .int .i64 n, .int .u64 f, .string s] 24) = ua at *
  have xa := ya
  have yb := ext_alloc ua (.cells #[.int .u8 1, .int .i64 1, .int .u64 0, .string ⟨#[]⟩] 24)
  have HBb := heap_alloc_new ua (.cells #[.int .u8 1, .int .i64 1, .int .u64 0, .string ⟨#[]⟩] 24)
  have hzb : (ua.alloc (.cells #[.int .u8 1, .int .i64 1, .int .u64 0, .string ⟨#[]⟩] 24)).heap.size = w.heap.size + 2 := by rw [World.size_alloc, hza]
  rw [hza] at HBb
  generalize ua.alloc (.cells #[.int .u8 1, .int .i64 1, .int .u64 0, .string ⟨#[]⟩] 24) = ub at *
  have HBa := (yb.block (w.heap.size) (by rw [hza]; omega)).trans HBa
  have xb := ext_trans xa yb
  have yc := ext_alloc ub (.cells #[.int .u8 4, .int .i64 0, .int .u64 0, .string s1] 24)
  have HBc := heap_alloc_new ub (.cells #[.int .u8 4, .int .i64 0, .int .u64 0, .string s1] 24)
  have hzc : (ub.alloc (.cells #[.int .u8 4, .int .i64 0, .int .u64 0, .string s1] 24)).heap.size = w.heap.size + 3 := by rw [World.size_alloc, hzb]
  rw [hzb] at HBc
  generalize ub.alloc (.cells #[.int .u8 4, .int .i64 0, .int .u64 0, .string s1] 24) = uc at *
  have HBa := (yc.block (w.heap.size) (by rw [hzb]; omega)).trans HBa
  have HBb := (yc.block (w.heap.size + 1) (by rw [hzb]; omega)).trans HBb
  have xc := ext_trans xb yc
  have hba := HBa
  have hbb := HBb
  have hbc := HBc
  have xx := xc
  clear ya yb yc xa xb xc hza hzb hzc HBa HBb HBc
  obtain ⟨a0, a1, a2, a3⟩ := box_v hba
  obtain ⟨b0, b1, b2, b3⟩ := box_v hbb
  obtain ⟨c0, c1, c2, c3⟩ := box_v hbc
  have HBa := Lib.hid hba
  have HBb := Lib.hid hbb
  have HBc := Lib.hid hbc
  clear hba hbb hbc
  refine (text_any s1 _ (tabs_at hT xx rfl)).mono ?_
  rintro e w2 ⟨rfl, y⟩
  rw [if_neg HC.out, if_neg HC.out]
  have xx := below_at xx y rfl rfl rfl rfl
  obtain ⟨hba, hbb, hbc⟩ := kept3 HBa.out HBb.out HBc.out y rfl
  clear y
  have y := ext_alloc w2 (.cells #[.int .u8 0, .int .i64 0, .int .u64 0, .string ⟨#[]⟩] 24)
  have hbd := heap_alloc_new w2 (.cells #[.int .u8 0, .int .i64 0, .int .u64 0, .string ⟨#[]⟩] 24)
  obtain ⟨hba, hbb, hbc⟩ := kept3 hba hbb hbc y rfl
  have hzd : w2.heap.size = w2.heap.size := rfl
  obtain ⟨a0, a1, a2, a3⟩ := box_v hba
  obtain ⟨b0, b1, b2, b3⟩ := box_v hbb
  obtain ⟨c0, c1, c2, c3⟩ := box_v hbc
  obtain ⟨d0, d1, d2, d3⟩ := box_v hbd
  have xx := ext_trans xx y
  have HBa := Lib.hid hba
  have HBb := Lib.hid hbb
  have HBc := Lib.hid hbc
  have HBd := Lib.hid hbd
  clear hba hbb hbc hbd y
  go_wp2_with (go_at_call 12; refine Hid.out ?_)
  refine Lib.hid ?_
  clear HC
  refine (refMayV_any 4 0 0 s1 _ (by decide) (by decide) (by omega) (tabs_at hT xx rfl)).mono ?_
  rintro e w3 ⟨rfl, y⟩
  rw [HMT.out]
  have xx := below_at xx y rfl rfl rfl rfl
  obtain ⟨hba, hbb⟩ := kept2 HBa.out HBb.out y rfl
  obtain ⟨hbc, hbd⟩ := kept2 HBc.out HBd.out y rfl
  clear y
  obtain ⟨a0, a1, a2, a3⟩ := box_v hba
  obtain ⟨b0, b1, b2, b3⟩ := box_v hbb
  obtain ⟨c0, c1, c2, c3⟩ := box_v hbc
  obtain ⟨d0, d1, d2, d3⟩ := box_v hbd
  have HBa := Lib.hid hba
  have HBb := Lib.hid hbb
  have HBc := Lib.hid hbc
  have HBd := Lib.hid hbd
  clear hba hbb hbc hbd
  have hbq : beqV ⟨0, 0, 0, ⟨#[]⟩⟩ ⟨0, 0, 0, ⟨#[]⟩⟩ = true := beqV_eq rfl
  go_wp2_with (go_at_call 13; refine Hid.out ?_)
  refine Lib.hid ?_
  refine (numV_any k n f s _ hv (tabs_at hT xx rfl)).mono ?_
  rintro e w4 ⟨rfl, y⟩
  rw [HM.out]
  have xx := below_at xx y rfl rfl rfl rfl
  obtain ⟨hba, hbb⟩ := kept2 HBa.out HBb.out y rfl
  clear y c0 c1 c2 c3 d0 d1 d2 d3
  obtain ⟨a0, a1, a2, a3⟩ := box_v hba
  obtain ⟨b0, b1, b2, b3⟩ := box_v hbb
  have HBa := Lib.hid hba
  have HBb := Lib.hid hbb
  clear hba hbb
  have em : (none : Option Nat).isSome = false := rfl
  have en : (none : Option Nat).getD 0 = 0 := rfl
  go_wp2_with (go_at_call 14; refine Hid.out ?_)
  refine Lib.hid ?_
  refine (refNumV_any k n f s _ hv (by omega) (tabs_at hT xx rfl)).mono ?_
  rintro e w5 ⟨rfl, y⟩
  rw [HM.out]
  have xx := below_at xx y rfl rfl rfl rfl
  obtain ⟨hba, hbb⟩ := kept2 HBa.out HBb.out y rfl
  clear y
  obtain ⟨a0, a1, a2, a3⟩ := box_v hba
  obtain ⟨b0, b1, b2, b3⟩ := box_v hbb
  have HBa := Lib.hid hba
  have HBb := Lib.hid hbb
  clear hba hbb
  have ho0 : (FloatKind.f64.format.order 0 0 == some Ordering.eq) = true := by decide
  have ho1 : (FloatKind.f64.format.order 0 0 != some Ordering.eq) = false := by decide
  go_wp2_with (fail)
  obtain ⟨R, hR⟩ : ∃ X, mayV ⟨k, n, f, s⟩ = X := ⟨_, rfl⟩
  obtain ⟨g, hg⟩ : ∃ X, (floatV f1).f = X := ⟨_, rfl⟩
  have hg1 : (floatV (f1.toNat : Int)).f = g := by rw [Int.toNat_of_nonneg h0]; exact hg
  have HR := Lib.hid hR
  have HG := Lib.hid hg
  have HG1 := Lib.hid hg1
  have hfn : f1.toNat < 18446744073709551616 := by omega
  have hs8 : s.size ≤ 100000000 := by omega
  have hfl : (if true = true then (1 : Int) else 0) = 1 := by simp
  have HFL := Lib.hid hfl
  clear hR hg hg1 hfl
  obtain ⟨O, hO⟩ : ∃ O : List (Nat × Obj), O = [(w.heap.size, .cells #[.int .u8 k, .int .i64 n, .int .u64 f, .string s] 24 (0, 0)), (w.heap.size + 1, .cells #[.int .u8 1, .int .i64 1, .int .u64 0, .string ⟨#[]⟩] 24 (0, 0))] := ⟨_, rfl⟩
  have gg : GoodB w O _ := ⟨xx, by rw [hO]; intro p hp; simp only [List.mem_cons, List.not_mem_nil, or_false] at hp; rcases hp with rfl | rfl; exact HBa.out; exact HBb.out⟩
  have ce00 : ∀ x : GW w O, x.val.cell? ⟨w.heap.size, 0, none⟩ = some (.int .u8 k) := fun x => good_cells (cs := #[.int .u8 k, .int .i64 n, .int .u64 f, .string s]) (t := 24) (by rw [hO]; simp) x 0 _ rfl
  have ce01 : ∀ x : GW w O, x.val.cell? ⟨w.heap.size, 1, none⟩ = some (.int .i64 n) := fun x => good_cells (cs := #[.int .u8 k, .int .i64 n, .int .u64 f, .string s]) (t := 24) (by rw [hO]; simp) x 1 _ rfl
  have ce02 : ∀ x : GW w O, x.val.cell? ⟨w.heap.size, 2, none⟩ = some (.int .u64 f) := fun x => good_cells (cs := #[.int .u8 k, .int .i64 n, .int .u64 f, .string s]) (t := 24) (by rw [hO]; simp) x 2 _ rfl
  have ce03 : ∀ x : GW w O, x.val.cell? ⟨w.heap.size, 3, none⟩ = some (.string s) := fun x => good_cells (cs := #[.int .u8 k, .int .i64 n, .int .u64 f, .string s]) (t := 24) (by rw [hO]; simp) x 3 _ rfl
  have ce10 : ∀ x : GW w O, x.val.cell? ⟨w.heap.size + 1, 0, none⟩ = some (.int .u8 1) := fun x => good_cells (cs := #[.int .u8 1, .int .i64 1, .int .u64 0, .string ⟨#[]⟩]) (t := 24) (by rw [hO]; simp) x 0 _ rfl
  have ce11 : ∀ x : GW w O, x.val.cell? ⟨w.heap.size + 1, 1, none⟩ = some (.int .i64 1) := fun x => good_cells (cs := #[.int .u8 1, .int .i64 1, .int .u64 0, .string ⟨#[]⟩]) (t := 24) (by rw [hO]; simp) x 1 _ rfl
  have ce12 : ∀ x : GW w O, x.val.cell? ⟨w.heap.size + 1, 2, none⟩ = some (.int .u64 0) := fun x => good_cells (cs := #[.int .u8 1, .int .i64 1, .int .u64 0, .string ⟨#[]⟩]) (t := 24) (by rw [hO]; simp) x 2 _ rfl
  have ce13 : ∀ x : GW w O, x.val.cell? ⟨w.heap.size + 1, 3, none⟩ = some (.string ⟨#[]⟩) := fun x => good_cells (cs := #[.int .u8 1, .int .i64 1, .int .u64 0, .string ⟨#[]⟩]) (t := 24) (by rw [hO]; simp) x 3 _ rfl
  clear hO
  haveI : Nonempty (GW w O) := ⟨⟨_, gg⟩⟩
  have hb1 : beqV ⟨1, 1, 0, ⟨#[]⟩⟩ ⟨1, 1, 0, ⟨#[]⟩⟩ = true := beqV_eq rfl
  have hb2 : beqV ⟨2, n1, 0, ⟨#[]⟩⟩ ⟨2, n1, 0, ⟨#[]⟩⟩ = true := beqV_eq rfl
  have hb3 : beqV ⟨3, 0, g, ⟨#[]⟩⟩ ⟨3, 0, g, ⟨#[]⟩⟩ = true := beqV_eq rfl
  clear a0 a1 a2 a3 b0 b1 b2 b3
  refine wp_region_class (by kernel_rfl) (by kernel_rfl) gg ?_
  repeat (go_big_quiet_step (first
    | (go_at_call 16; with_reducible exact may_class hT hf0 hf1 HR.out _)
    | (go_at_call 12; with_reducible exact refMay_class hT hf0 hf1 hs8 HR.out _)
    | (go_at_call 17; with_reducible exact flag_class HFL.out _)
    | (go_at_call 18; with_reducible exact int_class _)
    | (go_at_call 19; with_reducible exact float_class _ hfn HG1.out)
    | (go_at_call 21; with_reducible exact refFloat_class h0 h1 HG.out _)
    | (go_at_call 10; with_reducible exact known3_class hT _)))
  refine wpQuiet_nil ?_
  intro _ hw'
  obtain ⟨x, rfl⟩ := hw'
  go_wp2_with (fail)
  go_ret
  exact ⟨rfl, x.ok.1⟩
set_option maxRecDepth 8192 in
set_option maxHeartbeats 3200000 in
theorem valueMay_101 (k n f f1 n1 : Int) (s s1 : ByteArray) (w : World) (hv : okV ⟨k, n, f, s⟩) (h0 : 0 ≤ f1) (h1 : f1 < 18446744073709551616) (n0 : -9223372036854775808 ≤ n1) (n2 : n1 ≤ 9223372036854775807)
    (hz : ¬ (1000 : Int) < (s.size : Int)) (hz1 : ¬ (1000 : Int) < (s1.size : Int)) (hT : Lib.Utf8Tabs 1 2 w)
    (hC : ¬ (s1.size ≤ 64 ∧ textOk s1 = true)) (m : Nat) (hM : numV ⟨k, n, f, s⟩ = some m) :
    Calls Tryd.prog 3 #[.agg #[.int .u8 k, .int .i64 n, .int .u64 f, .string s], .int .u64 f1, .int .i64 n1, .string s1, .bool true] w (YesB w) := by
  have hf0 : 0 ≤ f := hv.f0
  have hf1 : f < 18446744073709551616 := hv.f1
  have hmt := mayV_4 s1
  rw [decide_eq_false hC] at hmt
  have HMT := Lib.hid hmt
  have HC := Lib.hid hC
  have HM := Lib.hid hM
  clear hmt hC hM
  go_enter Tryd.func3, Tryd.ntmps3
  go_wp2_with (go_at_call 11; refine Hid.out ?_)
  refine Lib.hid ?_
  have ya := ext_alloc w (.cells #[.int .u8 k, .int .i64 n, .int .u64 f, .string s] 24)
  have HBa := heap_alloc_new w (.cells #[.int .u8 k, .int .i64 n, .int .u64 f, .string s] 24)
  have hza : (w.alloc (.cells #[.int .u8 k, .int .i64 n, .int .u64 f, .string s] 24)).heap.size = w.heap.size + 1 := by rw [World.size_alloc]
  generalize w.alloc (.cells #[.int .u8 k, .int .i64 n, .int .u64 f, .string s] 24) = ua at *
  have xa := ya
  have yb := ext_alloc ua (.cells #[.int .u8 1, .int .i64 1, .int .u64 0, .string ⟨#[]⟩] 24)
  have HBb := heap_alloc_new ua (.cells #[.int .u8 1, .int .i64 1, .int .u64 0, .string ⟨#[]⟩] 24)
  have hzb : (ua.alloc (.cells #[.int .u8 1, .int .i64 1, .int .u64 0, .string ⟨#[]⟩] 24)).heap.size = w.heap.size + 2 := by rw [World.size_alloc, hza]
  rw [hza] at HBb
  generalize ua.alloc (.cells #[.int .u8 1, .int .i64 1, .int .u64 0, .string ⟨#[]⟩] 24) = ub at *
  have HBa := (yb.block (w.heap.size) (by rw [hza]; omega)).trans HBa
  have xb := ext_trans xa yb
  have yc := ext_alloc ub (.cells #[.int .u8 4, .int .i64 0, .int .u64 0, .string s1] 24)
  have HBc := heap_alloc_new ub (.cells #[.int .u8 4, .int .i64 0, .int .u64 0, .string s1] 24)
  have hzc : (ub.alloc (.cells #[.int .u8 4, .int .i64 0, .int .u64 0, .string s1] 24)).heap.size = w.heap.size + 3 := by rw [World.size_alloc, hzb]
  rw [hzb] at HBc
  generalize ub.alloc (.cells #[.int .u8 4, .int .i64 0, .int .u64 0, .string s1] 24) = uc at *
  have HBa := (yc.block (w.heap.size) (by rw [hzb]; omega)).trans HBa
  have HBb := (yc.block (w.heap.size + 1) (by rw [hzb]; omega)).trans HBb
  have xc := ext_trans xb yc
  have hba := HBa
  have hbb := HBb
  have hbc := HBc
  have xx := xc
  clear ya yb yc xa xb xc hza hzb hzc HBa HBb HBc
  obtain ⟨a0, a1, a2, a3⟩ := box_v hba
  obtain ⟨b0, b1, b2, b3⟩ := box_v hbb
  obtain ⟨c0, c1, c2, c3⟩ := box_v hbc
  have HBa := Lib.hid hba
  have HBb := Lib.hid hbb
  have HBc := Lib.hid hbc
  clear hba hbb hbc
  refine (text_any s1 _ (tabs_at hT xx rfl)).mono ?_
  rintro e w2 ⟨rfl, y⟩
  rw [if_neg HC.out, if_neg HC.out]
  have xx := below_at xx y rfl rfl rfl rfl
  obtain ⟨hba, hbb, hbc⟩ := kept3 HBa.out HBb.out HBc.out y rfl
  clear y
  have y := ext_alloc w2 (.cells #[.int .u8 0, .int .i64 0, .int .u64 0, .string ⟨#[]⟩] 24)
  have hbd := heap_alloc_new w2 (.cells #[.int .u8 0, .int .i64 0, .int .u64 0, .string ⟨#[]⟩] 24)
  obtain ⟨hba, hbb, hbc⟩ := kept3 hba hbb hbc y rfl
  have hzd : w2.heap.size = w2.heap.size := rfl
  obtain ⟨a0, a1, a2, a3⟩ := box_v hba
  obtain ⟨b0, b1, b2, b3⟩ := box_v hbb
  obtain ⟨c0, c1, c2, c3⟩ := box_v hbc
  obtain ⟨d0, d1, d2, d3⟩ := box_v hbd
  have xx := ext_trans xx y
  have HBa := Lib.hid hba
  have HBb := Lib.hid hbb
  have HBc := Lib.hid hbc
  have HBd := Lib.hid hbd
  clear hba hbb hbc hbd y
  go_wp2_with (go_at_call 12; refine Hid.out ?_)
  refine Lib.hid ?_
  clear HC
  refine (refMayV_any 4 0 0 s1 _ (by decide) (by decide) (by omega) (tabs_at hT xx rfl)).mono ?_
  rintro e w3 ⟨rfl, y⟩
  rw [HMT.out]
  have xx := below_at xx y rfl rfl rfl rfl
  obtain ⟨hba, hbb⟩ := kept2 HBa.out HBb.out y rfl
  obtain ⟨hbc, hbd⟩ := kept2 HBc.out HBd.out y rfl
  clear y
  obtain ⟨a0, a1, a2, a3⟩ := box_v hba
  obtain ⟨b0, b1, b2, b3⟩ := box_v hbb
  obtain ⟨c0, c1, c2, c3⟩ := box_v hbc
  obtain ⟨d0, d1, d2, d3⟩ := box_v hbd
  have HBa := Lib.hid hba
  have HBb := Lib.hid hbb
  have HBc := Lib.hid hbc
  have HBd := Lib.hid hbd
  clear hba hbb hbc hbd
  have hbq : beqV ⟨0, 0, 0, ⟨#[]⟩⟩ ⟨0, 0, 0, ⟨#[]⟩⟩ = true := beqV_eq rfl
  go_wp2_with (go_at_call 13; refine Hid.out ?_)
  refine Lib.hid ?_
  refine (numV_any k n f s _ hv (tabs_at hT xx rfl)).mono ?_
  rintro e w4 ⟨rfl, y⟩
  rw [HM.out]
  have xx := below_at xx y rfl rfl rfl rfl
  obtain ⟨hba, hbb⟩ := kept2 HBa.out HBb.out y rfl
  clear y c0 c1 c2 c3 d0 d1 d2 d3
  obtain ⟨a0, a1, a2, a3⟩ := box_v hba
  obtain ⟨b0, b1, b2, b3⟩ := box_v hbb
  have HBa := Lib.hid hba
  have HBb := Lib.hid hbb
  clear hba hbb
  have em : (some m : Option Nat).isSome = true := rfl
  have en : (some m : Option Nat).getD 0 = m := rfl
  go_wp2_with (go_at_call 14; refine Hid.out ?_)
  refine Lib.hid ?_
  refine (refNumV_any k n f s _ hv (by omega) (tabs_at hT xx rfl)).mono ?_
  rintro e w5 ⟨rfl, y⟩
  rw [HM.out]
  have xx := below_at xx y rfl rfl rfl rfl
  obtain ⟨hba, hbb⟩ := kept2 HBa.out HBb.out y rfl
  clear y
  obtain ⟨a0, a1, a2, a3⟩ := box_v hba
  obtain ⟨b0, b1, b2, b3⟩ := box_v hbb
  have HBa := Lib.hid hba
  have HBb := Lib.hid hbb
  clear hba hbb
  have ho0 : (FloatKind.f64.format.order 0 0 == some Ordering.eq) = true := by decide
  have ho1 : (FloatKind.f64.format.order 0 0 != some Ordering.eq) = false := by decide
  go_wp2_with (fail)
  obtain ⟨R, hR⟩ : ∃ X, mayV ⟨k, n, f, s⟩ = X := ⟨_, rfl⟩
  obtain ⟨g, hg⟩ : ∃ X, (floatV f1).f = X := ⟨_, rfl⟩
  have hg1 : (floatV (f1.toNat : Int)).f = g := by rw [Int.toNat_of_nonneg h0]; exact hg
  have HR := Lib.hid hR
  have HG := Lib.hid hg
  have HG1 := Lib.hid hg1
  have hfn : f1.toNat < 18446744073709551616 := by omega
  have hs8 : s.size ≤ 100000000 := by omega
  have hfl : (if true = true then (1 : Int) else 0) = 1 := by simp
  have HFL := Lib.hid hfl
  clear hR hg hg1 hfl
  obtain ⟨O, hO⟩ : ∃ O : List (Nat × Obj), O = [(w.heap.size, .cells #[.int .u8 k, .int .i64 n, .int .u64 f, .string s] 24 (0, 0)), (w.heap.size + 1, .cells #[.int .u8 1, .int .i64 1, .int .u64 0, .string ⟨#[]⟩] 24 (0, 0))] := ⟨_, rfl⟩
  have gg : GoodB w O _ := ⟨xx, by rw [hO]; intro p hp; simp only [List.mem_cons, List.not_mem_nil, or_false] at hp; rcases hp with rfl | rfl; exact HBa.out; exact HBb.out⟩
  have ce00 : ∀ x : GW w O, x.val.cell? ⟨w.heap.size, 0, none⟩ = some (.int .u8 k) := fun x => good_cells (cs := #[.int .u8 k, .int .i64 n, .int .u64 f, .string s]) (t := 24) (by rw [hO]; simp) x 0 _ rfl
  have ce01 : ∀ x : GW w O, x.val.cell? ⟨w.heap.size, 1, none⟩ = some (.int .i64 n) := fun x => good_cells (cs := #[.int .u8 k, .int .i64 n, .int .u64 f, .string s]) (t := 24) (by rw [hO]; simp) x 1 _ rfl
  have ce02 : ∀ x : GW w O, x.val.cell? ⟨w.heap.size, 2, none⟩ = some (.int .u64 f) := fun x => good_cells (cs := #[.int .u8 k, .int .i64 n, .int .u64 f, .string s]) (t := 24) (by rw [hO]; simp) x 2 _ rfl
  have ce03 : ∀ x : GW w O, x.val.cell? ⟨w.heap.size, 3, none⟩ = some (.string s) := fun x => good_cells (cs := #[.int .u8 k, .int .i64 n, .int .u64 f, .string s]) (t := 24) (by rw [hO]; simp) x 3 _ rfl
  have ce10 : ∀ x : GW w O, x.val.cell? ⟨w.heap.size + 1, 0, none⟩ = some (.int .u8 1) := fun x => good_cells (cs := #[.int .u8 1, .int .i64 1, .int .u64 0, .string ⟨#[]⟩]) (t := 24) (by rw [hO]; simp) x 0 _ rfl
  have ce11 : ∀ x : GW w O, x.val.cell? ⟨w.heap.size + 1, 1, none⟩ = some (.int .i64 1) := fun x => good_cells (cs := #[.int .u8 1, .int .i64 1, .int .u64 0, .string ⟨#[]⟩]) (t := 24) (by rw [hO]; simp) x 1 _ rfl
  have ce12 : ∀ x : GW w O, x.val.cell? ⟨w.heap.size + 1, 2, none⟩ = some (.int .u64 0) := fun x => good_cells (cs := #[.int .u8 1, .int .i64 1, .int .u64 0, .string ⟨#[]⟩]) (t := 24) (by rw [hO]; simp) x 2 _ rfl
  have ce13 : ∀ x : GW w O, x.val.cell? ⟨w.heap.size + 1, 3, none⟩ = some (.string ⟨#[]⟩) := fun x => good_cells (cs := #[.int .u8 1, .int .i64 1, .int .u64 0, .string ⟨#[]⟩]) (t := 24) (by rw [hO]; simp) x 3 _ rfl
  clear hO
  haveI : Nonempty (GW w O) := ⟨⟨_, gg⟩⟩
  have hb1 : beqV ⟨1, 1, 0, ⟨#[]⟩⟩ ⟨1, 1, 0, ⟨#[]⟩⟩ = true := beqV_eq rfl
  have hb2 : beqV ⟨2, n1, 0, ⟨#[]⟩⟩ ⟨2, n1, 0, ⟨#[]⟩⟩ = true := beqV_eq rfl
  have hb3 : beqV ⟨3, 0, g, ⟨#[]⟩⟩ ⟨3, 0, g, ⟨#[]⟩⟩ = true := beqV_eq rfl
  clear a0 a1 a2 a3 b0 b1 b2 b3
  refine wp_region_class (by kernel_rfl) (by kernel_rfl) gg ?_
  repeat (go_big_quiet_step (first
    | (go_at_call 16; with_reducible exact may_class hT hf0 hf1 HR.out _)
    | (go_at_call 12; with_reducible exact refMay_class hT hf0 hf1 hs8 HR.out _)
    | (go_at_call 17; with_reducible exact flag_class HFL.out _)
    | (go_at_call 18; with_reducible exact int_class _)
    | (go_at_call 19; with_reducible exact float_class _ hfn HG1.out)
    | (go_at_call 21; with_reducible exact refFloat_class h0 h1 HG.out _)
    | (go_at_call 10; with_reducible exact known3_class hT _)))
  refine wpQuiet_nil ?_
  intro _ hw'
  obtain ⟨x, rfl⟩ := hw'
  go_wp2_with (fail)
  go_ret
  exact ⟨rfl, x.ok.1⟩
set_option maxRecDepth 8192 in
set_option maxHeartbeats 3200000 in
theorem valueMay_110 (k n f f1 n1 : Int) (s s1 : ByteArray) (w : World) (hv : okV ⟨k, n, f, s⟩) (h0 : 0 ≤ f1) (h1 : f1 < 18446744073709551616) (n0 : -9223372036854775808 ≤ n1) (n2 : n1 ≤ 9223372036854775807)
    (hz : ¬ (1000 : Int) < (s.size : Int)) (hz1 : ¬ (1000 : Int) < (s1.size : Int)) (hT : Lib.Utf8Tabs 1 2 w)
    (hC : (s1.size ≤ 64 ∧ textOk s1 = true)) (hM : numV ⟨k, n, f, s⟩ = none) :
    Calls Tryd.prog 3 #[.agg #[.int .u8 k, .int .i64 n, .int .u64 f, .string s], .int .u64 f1, .int .i64 n1, .string s1, .bool true] w (YesB w) := by
  have hf0 : 0 ≤ f := hv.f0
  have hf1 : f < 18446744073709551616 := hv.f1
  have hmt := mayV_4 s1
  rw [decide_eq_true hC] at hmt
  have HMT := Lib.hid hmt
  have HC := Lib.hid hC
  have HM := Lib.hid hM
  clear hmt hC hM
  go_enter Tryd.func3, Tryd.ntmps3
  go_wp2_with (go_at_call 11; refine Hid.out ?_)
  refine Lib.hid ?_
  have ya := ext_alloc w (.cells #[.int .u8 k, .int .i64 n, .int .u64 f, .string s] 24)
  have HBa := heap_alloc_new w (.cells #[.int .u8 k, .int .i64 n, .int .u64 f, .string s] 24)
  have hza : (w.alloc (.cells #[.int .u8 k, .int .i64 n, .int .u64 f, .string s] 24)).heap.size = w.heap.size + 1 := by rw [World.size_alloc]
  generalize w.alloc (.cells #[.int .u8 k, .int .i64 n, .int .u64 f, .string s] 24) = ua at *
  have xa := ya
  have yb := ext_alloc ua (.cells #[.int .u8 1, .int .i64 1, .int .u64 0, .string ⟨#[]⟩] 24)
  have HBb := heap_alloc_new ua (.cells #[.int .u8 1, .int .i64 1, .int .u64 0, .string ⟨#[]⟩] 24)
  have hzb : (ua.alloc (.cells #[.int .u8 1, .int .i64 1, .int .u64 0, .string ⟨#[]⟩] 24)).heap.size = w.heap.size + 2 := by rw [World.size_alloc, hza]
  rw [hza] at HBb
  generalize ua.alloc (.cells #[.int .u8 1, .int .i64 1, .int .u64 0, .string ⟨#[]⟩] 24) = ub at *
  have HBa := (yb.block (w.heap.size) (by rw [hza]; omega)).trans HBa
  have xb := ext_trans xa yb
  have yc := ext_alloc ub (.cells #[.int .u8 4, .int .i64 0, .int .u64 0, .string s1] 24)
  have HBc := heap_alloc_new ub (.cells #[.int .u8 4, .int .i64 0, .int .u64 0, .string s1] 24)
  have hzc : (ub.alloc (.cells #[.int .u8 4, .int .i64 0, .int .u64 0, .string s1] 24)).heap.size = w.heap.size + 3 := by rw [World.size_alloc, hzb]
  rw [hzb] at HBc
  generalize ub.alloc (.cells #[.int .u8 4, .int .i64 0, .int .u64 0, .string s1] 24) = uc at *
  have HBa := (yc.block (w.heap.size) (by rw [hzb]; omega)).trans HBa
  have HBb := (yc.block (w.heap.size + 1) (by rw [hzb]; omega)).trans HBb
  have xc := ext_trans xb yc
  have hba := HBa
  have hbb := HBb
  have hbc := HBc
  have xx := xc
  clear ya yb yc xa xb xc hza hzb hzc HBa HBb HBc
  obtain ⟨a0, a1, a2, a3⟩ := box_v hba
  obtain ⟨b0, b1, b2, b3⟩ := box_v hbb
  obtain ⟨c0, c1, c2, c3⟩ := box_v hbc
  have HBa := Lib.hid hba
  have HBb := Lib.hid hbb
  have HBc := Lib.hid hbc
  clear hba hbb hbc
  refine (text_any s1 _ (tabs_at hT xx rfl)).mono ?_
  rintro e w2 ⟨rfl, y⟩
  rw [if_pos HC.out, if_pos HC.out]
  have xx := below_at xx y rfl rfl rfl rfl
  obtain ⟨hba, hbb, hbc⟩ := kept3 HBa.out HBb.out HBc.out y rfl
  clear y
  have y := ext_alloc w2 (.cells #[.int .u8 4, .int .i64 0, .int .u64 0, .string s1] 24)
  have hbd := heap_alloc_new w2 (.cells #[.int .u8 4, .int .i64 0, .int .u64 0, .string s1] 24)
  obtain ⟨hba, hbb, hbc⟩ := kept3 hba hbb hbc y rfl
  have hzd : w2.heap.size = w2.heap.size := rfl
  obtain ⟨a0, a1, a2, a3⟩ := box_v hba
  obtain ⟨b0, b1, b2, b3⟩ := box_v hbb
  obtain ⟨c0, c1, c2, c3⟩ := box_v hbc
  obtain ⟨d0, d1, d2, d3⟩ := box_v hbd
  have xx := ext_trans xx y
  have HBa := Lib.hid hba
  have HBb := Lib.hid hbb
  have HBc := Lib.hid hbc
  have HBd := Lib.hid hbd
  clear hba hbb hbc hbd y
  go_wp2_with (go_at_call 12; refine Hid.out ?_)
  refine Lib.hid ?_
  clear HC
  refine (refMayV_any 4 0 0 s1 _ (by decide) (by decide) (by omega) (tabs_at hT xx rfl)).mono ?_
  rintro e w3 ⟨rfl, y⟩
  rw [HMT.out]
  have xx := below_at xx y rfl rfl rfl rfl
  obtain ⟨hba, hbb⟩ := kept2 HBa.out HBb.out y rfl
  obtain ⟨hbc, hbd⟩ := kept2 HBc.out HBd.out y rfl
  clear y
  obtain ⟨a0, a1, a2, a3⟩ := box_v hba
  obtain ⟨b0, b1, b2, b3⟩ := box_v hbb
  obtain ⟨c0, c1, c2, c3⟩ := box_v hbc
  obtain ⟨d0, d1, d2, d3⟩ := box_v hbd
  have HBa := Lib.hid hba
  have HBb := Lib.hid hbb
  have HBc := Lib.hid hbc
  have HBd := Lib.hid hbd
  clear hba hbb hbc hbd
  have hbq : beqV ⟨4, 0, 0, s1⟩ ⟨4, 0, 0, s1⟩ = true := beqV_eq rfl
  go_wp2_with (go_at_call 13; refine Hid.out ?_)
  refine Lib.hid ?_
  refine (numV_any k n f s _ hv (tabs_at hT xx rfl)).mono ?_
  rintro e w4 ⟨rfl, y⟩
  rw [HM.out]
  have xx := below_at xx y rfl rfl rfl rfl
  obtain ⟨hba, hbb⟩ := kept2 HBa.out HBb.out y rfl
  clear y c0 c1 c2 c3 d0 d1 d2 d3
  obtain ⟨a0, a1, a2, a3⟩ := box_v hba
  obtain ⟨b0, b1, b2, b3⟩ := box_v hbb
  have HBa := Lib.hid hba
  have HBb := Lib.hid hbb
  clear hba hbb
  have em : (none : Option Nat).isSome = false := rfl
  have en : (none : Option Nat).getD 0 = 0 := rfl
  go_wp2_with (go_at_call 14; refine Hid.out ?_)
  refine Lib.hid ?_
  refine (refNumV_any k n f s _ hv (by omega) (tabs_at hT xx rfl)).mono ?_
  rintro e w5 ⟨rfl, y⟩
  rw [HM.out]
  have xx := below_at xx y rfl rfl rfl rfl
  obtain ⟨hba, hbb⟩ := kept2 HBa.out HBb.out y rfl
  clear y
  obtain ⟨a0, a1, a2, a3⟩ := box_v hba
  obtain ⟨b0, b1, b2, b3⟩ := box_v hbb
  have HBa := Lib.hid hba
  have HBb := Lib.hid hbb
  clear hba hbb
  have ho0 : (FloatKind.f64.format.order 0 0 == some Ordering.eq) = true := by decide
  have ho1 : (FloatKind.f64.format.order 0 0 != some Ordering.eq) = false := by decide
  go_wp2_with (fail)
  obtain ⟨R, hR⟩ : ∃ X, mayV ⟨k, n, f, s⟩ = X := ⟨_, rfl⟩
  obtain ⟨g, hg⟩ : ∃ X, (floatV f1).f = X := ⟨_, rfl⟩
  have hg1 : (floatV (f1.toNat : Int)).f = g := by rw [Int.toNat_of_nonneg h0]; exact hg
  have HR := Lib.hid hR
  have HG := Lib.hid hg
  have HG1 := Lib.hid hg1
  have hfn : f1.toNat < 18446744073709551616 := by omega
  have hs8 : s.size ≤ 100000000 := by omega
  have hfl : (if true = true then (1 : Int) else 0) = 1 := by simp
  have HFL := Lib.hid hfl
  clear hR hg hg1 hfl
  obtain ⟨O, hO⟩ : ∃ O : List (Nat × Obj), O = [(w.heap.size, .cells #[.int .u8 k, .int .i64 n, .int .u64 f, .string s] 24 (0, 0)), (w.heap.size + 1, .cells #[.int .u8 1, .int .i64 1, .int .u64 0, .string ⟨#[]⟩] 24 (0, 0))] := ⟨_, rfl⟩
  have gg : GoodB w O _ := ⟨xx, by rw [hO]; intro p hp; simp only [List.mem_cons, List.not_mem_nil, or_false] at hp; rcases hp with rfl | rfl; exact HBa.out; exact HBb.out⟩
  have ce00 : ∀ x : GW w O, x.val.cell? ⟨w.heap.size, 0, none⟩ = some (.int .u8 k) := fun x => good_cells (cs := #[.int .u8 k, .int .i64 n, .int .u64 f, .string s]) (t := 24) (by rw [hO]; simp) x 0 _ rfl
  have ce01 : ∀ x : GW w O, x.val.cell? ⟨w.heap.size, 1, none⟩ = some (.int .i64 n) := fun x => good_cells (cs := #[.int .u8 k, .int .i64 n, .int .u64 f, .string s]) (t := 24) (by rw [hO]; simp) x 1 _ rfl
  have ce02 : ∀ x : GW w O, x.val.cell? ⟨w.heap.size, 2, none⟩ = some (.int .u64 f) := fun x => good_cells (cs := #[.int .u8 k, .int .i64 n, .int .u64 f, .string s]) (t := 24) (by rw [hO]; simp) x 2 _ rfl
  have ce03 : ∀ x : GW w O, x.val.cell? ⟨w.heap.size, 3, none⟩ = some (.string s) := fun x => good_cells (cs := #[.int .u8 k, .int .i64 n, .int .u64 f, .string s]) (t := 24) (by rw [hO]; simp) x 3 _ rfl
  have ce10 : ∀ x : GW w O, x.val.cell? ⟨w.heap.size + 1, 0, none⟩ = some (.int .u8 1) := fun x => good_cells (cs := #[.int .u8 1, .int .i64 1, .int .u64 0, .string ⟨#[]⟩]) (t := 24) (by rw [hO]; simp) x 0 _ rfl
  have ce11 : ∀ x : GW w O, x.val.cell? ⟨w.heap.size + 1, 1, none⟩ = some (.int .i64 1) := fun x => good_cells (cs := #[.int .u8 1, .int .i64 1, .int .u64 0, .string ⟨#[]⟩]) (t := 24) (by rw [hO]; simp) x 1 _ rfl
  have ce12 : ∀ x : GW w O, x.val.cell? ⟨w.heap.size + 1, 2, none⟩ = some (.int .u64 0) := fun x => good_cells (cs := #[.int .u8 1, .int .i64 1, .int .u64 0, .string ⟨#[]⟩]) (t := 24) (by rw [hO]; simp) x 2 _ rfl
  have ce13 : ∀ x : GW w O, x.val.cell? ⟨w.heap.size + 1, 3, none⟩ = some (.string ⟨#[]⟩) := fun x => good_cells (cs := #[.int .u8 1, .int .i64 1, .int .u64 0, .string ⟨#[]⟩]) (t := 24) (by rw [hO]; simp) x 3 _ rfl
  clear hO
  haveI : Nonempty (GW w O) := ⟨⟨_, gg⟩⟩
  have hb1 : beqV ⟨1, 1, 0, ⟨#[]⟩⟩ ⟨1, 1, 0, ⟨#[]⟩⟩ = true := beqV_eq rfl
  have hb2 : beqV ⟨2, n1, 0, ⟨#[]⟩⟩ ⟨2, n1, 0, ⟨#[]⟩⟩ = true := beqV_eq rfl
  have hb3 : beqV ⟨3, 0, g, ⟨#[]⟩⟩ ⟨3, 0, g, ⟨#[]⟩⟩ = true := beqV_eq rfl
  clear a0 a1 a2 a3 b0 b1 b2 b3
  refine wp_region_class (by kernel_rfl) (by kernel_rfl) gg ?_
  repeat (go_big_quiet_step (first
    | (go_at_call 16; with_reducible exact may_class hT hf0 hf1 HR.out _)
    | (go_at_call 12; with_reducible exact refMay_class hT hf0 hf1 hs8 HR.out _)
    | (go_at_call 17; with_reducible exact flag_class HFL.out _)
    | (go_at_call 18; with_reducible exact int_class _)
    | (go_at_call 19; with_reducible exact float_class _ hfn HG1.out)
    | (go_at_call 21; with_reducible exact refFloat_class h0 h1 HG.out _)
    | (go_at_call 10; with_reducible exact known3_class hT _)))
  refine wpQuiet_nil ?_
  intro _ hw'
  obtain ⟨x, rfl⟩ := hw'
  go_wp2_with (fail)
  go_ret
  exact ⟨rfl, x.ok.1⟩
set_option maxRecDepth 8192 in
set_option maxHeartbeats 3200000 in
theorem valueMay_111 (k n f f1 n1 : Int) (s s1 : ByteArray) (w : World) (hv : okV ⟨k, n, f, s⟩) (h0 : 0 ≤ f1) (h1 : f1 < 18446744073709551616) (n0 : -9223372036854775808 ≤ n1) (n2 : n1 ≤ 9223372036854775807)
    (hz : ¬ (1000 : Int) < (s.size : Int)) (hz1 : ¬ (1000 : Int) < (s1.size : Int)) (hT : Lib.Utf8Tabs 1 2 w)
    (hC : (s1.size ≤ 64 ∧ textOk s1 = true)) (m : Nat) (hM : numV ⟨k, n, f, s⟩ = some m) :
    Calls Tryd.prog 3 #[.agg #[.int .u8 k, .int .i64 n, .int .u64 f, .string s], .int .u64 f1, .int .i64 n1, .string s1, .bool true] w (YesB w) := by
  have hf0 : 0 ≤ f := hv.f0
  have hf1 : f < 18446744073709551616 := hv.f1
  have hmt := mayV_4 s1
  rw [decide_eq_true hC] at hmt
  have HMT := Lib.hid hmt
  have HC := Lib.hid hC
  have HM := Lib.hid hM
  clear hmt hC hM
  go_enter Tryd.func3, Tryd.ntmps3
  go_wp2_with (go_at_call 11; refine Hid.out ?_)
  refine Lib.hid ?_
  have ya := ext_alloc w (.cells #[.int .u8 k, .int .i64 n, .int .u64 f, .string s] 24)
  have HBa := heap_alloc_new w (.cells #[.int .u8 k, .int .i64 n, .int .u64 f, .string s] 24)
  have hza : (w.alloc (.cells #[.int .u8 k, .int .i64 n, .int .u64 f, .string s] 24)).heap.size = w.heap.size + 1 := by rw [World.size_alloc]
  generalize w.alloc (.cells #[.int .u8 k, .int .i64 n, .int .u64 f, .string s] 24) = ua at *
  have xa := ya
  have yb := ext_alloc ua (.cells #[.int .u8 1, .int .i64 1, .int .u64 0, .string ⟨#[]⟩] 24)
  have HBb := heap_alloc_new ua (.cells #[.int .u8 1, .int .i64 1, .int .u64 0, .string ⟨#[]⟩] 24)
  have hzb : (ua.alloc (.cells #[.int .u8 1, .int .i64 1, .int .u64 0, .string ⟨#[]⟩] 24)).heap.size = w.heap.size + 2 := by rw [World.size_alloc, hza]
  rw [hza] at HBb
  generalize ua.alloc (.cells #[.int .u8 1, .int .i64 1, .int .u64 0, .string ⟨#[]⟩] 24) = ub at *
  have HBa := (yb.block (w.heap.size) (by rw [hza]; omega)).trans HBa
  have xb := ext_trans xa yb
  have yc := ext_alloc ub (.cells #[.int .u8 4, .int .i64 0, .int .u64 0, .string s1] 24)
  have HBc := heap_alloc_new ub (.cells #[.int .u8 4, .int .i64 0, .int .u64 0, .string s1] 24)
  have hzc : (ub.alloc (.cells #[.int .u8 4, .int .i64 0, .int .u64 0, .string s1] 24)).heap.size = w.heap.size + 3 := by rw [World.size_alloc, hzb]
  rw [hzb] at HBc
  generalize ub.alloc (.cells #[.int .u8 4, .int .i64 0, .int .u64 0, .string s1] 24) = uc at *
  have HBa := (yc.block (w.heap.size) (by rw [hzb]; omega)).trans HBa
  have HBb := (yc.block (w.heap.size + 1) (by rw [hzb]; omega)).trans HBb
  have xc := ext_trans xb yc
  have hba := HBa
  have hbb := HBb
  have hbc := HBc
  have xx := xc
  clear ya yb yc xa xb xc hza hzb hzc HBa HBb HBc
  obtain ⟨a0, a1, a2, a3⟩ := box_v hba
  obtain ⟨b0, b1, b2, b3⟩ := box_v hbb
  obtain ⟨c0, c1, c2, c3⟩ := box_v hbc
  have HBa := Lib.hid hba
  have HBb := Lib.hid hbb
  have HBc := Lib.hid hbc
  clear hba hbb hbc
  refine (text_any s1 _ (tabs_at hT xx rfl)).mono ?_
  rintro e w2 ⟨rfl, y⟩
  rw [if_pos HC.out, if_pos HC.out]
  have xx := below_at xx y rfl rfl rfl rfl
  obtain ⟨hba, hbb, hbc⟩ := kept3 HBa.out HBb.out HBc.out y rfl
  clear y
  have y := ext_alloc w2 (.cells #[.int .u8 4, .int .i64 0, .int .u64 0, .string s1] 24)
  have hbd := heap_alloc_new w2 (.cells #[.int .u8 4, .int .i64 0, .int .u64 0, .string s1] 24)
  obtain ⟨hba, hbb, hbc⟩ := kept3 hba hbb hbc y rfl
  have hzd : w2.heap.size = w2.heap.size := rfl
  obtain ⟨a0, a1, a2, a3⟩ := box_v hba
  obtain ⟨b0, b1, b2, b3⟩ := box_v hbb
  obtain ⟨c0, c1, c2, c3⟩ := box_v hbc
  obtain ⟨d0, d1, d2, d3⟩ := box_v hbd
  have xx := ext_trans xx y
  have HBa := Lib.hid hba
  have HBb := Lib.hid hbb
  have HBc := Lib.hid hbc
  have HBd := Lib.hid hbd
  clear hba hbb hbc hbd y
  go_wp2_with (go_at_call 12; refine Hid.out ?_)
  refine Lib.hid ?_
  clear HC
  refine (refMayV_any 4 0 0 s1 _ (by decide) (by decide) (by omega) (tabs_at hT xx rfl)).mono ?_
  rintro e w3 ⟨rfl, y⟩
  rw [HMT.out]
  have xx := below_at xx y rfl rfl rfl rfl
  obtain ⟨hba, hbb⟩ := kept2 HBa.out HBb.out y rfl
  obtain ⟨hbc, hbd⟩ := kept2 HBc.out HBd.out y rfl
  clear y
  obtain ⟨a0, a1, a2, a3⟩ := box_v hba
  obtain ⟨b0, b1, b2, b3⟩ := box_v hbb
  obtain ⟨c0, c1, c2, c3⟩ := box_v hbc
  obtain ⟨d0, d1, d2, d3⟩ := box_v hbd
  have HBa := Lib.hid hba
  have HBb := Lib.hid hbb
  have HBc := Lib.hid hbc
  have HBd := Lib.hid hbd
  clear hba hbb hbc hbd
  have hbq : beqV ⟨4, 0, 0, s1⟩ ⟨4, 0, 0, s1⟩ = true := beqV_eq rfl
  go_wp2_with (go_at_call 13; refine Hid.out ?_)
  refine Lib.hid ?_
  refine (numV_any k n f s _ hv (tabs_at hT xx rfl)).mono ?_
  rintro e w4 ⟨rfl, y⟩
  rw [HM.out]
  have xx := below_at xx y rfl rfl rfl rfl
  obtain ⟨hba, hbb⟩ := kept2 HBa.out HBb.out y rfl
  clear y c0 c1 c2 c3 d0 d1 d2 d3
  obtain ⟨a0, a1, a2, a3⟩ := box_v hba
  obtain ⟨b0, b1, b2, b3⟩ := box_v hbb
  have HBa := Lib.hid hba
  have HBb := Lib.hid hbb
  clear hba hbb
  have em : (some m : Option Nat).isSome = true := rfl
  have en : (some m : Option Nat).getD 0 = m := rfl
  go_wp2_with (go_at_call 14; refine Hid.out ?_)
  refine Lib.hid ?_
  refine (refNumV_any k n f s _ hv (by omega) (tabs_at hT xx rfl)).mono ?_
  rintro e w5 ⟨rfl, y⟩
  rw [HM.out]
  have xx := below_at xx y rfl rfl rfl rfl
  obtain ⟨hba, hbb⟩ := kept2 HBa.out HBb.out y rfl
  clear y
  obtain ⟨a0, a1, a2, a3⟩ := box_v hba
  obtain ⟨b0, b1, b2, b3⟩ := box_v hbb
  have HBa := Lib.hid hba
  have HBb := Lib.hid hbb
  clear hba hbb
  have ho0 : (FloatKind.f64.format.order 0 0 == some Ordering.eq) = true := by decide
  have ho1 : (FloatKind.f64.format.order 0 0 != some Ordering.eq) = false := by decide
  go_wp2_with (fail)
  obtain ⟨R, hR⟩ : ∃ X, mayV ⟨k, n, f, s⟩ = X := ⟨_, rfl⟩
  obtain ⟨g, hg⟩ : ∃ X, (floatV f1).f = X := ⟨_, rfl⟩
  have hg1 : (floatV (f1.toNat : Int)).f = g := by rw [Int.toNat_of_nonneg h0]; exact hg
  have HR := Lib.hid hR
  have HG := Lib.hid hg
  have HG1 := Lib.hid hg1
  have hfn : f1.toNat < 18446744073709551616 := by omega
  have hs8 : s.size ≤ 100000000 := by omega
  have hfl : (if true = true then (1 : Int) else 0) = 1 := by simp
  have HFL := Lib.hid hfl
  clear hR hg hg1 hfl
  obtain ⟨O, hO⟩ : ∃ O : List (Nat × Obj), O = [(w.heap.size, .cells #[.int .u8 k, .int .i64 n, .int .u64 f, .string s] 24 (0, 0)), (w.heap.size + 1, .cells #[.int .u8 1, .int .i64 1, .int .u64 0, .string ⟨#[]⟩] 24 (0, 0))] := ⟨_, rfl⟩
  have gg : GoodB w O _ := ⟨xx, by rw [hO]; intro p hp; simp only [List.mem_cons, List.not_mem_nil, or_false] at hp; rcases hp with rfl | rfl; exact HBa.out; exact HBb.out⟩
  have ce00 : ∀ x : GW w O, x.val.cell? ⟨w.heap.size, 0, none⟩ = some (.int .u8 k) := fun x => good_cells (cs := #[.int .u8 k, .int .i64 n, .int .u64 f, .string s]) (t := 24) (by rw [hO]; simp) x 0 _ rfl
  have ce01 : ∀ x : GW w O, x.val.cell? ⟨w.heap.size, 1, none⟩ = some (.int .i64 n) := fun x => good_cells (cs := #[.int .u8 k, .int .i64 n, .int .u64 f, .string s]) (t := 24) (by rw [hO]; simp) x 1 _ rfl
  have ce02 : ∀ x : GW w O, x.val.cell? ⟨w.heap.size, 2, none⟩ = some (.int .u64 f) := fun x => good_cells (cs := #[.int .u8 k, .int .i64 n, .int .u64 f, .string s]) (t := 24) (by rw [hO]; simp) x 2 _ rfl
  have ce03 : ∀ x : GW w O, x.val.cell? ⟨w.heap.size, 3, none⟩ = some (.string s) := fun x => good_cells (cs := #[.int .u8 k, .int .i64 n, .int .u64 f, .string s]) (t := 24) (by rw [hO]; simp) x 3 _ rfl
  have ce10 : ∀ x : GW w O, x.val.cell? ⟨w.heap.size + 1, 0, none⟩ = some (.int .u8 1) := fun x => good_cells (cs := #[.int .u8 1, .int .i64 1, .int .u64 0, .string ⟨#[]⟩]) (t := 24) (by rw [hO]; simp) x 0 _ rfl
  have ce11 : ∀ x : GW w O, x.val.cell? ⟨w.heap.size + 1, 1, none⟩ = some (.int .i64 1) := fun x => good_cells (cs := #[.int .u8 1, .int .i64 1, .int .u64 0, .string ⟨#[]⟩]) (t := 24) (by rw [hO]; simp) x 1 _ rfl
  have ce12 : ∀ x : GW w O, x.val.cell? ⟨w.heap.size + 1, 2, none⟩ = some (.int .u64 0) := fun x => good_cells (cs := #[.int .u8 1, .int .i64 1, .int .u64 0, .string ⟨#[]⟩]) (t := 24) (by rw [hO]; simp) x 2 _ rfl
  have ce13 : ∀ x : GW w O, x.val.cell? ⟨w.heap.size + 1, 3, none⟩ = some (.string ⟨#[]⟩) := fun x => good_cells (cs := #[.int .u8 1, .int .i64 1, .int .u64 0, .string ⟨#[]⟩]) (t := 24) (by rw [hO]; simp) x 3 _ rfl
  clear hO
  haveI : Nonempty (GW w O) := ⟨⟨_, gg⟩⟩
  have hb1 : beqV ⟨1, 1, 0, ⟨#[]⟩⟩ ⟨1, 1, 0, ⟨#[]⟩⟩ = true := beqV_eq rfl
  have hb2 : beqV ⟨2, n1, 0, ⟨#[]⟩⟩ ⟨2, n1, 0, ⟨#[]⟩⟩ = true := beqV_eq rfl
  have hb3 : beqV ⟨3, 0, g, ⟨#[]⟩⟩ ⟨3, 0, g, ⟨#[]⟩⟩ = true := beqV_eq rfl
  clear a0 a1 a2 a3 b0 b1 b2 b3
  refine wp_region_class (by kernel_rfl) (by kernel_rfl) gg ?_
  repeat (go_big_quiet_step (first
    | (go_at_call 16; with_reducible exact may_class hT hf0 hf1 HR.out _)
    | (go_at_call 12; with_reducible exact refMay_class hT hf0 hf1 hs8 HR.out _)
    | (go_at_call 17; with_reducible exact flag_class HFL.out _)
    | (go_at_call 18; with_reducible exact int_class _)
    | (go_at_call 19; with_reducible exact float_class _ hfn HG1.out)
    | (go_at_call 21; with_reducible exact refFloat_class h0 h1 HG.out _)
    | (go_at_call 10; with_reducible exact known3_class hT _)))
  refine wpQuiet_nil ?_
  intro _ hw'
  obtain ⟨x, rfl⟩ := hw'
  go_wp2_with (fail)
  go_ret
  exact ⟨rfl, x.ok.1⟩
set_option maxRecDepth 8192 in
set_option maxHeartbeats 3200000 in
theorem valueMay_any (k n f f1 n1 : Int) (s s1 : ByteArray) (w : World) (hv : okV ⟨k, n, f, s⟩) (h0 : 0 ≤ f1) (h1 : f1 < 18446744073709551616) (n0 : -9223372036854775808 ≤ n1) (n2 : n1 ≤ 9223372036854775807)
    (hT : Lib.Utf8Tabs 1 2 w) (b : Bool) :
    Calls Tryd.prog 3 #[.agg #[.int .u8 k, .int .i64 n, .int .u64 f, .string s], .int .u64 f1, .int .i64 n1, .string s1, .bool b] w (YesB w) := by
  by_cases hz : (1000 : Int) < (s.size : Int)
  · go_enter Tryd.func3, Tryd.ntmps3
    have y0 := ext_alloc w (.cells #[.int .u8 k, .int .i64 n, .int .u64 f, .string s] 24)
    go_wp2_with (go_at_call 10; refine Hid.out ?_)
    refine Lib.hid ?_
    refine (known3_any _ (tabs_at hT y0 rfl)).mono ?_
    rintro e w2 ⟨rfl, y⟩
    go_wp2_with (fail)
    go_ret
    exact ⟨rfl, below_at y0 y rfl rfl rfl rfl⟩
  · by_cases hz1 : (1000 : Int) < (s1.size : Int)
    · go_enter Tryd.func3, Tryd.ntmps3
      have y0 := ext_alloc w (.cells #[.int .u8 k, .int .i64 n, .int .u64 f, .string s] 24)
      go_wp2_with (go_at_call 10; refine Hid.out ?_)
      refine Lib.hid ?_
      refine (known3_any _ (tabs_at hT y0 rfl)).mono ?_
      rintro e w2 ⟨rfl, y⟩
      go_wp2_with (fail)
      go_ret
      exact ⟨rfl, below_at y0 y rfl rfl rfl rfl⟩
    · by_cases hC : s1.size ≤ 64 ∧ textOk s1 = true
      · cases hM : numV ⟨k, n, f, s⟩ with
        | none => cases b with
          | false => exact valueMay_010 k n f f1 n1 s s1 w hv h0 h1 n0 n2 hz hz1 hT hC hM
          | true => exact valueMay_110 k n f f1 n1 s s1 w hv h0 h1 n0 n2 hz hz1 hT hC hM
        | some m => cases b with
          | false => exact valueMay_011 k n f f1 n1 s s1 w hv h0 h1 n0 n2 hz hz1 hT hC m hM
          | true => exact valueMay_111 k n f f1 n1 s s1 w hv h0 h1 n0 n2 hz hz1 hT hC m hM
      · cases hM : numV ⟨k, n, f, s⟩ with
        | none => cases b with
          | false => exact valueMay_000 k n f f1 n1 s s1 w hv h0 h1 n0 n2 hz hz1 hT hC hM
          | true => exact valueMay_100 k n f f1 n1 s s1 w hv h0 h1 n0 n2 hz hz1 hT hC hM
        | some m => cases b with
          | false => exact valueMay_001 k n f f1 n1 s s1 w hv h0 h1 n0 n2 hz hz1 hT hC m hM
          | true => exact valueMay_101 k n f f1 n1 s s1 w hv h0 h1 n0 n2 hz hz1 hT hC m hM
end Go.Proofs.YtclfplpggmefjaaDoor
