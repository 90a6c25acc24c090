/- The walk of rubriclaw03.known; math.Copysign at the constants, math.NaN, rubricref03.Float. -/
import Derived.Test.YtclfplpggmefjaaDoorVaLaw
namespace Go.Proofs.YtclfplpggmefjaaDoor
open Go.RowKit
set_option linter.unusedVariables false
set_option linter.unusedSimpArgs false

theorem nan_any (w : World) : Calls Tryd.prog 47 #[] w fun e w' => e = .returned (.float .f64 9221120237041090561) ∧ w = w' := by
  go_enter Tryd.func47, Tryd.ntmps47
  go_wp2_with (fail)
  go_ret
  exact ⟨rfl, rfl⟩
theorem copysign_any (w : World) : Calls Tryd.prog 46 #[.float .f64 0, .float .f64 13830554455654793216] w fun e w' => e = .returned (.float .f64 9223372036854775808) ∧ w = w' := by
  have h1 : bits .andNot .u64 0 9223372036854775808 = 0 := by decide
  have h2 : bits .and .u64 13830554455654793216 9223372036854775808 = 9223372036854775808 := by decide
  have h3 : bits .or .u64 0 9223372036854775808 = 9223372036854775808 := by decide
  go_enter Tryd.func46, Tryd.ntmps46
  go_wp2_with (fail)
  go_ret
  exact ⟨rfl, rfl⟩
theorem refFloat_any (f : Int) (w : World) (hf0 : 0 ≤ f) (hf1 : f < 18446744073709551616) : Calls Tryd.prog 21 #[.int .u64 f] w fun e w' =>
    e = .returned (.agg #[.int .u8 3, .int .i64 0, .int .u64 (floatV f).f, .string ⟨#[]⟩]) ∧ Below w.heap.size w w' := by
  cases hN : nanF f with
  | true =>
    have hf : (floatV f).f = 9221120237041090560 := by unfold floatV; rw [hN]; rfl
    rw [hf]
    have H := Lib.hid hN
    clear hf hN
    go_enter Tryd.func21, Tryd.ntmps21
    go_wp2_with (go_at_call 49; refine (none_any f _ hf0 hf1).mono ?_; rintro e w1 ⟨rfl, rfl⟩; rw [H.out])
    refine bodyPost_ret (v := .agg #[.int .u8 3, .int .i64 0, .int .u64 9221120237041090560, .string ⟨#[]⟩]) (by simp [results, Tryd.results21, go_sem]) rfl ?_
    exact ⟨rfl, ext_alloc w _⟩
  | false =>
    have hf : (floatV f).f = f := by unfold floatV; rw [hN]; rfl
    rw [hf]
    have H := Lib.hid hN
    clear hf hN
    go_enter Tryd.func21, Tryd.ntmps21
    go_wp2_with (go_at_call 49; refine (none_any f _ hf0 hf1).mono ?_; rintro e w1 ⟨rfl, rfl⟩; rw [H.out])
    refine bodyPost_ret (v := .agg #[.int .u8 3, .int .i64 0, .int .u64 f, .string ⟨#[]⟩]) (by simp [results, Tryd.results21, go_sem]) rfl ?_
    exact ⟨rfl, ext_alloc w _⟩

def YesB (w : World) (e : Ending) (w' : World) : Prop := e = .returned (.bool true) ∧ Below w.heap.size w w'
theorem k1 : (floatV ((9223372036854775808 : Nat) : Int)).f = 9223372036854775808 := by decide
theorem k2 : (floatV ((0 : Nat) : Int)).f = 0 := by decide
theorem k3 : numV ⟨2, 3, 0, ⟨#[]⟩⟩ = some 4613937818241073152 := by decide +kernel
theorem k4 : beqV ⟨3, 0, 9223372036854775808, ⟨#[]⟩⟩ ⟨3, 0, 0, ⟨#[]⟩⟩ = false := by decide +kernel
theorem k5 : lessV ⟨3, 0, 9223372036854775808, ⟨#[]⟩⟩ ⟨3, 0, 0, ⟨#[]⟩⟩ = true := by decide +kernel
theorem k6 : lessV ⟨3, 0, 0, ⟨#[]⟩⟩ ⟨3, 0, 9223372036854775808, ⟨#[]⟩⟩ = false := by decide +kernel
theorem k7 : mayV ⟨3, 0, 9221120237041090561, ⟨#[]⟩⟩ = false := by decide +kernel
theorem k8 : (floatV ((9221120237041090561 : Nat) : Int)).f = 9221120237041090560 := by decide
theorem k9 : mayV ⟨3, 0, 9221120237041090560, ⟨#[]⟩⟩ = true := by decide +kernel
theorem k10 : (FloatKind.f64.format.order 4613937818241073152 4613937818241073152 == some Ordering.eq) = true := by decide +kernel

set_option maxHeartbeats 3200000 in
theorem known3_any (w : World) (hT : Lib.Utf8Tabs 1 2 w) :
    Calls Tryd.prog 10 #[] w (YesB w) := by
  go_enter Tryd.func10, Tryd.ntmps10
  go_wp2_with (first
    | (go_at_call 46; refine (copysign_any _).mono ?_; rintro e w1 ⟨rfl, rfl⟩)
    | (go_at_call 19; refine Hid.out ?_))
  refine Lib.hid ?_
  refine (float_any 9223372036854775808 _ (by omega)).mono ?_
  rw [k1]
  rintro e w1 ⟨rfl, y1⟩
  go_wp2_with (go_at_call 19; refine Hid.out ?_)
  refine Lib.hid ?_
  refine (float_any 0 _ (by omega)).mono ?_
  rw [k2]
  rintro e w2 ⟨rfl, y2⟩
  have x2 := ext_trans y1 y2
  clear y1 y2
  go_wp2_with (go_at_call 18; refine Hid.out ?_)
  have ya := ext_alloc w2 (.cells #[.int .u8 3, .int .i64 0, .int .u64 9223372036854775808, .string ⟨#[]⟩] 24)
  have HBA := heap_alloc_new w2 (.cells #[.int .u8 3, .int .i64 0, .int .u64 9223372036854775808, .string ⟨#[]⟩] 24)
  have hza : (w2.alloc (.cells #[.int .u8 3, .int .i64 0, .int .u64 9223372036854775808, .string ⟨#[]⟩] 24)).heap.size = w2.heap.size + 1 := by simp
  generalize w2.alloc (.cells #[.int .u8 3, .int .i64 0, .int .u64 9223372036854775808, .string ⟨#[]⟩] 24) = w3 at *
  have yb := ext_alloc w3 (.cells #[.int .u8 3, .int .i64 0, .int .u64 0, .string ⟨#[]⟩] 24)
  have HBB := heap_alloc_new w3 (.cells #[.int .u8 3, .int .i64 0, .int .u64 0, .string ⟨#[]⟩] 24)
  have hzb : (w3.alloc (.cells #[.int .u8 3, .int .i64 0, .int .u64 0, .string ⟨#[]⟩] 24)).heap.size = w3.heap.size + 1 := by simp
  rw [hza] at HBB hzb
  have HBA := (yb.block w2.heap.size (by rw [hza]; omega)).trans HBA
  have x4 := ext_trans x2 (ext_trans ya yb)
  generalize w3.alloc (.cells #[.int .u8 3, .int .i64 0, .int .u64 0, .string ⟨#[]⟩] 24) = w4 at *
  have HBA := Lib.hid HBA
  have HBB := Lib.hid HBB
  have hz4 : w2.heap.size + 1 < w4.heap.size := by omega
  clear hza hzb ya yb x2
  refine Lib.hid ?_
  refine (int_any 3 w4).mono ?_
  rintro e w5 ⟨rfl, y⟩
  have HBA := Lib.hid ((y.block w2.heap.size (by omega)).trans HBA.out)
  have HBB := Lib.hid ((y.block (w2.heap.size + 1) (by omega)).trans HBB.out)
  have hz5 : w2.heap.size + 1 < w5.heap.size := by have := y.size; omega
  have x5 := ext_trans x4 y
  clear y x4 hz4
  go_wp2_with (go_at_call 13; refine Hid.out ?_)
  refine Lib.hid ?_
  refine (numV_any 2 3 0 ⟨#[]⟩ w5 ⟨by decide, by decide, by decide, by decide, by decide, by decide⟩ (Utf8Tabs_below hT x5)).mono ?_
  unfold NumOut
  rw [k3]
  rintro e w6 ⟨rfl, y⟩
  have HBA := Lib.hid ((y.block w2.heap.size (by omega)).trans HBA.out)
  have HBB := Lib.hid ((y.block (w2.heap.size + 1) (by omega)).trans HBB.out)
  have hz6 : w2.heap.size + 1 < w6.heap.size := by have := y.size; omega
  have x6 := ext_trans x5 y
  clear y x5 hz5
  obtain ⟨a0, a1, a2, a3⟩ := box_v HBA.out
  obtain ⟨b0, b1, b2, b3⟩ := box_v HBB.out
  have e4 := k4
  have e10 := k10
  go_wp2_with (go_at_call 22; refine Hid.out ?_)
  refine Lib.hid ?_
  refine (lessV_any 3 0 9223372036854775808 3 0 0 ⟨#[]⟩ ⟨#[]⟩ w6 ⟨by decide, by decide, by decide, by decide, by decide, by decide⟩ ⟨by decide, by decide, by decide, by decide, by decide, by decide⟩ (Utf8Tabs_below hT x6)).mono ?_
  unfold LessOut
  rw [k5]
  rintro e w7 ⟨rfl, y⟩
  have HBA := Lib.hid ((y.block w2.heap.size (by omega)).trans HBA.out)
  have HBB := Lib.hid ((y.block (w2.heap.size + 1) (by omega)).trans HBB.out)
  have hz7 : w2.heap.size + 1 < w7.heap.size := by have := y.size; omega
  have x7 := ext_trans x6 y
  clear y x6 hz6 a0 a1 a2 a3 b0 b1 b2 b3
  obtain ⟨a0, a1, a2, a3⟩ := box_v HBA.out
  obtain ⟨b0, b1, b2, b3⟩ := box_v HBB.out
  go_wp2_with (go_at_call 22; refine Hid.out ?_)
  refine Lib.hid ?_
  refine (lessV_any 3 0 0 3 0 9223372036854775808 ⟨#[]⟩ ⟨#[]⟩ w7 ⟨by decide, by decide, by decide, by decide, by decide, by decide⟩ ⟨by decide, by decide, by decide, by decide, by decide, by decide⟩ (Utf8Tabs_below hT x7)).mono ?_
  unfold LessOut
  rw [k6]
  rintro e w8 ⟨rfl, y⟩
  have x8 := ext_trans x7 y
  clear y x7 hz7 a0 a1 a2 a3 b0 b1 b2 b3 HBA HBB e4
  go_wp2_with (go_at_call 16; refine Hid.out ?_)
  refine Lib.hid ?_
  refine (mayV_any 3 0 9221120237041090561 ⟨#[]⟩ w8 (by decide) (by decide) (Utf8Tabs_below hT x8)).mono ?_
  unfold MayOut
  rw [k7]
  rintro e w9 ⟨rfl, y⟩
  have x9 := ext_trans x8 y
  clear y x8 e10
  go_wp2_with (first
    | (go_at_call 47; refine (nan_any _).mono ?_; rintro e wn ⟨rfl, rfl⟩)
    | (go_at_call 19; refine Hid.out ?_))
  refine Lib.hid ?_
  refine (float_any 9221120237041090561 _ (by omega)).mono ?_
  rw [k8]
  rintro e w10 ⟨rfl, y⟩
  have x10 := ext_trans x9 y
  clear y x9
  go_wp2_with (go_at_call 16; refine Hid.out ?_)
  refine Lib.hid ?_
  refine (mayV_any 3 0 9221120237041090560 ⟨#[]⟩ w10 (by decide) (by decide) (Utf8Tabs_below hT x10)).mono ?_
  unfold MayOut
  rw [k9]
  rintro e w11 ⟨rfl, y⟩
  have x11 := ext_trans x10 y
  clear y x10
  go_wp2_with (fail)
  go_ret
  exact ⟨rfl, x11⟩
end Go.Proofs.YtclfplpggmefjaaDoor
