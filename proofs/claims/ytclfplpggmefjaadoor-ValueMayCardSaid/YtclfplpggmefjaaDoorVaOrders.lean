/- The walk of rubriclaw03.ValueOrders. -/
import Derived.Test.YtclfplpggmefjaaDoorVaKnown
namespace Go.Proofs.YtclfplpggmefjaaDoor
open Go.RowKit
set_option linter.unusedVariables false
set_option linter.unusedSimpArgs false

theorem tabs_at {w v W : World} {a b : Nat} (hT : Lib.Utf8Tabs a b w) (h : Below w.heap.size w v) (e : W.heap = v.heap) : Lib.Utf8Tabs a b W := by
  have h2 := Utf8Tabs_below hT h
  have hc : ∀ p, W.cell? p = v.cell? p := fun p => by simp only [World.cell?, e]
  exact ⟨fun c hc' => by rw [hc]; exact h2.1 c hc', fun i hi => by rw [hc, hc]; exact h2.2 i hi⟩
theorem below_at {w v W w' : World} (h : Below w.heap.size w v) (y : Below W.heap.size W w') (e1 : W.heap = v.heap) (e2 : W.os = v.os) (e3 : W.tape = v.tape) (e4 : W.output = v.output) : Below w.heap.size w w' := by
  have y1 : Below v.heap.size v w' := ⟨by rw [← e2]; exact y.os, by rw [← e3]; exact y.tape, by rw [← e4]; exact y.output, by rw [← e1]; exact y.size, fun k hk => by rw [← e1]; exact y.block k (by rw [e1]; exact hk)⟩
  exact ext_trans h y1
theorem kept1 {v W w' : World} {b0 : Nat} {O0 : Obj} (h0 : v.heap[b0]? = some O0) (y : Below W.heap.size W w') (e : W.heap = v.heap) : w'.heap[b0]? = some O0 := by
  have hlt := (Array.getElem?_eq_some_iff.1 h0).1
  rw [y.block b0 (by rw [e]; exact hlt), e]
  exact h0
theorem kept2 {v W w' : World} {b0 b1 : Nat} {O0 O1 : Obj} (h0 : v.heap[b0]? = some O0) (h1 : v.heap[b1]? = some O1) (y : Below W.heap.size W w') (e : W.heap = v.heap) : w'.heap[b0]? = some O0 ∧ w'.heap[b1]? = some O1 := ⟨kept1 h0 y e, kept1 h1 y e⟩
theorem kept3 {v W w' : World} {b0 b1 b2 : Nat} {O0 O1 O2 : Obj} (h0 : v.heap[b0]? = some O0) (h1 : v.heap[b1]? = some O1) (h2 : v.heap[b2]? = some O2) (y : Below W.heap.size W w') (e : W.heap = v.heap) : w'.heap[b0]? = some O0 ∧ w'.heap[b1]? = some O1 ∧ w'.heap[b2]? = some O2 := ⟨kept1 h0 y e, kept1 h1 y e, kept1 h2 y e⟩

set_option maxHeartbeats 3200000 in
theorem valueOrders_any (k0 n0 f0 k1 n1 f1 : Int) (s0 s1 : ByteArray) (w : World) (o0 : okV ⟨k0, n0, f0, s0⟩) (o1 : okV ⟨k1, n1, f1, s1⟩) (hT : Lib.Utf8Tabs 1 2 w) :
    Calls Tryd.prog 4 #[.agg #[.int .u8 k0, .int .i64 n0, .int .u64 f0, .string s0], .agg #[.int .u8 k1, .int .i64 n1, .int .u64 f1, .string s1]] w (YesB w) := by
  by_cases g0 : 1000 < s0.size
  · have g0z : (1000 : Int) < (s0.size : Int) := by omega
    clear g0
    go_enter Tryd.func4, Tryd.ntmps4
    go_wp2_with (go_at_call 10; refine Hid.out ?_)
    refine Lib.hid ?_
    have y0 := ext_alloc w (.cells #[.int .u8 k0, .int .i64 n0, .int .u64 f0, .string s0] 24)
    have HB0 := heap_alloc_new w (.cells #[.int .u8 k0, .int .i64 n0, .int .u64 f0, .string s0] 24)
    have hz0 : (w.alloc (.cells #[.int .u8 k0, .int .i64 n0, .int .u64 f0, .string s0] 24)).heap.size = w.heap.size + 1 := by rw [World.size_alloc]
    generalize w.alloc (.cells #[.int .u8 k0, .int .i64 n0, .int .u64 f0, .string s0] 24) = v0 at *
    have x0 := y0
    have y1 := ext_alloc v0 (.cells #[.int .u8 k1, .int .i64 n1, .int .u64 f1, .string s1] 24)
    have HB1 := heap_alloc_new v0 (.cells #[.int .u8 k1, .int .i64 n1, .int .u64 f1, .string s1] 24)
    have hz1 : (v0.alloc (.cells #[.int .u8 k1, .int .i64 n1, .int .u64 f1, .string s1] 24)).heap.size = w.heap.size + 2 := by rw [World.size_alloc, hz0]
    rw [hz0] at HB1
    generalize v0.alloc (.cells #[.int .u8 k1, .int .i64 n1, .int .u64 f1, .string s1] 24) = v1 at *
    have HB0 := (y1.block w.heap.size (by rw [hz0]; omega)).trans HB0
    have x1 := ext_trans x0 y1
    have HB0 := Lib.hid HB0
    have HB1 := Lib.hid HB1
    clear y0 y1
    refine (known3_any v1 (Utf8Tabs_below hT x1)).mono ?_
    rintro e w1 ⟨rfl, y⟩
    go_wp2_with (fail)
    go_ret
    exact ⟨rfl, ext_trans x1 y⟩
  · have g0z : ¬ ((1000 : Int) < (s0.size : Int)) := by omega
    by_cases g1 : 1000 < s1.size
    · have g1z : (1000 : Int) < (s1.size : Int) := by omega
      clear g0 g1
      go_enter Tryd.func4, Tryd.ntmps4
      go_wp2_with (go_at_call 10; refine Hid.out ?_)
      refine Lib.hid ?_
      have y0 := ext_alloc w (.cells #[.int .u8 k0, .int .i64 n0, .int .u64 f0, .string s0] 24)
      have HB0 := heap_alloc_new w (.cells #[.int .u8 k0, .int .i64 n0, .int .u64 f0, .string s0] 24)
      have hz0 : (w.alloc (.cells #[.int .u8 k0, .int .i64 n0, .int .u64 f0, .string s0] 24)).heap.size = w.heap.size + 1 := by rw [World.size_alloc]
      generalize w.alloc (.cells #[.int .u8 k0, .int .i64 n0, .int .u64 f0, .string s0] 24) = v0 at *
      have x0 := y0
      have y1 := ext_alloc v0 (.cells #[.int .u8 k1, .int .i64 n1, .int .u64 f1, .string s1] 24)
      have HB1 := heap_alloc_new v0 (.cells #[.int .u8 k1, .int .i64 n1, .int .u64 f1, .string s1] 24)
      have hz1 : (v0.alloc (.cells #[.int .u8 k1, .int .i64 n1, .int .u64 f1, .string s1] 24)).heap.size = w.heap.size + 2 := by rw [World.size_alloc, hz0]
      rw [hz0] at HB1
      generalize v0.alloc (.cells #[.int .u8 k1, .int .i64 n1, .int .u64 f1, .string s1] 24) = v1 at *
      have HB0 := (y1.block w.heap.size (by rw [hz0]; omega)).trans HB0
      have x1 := ext_trans x0 y1
      have HB0 := Lib.hid HB0
      have HB1 := Lib.hid HB1
      clear y0 y1
      refine (known3_any v1 (Utf8Tabs_below hT x1)).mono ?_
      rintro e w1 ⟨rfl, y⟩
      go_wp2_with (fail)
      go_ret
      exact ⟨rfl, ext_trans x1 y⟩
    · have g1z : ¬ ((1000 : Int) < (s1.size : Int)) := by omega
      obtain ⟨p, hp⟩ : ∃ X, lessV ⟨k0, n0, f0, s0⟩ ⟨k1, n1, f1, s1⟩ = X := ⟨_, rfl⟩
      obtain ⟨q, hq⟩ : ∃ X, lessV ⟨k1, n1, f1, s1⟩ ⟨k0, n0, f0, s0⟩ = X := ⟨_, rfl⟩
      have hp' : lessR ⟨k0, n0, f0, s0⟩ ⟨k1, n1, f1, s1⟩ = p := by rw [← less_eq o0 o1]; exact hp
      have hq' : lessR ⟨k1, n1, f1, s1⟩ ⟨k0, n0, f0, s0⟩ = q := by rw [← less_eq o1 o0]; exact hq
      have HP := Lib.hid hp
      have HQ := Lib.hid hq
      have HP' := Lib.hid hp'
      have HQ' := Lib.hid hq'
      have hs0 : s0.size ≤ 100000000 := by omega
      have hs1 : s1.size ≤ 100000000 := by omega
      clear hp hq hp' hq'
      go_enter Tryd.func4, Tryd.ntmps4
      go_wp2_with (fail)
      have y0 := ext_alloc w (.cells #[.int .u8 k0, .int .i64 n0, .int .u64 f0, .string s0] 24)
      have HB0 := heap_alloc_new w (.cells #[.int .u8 k0, .int .i64 n0, .int .u64 f0, .string s0] 24)
      have hz0 : (w.alloc (.cells #[.int .u8 k0, .int .i64 n0, .int .u64 f0, .string s0] 24)).heap.size = w.heap.size + 1 := by rw [World.size_alloc]
      generalize w.alloc (.cells #[.int .u8 k0, .int .i64 n0, .int .u64 f0, .string s0] 24) = v0 at *
      have x0 := y0
      have y1 := ext_alloc v0 (.cells #[.int .u8 k1, .int .i64 n1, .int .u64 f1, .string s1] 24)
      have HB1 := heap_alloc_new v0 (.cells #[.int .u8 k1, .int .i64 n1, .int .u64 f1, .string s1] 24)
      have hz1 : (v0.alloc (.cells #[.int .u8 k1, .int .i64 n1, .int .u64 f1, .string s1] 24)).heap.size = w.heap.size + 2 := by rw [World.size_alloc, hz0]
      rw [hz0] at HB1
      generalize v0.alloc (.cells #[.int .u8 k1, .int .i64 n1, .int .u64 f1, .string s1] 24) = v1 at *
      have HB0 := (y1.block w.heap.size (by rw [hz0]; omega)).trans HB0
      have x1 := ext_trans x0 y1
      have HB0 := Lib.hid HB0
      have HB1 := Lib.hid HB1
      clear y0 y1
      obtain ⟨a0, a1, a2, a3⟩ := box_v HB0.out
      obtain ⟨b0, b1, b2, b3⟩ := box_v HB1.out
      have xx := x1
      clear x0 x1
      go_region_held3 (fun w' => w'.cell? ⟨w.heap.size, 0, none⟩ = some (.int .u8 k0) ∧ w'.cell? ⟨w.heap.size, 1, none⟩ = some (.int .i64 n0) ∧ w'.cell? ⟨w.heap.size, 2, none⟩ = some (.int .u64 f0) ∧ w'.cell? ⟨w.heap.size, 3, none⟩ = some (.string s0) ∧ w'.cell? ⟨w.heap.size + 1, 0, none⟩ = some (.int .u8 k1) ∧ w'.cell? ⟨w.heap.size + 1, 1, none⟩ = some (.int .i64 n1) ∧ w'.cell? ⟨w.heap.size + 1, 2, none⟩ = some (.int .u64 f1) ∧ w'.cell? ⟨w.heap.size + 1, 3, none⟩ = some (.string s1))
        (go_keep) (first
          | (go_at_call 22; ((with_reducible refine (lessV_any k0 n0 f0 k1 n1 f1 s0 s1 _ o0 o1 ?_).mono ?_); (exact tabs_at hT xx rfl); rintro e w1 ⟨rfl, y⟩; rw [HP.out]; have xx := below_at xx y rfl rfl rfl rfl; obtain ⟨hb0, hb1⟩ := kept2 HB0.out HB1.out y rfl; obtain ⟨c00, c01, c02, c03⟩ := box_v hb0; obtain ⟨c10, c11, c12, c13⟩ := box_v hb1; have HB0 := Lib.hid hb0; have HB1 := Lib.hid hb1; clear hb0 hb1 y))
          | (go_at_call 23; ((with_reducible refine (refLessV_any k0 n0 f0 k1 n1 f1 s0 s1 _ o0 o1 hs0 hs1 ?_).mono ?_); (exact tabs_at hT xx rfl); rintro e w1 ⟨rfl, y⟩; rw [HP'.out]; have xx := below_at xx y rfl rfl rfl rfl; obtain ⟨hb0, hb1⟩ := kept2 HB0.out HB1.out y rfl; obtain ⟨c00, c01, c02, c03⟩ := box_v hb0; obtain ⟨c10, c11, c12, c13⟩ := box_v hb1; have HB0 := Lib.hid hb0; have HB1 := Lib.hid hb1; clear hb0 hb1 y))
          | (go_at_call 22; ((with_reducible refine (lessV_any k1 n1 f1 k0 n0 f0 s1 s0 _ o1 o0 ?_).mono ?_); (exact tabs_at hT xx rfl); rintro e w1 ⟨rfl, y⟩; rw [HQ.out]; have xx := below_at xx y rfl rfl rfl rfl; obtain ⟨hb0, hb1⟩ := kept2 HB0.out HB1.out y rfl; obtain ⟨c00, c01, c02, c03⟩ := box_v hb0; obtain ⟨c10, c11, c12, c13⟩ := box_v hb1; have HB0 := Lib.hid hb0; have HB1 := Lib.hid hb1; clear hb0 hb1 y))
          | (go_at_call 23; ((with_reducible refine (refLessV_any k1 n1 f1 k0 n0 f0 s1 s0 _ o1 o0 hs1 hs0 ?_).mono ?_); (exact tabs_at hT xx rfl); rintro e w1 ⟨rfl, y⟩; rw [HQ'.out]; have xx := below_at xx y rfl rfl rfl rfl; obtain ⟨hb0, hb1⟩ := kept2 HB0.out HB1.out y rfl; obtain ⟨c00, c01, c02, c03⟩ := box_v hb0; obtain ⟨c10, c11, c12, c13⟩ := box_v hb1; have HB0 := Lib.hid hb0; have HB1 := Lib.hid hb1; clear hb0 hb1 y))
          | (go_at_call 10; ((with_reducible refine (known3_any _ ?_).mono ?_); (exact tabs_at hT xx rfl); rintro e w1 ⟨rfl, y⟩; have xx := below_at xx y rfl rfl rfl rfl; obtain ⟨hb0, hb1⟩ := kept2 HB0.out HB1.out y rfl; obtain ⟨c00, c01, c02, c03⟩ := box_v hb0; obtain ⟨c10, c11, c12, c13⟩ := box_v hb1; have HB0 := Lib.hid hb0; have HB1 := Lib.hid hb1; clear hb0 hb1 y)))
      all_goals go_wp2_with (fail)
      all_goals go_ret
      all_goals exact ⟨rfl, by first | exact xx | exact below_draws xx⟩
end Go.Proofs.YtclfplpggmefjaaDoor
