/- The walks of value.Less and rubricref03.Less. -/
import Derived.Test.YtclfplpggmefjaaDoorVaLess
namespace Go.Proofs.YtclfplpggmefjaaDoor
open Go.RowKit
set_option linter.unusedVariables false
set_option linter.unusedSimpArgs false

set_option maxHeartbeats 3200000 in
theorem lessV_any (k n f k' n' f' : Int) (s s' : ByteArray) (w : World) (hv : okV ⟨k, n, f, s⟩) (hv' : okV ⟨k', n', f', s'⟩) (hT : Lib.Utf8Tabs 1 2 w) :
    Calls Tryd.prog 22 #[.agg #[.int .u8 k, .int .i64 n, .int .u64 f, .string s], .agg #[.int .u8 k', .int .i64 n', .int .u64 f', .string s']] w (LessOut ⟨k, n, f, s⟩ ⟨k', n', f', s'⟩ w) := by
  have hf0 : 0 ≤ f := hv.f0
  have hf1 : f < 18446744073709551616 := hv.f1
  have hg0 : 0 ≤ f' := hv'.f0
  have hg1 : f' < 18446744073709551616 := hv'.f1
  obtain ⟨R, hR⟩ : ∃ X, lessV ⟨k, n, f, s⟩ ⟨k', n', f', s'⟩ = X := ⟨_, rfl⟩
  unfold LessOut
  rw [hR]
  have ya : Below w.heap.size w (w.alloc (.cells #[.int .u8 k, .int .i64 n, .int .u64 f, .string s] 24)) := ext_alloc w _
  have HBA := Lib.hid (heap_alloc_new w (.cells #[.int .u8 k, .int .i64 n, .int .u64 f, .string s] 24))
  have hza : (w.alloc (.cells #[.int .u8 k, .int .i64 n, .int .u64 f, .string s] 24)).heap.size = w.heap.size + 1 := by simp
  clear hv hv'
  go_enter Tryd.func22, Tryd.ntmps22
  go_wp2_with (go_at_call 16; refine Hid.out ?_)
  refine Lib.hid ?_
  generalize w.alloc (.cells #[.int .u8 k, .int .i64 n, .int .u64 f, .string s] 24) = w1 at *
  have yb : Below w1.heap.size w1 (w1.alloc (.cells #[.int .u8 k', .int .i64 n', .int .u64 f', .string s'] 24)) := ext_alloc w1 _
  have HBB := heap_alloc_new w1 (.cells #[.int .u8 k', .int .i64 n', .int .u64 f', .string s'] 24)
  rw [hza] at HBB
  have HBB := Lib.hid HBB
  have hzb : (w1.alloc (.cells #[.int .u8 k', .int .i64 n', .int .u64 f', .string s'] 24)).heap.size = w.heap.size + 2 := by rw [World.size_alloc, hza]
  have HBA := Lib.hid ((yb.block w.heap.size (by rw [hza]; omega)).trans HBA.out)
  have y1 := ext_trans ya yb
  generalize w1.alloc (.cells #[.int .u8 k', .int .i64 n', .int .u64 f', .string s'] 24) = w2 at *
  have HZ2 := Lib.hid hzb
  clear hza hzb ya yb
  refine (mayV_any k n f s w2 hf0 hf1 (Utf8Tabs_below hT y1)).mono ?_
  rintro e w3 ⟨rfl, y⟩
  have x3 := ext_trans y1 y
  have HA3 := (y.block w.heap.size (by rw [HZ2.out]; omega)).trans HBA.out
  have HB3 := (y.block (w.heap.size + 1) (by rw [HZ2.out]; omega)).trans HBB.out
  have hz3 : w.heap.size + 2 ≤ w3.heap.size := by have := y.size; rw [HZ2.out] at this; exact this
  obtain ⟨a0, a1, a2, a3⟩ := box_v HA3
  obtain ⟨b0, b1, b2, b3⟩ := box_v HB3
  have HA3 := Lib.hid HA3
  have HB3 := Lib.hid HB3
  clear y y1
  cases hma : mayV ⟨k, n, f, s⟩ with
  | false =>
    have e : R = false := by rw [← hR]; unfold lessV; rw [if_pos (by rw [hma]; rfl)]
    subst e
    clear hR hma
    go_wp2_with (fail)
    go_ret
    exact ⟨rfl, x3⟩
  | true =>
    go_wp2_with (go_at_call 16; refine Hid.out ?_)
    refine Lib.hid ?_
    refine (mayV_any k' n' f' s' w3 hg0 hg1 (Utf8Tabs_below hT x3)).mono ?_
    rintro e w4 ⟨rfl, y⟩
    have x4 := ext_trans x3 y
    clear a0 a1 a2 a3 b0 b1 b2 b3
    obtain ⟨a0, a1, a2, a3⟩ := box_v ((y.block w.heap.size (by omega)).trans HA3.out)
    obtain ⟨b0, b1, b2, b3⟩ := box_v ((y.block (w.heap.size + 1) (by omega)).trans HB3.out)
    clear y hz3 x3
    cases hmb : mayV ⟨k', n', f', s'⟩ with
    | false =>
      have e : R = false := by rw [← hR]; unfold lessV; rw [if_pos (by rw [hma, hmb]; rfl)]
      subst e
      clear hR hma hmb
      go_wp2_with (fail)
      go_ret
      exact ⟨rfl, x4⟩
    | true =>
      have hR2 := hR
      unfold lessV at hR2
      rw [if_neg (by rw [hma, hmb]; simp)] at hR2
      simp only at hR2
      clear hR hma hmb
      by_cases hk : k = k'
      · subst hk
        rw [if_neg (by simp)] at hR2
        by_cases h4 : k = 4
        · subst h4
          rw [if_pos rfl] at hR2
          have HR := Lib.hid hR2
          clear hR2
          go_wp2_with (fail)
          go_ret
          exact ⟨ret_boolV HR.out, x4⟩
        · have z4 : (k == 4) = false := beq_eq_false_iff_ne.2 h4
          rw [if_neg h4] at hR2
          by_cases h3 : k = 3
          · subst h3
            rw [if_neg (by simp)] at hR2
            clear h4
            obtain ⟨x, hx⟩ : ∃ X, f.toNat = X := ⟨_, rfl⟩
            obtain ⟨y, hy⟩ : ∃ X, f'.toNat = X := ⟨_, rfl⟩
            rw [hx, hy] at hR2
            have hxl : x < 18446744073709551616 := by omega
            have hyl : y < 18446744073709551616 := by omega
            have hfx : f = (x : Int) := by omega
            have hfy : f' = (y : Int) := by omega
            subst hfx
            subst hfy
            clear hx hy hf0 hf1 hg0 hg1
            unfold lessF at hR2
            cases nx : isNanF x with
            | true =>
              rw [if_pos nx] at hR2
              subst hR2
              have NX := Lib.hid nx
              clear nx
              go_wp2_with (first
                | (go_at_call 51; refine (isNaN_any x _).mono ?_; rintro e w5 ⟨rfl, rfl⟩; rw [NX.out])
                | go_quiet (fail))
              go_ret
              exact ⟨rfl, by first | exact x4 | exact below_draws x4⟩
            | false =>
              rw [if_neg (by rw [nx]; simp)] at hR2
              have NX := Lib.hid nx
              clear nx
              cases ny : isNanF y with
              | true =>
                rw [if_pos ny] at hR2
                subst hR2
                have NY := Lib.hid ny
                clear ny
                go_wp2_with (first
                  | (go_at_call 51; ((with_reducible refine (isNaN_any x _).mono ?_); rintro e w5 ⟨rfl, rfl⟩; rw [NX.out]))
                  | (go_at_call 51; ((with_reducible refine (isNaN_any y _).mono ?_); rintro e w5 ⟨rfl, rfl⟩; rw [NY.out]))
                  | go_quiet (fail))
                go_ret
                exact ⟨rfl, by first | exact x4 | exact below_draws x4⟩
              | false =>
                rw [if_neg (by rw [ny]; simp)] at hR2
                have NY := Lib.hid ny
                clear ny
                obtain ⟨D, hD⟩ : ∃ X, (FloatKind.f64.format.order x y != some Ordering.eq) = X := ⟨_, rfl⟩
                obtain ⟨Q, hQ⟩ : ∃ X, (FloatKind.f64.format.order x y == some Ordering.lt) = X := ⟨_, rfl⟩
                have hD2 : (Ieee.double.order x y != some Ordering.eq) = D := hD
                have hQ2 : (Ieee.double.order x y == some Ordering.lt) = Q := hQ
                rw [hD2, hQ2] at hR2
                cases D with
                | true =>
                  rw [if_pos rfl] at hR2
                  subst hR2
                  go_wp2_with (first
                    | (go_at_call 51; ((with_reducible refine (isNaN_any x _).mono ?_); rintro e w5 ⟨rfl, rfl⟩; rw [NX.out]))
                    | (go_at_call 51; ((with_reducible refine (isNaN_any y _).mono ?_); rintro e w5 ⟨rfl, rfl⟩; rw [NY.out]))
                    | go_quiet (fail))
                  go_ret
                  exact ⟨rfl, by first | exact x4 | exact below_draws x4⟩
                | false =>
                  rw [if_neg (by simp)] at hR2
                  obtain ⟨sx, hsx⟩ : ∃ X, signB x = X := ⟨_, rfl⟩
                  obtain ⟨sy, hsy⟩ : ∃ X, signB y = X := ⟨_, rfl⟩
                  rw [hsx, hsy] at hR2
                  subst hR2
                  have SX := Lib.hid hsx
                  have SY := Lib.hid hsy
                  clear hsx hsy
                  cases sx <;> cases sy
                  all_goals
                    go_wp2_with (first
                      | (go_at_call 51; ((with_reducible refine (isNaN_any x _).mono ?_); rintro e w5 ⟨rfl, rfl⟩; rw [NX.out]))
                      | (go_at_call 51; ((with_reducible refine (isNaN_any y _).mono ?_); rintro e w5 ⟨rfl, rfl⟩; rw [NY.out]))
                      | (go_at_call 52; ((with_reducible refine (signbit_any x _ hxl).mono ?_); rintro e w5 ⟨rfl, rfl⟩; rw [SX.out]))
                      | (go_at_call 52; ((with_reducible refine (signbit_any y _ hyl).mono ?_); rintro e w5 ⟨rfl, rfl⟩; rw [SY.out]))
                      | go_quiet (fail))
                    go_ret
                    exact ⟨rfl, by first | exact x4 | exact below_draws x4⟩
          · have z3 : (k == 3) = false := beq_eq_false_iff_ne.2 h3
            have z3' : (k != 3) = true := by rw [bne, z3]; rfl
            rw [if_pos (by simpa using h3)] at hR2
            have HR := Lib.hid hR2
            clear hR2 h3 h4
            go_wp2_with (fail)
            go_ret
            exact ⟨ret_boolV HR.out, x4⟩
      · have hkb : (k == k') = false := beq_eq_false_iff_ne.2 hk
        have hkb2 : (k != k') = true := by rw [bne, hkb]; rfl
        rw [if_pos (by simpa using hk)] at hR2
        subst hR2
        clear hk
        go_wp2_with (fail)
        go_ret
        exact ⟨rfl, x4⟩

theorem rank_quiet (f : Int) (w : World) (hf0 : 0 ≤ f) (hf1 : f < 18446744073709551616) {r : Int} (hr : rankF f = r) : Calls Tryd.prog 53 #[.int .u64 f] w fun e w' => e = .returned (.int .u64 r) ∧ ∃ n, w' = w.drewN n :=
  (rank_any f w hf0 hf1).mono fun _ _ ⟨h1, h2⟩ => ⟨by rw [h1, hr], 0, h2.symm⟩

set_option maxHeartbeats 3200000 in
theorem refLessV_any (k n f k' n' f' : Int) (s s' : ByteArray) (w : World) (hv : okV ⟨k, n, f, s⟩) (hv' : okV ⟨k', n', f', s'⟩) (hs : s.size ≤ 100000000) (hs' : s'.size ≤ 100000000) (hT : Lib.Utf8Tabs 1 2 w) :
    Calls Tryd.prog 23 #[.agg #[.int .u8 k, .int .i64 n, .int .u64 f, .string s], .agg #[.int .u8 k', .int .i64 n', .int .u64 f', .string s']] w (LessOutR ⟨k, n, f, s⟩ ⟨k', n', f', s'⟩ w) := by
  have hf0 : 0 ≤ f := hv.f0
  have hf1 : f < 18446744073709551616 := hv.f1
  have hg0 : 0 ≤ f' := hv'.f0
  have hg1 : f' < 18446744073709551616 := hv'.f1
  obtain ⟨R, hR⟩ : ∃ X, lessR ⟨k, n, f, s⟩ ⟨k', n', f', s'⟩ = X := ⟨_, rfl⟩
  unfold LessOutR
  rw [hR]
  have ya : Below w.heap.size w (w.alloc (.cells #[.int .u8 k, .int .i64 n, .int .u64 f, .string s] 24)) := ext_alloc w _
  have HBA := Lib.hid (heap_alloc_new w (.cells #[.int .u8 k, .int .i64 n, .int .u64 f, .string s] 24))
  have hza : (w.alloc (.cells #[.int .u8 k, .int .i64 n, .int .u64 f, .string s] 24)).heap.size = w.heap.size + 1 := by simp
  clear hv hv'
  go_enter Tryd.func23, Tryd.ntmps23
  go_wp2_with (go_at_call 12; refine Hid.out ?_)
  refine Lib.hid ?_
  generalize w.alloc (.cells #[.int .u8 k, .int .i64 n, .int .u64 f, .string s] 24) = w1 at *
  have yb : Below w1.heap.size w1 (w1.alloc (.cells #[.int .u8 k', .int .i64 n', .int .u64 f', .string s'] 24)) := ext_alloc w1 _
  have HBB := heap_alloc_new w1 (.cells #[.int .u8 k', .int .i64 n', .int .u64 f', .string s'] 24)
  rw [hza] at HBB
  have HBB := Lib.hid HBB
  have hzb : (w1.alloc (.cells #[.int .u8 k', .int .i64 n', .int .u64 f', .string s'] 24)).heap.size = w.heap.size + 2 := by rw [World.size_alloc, hza]
  have HBA := Lib.hid ((yb.block w.heap.size (by rw [hza]; omega)).trans HBA.out)
  have y1 := ext_trans ya yb
  generalize w1.alloc (.cells #[.int .u8 k', .int .i64 n', .int .u64 f', .string s'] 24) = w2 at *
  have HZ2 := Lib.hid hzb
  clear hza hzb ya yb
  refine (refMayV_any k n f s w2 hf0 hf1 hs (Utf8Tabs_below hT y1)).mono ?_
  rintro e w3 ⟨rfl, y⟩
  have x3 := ext_trans y1 y
  have HA3 := (y.block w.heap.size (by rw [HZ2.out]; omega)).trans HBA.out
  have HB3 := (y.block (w.heap.size + 1) (by rw [HZ2.out]; omega)).trans HBB.out
  have hz3 : w.heap.size + 2 ≤ w3.heap.size := by have := y.size; rw [HZ2.out] at this; exact this
  obtain ⟨a0, a1, a2, a3⟩ := box_v HA3
  obtain ⟨b0, b1, b2, b3⟩ := box_v HB3
  have HA3 := Lib.hid HA3
  have HB3 := Lib.hid HB3
  clear y y1
  cases hma : mayV ⟨k, n, f, s⟩ with
  | false =>
    have e : R = false := by rw [← hR]; unfold lessR; rw [if_pos (by rw [hma]; rfl)]
    subst e
    clear hR hma
    go_wp2_with (fail)
    go_ret
    exact ⟨rfl, x3⟩
  | true =>
    go_wp2_with (go_at_call 12; refine Hid.out ?_)
    refine Lib.hid ?_
    refine (refMayV_any k' n' f' s' w3 hg0 hg1 hs' (Utf8Tabs_below hT x3)).mono ?_
    rintro e w4 ⟨rfl, y⟩
    have x4 := ext_trans x3 y
    clear a0 a1 a2 a3 b0 b1 b2 b3
    obtain ⟨a0, a1, a2, a3⟩ := box_v ((y.block w.heap.size (by omega)).trans HA3.out)
    obtain ⟨b0, b1, b2, b3⟩ := box_v ((y.block (w.heap.size + 1) (by omega)).trans HB3.out)
    clear y hz3 x3
    cases hmb : mayV ⟨k', n', f', s'⟩ with
    | false =>
      have e : R = false := by rw [← hR]; unfold lessR; rw [if_pos (by rw [hma, hmb]; rfl)]
      subst e
      clear hR hma hmb
      go_wp2_with (fail)
      go_ret
      exact ⟨rfl, x4⟩
    | true =>
      have hR2 := hR
      unfold lessR at hR2
      rw [if_neg (by rw [hma, hmb]; simp)] at hR2
      simp only at hR2
      clear hR hma hmb
      by_cases hk : k = k'
      · subst hk
        rw [if_neg (by simp)] at hR2
        by_cases h3 : k = 3
        · subst h3
          rw [if_pos rfl] at hR2
          obtain ⟨ra, hra⟩ : ∃ X, rankF f = X := ⟨_, rfl⟩
          obtain ⟨rb, hrb⟩ : ∃ X, rankF f' = X := ⟨_, rfl⟩
          rw [hra, hrb] at hR2
          have RA := Lib.hid hra
          have RB := Lib.hid hrb
          have HR := Lib.hid hR2
          clear hR2 hra hrb
          go_wp2_with (fail)
          go_quiet (first
            | (go_at_call 53; (with_reducible first | refine calls_more (rank_quiet f _ hf0 hf1 RA.out) | refine Calls.quiet_of (rank_quiet f _ hf0 hf1 RA.out)))
            | (go_at_call 53; (with_reducible first | refine calls_more (rank_quiet f' _ hg0 hg1 RB.out) | refine Calls.quiet_of (rank_quiet f' _ hg0 hg1 RB.out))))
          go_wp2_with (fail)
          go_ret
          exact ⟨ret_boolV HR.out, by first | exact x4 | exact below_draws x4⟩
        · have z3 : (k == 3) = false := beq_eq_false_iff_ne.2 h3
          rw [if_neg h3] at hR2
          by_cases h4 : k = 4
          · subst h4
            rw [if_pos rfl] at hR2
            have HR := Lib.hid hR2
            clear hR2 h3
            go_wp2_with (fail)
            go_ret
            exact ⟨ret_boolV HR.out, x4⟩
          · have z4 : (k == 4) = false := beq_eq_false_iff_ne.2 h4
            rw [if_neg h4] at hR2
            have HR := Lib.hid hR2
            clear hR2 h3 h4
            go_wp2_with (fail)
            go_ret
            exact ⟨ret_boolV HR.out, x4⟩
      · have hkb : (k == k') = false := beq_eq_false_iff_ne.2 hk
        have hkb2 : (k != k') = true := by rw [bne, hkb]; rfl
        rw [if_pos (by simpa using hk)] at hR2
        subst hR2
        clear hk
        go_wp2_with (fail)
        go_ret
        exact ⟨rfl, x4⟩
end Go.Proofs.YtclfplpggmefjaaDoor
