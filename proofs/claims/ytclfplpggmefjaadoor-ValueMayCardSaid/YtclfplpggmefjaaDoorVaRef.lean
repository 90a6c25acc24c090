/- The walks of rubricref03.none and May. -/
import Derived.Test.YtclfplpggmefjaaDoorVaMay
namespace Go.Proofs.YtclfplpggmefjaaDoor
open Go.RowKit
set_option linter.unusedVariables false
set_option linter.unusedSimpArgs false

theorem none_any (f : Int) (w : World) (hf0 : 0 ≤ f) (hf1 : f < 18446744073709551616) : Calls Tryd.prog 49 #[.int .u64 f] w fun e w' => e = .returned (.bool (nanF f)) ∧ w = w' := by
  cases hN : nanF f with
  | true =>
    have h := of_decide_eq_true hN
    have h' : decide (9218868437227405312 < f % 9223372036854775808) = true := hN
    clear hN
    go_enter Tryd.func49, Tryd.ntmps49
    go_wp2_with (fail)
    go_ret
    exact ⟨rfl, rfl⟩
  | false =>
    have h := of_decide_eq_false hN
    have h' : decide (9218868437227405312 < f % 9223372036854775808) = false := hN
    clear hN
    go_enter Tryd.func49, Tryd.ntmps49
    go_wp2_with (fail)
    go_ret
    exact ⟨rfl, rfl⟩

theorem mayV_1 (n f : Int) (s : ByteArray) : mayV ⟨1, n, f, s⟩ = (beqV ⟨1, n, f, s⟩ ⟨1, n, 0, ⟨#[]⟩⟩ && ((n == 0) || (n == 1))) := by
  show beqV ⟨1, n, f, s⟩ (flagV (decide (n = 1))) = _
  unfold beqV flagV
  by_cases h : n = 1
  · subst h; simp
  · by_cases h0 : n = 0
    · subst h0; simp
    · simp [h, h0]
theorem mayV_3 (n f : Int) (s : ByteArray) : mayV ⟨3, n, f, s⟩ = (beqV ⟨3, n, f, s⟩ ⟨3, 0, f, ⟨#[]⟩⟩ && (!(nanF f) || (f == 9221120237041090560))) := by
  show beqV ⟨3, n, f, s⟩ (floatV f) = _
  unfold beqV floatV
  cases h : nanF f with
  | true =>
    by_cases h0 : f = 9221120237041090560
    · rw [if_pos rfl, h0]; simp
    · rw [if_pos rfl]; simp [h0]
  | false => simp

set_option maxHeartbeats 1600000 in
theorem refMayV_any (k n f : Int) (s : ByteArray) (w : World) (hf0 : 0 ≤ f) (hf1 : f < 18446744073709551616) (hs : s.size ≤ 100000000) (hT : Lib.Utf8Tabs 1 2 w) :
    Calls Tryd.prog 12 #[.agg #[.int .u8 k, .int .i64 n, .int .u64 f, .string s]] w (MayOut ⟨k, n, f, s⟩ w) := by
  obtain ⟨R, hR⟩ : ∃ X, mayV ⟨k, n, f, s⟩ = X := ⟨_, rfl⟩
  unfold MayOut
  rw [hR]
  have y1 : Below w.heap.size w (w.alloc (.cells #[.int .u8 k, .int .i64 n, .int .u64 f, .string s] 24)) := ext_alloc w _
  have HBX := Lib.hid (heap_alloc_new w (.cells #[.int .u8 k, .int .i64 n, .int .u64 f, .string s] 24))
  by_cases h1 : k = 1
  · subst h1
    rw [mayV_1] at hR
    obtain ⟨q, hq⟩ : ∃ X, beqV ⟨1, n, f, s⟩ ⟨1, n, 0, ⟨#[]⟩⟩ = X := ⟨_, rfl⟩
    rw [hq] at hR
    obtain ⟨z, hz⟩ : ∃ X, (n == 0) = X := ⟨_, rfl⟩
    obtain ⟨o, ho⟩ : ∃ X, (n == 1) = X := ⟨_, rfl⟩
    rw [hz, ho] at hR
    subst hR
    cases q <;> cases z <;> cases o
    all_goals
      go_enter Tryd.func12, Tryd.ntmps12
      go_wp2_with (fail)
      go_ret
      exact ⟨rfl, y1⟩
  · by_cases h2 : k = 2
    · subst h2
      rw [show mayV ⟨2, n, f, s⟩ = beqV ⟨2, n, f, s⟩ ⟨2, n, 0, ⟨#[]⟩⟩ from rfl] at hR
      have HR := Lib.hid hR
      clear hR h1
      go_enter Tryd.func12, Tryd.ntmps12
      go_wp2_with (fail)
      go_ret
      exact ⟨ret_boolV HR.out, y1⟩
    · by_cases h3 : k = 3
      · subst h3
        rw [mayV_3] at hR
        obtain ⟨q, hq⟩ : ∃ X, beqV ⟨3, n, f, s⟩ ⟨3, 0, f, ⟨#[]⟩⟩ = X := ⟨_, rfl⟩
        rw [hq] at hR
        obtain ⟨z, hz⟩ : ∃ X, nanF f = X := ⟨_, rfl⟩
        obtain ⟨o, ho⟩ : ∃ X, (f == 9221120237041090560) = X := ⟨_, rfl⟩
        rw [hz, ho] at hR
        subst hR
        have HZ := Lib.hid hz
        clear hz h1 h2
        cases q <;> cases z <;> cases o
        all_goals
          go_enter Tryd.func12, Tryd.ntmps12
          go_wp2_with (go_at_call 49; refine (none_any f _ hf0 hf1).mono ?_; rintro e w1 ⟨rfl, rfl⟩; rw [HZ.out])
          go_ret
          exact ⟨rfl, y1⟩
      · by_cases h4 : k = 4
        · subst h4
          rw [show mayV ⟨4, n, f, s⟩ = (decide (s.size ≤ 64 ∧ textOk s = true) && beqV ⟨4, n, f, s⟩ ⟨4, 0, 0, s⟩) from rfl] at hR
          have hcv := conv_bytes s
          go_enter Tryd.func12, Tryd.ntmps12
          go_wp2_with (go_at_call 50; refine Hid.out ?_)
          clear hcv
          refine Lib.hid ?_
          have hsz : (w.alloc (.cells #[.int .u8 4, .int .i64 n, .int .u64 f, .string s] 24)).heap.size = w.heap.size + 1 := by simp
          generalize w.alloc (.cells #[.int .u8 4, .int .i64 n, .int .u64 f, .string s] 24) = w1 at *
          have hbw := bytes_below s w1
          have r2 := bytes_rd s w1
          rw [hsz] at r2
          have hcap := grownCap_ge w1 s.size 0 5
          generalize grownCap w1 s.size 0 5 = c at *
          have x2 := ext_trans y1 hbw
          have hlt : w.heap.size < w1.heap.size := (Array.getElem?_eq_some_iff.1 HBX.out).1
          have HB2 := Lib.hid ((hbw.block w.heap.size hlt).trans HBX.out)
          have hlt2 : w.heap.size < (Lib.bytesWorld w1 5 s).heap.size := by rw [Lib.bytesWorld_size]; omega
          generalize Lib.bytesWorld w1 5 s = w2 at *
          refine (refRead_any (some ⟨w.heap.size + 1, 0, none⟩) s.size c (strI s) w2 (strI_len s).symm hcap r2 (by omega) (intB_mem _)).mono ?_
          rintro e w3 ⟨v, rfl, _, y3⟩
          obtain ⟨b0, b1, b2, b3⟩ := box_v ((y3.block w.heap.size hlt2).trans HB2.out)
          have x3 := ext_trans x2 y3
          obtain ⟨q, hq⟩ : ∃ X, beqV ⟨4, n, f, s⟩ ⟨4, 0, 0, s⟩ = X := ⟨_, rfl⟩
          rw [hq] at hR
          rw [show (readR (strI s)).isSome = textOk s from rfl]
          clear hsz hbw r2 hcap x2 hlt hlt2 y3 y1 h1 h2 h3
          by_cases h64 : s.size ≤ 64
          · have hz : (s.size : Int) ≤ 64 := by omega
            cases ht : textOk s with
            | true =>
              rw [ht, decide_eq_true (⟨h64, rfl⟩ : s.size ≤ 64 ∧ true = true)] at hR
              simp only [Bool.true_and] at hR
              subst hR
              clear ht
              cases q
              all_goals
                go_wp2_with (fail)
                go_ret
                exact ⟨rfl, x3⟩
            | false =>
              rw [ht, decide_eq_false (fun h : s.size ≤ 64 ∧ false = true => by cases h.2)] at hR
              simp only [Bool.false_and] at hR
              subst hR
              clear ht
              cases q
              all_goals
                go_wp2_with (fail)
                go_ret
                exact ⟨rfl, x3⟩
          · have hz : ¬ ((s.size : Int) ≤ 64) := by omega
            rw [decide_eq_false (fun h : s.size ≤ 64 ∧ textOk s = true => h64 h.1)] at hR
            simp only [Bool.false_and] at hR
            subst hR
            generalize (if textOk s = true then (0 : Int) else 3) = E
            cases q
            all_goals
              go_wp2_with (fail)
              go_ret
              exact ⟨rfl, x3⟩
        · have e : mayV ⟨k, n, f, s⟩ = false := by unfold mayV; simp only; rw [if_neg h1, if_neg h2, if_neg h3, if_neg h4]
          rw [e] at hR
          subst hR
          clear e
          have z1 : (k == 1) = false := beq_eq_false_iff_ne.2 h1
          have z2 : (k == 2) = false := beq_eq_false_iff_ne.2 h2
          have z3 : (k == 3) = false := beq_eq_false_iff_ne.2 h3
          have z4 : (k == 4) = false := beq_eq_false_iff_ne.2 h4
          clear h1 h2 h3 h4
          go_enter Tryd.func12, Tryd.ntmps12
          go_wp2_with (fail)
          go_ret
          exact ⟨rfl, y1⟩
end Go.Proofs.YtclfplpggmefjaaDoor
