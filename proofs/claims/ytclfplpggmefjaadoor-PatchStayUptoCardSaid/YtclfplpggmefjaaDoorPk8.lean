/- Merged texts: VaMay, VaRef, VaLess, VaLess2. -/
import Derived.Test.YtclfplpggmefjaaDoorPk7
import Derived.Deep.RegionHeld3
import Derived.Laws.Cover2
/- The walk of value.May. -/
namespace Go.Proofs.YtclfplpggmefjaaDoor
open Go.RowKit
set_option linter.unusedVariables false
set_option linter.unusedSimpArgs false

/-- may a value be? -/
def mayV (v : V) : Bool :=
  if v.k = 1 then beqV v (flagV (decide (v.n = 1)))
  else if v.k = 2 then beqV v (intV v.n)
  else if v.k = 3 then beqV v (floatV v.f)
  else if v.k = 4 then (decide (v.s.size ≤ 64 ∧ textOk v.s = true) && beqV v (textV v.s))
  else false

def MayOut (v : V) (w : World) (e : Ending) (w' : World) : Prop := e = .returned (.bool (mayV v)) ∧ Below w.heap.size w w'

set_option maxHeartbeats 1600000 in
theorem mayV_any (k n f : Int) (s : ByteArray) (w : World) (hf0 : 0 ≤ f) (hf1 : f < 18446744073709551616) (hT : Lib.Utf8Tabs 1 2 w) :
    Calls Tryd.prog 16 #[.agg #[.int .u8 k, .int .i64 n, .int .u64 f, .string s]] w (MayOut ⟨k, n, f, s⟩ w) := by
  obtain ⟨R, hR⟩ : ∃ X, mayV ⟨k, n, f, s⟩ = X := ⟨_, rfl⟩
  unfold MayOut
  rw [hR]
  have y1 : Below w.heap.size w (w.alloc (.cells #[.int .u8 k, .int .i64 n, .int .u64 f, .string s] 24)) := ext_alloc w _
  have HBX := Lib.hid (heap_alloc_new w (.cells #[.int .u8 k, .int .i64 n, .int .u64 f, .string s] 24))
  have hlt : w.heap.size < (w.alloc (.cells #[.int .u8 k, .int .i64 n, .int .u64 f, .string s] 24)).heap.size := by simp
  by_cases h1 : k = 1
  · subst h1
    obtain ⟨b, hb⟩ : ∃ X : Bool, (n == 1) = X := ⟨_, rfl⟩
    have hd : decide (n = 1) = b := by rw [← hb]; rfl
    have hb2 := hb
    rw [show mayV ⟨1, n, f, s⟩ = beqV ⟨1, n, f, s⟩ ⟨1, if decide (n = 1) = true then 1 else 0, 0, ⟨#[]⟩⟩ from rfl, hd] at hR
    obtain ⟨m, hm⟩ : ∃ X : Int, (if b = true then (1 : Int) else 0) = X := ⟨_, rfl⟩
    rw [hm] at hR
    have HM := Lib.hid hm
    have HR := Lib.hid hR
    clear hR hd hm hb2
    go_enter Tryd.func16, Tryd.ntmps16
    go_wp2_with (fail)
    generalize w.alloc (.cells #[.int .u8 1, .int .i64 n, .int .u64 f, .string s] 24) = w1 at *
    obtain ⟨b0, b1, b2, b3⟩ := box_v HBX.out
    go_region_held3 (fun w' => w'.cell? ⟨w.heap.size, 0, none⟩ = some (.int .u8 1) ∧ w'.cell? ⟨w.heap.size, 1, none⟩ = some (.int .i64 n) ∧ w'.cell? ⟨w.heap.size, 2, none⟩ = some (.int .u64 f) ∧ w'.cell? ⟨w.heap.size, 3, none⟩ = some (.string s))
      (go_keep) ((go_at_call 17; refine (flag_any b _).mono ?_; rw [HM.out]; rintro e w2 ⟨rfl, y⟩; have x2 : Below w.heap.size w w2 := ext_trans y1 (show Below w1.heap.size w1 w2 from ⟨y.os, y.tape, y.output, y.size, y.block⟩); obtain ⟨f0, f1, f2, f3⟩ := box_v ((y.block w.heap.size hlt).trans HBX.out); clear y))
    all_goals go_wp2_with (fail)
    all_goals go_ret
    all_goals exact ⟨ret_boolV HR.out, by first | exact x2 | exact below_draws x2⟩
  · by_cases h2 : k = 2
    · subst h2
      rw [show mayV ⟨2, n, f, s⟩ = beqV ⟨2, n, f, s⟩ ⟨2, n, 0, ⟨#[]⟩⟩ from rfl] at hR
      have HR := Lib.hid hR
      clear hR h1
      go_enter Tryd.func16, Tryd.ntmps16
      go_wp2_with (fail)
      generalize w.alloc (.cells #[.int .u8 2, .int .i64 n, .int .u64 f, .string s] 24) = w1 at *
      obtain ⟨b0, b1, b2, b3⟩ := box_v HBX.out
      go_region_held3 (fun w' => w'.cell? ⟨w.heap.size, 0, none⟩ = some (.int .u8 2) ∧ w'.cell? ⟨w.heap.size, 1, none⟩ = some (.int .i64 n) ∧ w'.cell? ⟨w.heap.size, 2, none⟩ = some (.int .u64 f) ∧ w'.cell? ⟨w.heap.size, 3, none⟩ = some (.string s))
        (go_keep) ((go_at_call 18; refine (int_any n _).mono ?_; rintro e w2 ⟨rfl, y⟩; have x2 : Below w.heap.size w w2 := ext_trans y1 (show Below w1.heap.size w1 w2 from ⟨y.os, y.tape, y.output, y.size, y.block⟩); obtain ⟨f0, f1, f2, f3⟩ := box_v ((y.block w.heap.size hlt).trans HBX.out); clear y))
      all_goals go_wp2_with (fail)
      all_goals go_ret
      all_goals exact ⟨ret_boolV HR.out, by first | exact x2 | exact below_draws x2⟩
    · by_cases h3 : k = 3
      · subst h3
        obtain ⟨F, hF⟩ : ∃ X, (floatV f).f = X := ⟨_, rfl⟩
        rw [show mayV ⟨3, n, f, s⟩ = beqV ⟨3, n, f, s⟩ ⟨3, 0, (floatV f).f, ⟨#[]⟩⟩ from rfl, hF] at hR
        have HR := Lib.hid hR
        have HF := Lib.hid hF
        have hn := Int.toNat_of_nonneg hf0
        have HN := Lib.hid hn
        have hfl : f.toNat < 18446744073709551616 := by omega
        clear hR h1 h2 hF hn
        go_enter Tryd.func16, Tryd.ntmps16
        go_wp2_with (fail)
        generalize w.alloc (.cells #[.int .u8 3, .int .i64 n, .int .u64 f, .string s] 24) = w1 at *
        obtain ⟨b0, b1, b2, b3⟩ := box_v HBX.out
        go_region_held3 (fun w' => w'.cell? ⟨w.heap.size, 0, none⟩ = some (.int .u8 3) ∧ w'.cell? ⟨w.heap.size, 1, none⟩ = some (.int .i64 n) ∧ w'.cell? ⟨w.heap.size, 2, none⟩ = some (.int .u64 f) ∧ w'.cell? ⟨w.heap.size, 3, none⟩ = some (.string s))
          (go_keep) ((go_at_call 19; refine (float_any f.toNat _ hfl).mono ?_; rw [HN.out, HF.out]; rintro e w2 ⟨rfl, y⟩; have x2 : Below w.heap.size w w2 := ext_trans y1 (show Below w1.heap.size w1 w2 from ⟨y.os, y.tape, y.output, y.size, y.block⟩); obtain ⟨f0, f1, f2, f3⟩ := box_v ((y.block w.heap.size hlt).trans HBX.out); clear y))
        all_goals go_wp2_with (fail)
        all_goals go_ret
        all_goals exact ⟨ret_boolV HR.out, by first | exact x2 | exact below_draws x2⟩
      · by_cases h4 : k = 4
        · subst h4
          obtain ⟨O, hO⟩ : ∃ X : Bool, decide (s.size ≤ 64 ∧ textOk s = true) = X := ⟨_, rfl⟩
          rw [show mayV ⟨4, n, f, s⟩ = (decide (s.size ≤ 64 ∧ textOk s = true) && beqV ⟨4, n, f, s⟩ ⟨4, 0, 0, s⟩) from rfl, hO] at hR
          have HR := Lib.hid hR
          have HO := Lib.hid hO
          have hT1 := Utf8Tabs_below hT y1
          clear hR h1 h2 h3 hO
          go_enter Tryd.func16, Tryd.ntmps16
          go_wp2_with (go_at_call 11; refine Hid.out ?_)
          generalize w.alloc (.cells #[.int .u8 4, .int .i64 n, .int .u64 f, .string s] 24) = w1 at *
          refine Lib.hid ?_
          obtain ⟨b0, b1, b2, b3⟩ := box_v HBX.out
          refine (text_any s w1 hT1).mono ?_
          rintro e w2 ⟨he, y⟩
          have x2 := ext_trans y1 y
          obtain ⟨f0, f1, f2, f3⟩ := box_v ((y.block w.heap.size hlt).trans HBX.out)
          have hs2 : w.heap.size < w2.heap.size := by have := y.size; omega
          clear y b0 b1 b2 b3
          cases O with
          | true =>
            have ho := of_decide_eq_true HO.out
            rw [if_pos ho, if_pos ho] at he
            subst he
            clear ho
            go_wp2_with (fail)
            go_ret
            exact ⟨ret_boolV (by rw [← HR.out]; rfl), x2.alloc x2.size _⟩
          | false =>
            have ho := of_decide_eq_false HO.out
            rw [if_neg ho, if_neg ho] at he
            subst he
            clear ho
            go_wp2_with (fail)
            go_ret
            exact ⟨ret_boolV (by rw [← HR.out]; rfl), x2.alloc x2.size _⟩
        · have e : mayV ⟨k, n, f, s⟩ = false := by unfold mayV; simp only; rw [if_neg h1, if_neg h2, if_neg h3, if_neg h4]
          rw [e] at hR
          subst hR
          clear e
          have z1 : (k == 1) = false := beq_eq_false_iff_ne.2 h1
          have z2 : (k == 2) = false := beq_eq_false_iff_ne.2 h2
          have z3 : (k == 3) = false := beq_eq_false_iff_ne.2 h3
          have z4 : (k == 4) = false := beq_eq_false_iff_ne.2 h4
          clear h1 h2 h3 h4
          go_enter Tryd.func16, Tryd.ntmps16
          go_wp2_with (fail)
          go_ret
          exact ⟨rfl, y1⟩
end Go.Proofs.YtclfplpggmefjaaDoor
/- The walks of rubricref03.none and May. -/
namespace Go.Proofs.YtclfplpggmefjaaDoor
open Go.RowKit
set_option linter.unusedVariables false
set_option linter.unusedSimpArgs false

theorem none_any (f : Int) (w : World) (hf0 : 0 ≤ f) (hf1 : f < 18446744073709551616) : Calls Tryd.prog 49 #[.int .u64 f] w fun e w' => e = .returned (.bool (nanF f)) ∧ w = w' := by
  cases hN : nanF f with
  | true =>
    have h := of_decide_eq_true hN
    have h' : decide (9218868437227405312 < f % 9223372036854775808) = true := hN
    clear hN
    go_enter Tryd.func49, Tryd.ntmps49
    go_wp2_with (fail)
    go_ret
    exact ⟨rfl, rfl⟩
  | false =>
    have h := of_decide_eq_false hN
    have h' : decide (9218868437227405312 < f % 9223372036854775808) = false := hN
    clear hN
    go_enter Tryd.func49, Tryd.ntmps49
    go_wp2_with (fail)
    go_ret
    exact ⟨rfl, rfl⟩

theorem mayV_1 (n f : Int) (s : ByteArray) : mayV ⟨1, n, f, s⟩ = (beqV ⟨1, n, f, s⟩ ⟨1, n, 0, ⟨#[]⟩⟩ && ((n == 0) || (n == 1))) := by
  show beqV ⟨1, n, f, s⟩ (flagV (decide (n = 1))) = _
  unfold beqV flagV
  by_cases h : n = 1
  · subst h; simp
  · by_cases h0 : n = 0
    · subst h0; simp
    · simp [h, h0]
theorem mayV_3 (n f : Int) (s : ByteArray) : mayV ⟨3, n, f, s⟩ = (beqV ⟨3, n, f, s⟩ ⟨3, 0, f, ⟨#[]⟩⟩ && (!(nanF f) || (f == 9221120237041090560))) := by
  show beqV ⟨3, n, f, s⟩ (floatV f) = _
  unfold beqV floatV
  cases h : nanF f with
  | true =>
    by_cases h0 : f = 9221120237041090560
    · rw [if_pos rfl, h0]; simp
    · rw [if_pos rfl]; simp [h0]
  | false => simp

set_option maxHeartbeats 1600000 in
theorem refMayV_any (k n f : Int) (s : ByteArray) (w : World) (hf0 : 0 ≤ f) (hf1 : f < 18446744073709551616) (hs : s.size ≤ 100000000) (hT : Lib.Utf8Tabs 1 2 w) :
    Calls Tryd.prog 12 #[.agg #[.int .u8 k, .int .i64 n, .int .u64 f, .string s]] w (MayOut ⟨k, n, f, s⟩ w) := by
  obtain ⟨R, hR⟩ : ∃ X, mayV ⟨k, n, f, s⟩ = X := ⟨_, rfl⟩
  unfold MayOut
  rw [hR]
  have y1 : Below w.heap.size w (w.alloc (.cells #[.int .u8 k, .int .i64 n, .int .u64 f, .string s] 24)) := ext_alloc w _
  have HBX := Lib.hid (heap_alloc_new w (.cells #[.int .u8 k, .int .i64 n, .int .u64 f, .string s] 24))
  by_cases h1 : k = 1
  · subst h1
    rw [mayV_1] at hR
    obtain ⟨q, hq⟩ : ∃ X, beqV ⟨1, n, f, s⟩ ⟨1, n, 0, ⟨#[]⟩⟩ = X := ⟨_, rfl⟩
    rw [hq] at hR
    obtain ⟨z, hz⟩ : ∃ X, (n == 0) = X := ⟨_, rfl⟩
    obtain ⟨o, ho⟩ : ∃ X, (n == 1) = X := ⟨_, rfl⟩
    rw [hz, ho] at hR
    subst hR
    cases q <;> cases z <;> cases o
    all_goals
      go_enter Tryd.func12, Tryd.ntmps12
      go_wp2_with (fail)
      go_ret
      exact ⟨rfl, y1⟩
  · by_cases h2 : k = 2
    · subst h2
      rw [show mayV ⟨2, n, f, s⟩ = beqV ⟨2, n, f, s⟩ ⟨2, n, 0, ⟨#[]⟩⟩ from rfl] at hR
      have HR := Lib.hid hR
      clear hR h1
      go_enter Tryd.func12, Tryd.ntmps12
      go_wp2_with (fail)
      go_ret
      exact ⟨ret_boolV HR.out, y1⟩
    · by_cases h3 : k = 3
      · subst h3
        rw [mayV_3] at hR
        obtain ⟨q, hq⟩ : ∃ X, beqV ⟨3, n, f, s⟩ ⟨3, 0, f, ⟨#[]⟩⟩ = X := ⟨_, rfl⟩
        rw [hq] at hR
        obtain ⟨z, hz⟩ : ∃ X, nanF f = X := ⟨_, rfl⟩
        obtain ⟨o, ho⟩ : ∃ X, (f == 9221120237041090560) = X := ⟨_, rfl⟩
        rw [hz, ho] at hR
        subst hR
        have HZ := Lib.hid hz
        clear hz h1 h2
        cases q <;> cases z <;> cases o
        all_goals
          go_enter Tryd.func12, Tryd.ntmps12
          go_wp2_with (go_at_call 49; refine (none_any f _ hf0 hf1).mono ?_; rintro e w1 ⟨rfl, rfl⟩; rw [HZ.out])
          go_ret
          exact ⟨rfl, y1⟩
      · by_cases h4 : k = 4
        · subst h4
          rw [show mayV ⟨4, n, f, s⟩ = (decide (s.size ≤ 64 ∧ textOk s = true) && beqV ⟨4, n, f, s⟩ ⟨4, 0, 0, s⟩) from rfl] at hR
          have hcv := conv_bytes s
          go_enter Tryd.func12, Tryd.ntmps12
          go_wp2_with (go_at_call 50; refine Hid.out ?_)
          clear hcv
          refine Lib.hid ?_
          have hsz : (w.alloc (.cells #[.int .u8 4, .int .i64 n, .int .u64 f, .string s] 24)).heap.size = w.heap.size + 1 := by simp
          generalize w.alloc (.cells #[.int .u8 4, .int .i64 n, .int .u64 f, .string s] 24) = w1 at *
          have hbw := bytes_below s w1
          have r2 := bytes_rd s w1
          rw [hsz] at r2
          have hcap := grownCap_ge w1 s.size 0 5
          generalize grownCap w1 s.size 0 5 = c at *
          have x2 := ext_trans y1 hbw
          have hlt : w.heap.size < w1.heap.size := (Array.getElem?_eq_some_iff.1 HBX.out).1
          have HB2 := Lib.hid ((hbw.block w.heap.size hlt).trans HBX.out)
          have hlt2 : w.heap.size < (Lib.bytesWorld w1 5 s).heap.size := by rw [Lib.bytesWorld_size]; omega
          generalize Lib.bytesWorld w1 5 s = w2 at *
          refine (refRead_any (some ⟨w.heap.size + 1, 0, none⟩) s.size c (strI s) w2 (strI_len s).symm hcap r2 (by omega) (intB_mem _)).mono ?_
          rintro e w3 ⟨v, rfl, _, y3⟩
          obtain ⟨b0, b1, b2, b3⟩ := box_v ((y3.block w.heap.size hlt2).trans HB2.out)
          have x3 := ext_trans x2 y3
          obtain ⟨q, hq⟩ : ∃ X, beqV ⟨4, n, f, s⟩ ⟨4, 0, 0, s⟩ = X := ⟨_, rfl⟩
          rw [hq] at hR
          rw [show (readR (strI s)).isSome = textOk s from rfl]
          clear hsz hbw r2 hcap x2 hlt hlt2 y3 y1 h1 h2 h3
          by_cases h64 : s.size ≤ 64
          · have hz : (s.size : Int) ≤ 64 := by omega
            cases ht : textOk s with
            | true =>
              rw [ht, decide_eq_true (⟨h64, rfl⟩ : s.size ≤ 64 ∧ true = true)] at hR
              simp only [Bool.true_and] at hR
              subst hR
              clear ht
              cases q
              all_goals
                go_wp2_with (fail)
                go_ret
                exact ⟨rfl, x3⟩
            | false =>
              rw [ht, decide_eq_false (fun h : s.size ≤ 64 ∧ false = true => by cases h.2)] at hR
              simp only [Bool.false_and] at hR
              subst hR
              clear ht
              cases q
              all_goals
                go_wp2_with (fail)
                go_ret
                exact ⟨rfl, x3⟩
          · have hz : ¬ ((s.size : Int) ≤ 64) := by omega
            rw [decide_eq_false (fun h : s.size ≤ 64 ∧ textOk s = true => h64 h.1)] at hR
            simp only [Bool.false_and] at hR
            subst hR
            generalize (if textOk s = true then (0 : Int) else 3) = E
            cases q
            all_goals
              go_wp2_with (fail)
              go_ret
              exact ⟨rfl, x3⟩
        · have e : mayV ⟨k, n, f, s⟩ = false := by unfold mayV; simp only; rw [if_neg h1, if_neg h2, if_neg h3, if_neg h4]
          rw [e] at hR
          subst hR
          clear e
          have z1 : (k == 1) = false := beq_eq_false_iff_ne.2 h1
          have z2 : (k == 2) = false := beq_eq_false_iff_ne.2 h2
          have z3 : (k == 3) = false := beq_eq_false_iff_ne.2 h3
          have z4 : (k == 4) = false := beq_eq_false_iff_ne.2 h4
          clear h1 h2 h3 h4
          go_enter Tryd.func12, Tryd.ntmps12
          go_wp2_with (fail)
          go_ret
          exact ⟨rfl, y1⟩
end Go.Proofs.YtclfplpggmefjaaDoor
/- The walks of what tells of values: Signbit, Number, Less, and the document's. -/
namespace Go.Proofs.YtclfplpggmefjaaDoor
open Go.RowKit
set_option linter.unusedVariables false
set_option linter.unusedSimpArgs false

/-- the fields' ranges -/
def okV (v : V) : Prop := 0 ≤ v.k ∧ v.k ≤ 255 ∧ -9223372036854775808 ≤ v.n ∧ v.n ≤ 9223372036854775807 ∧ 0 ≤ v.f ∧ v.f ≤ 18446744073709551615
theorem okV.f0 {v : V} (h : okV v) : 0 ≤ v.f := h.2.2.2.2.1
theorem okV.f1 {v : V} (h : okV v) : v.f < 18446744073709551616 := by have := h.2.2.2.2.2; omega
def signB (b : Nat) : Bool := decide (9223372036854775808 ≤ b)
theorem wrap_hi {x : Int} (h : 9223372036854775808 ≤ x) (h2 : x < 18446744073709551616) : wrap64 x = x - 18446744073709551616 := by unfold wrap64; omega
theorem wrap_lo {x : Int} (h0 : 0 ≤ x) (h : x < 9223372036854775808) : wrap64 x = x := by unfold wrap64; omega
theorem signbit_any (b : Nat) (w : World) (hb : b < 18446744073709551616) : Calls Tryd.prog 52 #[.float .f64 b] w fun e w' => e = .returned (.bool (signB b)) ∧ w = w' := by
  cases hS : signB b with
  | true =>
    have h := of_decide_eq_true hS
    obtain ⟨z, hz⟩ : ∃ z : Int, z = (b : Int) - 18446744073709551616 := ⟨_, rfl⟩
    have hw := wrap_hi (x := (b : Int)) (by omega) (by omega)
    rw [← hz] at hw
    have hw2 := (IntWalk.i64_left (b : Int)).trans hw
    have hz0 : z < 0 := by omega
    clear hS h hz hb
    go_enter Tryd.func52, Tryd.ntmps52
    go_wp2_with (fail)
    go_ret
    exact ⟨rfl, rfl⟩
  | false =>
    have h := of_decide_eq_false hS
    have hw := wrap_lo (x := (b : Int)) (by omega) (by omega)
    have hw2 := (IntWalk.i64_left (b : Int)).trans hw
    clear hS h hb
    go_enter Tryd.func52, Tryd.ntmps52
    go_wp2_with (fail)
    go_ret
    exact ⟨rfl, rfl⟩

/-- a value's number, by its bits -/
def numV (v : V) : Option Nat := if mayV v = true then (if v.k = 3 then some v.f.toNat else if v.k = 2 then some (ofIntF v.n) else none) else none
def NumOut (v : V) (w : World) (e : Ending) (w' : World) : Prop := e = .returned (.tuple #[.float .f64 ((numV v).getD 0), .bool (numV v).isSome]) ∧ Below w.heap.size w w'
def NumOutR (v : V) (w : World) (e : Ending) (w' : World) : Prop := e = .returned (.tuple #[.int .u64 (((numV v).getD 0 : Nat) : Int), .bool (numV v).isSome]) ∧ Below w.heap.size w w'

set_option maxHeartbeats 1600000 in
theorem numV_any (k n f : Int) (s : ByteArray) (w : World) (hv : okV ⟨k, n, f, s⟩) (hT : Lib.Utf8Tabs 1 2 w) :
    Calls Tryd.prog 13 #[.agg #[.int .u8 k, .int .i64 n, .int .u64 f, .string s]] w (NumOut ⟨k, n, f, s⟩ w) := by
  have hf0 : 0 ≤ f := hv.f0
  have hf1 : f < 18446744073709551616 := hv.f1
  obtain ⟨O, hO⟩ : ∃ X, numV ⟨k, n, f, s⟩ = X := ⟨_, rfl⟩
  unfold NumOut
  rw [hO]
  have y1 : Below w.heap.size w (w.alloc (.cells #[.int .u8 k, .int .i64 n, .int .u64 f, .string s] 24)) := ext_alloc w _
  have HBX := Lib.hid (heap_alloc_new w (.cells #[.int .u8 k, .int .i64 n, .int .u64 f, .string s] 24))
  have hlt : w.heap.size < (w.alloc (.cells #[.int .u8 k, .int .i64 n, .int .u64 f, .string s] 24)).heap.size := by simp
  clear hv
  go_enter Tryd.func13, Tryd.ntmps13
  go_wp2_with (go_at_call 16; refine Hid.out ?_)
  refine Lib.hid ?_
  generalize w.alloc (.cells #[.int .u8 k, .int .i64 n, .int .u64 f, .string s] 24) = w1 at *
  refine (mayV_any k n f s w1 hf0 hf1 (Utf8Tabs_below hT y1)).mono ?_
  rintro e w2 ⟨rfl, y⟩
  have x2 := ext_trans y1 y
  obtain ⟨b0, b1, b2, b3⟩ := box_v ((y.block w.heap.size hlt).trans HBX.out)
  clear y y1
  cases hm : mayV ⟨k, n, f, s⟩ with
  | false =>
    have e : O = none := by rw [← hO]; unfold numV; rw [if_neg (by rw [hm]; simp)]
    subst e
    clear hO hm
    go_wp2_with (fail)
    refine bodyPost_ret (v := .tuple #[.float .f64 0, .bool false]) (by simp [results, Tryd.results13, go_sem]; try rfl) rfl ?_
    exact ⟨rfl, x2⟩
  | true =>
    by_cases h3 : k = 3
    · subst h3
      have e : O = some f.toNat := by rw [← hO]; unfold numV; rw [if_pos hm, if_pos rfl]
      subst e
      have HN := Lib.hid (Int.toNat_of_nonneg hf0)
      clear hO hm
      go_wp2_with (fail)
      refine bodyPost_ret (v := .tuple #[.float .f64 f.toNat, .bool true]) (by simp [results, Tryd.results13, go_sem]; try rfl) rfl ?_
      exact ⟨rfl, x2⟩
    · by_cases h2 : k = 2
      · subst h2
        have e : O = some (ofIntF n) := by rw [← hO]; unfold numV; rw [if_pos hm, if_neg (by simp), if_pos rfl]
        subst e
        clear hO hm
        go_wp2_with (fail)
        refine bodyPost_ret (v := .tuple #[.float .f64 (ofIntF n), .bool true]) (by simp [results, Tryd.results13, go_sem]; try rfl) rfl ?_
        exact ⟨rfl, x2⟩
      · have e : O = none := by rw [← hO]; unfold numV; rw [if_pos hm, if_neg h3, if_neg h2]
        subst e
        have z2 : (k == 2) = false := beq_eq_false_iff_ne.2 h2
        have z3 : (k == 3) = false := beq_eq_false_iff_ne.2 h3
        clear hO hm h2 h3
        go_wp2_with (fail)
        refine bodyPost_ret (v := .tuple #[.float .f64 0, .bool false]) (by simp [results, Tryd.results13, go_sem]; try rfl) rfl ?_
        exact ⟨rfl, x2⟩
set_option maxHeartbeats 1600000 in
theorem refNumV_any (k n f : Int) (s : ByteArray) (w : World) (hv : okV ⟨k, n, f, s⟩) (hs : s.size ≤ 100000000) (hT : Lib.Utf8Tabs 1 2 w) :
    Calls Tryd.prog 14 #[.agg #[.int .u8 k, .int .i64 n, .int .u64 f, .string s]] w (NumOutR ⟨k, n, f, s⟩ w) := by
  have hf0 : 0 ≤ f := hv.f0
  have hf1 : f < 18446744073709551616 := hv.f1
  obtain ⟨O, hO⟩ : ∃ X, numV ⟨k, n, f, s⟩ = X := ⟨_, rfl⟩
  unfold NumOutR
  rw [hO]
  have y1 : Below w.heap.size w (w.alloc (.cells #[.int .u8 k, .int .i64 n, .int .u64 f, .string s] 24)) := ext_alloc w _
  have HBX := Lib.hid (heap_alloc_new w (.cells #[.int .u8 k, .int .i64 n, .int .u64 f, .string s] 24))
  have hlt : w.heap.size < (w.alloc (.cells #[.int .u8 k, .int .i64 n, .int .u64 f, .string s] 24)).heap.size := by simp
  clear hv
  go_enter Tryd.func14, Tryd.ntmps14
  go_wp2_with (go_at_call 12; refine Hid.out ?_)
  refine Lib.hid ?_
  generalize w.alloc (.cells #[.int .u8 k, .int .i64 n, .int .u64 f, .string s] 24) = w1 at *
  refine (refMayV_any k n f s w1 hf0 hf1 hs (Utf8Tabs_below hT y1)).mono ?_
  rintro e w2 ⟨rfl, y⟩
  have x2 := ext_trans y1 y
  obtain ⟨b0, b1, b2, b3⟩ := box_v ((y.block w.heap.size hlt).trans HBX.out)
  clear y y1
  cases hm : mayV ⟨k, n, f, s⟩ with
  | false =>
    have e : O = none := by rw [← hO]; unfold numV; rw [if_neg (by rw [hm]; simp)]
    subst e
    clear hO hm
    go_wp2_with (fail)
    refine bodyPost_ret (v := .tuple #[.int .u64 0, .bool false]) (by simp [results, Tryd.results14, go_sem]; try rfl) rfl ?_
    exact ⟨rfl, x2⟩
  | true =>
    by_cases h3 : k = 3
    · subst h3
      have e : O = some f.toNat := by rw [← hO]; unfold numV; rw [if_pos hm, if_pos rfl]
      subst e
      have HN := Lib.hid (Int.toNat_of_nonneg hf0)
      clear hO hm
      go_wp2_with (fail)
      refine bodyPost_ret (v := .tuple #[.int .u64 f, .bool true]) (by simp [results, Tryd.results14, go_sem]; try rfl) rfl ?_
      exact ⟨by rw [show (((some f.toNat).getD 0 : Nat) : Int) = f from HN.out]; rfl, x2⟩
    · by_cases h2 : k = 2
      · subst h2
        have e : O = some (ofIntF n) := by rw [← hO]; unfold numV; rw [if_pos hm, if_neg (by simp), if_pos rfl]
        subst e
        clear hO hm
        go_wp2_with (fail)
        refine bodyPost_ret (v := .tuple #[.int .u64 ((ofIntF n : Nat) : Int), .bool true]) (by simp [results, Tryd.results14, go_sem]; try rfl) rfl ?_
        exact ⟨rfl, x2⟩
      · have e : O = none := by rw [← hO]; unfold numV; rw [if_pos hm, if_neg h3, if_neg h2]
        subst e
        have z2 : (k == 2) = false := beq_eq_false_iff_ne.2 h2
        have z3 : (k == 3) = false := beq_eq_false_iff_ne.2 h3
        clear hO hm h2 h3
        go_wp2_with (fail)
        refine bodyPost_ret (v := .tuple #[.int .u64 0, .bool false]) (by simp [results, Tryd.results14, go_sem]; try rfl) rfl ?_
        exact ⟨rfl, x2⟩

/-- the order of two floats' bits -/
def lessF (x y : Nat) : Bool :=
  if isNanF x = true then false else if isNanF y = true then true
  else if (Ieee.double.order x y != some .eq) = true then (Ieee.double.order x y == some .lt) else signB x && !signB y
def lessV (a b : V) : Bool :=
  if (mayV a && mayV b) = false then false
  else if a.k ≠ b.k then decide (a.k < b.k)
  else if a.k = 4 then Op.bytesLess a.s.toList b.s.toList
  else if a.k ≠ 3 then decide (a.n < b.n)
  else lessF a.f.toNat b.f.toNat
def LessOut (a b : V) (w : World) (e : Ending) (w' : World) : Prop := e = .returned (.bool (lessV a b)) ∧ Below w.heap.size w w'
/-- the document's -/
def rankF (f : Int) : Int := if f = 9221120237041090560 then 18446744073709551615 else if 9223372036854775808 ≤ f then 9223372036854775807 - f % 9223372036854775808 else 9223372036854775808 + f
def lessR (a b : V) : Bool :=
  if (mayV a && mayV b) = false then false
  else if a.k ≠ b.k then decide (a.k < b.k)
  else if a.k = 3 then decide (rankF a.f < rankF b.f)
  else if a.k = 4 then Op.bytesLess a.s.toList b.s.toList
  else decide (a.n < b.n)
def LessOutR (a b : V) (w : World) (e : Ending) (w' : World) : Prop := e = .returned (.bool (lessR a b)) ∧ Below w.heap.size w w'

theorem rank_any (f : Int) (w : World) (hf0 : 0 ≤ f) (hf1 : f < 18446744073709551616) : Calls Tryd.prog 53 #[.int .u64 f] w fun e w' => e = .returned (.int .u64 (rankF f)) ∧ w = w' := by
  by_cases h1 : f = 9221120237041090560
  · subst h1
    go_enter Tryd.func53, Tryd.ntmps53
    go_wp2_with (fail)
    go_ret
    exact ⟨rfl, rfl⟩
  · have hb : (f == 9221120237041090560) = false := beq_eq_false_iff_ne.2 h1
    by_cases h2 : 9223372036854775808 ≤ f
    · have hr : rankF f = 9223372036854775807 - f % 9223372036854775808 := by unfold rankF; rw [if_neg h1, if_pos h2]
      have HR := Lib.hid hr
      clear hr h1
      go_enter Tryd.func53, Tryd.ntmps53
      go_wp2_with (fail)
      go_ret
      exact ⟨by rw [HR.out]; rfl, rfl⟩
    · have hr : rankF f = 9223372036854775808 + f := by unfold rankF; rw [if_neg h1, if_neg h2]
      have HR := Lib.hid hr
      clear hr h1
      go_enter Tryd.func53, Tryd.ntmps53
      go_wp2_with (fail)
      go_ret
      exact ⟨by rw [HR.out]; rfl, rfl⟩
end Go.Proofs.YtclfplpggmefjaaDoor
/- The walks of value.Less and rubricref03.Less. -/
namespace Go.Proofs.YtclfplpggmefjaaDoor
open Go.RowKit
set_option linter.unusedVariables false
set_option linter.unusedSimpArgs false

set_option maxHeartbeats 3200000 in
theorem lessV_any (k n f k' n' f' : Int) (s s' : ByteArray) (w : World) (hv : okV ⟨k, n, f, s⟩) (hv' : okV ⟨k', n', f', s'⟩) (hT : Lib.Utf8Tabs 1 2 w) :
    Calls Tryd.prog 22 #[.agg #[.int .u8 k, .int .i64 n, .int .u64 f, .string s], .agg #[.int .u8 k', .int .i64 n', .int .u64 f', .string s']] w (LessOut ⟨k, n, f, s⟩ ⟨k', n', f', s'⟩ w) := by
  have hf0 : 0 ≤ f := hv.f0
  have hf1 : f < 18446744073709551616 := hv.f1
  have hg0 : 0 ≤ f' := hv'.f0
  have hg1 : f' < 18446744073709551616 := hv'.f1
  obtain ⟨R, hR⟩ : ∃ X, lessV ⟨k, n, f, s⟩ ⟨k', n', f', s'⟩ = X := ⟨_, rfl⟩
  unfold LessOut
  rw [hR]
  have ya : Below w.heap.size w (w.alloc (.cells #[.int .u8 k, .int .i64 n, .int .u64 f, .string s] 24)) := ext_alloc w _
  have HBA := Lib.hid (heap_alloc_new w (.cells #[.int .u8 k, .int .i64 n, .int .u64 f, .string s] 24))
  have hza : (w.alloc (.cells #[.int .u8 k, .int .i64 n, .int .u64 f, .string s] 24)).heap.size = w.heap.size + 1 := by simp
  clear hv hv'
  go_enter Tryd.func22, Tryd.ntmps22
  go_wp2_with (go_at_call 16; refine Hid.out ?_)
  refine Lib.hid ?_
  generalize w.alloc (.cells #[.int .u8 k, .int .i64 n, .int .u64 f, .string s] 24) = w1 at *
  have yb : Below w1.heap.size w1 (w1.alloc (.cells #[.int .u8 k', .int .i64 n', .int .u64 f', .string s'] 24)) := ext_alloc w1 _
  have HBB := heap_alloc_new w1 (.cells #[.int .u8 k', .int .i64 n', .int .u64 f', .string s'] 24)
  rw [hza] at HBB
  have HBB := Lib.hid HBB
  have hzb : (w1.alloc (.cells #[.int .u8 k', .int .i64 n', .int .u64 f', .string s'] 24)).heap.size = w.heap.size + 2 := by rw [World.size_alloc, hza]
  have HBA := Lib.hid ((yb.block w.heap.size (by rw [hza]; omega)).trans HBA.out)
  have y1 := ext_trans ya yb
  generalize w1.alloc (.cells #[.int .u8 k', .int .i64 n', .int .u64 f', .string s'] 24) = w2 at *
  have HZ2 := Lib.hid hzb
  clear hza hzb ya yb
  refine (mayV_any k n f s w2 hf0 hf1 (Utf8Tabs_below hT y1)).mono ?_
  rintro e w3 ⟨rfl, y⟩
  have x3 := ext_trans y1 y
  have HA3 := (y.block w.heap.size (by rw [HZ2.out]; omega)).trans HBA.out
  have HB3 := (y.block (w.heap.size + 1) (by rw [HZ2.out]; omega)).trans HBB.out
  have hz3 : w.heap.size + 2 ≤ w3.heap.size := by have := y.size; rw [HZ2.out] at this; exact this
  obtain ⟨a0, a1, a2, a3⟩ := box_v HA3
  obtain ⟨b0, b1, b2, b3⟩ := box_v HB3
  have HA3 := Lib.hid HA3
  have HB3 := Lib.hid HB3
  clear y y1
  cases hma : mayV ⟨k, n, f, s⟩ with
  | false =>
    have e : R = false := by rw [← hR]; unfold lessV; rw [if_pos (by rw [hma]; rfl)]
    subst e
    clear hR hma
    go_wp2_with (fail)
    go_ret
    exact ⟨rfl, x3⟩
  | true =>
    go_wp2_with (go_at_call 16; refine Hid.out ?_)
    refine Lib.hid ?_
    refine (mayV_any k' n' f' s' w3 hg0 hg1 (Utf8Tabs_below hT x3)).mono ?_
    rintro e w4 ⟨rfl, y⟩
    have x4 := ext_trans x3 y
    clear a0 a1 a2 a3 b0 b1 b2 b3
    obtain ⟨a0, a1, a2, a3⟩ := box_v ((y.block w.heap.size (by omega)).trans HA3.out)
    obtain ⟨b0, b1, b2, b3⟩ := box_v ((y.block (w.heap.size + 1) (by omega)).trans HB3.out)
    clear y hz3 x3
    cases hmb : mayV ⟨k', n', f', s'⟩ with
    | false =>
      have e : R = false := by rw [← hR]; unfold lessV; rw [if_pos (by rw [hma, hmb]; rfl)]
      subst e
      clear hR hma hmb
      go_wp2_with (fail)
      go_ret
      exact ⟨rfl, x4⟩
    | true =>
      have hR2 := hR
      unfold lessV at hR2
      rw [if_neg (by rw [hma, hmb]; simp)] at hR2
      simp only at hR2
      clear hR hma hmb
      by_cases hk : k = k'
      · subst hk
        rw [if_neg (by simp)] at hR2
        by_cases h4 : k = 4
        · subst h4
          rw [if_pos rfl] at hR2
          have HR := Lib.hid hR2
          clear hR2
          go_wp2_with (fail)
          go_ret
          exact ⟨ret_boolV HR.out, x4⟩
        · have z4 : (k == 4) = false := beq_eq_false_iff_ne.2 h4
          rw [if_neg h4] at hR2
          by_cases h3 : k = 3
          · subst h3
            rw [if_neg (by simp)] at hR2
            clear h4
            obtain ⟨x, hx⟩ : ∃ X, f.toNat = X := ⟨_, rfl⟩
            obtain ⟨y, hy⟩ : ∃ X, f'.toNat = X := ⟨_, rfl⟩
            rw [hx, hy] at hR2
            have hxl : x < 18446744073709551616 := by omega
            have hyl : y < 18446744073709551616 := by omega
            have hfx : f = (x : Int) := by omega
            have hfy : f' = (y : Int) := by omega
            subst hfx
            subst hfy
            clear hx hy hf0 hf1 hg0 hg1
            unfold lessF at hR2
            cases nx : isNanF x with
            | true =>
              rw [if_pos nx] at hR2
              subst hR2
              have NX := Lib.hid nx
              clear nx
              go_wp2_with (first
                | (go_at_call 51; refine (isNaN_any x _).mono ?_; rintro e w5 ⟨rfl, rfl⟩; rw [NX.out])
                | go_quiet (fail))
              go_ret
              exact ⟨rfl, by first | exact x4 | exact below_draws x4⟩
            | false =>
              rw [if_neg (by rw [nx]; simp)] at hR2
              have NX := Lib.hid nx
              clear nx
              cases ny : isNanF y with
              | true =>
                rw [if_pos ny] at hR2
                subst hR2
                have NY := Lib.hid ny
                clear ny
                go_wp2_with (first
                  | (go_at_call 51; ((with_reducible refine (isNaN_any x _).mono ?_); rintro e w5 ⟨rfl, rfl⟩; rw [NX.out]))
                  | (go_at_call 51; ((with_reducible refine (isNaN_any y _).mono ?_); rintro e w5 ⟨rfl, rfl⟩; rw [NY.out]))
                  | go_quiet (fail))
                go_ret
                exact ⟨rfl, by first | exact x4 | exact below_draws x4⟩
              | false =>
                rw [if_neg (by rw [ny]; simp)] at hR2
                have NY := Lib.hid ny
                clear ny
                obtain ⟨D, hD⟩ : ∃ X, (FloatKind.f64.format.order x y != some Ordering.eq) = X := ⟨_, rfl⟩
                obtain ⟨Q, hQ⟩ : ∃ X, (FloatKind.f64.format.order x y == some Ordering.lt) = X := ⟨_, rfl⟩
                have hD2 : (Ieee.double.order x y != some Ordering.eq) = D := hD
                have hQ2 : (Ieee.double.order x y == some Ordering.lt) = Q := hQ
                rw [hD2, hQ2] at hR2
                cases D with
                | true =>
                  rw [if_pos rfl] at hR2
                  subst hR2
                  go_wp2_with (first
                    | (go_at_call 51; ((with_reducible refine (isNaN_any x _).mono ?_); rintro e w5 ⟨rfl, rfl⟩; rw [NX.out]))
                    | (go_at_call 51; ((with_reducible refine (isNaN_any y _).mono ?_); rintro e w5 ⟨rfl, rfl⟩; rw [NY.out]))
                    | go_quiet (fail))
                  go_ret
                  exact ⟨rfl, by first | exact x4 | exact below_draws x4⟩
                | false =>
                  rw [if_neg (by simp)] at hR2
                  obtain ⟨sx, hsx⟩ : ∃ X, signB x = X := ⟨_, rfl⟩
                  obtain ⟨sy, hsy⟩ : ∃ X, signB y = X := ⟨_, rfl⟩
                  rw [hsx, hsy] at hR2
                  subst hR2
                  have SX := Lib.hid hsx
                  have SY := Lib.hid hsy
                  clear hsx hsy
                  cases sx <;> cases sy
                  all_goals
                    go_wp2_with (first
                      | (go_at_call 51; ((with_reducible refine (isNaN_any x _).mono ?_); rintro e w5 ⟨rfl, rfl⟩; rw [NX.out]))
                      | (go_at_call 51; ((with_reducible refine (isNaN_any y _).mono ?_); rintro e w5 ⟨rfl, rfl⟩; rw [NY.out]))
                      | (go_at_call 52; ((with_reducible refine (signbit_any x _ hxl).mono ?_); rintro e w5 ⟨rfl, rfl⟩; rw [SX.out]))
                      | (go_at_call 52; ((with_reducible refine (signbit_any y _ hyl).mono ?_); rintro e w5 ⟨rfl, rfl⟩; rw [SY.out]))
                      | go_quiet (fail))
                    go_ret
                    exact ⟨rfl, by first | exact x4 | exact below_draws x4⟩
          · have z3 : (k == 3) = false := beq_eq_false_iff_ne.2 h3
            have z3' : (k != 3) = true := by rw [bne, z3]; rfl
            rw [if_pos (by simpa using h3)] at hR2
            have HR := Lib.hid hR2
            clear hR2 h3 h4
            go_wp2_with (fail)
            go_ret
            exact ⟨ret_boolV HR.out, x4⟩
      · have hkb : (k == k') = false := beq_eq_false_iff_ne.2 hk
        have hkb2 : (k != k') = true := by rw [bne, hkb]; rfl
        rw [if_pos (by simpa using hk)] at hR2
        subst hR2
        clear hk
        go_wp2_with (fail)
        go_ret
        exact ⟨rfl, x4⟩

theorem rank_quiet (f : Int) (w : World) (hf0 : 0 ≤ f) (hf1 : f < 18446744073709551616) {r : Int} (hr : rankF f = r) : Calls Tryd.prog 53 #[.int .u64 f] w fun e w' => e = .returned (.int .u64 r) ∧ ∃ n, w' = w.drewN n :=
  (rank_any f w hf0 hf1).mono fun _ _ ⟨h1, h2⟩ => ⟨by rw [h1, hr], 0, h2.symm⟩

set_option maxHeartbeats 3200000 in
theorem refLessV_any (k n f k' n' f' : Int) (s s' : ByteArray) (w : World) (hv : okV ⟨k, n, f, s⟩) (hv' : okV ⟨k', n', f', s'⟩) (hs : s.size ≤ 100000000) (hs' : s'.size ≤ 100000000) (hT : Lib.Utf8Tabs 1 2 w) :
    Calls Tryd.prog 23 #[.agg #[.int .u8 k, .int .i64 n, .int .u64 f, .string s], .agg #[.int .u8 k', .int .i64 n', .int .u64 f', .string s']] w (LessOutR ⟨k, n, f, s⟩ ⟨k', n', f', s'⟩ w) := by
  have hf0 : 0 ≤ f := hv.f0
  have hf1 : f < 18446744073709551616 := hv.f1
  have hg0 : 0 ≤ f' := hv'.f0
  have hg1 : f' < 18446744073709551616 := hv'.f1
  obtain ⟨R, hR⟩ : ∃ X, lessR ⟨k, n, f, s⟩ ⟨k', n', f', s'⟩ = X := ⟨_, rfl⟩
  unfold LessOutR
  rw [hR]
  have ya : Below w.heap.size w (w.alloc (.cells #[.int .u8 k, .int .i64 n, .int .u64 f, .string s] 24)) := ext_alloc w _
  have HBA := Lib.hid (heap_alloc_new w (.cells #[.int .u8 k, .int .i64 n, .int .u64 f, .string s] 24))
  have hza : (w.alloc (.cells #[.int .u8 k, .int .i64 n, .int .u64 f, .string s] 24)).heap.size = w.heap.size + 1 := by simp
  clear hv hv'
  go_enter Tryd.func23, Tryd.ntmps23
  go_wp2_with (go_at_call 12; refine Hid.out ?_)
  refine Lib.hid ?_
  generalize w.alloc (.cells #[.int .u8 k, .int .i64 n, .int .u64 f, .string s] 24) = w1 at *
  have yb : Below w1.heap.size w1 (w1.alloc (.cells #[.int .u8 k', .int .i64 n', .int .u64 f', .string s'] 24)) := ext_alloc w1 _
  have HBB := heap_alloc_new w1 (.cells #[.int .u8 k', .int .i64 n', .int .u64 f', .string s'] 24)
  rw [hza] at HBB
  have HBB := Lib.hid HBB
  have hzb : (w1.alloc (.cells #[.int .u8 k', .int .i64 n', .int .u64 f', .string s'] 24)).heap.size = w.heap.size + 2 := by rw [World.size_alloc, hza]
  have HBA := Lib.hid ((yb.block w.heap.size (by rw [hza]; omega)).trans HBA.out)
  have y1 := ext_trans ya yb
  generalize w1.alloc (.cells #[.int .u8 k', .int .i64 n', .int .u64 f', .string s'] 24) = w2 at *
  have HZ2 := Lib.hid hzb
  clear hza hzb ya yb
  refine (refMayV_any k n f s w2 hf0 hf1 hs (Utf8Tabs_below hT y1)).mono ?_
  rintro e w3 ⟨rfl, y⟩
  have x3 := ext_trans y1 y
  have HA3 := (y.block w.heap.size (by rw [HZ2.out]; omega)).trans HBA.out
  have HB3 := (y.block (w.heap.size + 1) (by rw [HZ2.out]; omega)).trans HBB.out
  have hz3 : w.heap.size + 2 ≤ w3.heap.size := by have := y.size; rw [HZ2.out] at this; exact this
  obtain ⟨a0, a1, a2, a3⟩ := box_v HA3
  obtain ⟨b0, b1, b2, b3⟩ := box_v HB3
  have HA3 := Lib.hid HA3
  have HB3 := Lib.hid HB3
  clear y y1
  cases hma : mayV ⟨k, n, f, s⟩ with
  | false =>
    have e : R = false := by rw [← hR]; unfold lessR; rw [if_pos (by rw [hma]; rfl)]
    subst e
    clear hR hma
    go_wp2_with (fail)
    go_ret
    exact ⟨rfl, x3⟩
  | true =>
    go_wp2_with (go_at_call 12; refine Hid.out ?_)
    refine Lib.hid ?_
    refine (refMayV_any k' n' f' s' w3 hg0 hg1 hs' (Utf8Tabs_below hT x3)).mono ?_
    rintro e w4 ⟨rfl, y⟩
    have x4 := ext_trans x3 y
    clear a0 a1 a2 a3 b0 b1 b2 b3
    obtain ⟨a0, a1, a2, a3⟩ := box_v ((y.block w.heap.size (by omega)).trans HA3.out)
    obtain ⟨b0, b1, b2, b3⟩ := box_v ((y.block (w.heap.size + 1) (by omega)).trans HB3.out)
    clear y hz3 x3
    cases hmb : mayV ⟨k', n', f', s'⟩ with
    | false =>
      have e : R = false := by rw [← hR]; unfold lessR; rw [if_pos (by rw [hma, hmb]; rfl)]
      subst e
      clear hR hma hmb
      go_wp2_with (fail)
      go_ret
      exact ⟨rfl, x4⟩
    | true =>
      have hR2 := hR
      unfold lessR at hR2
      rw [if_neg (by rw [hma, hmb]; simp)] at hR2
      simp only at hR2
      clear hR hma hmb
      by_cases hk : k = k'
      · subst hk
        rw [if_neg (by simp)] at hR2
        by_cases h3 : k = 3
        · subst h3
          rw [if_pos rfl] at hR2
          obtain ⟨ra, hra⟩ : ∃ X, rankF f = X := ⟨_, rfl⟩
          obtain ⟨rb, hrb⟩ : ∃ X, rankF f' = X := ⟨_, rfl⟩
          rw [hra, hrb] at hR2
          have RA := Lib.hid hra
          have RB := Lib.hid hrb
          have HR := Lib.hid hR2
          clear hR2 hra hrb
          go_wp2_with (fail)
          go_quiet (first
            | (go_at_call 53; (with_reducible first | refine calls_more (rank_quiet f _ hf0 hf1 RA.out) | refine Calls.quiet_of (rank_quiet f _ hf0 hf1 RA.out)))
            | (go_at_call 53; (with_reducible first | refine calls_more (rank_quiet f' _ hg0 hg1 RB.out) | refine Calls.quiet_of (rank_quiet f' _ hg0 hg1 RB.out))))
          go_wp2_with (fail)
          go_ret
          exact ⟨ret_boolV HR.out, by first | exact x4 | exact below_draws x4⟩
        · have z3 : (k == 3) = false := beq_eq_false_iff_ne.2 h3
          rw [if_neg h3] at hR2
          by_cases h4 : k = 4
          · subst h4
            rw [if_pos rfl] at hR2
            have HR := Lib.hid hR2
            clear hR2 h3
            go_wp2_with (fail)
            go_ret
            exact ⟨ret_boolV HR.out, x4⟩
          · have z4 : (k == 4) = false := beq_eq_false_iff_ne.2 h4
            rw [if_neg h4] at hR2
            have HR := Lib.hid hR2
            clear hR2 h3 h4
            go_wp2_with (fail)
            go_ret
            exact ⟨ret_boolV HR.out, x4⟩
      · have hkb : (k == k') = false := beq_eq_false_iff_ne.2 hk
        have hkb2 : (k != k') = true := by rw [bne, hkb]; rfl
        rw [if_pos (by simpa using hk)] at hR2
        subst hR2
        clear hk
        go_wp2_with (fail)
        go_ret
        exact ⟨rfl, x4⟩
end Go.Proofs.YtclfplpggmefjaaDoor
