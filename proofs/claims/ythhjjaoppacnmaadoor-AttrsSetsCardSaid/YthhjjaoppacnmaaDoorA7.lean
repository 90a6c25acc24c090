/- Merged texts: VaMay, VaRef, OkV, At, Schema1. -/
import Derived.Deep.RegionHeld3
import Derived.Test.YthhjjaoppacnmaaDoorA6
import Derived.Test.YthhjjaoppacnmaaDoorA1
import Derived.Test.YthhjjaoppacnmaaDoorA2
namespace Go.Proofs.YthhjjaoppacnmaaDoor
open Go.RowKit
set_option linter.unusedVariables false
set_option linter.unusedSimpArgs false

/-- may a value be? -/
def mayV (v : V) : Bool :=
  if v.k = 1 then beqV v (flagV (decide (v.n = 1)))
  else if v.k = 2 then beqV v (intV v.n)
  else if v.k = 3 then beqV v (floatV v.f)
  else if v.k = 4 then (decide (v.s.size ≤ 64 ∧ textOk v.s = true) && beqV v (textV v.s))
  else false

def MayOut (v : V) (w : World) (e : Ending) (w' : World) : Prop := e = .returned (.bool (mayV v)) ∧ Below w.heap.size w w'

set_option maxHeartbeats 1600000 in
theorem mayV_any (k n f : Int) (s : ByteArray) (w : World) (hf0 : 0 ≤ f) (hf1 : f < 18446744073709551616) (hT : Lib.Utf8Tabs 1 2 w) :
    Calls Tryd.prog 35 #[.agg #[.int .u8 k, .int .i64 n, .int .u64 f, .string s]] w (MayOut ⟨k, n, f, s⟩ w) := by
  obtain ⟨R, hR⟩ : ∃ X, mayV ⟨k, n, f, s⟩ = X := ⟨_, rfl⟩
  unfold MayOut
  rw [hR]
  have y1 : Below w.heap.size w (w.alloc (.cells #[.int .u8 k, .int .i64 n, .int .u64 f, .string s] 26)) := ext_alloc w _
  have HBX := Lib.hid (heap_alloc_new w (.cells #[.int .u8 k, .int .i64 n, .int .u64 f, .string s] 26))
  have hlt : w.heap.size < (w.alloc (.cells #[.int .u8 k, .int .i64 n, .int .u64 f, .string s] 26)).heap.size := by simp
  by_cases h1 : k = 1
  · subst h1
    obtain ⟨b, hb⟩ : ∃ X : Bool, (n == 1) = X := ⟨_, rfl⟩
    have hd : decide (n = 1) = b := by rw [← hb]; rfl
    have hb2 := hb
    rw [show mayV ⟨1, n, f, s⟩ = beqV ⟨1, n, f, s⟩ ⟨1, if decide (n = 1) = true then 1 else 0, 0, ⟨#[]⟩⟩ from rfl, hd] at hR
    obtain ⟨m, hm⟩ : ∃ X : Int, (if b = true then (1 : Int) else 0) = X := ⟨_, rfl⟩
    rw [hm] at hR
    have HM := Lib.hid hm
    have HR := Lib.hid hR
    clear hR hd hm hb2
    go_enter Tryd.func35, Tryd.ntmps35
    go_wp2_with (fail)
    generalize w.alloc (.cells #[.int .u8 1, .int .i64 n, .int .u64 f, .string s] 26) = w1 at *
    obtain ⟨b0, b1, b2, b3⟩ := box_v HBX.out
    go_region_held3 (fun w' => w'.cell? ⟨w.heap.size, 0, none⟩ = some (.int .u8 1) ∧ w'.cell? ⟨w.heap.size, 1, none⟩ = some (.int .i64 n) ∧ w'.cell? ⟨w.heap.size, 2, none⟩ = some (.int .u64 f) ∧ w'.cell? ⟨w.heap.size, 3, none⟩ = some (.string s))
      (go_keep) ((go_at_call 55; refine (flag_any b _).mono ?_; rw [HM.out]; rintro e w2 ⟨rfl, y⟩; have x2 : Below w.heap.size w w2 := ext_trans y1 (show Below w1.heap.size w1 w2 from ⟨y.os, y.tape, y.output, y.size, y.block⟩); obtain ⟨f0, f1, f2, f3⟩ := box_v ((y.block w.heap.size hlt).trans HBX.out); clear y))
    all_goals go_wp2_with (fail)
    all_goals go_ret
    all_goals exact ⟨ret_boolV HR.out, by first | exact x2 | exact below_draws x2⟩
  · by_cases h2 : k = 2
    · subst h2
      rw [show mayV ⟨2, n, f, s⟩ = beqV ⟨2, n, f, s⟩ ⟨2, n, 0, ⟨#[]⟩⟩ from rfl] at hR
      have HR := Lib.hid hR
      clear hR h1
      go_enter Tryd.func35, Tryd.ntmps35
      go_wp2_with (fail)
      generalize w.alloc (.cells #[.int .u8 2, .int .i64 n, .int .u64 f, .string s] 26) = w1 at *
      obtain ⟨b0, b1, b2, b3⟩ := box_v HBX.out
      go_region_held3 (fun w' => w'.cell? ⟨w.heap.size, 0, none⟩ = some (.int .u8 2) ∧ w'.cell? ⟨w.heap.size, 1, none⟩ = some (.int .i64 n) ∧ w'.cell? ⟨w.heap.size, 2, none⟩ = some (.int .u64 f) ∧ w'.cell? ⟨w.heap.size, 3, none⟩ = some (.string s))
        (go_keep) ((go_at_call 56; refine (int_any n _).mono ?_; rintro e w2 ⟨rfl, y⟩; have x2 : Below w.heap.size w w2 := ext_trans y1 (show Below w1.heap.size w1 w2 from ⟨y.os, y.tape, y.output, y.size, y.block⟩); obtain ⟨f0, f1, f2, f3⟩ := box_v ((y.block w.heap.size hlt).trans HBX.out); clear y))
      all_goals go_wp2_with (fail)
      all_goals go_ret
      all_goals exact ⟨ret_boolV HR.out, by first | exact x2 | exact below_draws x2⟩
    · by_cases h3 : k = 3
      · subst h3
        obtain ⟨F, hF⟩ : ∃ X, (floatV f).f = X := ⟨_, rfl⟩
        rw [show mayV ⟨3, n, f, s⟩ = beqV ⟨3, n, f, s⟩ ⟨3, 0, (floatV f).f, ⟨#[]⟩⟩ from rfl, hF] at hR
        have HR := Lib.hid hR
        have HF := Lib.hid hF
        have hn := Int.toNat_of_nonneg hf0
        have HN := Lib.hid hn
        have hfl : f.toNat < 18446744073709551616 := by omega
        clear hR h1 h2 hF hn
        go_enter Tryd.func35, Tryd.ntmps35
        go_wp2_with (fail)
        generalize w.alloc (.cells #[.int .u8 3, .int .i64 n, .int .u64 f, .string s] 26) = w1 at *
        obtain ⟨b0, b1, b2, b3⟩ := box_v HBX.out
        go_region_held3 (fun w' => w'.cell? ⟨w.heap.size, 0, none⟩ = some (.int .u8 3) ∧ w'.cell? ⟨w.heap.size, 1, none⟩ = some (.int .i64 n) ∧ w'.cell? ⟨w.heap.size, 2, none⟩ = some (.int .u64 f) ∧ w'.cell? ⟨w.heap.size, 3, none⟩ = some (.string s))
          (go_keep) ((go_at_call 57; refine (float_any f.toNat _ hfl).mono ?_; rw [HN.out, HF.out]; rintro e w2 ⟨rfl, y⟩; have x2 : Below w.heap.size w w2 := ext_trans y1 (show Below w1.heap.size w1 w2 from ⟨y.os, y.tape, y.output, y.size, y.block⟩); obtain ⟨f0, f1, f2, f3⟩ := box_v ((y.block w.heap.size hlt).trans HBX.out); clear y))
        all_goals go_wp2_with (fail)
        all_goals go_ret
        all_goals exact ⟨ret_boolV HR.out, by first | exact x2 | exact below_draws x2⟩
      · by_cases h4 : k = 4
        · subst h4
          obtain ⟨O, hO⟩ : ∃ X : Bool, decide (s.size ≤ 64 ∧ textOk s = true) = X := ⟨_, rfl⟩
          rw [show mayV ⟨4, n, f, s⟩ = (decide (s.size ≤ 64 ∧ textOk s = true) && beqV ⟨4, n, f, s⟩ ⟨4, 0, 0, s⟩) from rfl, hO] at hR
          have HR := Lib.hid hR
          have HO := Lib.hid hO
          have hT1 := Utf8Tabs_below hT y1
          clear hR h1 h2 h3 hO
          go_enter Tryd.func35, Tryd.ntmps35
          go_wp2_with (go_at_call 59; refine Hid.out ?_)
          generalize w.alloc (.cells #[.int .u8 4, .int .i64 n, .int .u64 f, .string s] 26) = w1 at *
          refine Lib.hid ?_
          obtain ⟨b0, b1, b2, b3⟩ := box_v HBX.out
          refine (text_any s w1 hT1).mono ?_
          rintro e w2 ⟨he, y⟩
          have x2 := ext_trans y1 y
          obtain ⟨f0, f1, f2, f3⟩ := box_v ((y.block w.heap.size hlt).trans HBX.out)
          have hs2 : w.heap.size < w2.heap.size := by have := y.size; omega
          clear y b0 b1 b2 b3
          cases O with
          | true =>
            have ho := of_decide_eq_true HO.out
            rw [if_pos ho, if_pos ho] at he
            subst he
            clear ho
            go_wp2_with (fail)
            go_ret
            exact ⟨ret_boolV (by rw [← HR.out]; rfl), x2.alloc x2.size _⟩
          | false =>
            have ho := of_decide_eq_false HO.out
            rw [if_neg ho, if_neg ho] at he
            subst he
            clear ho
            go_wp2_with (fail)
            go_ret
            exact ⟨ret_boolV (by rw [← HR.out]; rfl), x2.alloc x2.size _⟩
        · have e : mayV ⟨k, n, f, s⟩ = false := by unfold mayV; simp only; rw [if_neg h1, if_neg h2, if_neg h3, if_neg h4]
          rw [e] at hR
          subst hR
          clear e
          have z1 : (k == 1) = false := beq_eq_false_iff_ne.2 h1
          have z2 : (k == 2) = false := beq_eq_false_iff_ne.2 h2
          have z3 : (k == 3) = false := beq_eq_false_iff_ne.2 h3
          have z4 : (k == 4) = false := beq_eq_false_iff_ne.2 h4
          clear h1 h2 h3 h4
          go_enter Tryd.func35, Tryd.ntmps35
          go_wp2_with (fail)
          go_ret
          exact ⟨rfl, y1⟩
end Go.Proofs.YthhjjaoppacnmaaDoor
namespace Go.Proofs.YthhjjaoppacnmaaDoor
open Go.RowKit
set_option linter.unusedVariables false
set_option linter.unusedSimpArgs false

theorem none_any (f : Int) (w : World) (hf0 : 0 ≤ f) (hf1 : f < 18446744073709551616) : Calls Tryd.prog 60 #[.int .u64 f] w fun e w' => e = .returned (.bool (nanF f)) ∧ w = w' := by
  cases hN : nanF f with
  | true =>
    have h := of_decide_eq_true hN
    have h' : decide (9218868437227405312 < f % 9223372036854775808) = true := hN
    clear hN
    go_enter Tryd.func60, Tryd.ntmps60
    go_wp2_with (fail)
    go_ret
    exact ⟨rfl, rfl⟩
  | false =>
    have h := of_decide_eq_false hN
    have h' : decide (9218868437227405312 < f % 9223372036854775808) = false := hN
    clear hN
    go_enter Tryd.func60, Tryd.ntmps60
    go_wp2_with (fail)
    go_ret
    exact ⟨rfl, rfl⟩

theorem mayV_1 (n f : Int) (s : ByteArray) : mayV ⟨1, n, f, s⟩ = (beqV ⟨1, n, f, s⟩ ⟨1, n, 0, ⟨#[]⟩⟩ && ((n == 0) || (n == 1))) := by
  show beqV ⟨1, n, f, s⟩ (flagV (decide (n = 1))) = _
  unfold beqV flagV
  by_cases h : n = 1
  · subst h; simp
  · by_cases h0 : n = 0
    · subst h0; simp
    · simp [h, h0]
theorem mayV_3 (n f : Int) (s : ByteArray) : mayV ⟨3, n, f, s⟩ = (beqV ⟨3, n, f, s⟩ ⟨3, 0, f, ⟨#[]⟩⟩ && (!(nanF f) || (f == 9221120237041090560))) := by
  show beqV ⟨3, n, f, s⟩ (floatV f) = _
  unfold beqV floatV
  cases h : nanF f with
  | true =>
    by_cases h0 : f = 9221120237041090560
    · rw [if_pos rfl, h0]; simp
    · rw [if_pos rfl]; simp [h0]
  | false => simp

set_option maxHeartbeats 1600000 in
theorem refMayV_any (k n f : Int) (s : ByteArray) (w : World) (hf0 : 0 ≤ f) (hf1 : f < 18446744073709551616) (hs : s.size ≤ 100000000) (hT : Lib.Utf8Tabs 1 2 w) :
    Calls Tryd.prog 37 #[.agg #[.int .u8 k, .int .i64 n, .int .u64 f, .string s]] w (MayOut ⟨k, n, f, s⟩ w) := by
  obtain ⟨R, hR⟩ : ∃ X, mayV ⟨k, n, f, s⟩ = X := ⟨_, rfl⟩
  unfold MayOut
  rw [hR]
  have y1 : Below w.heap.size w (w.alloc (.cells #[.int .u8 k, .int .i64 n, .int .u64 f, .string s] 26)) := ext_alloc w _
  have HBX := Lib.hid (heap_alloc_new w (.cells #[.int .u8 k, .int .i64 n, .int .u64 f, .string s] 26))
  by_cases h1 : k = 1
  · subst h1
    rw [mayV_1] at hR
    obtain ⟨q, hq⟩ : ∃ X, beqV ⟨1, n, f, s⟩ ⟨1, n, 0, ⟨#[]⟩⟩ = X := ⟨_, rfl⟩
    rw [hq] at hR
    obtain ⟨z, hz⟩ : ∃ X, (n == 0) = X := ⟨_, rfl⟩
    obtain ⟨o, ho⟩ : ∃ X, (n == 1) = X := ⟨_, rfl⟩
    rw [hz, ho] at hR
    subst hR
    cases q <;> cases z <;> cases o
    all_goals
      go_enter Tryd.func37, Tryd.ntmps37
      go_wp2_with (fail)
      go_ret
      exact ⟨rfl, y1⟩
  · by_cases h2 : k = 2
    · subst h2
      rw [show mayV ⟨2, n, f, s⟩ = beqV ⟨2, n, f, s⟩ ⟨2, n, 0, ⟨#[]⟩⟩ from rfl] at hR
      have HR := Lib.hid hR
      clear hR h1
      go_enter Tryd.func37, Tryd.ntmps37
      go_wp2_with (fail)
      go_ret
      exact ⟨ret_boolV HR.out, y1⟩
    · by_cases h3 : k = 3
      · subst h3
        rw [mayV_3] at hR
        obtain ⟨q, hq⟩ : ∃ X, beqV ⟨3, n, f, s⟩ ⟨3, 0, f, ⟨#[]⟩⟩ = X := ⟨_, rfl⟩
        rw [hq] at hR
        obtain ⟨z, hz⟩ : ∃ X, nanF f = X := ⟨_, rfl⟩
        obtain ⟨o, ho⟩ : ∃ X, (f == 9221120237041090560) = X := ⟨_, rfl⟩
        rw [hz, ho] at hR
        subst hR
        have HZ := Lib.hid hz
        clear hz h1 h2
        cases q <;> cases z <;> cases o
        all_goals
          go_enter Tryd.func37, Tryd.ntmps37
          go_wp2_with (go_at_call 60; refine (none_any f _ hf0 hf1).mono ?_; rintro e w1 ⟨rfl, rfl⟩; rw [HZ.out])
          go_ret
          exact ⟨rfl, y1⟩
      · by_cases h4 : k = 4
        · subst h4
          rw [show mayV ⟨4, n, f, s⟩ = (decide (s.size ≤ 64 ∧ textOk s = true) && beqV ⟨4, n, f, s⟩ ⟨4, 0, 0, s⟩) from rfl] at hR
          have hcv := conv_bytes s
          go_enter Tryd.func37, Tryd.ntmps37
          go_wp2_with (go_at_call 61; refine Hid.out ?_)
          clear hcv
          refine Lib.hid ?_
          have hsz : (w.alloc (.cells #[.int .u8 4, .int .i64 n, .int .u64 f, .string s] 26)).heap.size = w.heap.size + 1 := by simp
          generalize w.alloc (.cells #[.int .u8 4, .int .i64 n, .int .u64 f, .string s] 26) = w1 at *
          have hbw := bytes_below s w1
          have r2 := bytes_rd s w1
          rw [hsz] at r2
          have hcap := grownCap_ge w1 s.size 0 5
          generalize grownCap w1 s.size 0 5 = c at *
          have x2 := ext_trans y1 hbw
          have hlt : w.heap.size < w1.heap.size := (Array.getElem?_eq_some_iff.1 HBX.out).1
          have HB2 := Lib.hid ((hbw.block w.heap.size hlt).trans HBX.out)
          have hlt2 : w.heap.size < (Lib.bytesWorld w1 5 s).heap.size := by rw [Lib.bytesWorld_size]; omega
          generalize Lib.bytesWorld w1 5 s = w2 at *
          refine (refRead_any (some ⟨w.heap.size + 1, 0, none⟩) s.size c (strI s) w2 (strI_len s).symm hcap r2 (by omega) (intB_mem _)).mono ?_
          rintro e w3 ⟨v, rfl, _, y3⟩
          obtain ⟨b0, b1, b2, b3⟩ := box_v ((y3.block w.heap.size hlt2).trans HB2.out)
          have x3 := ext_trans x2 y3
          obtain ⟨q, hq⟩ : ∃ X, beqV ⟨4, n, f, s⟩ ⟨4, 0, 0, s⟩ = X := ⟨_, rfl⟩
          rw [hq] at hR
          rw [show (readR (strI s)).isSome = textOk s from rfl]
          clear hsz hbw r2 hcap x2 hlt hlt2 y3 y1 h1 h2 h3
          by_cases h64 : s.size ≤ 64
          · have hz : (s.size : Int) ≤ 64 := by omega
            cases ht : textOk s with
            | true =>
              rw [ht, decide_eq_true (⟨h64, rfl⟩ : s.size ≤ 64 ∧ true = true)] at hR
              simp only [Bool.true_and] at hR
              subst hR
              clear ht
              cases q
              all_goals
                go_wp2_with (fail)
                go_ret
                exact ⟨rfl, x3⟩
            | false =>
              rw [ht, decide_eq_false (fun h : s.size ≤ 64 ∧ false = true => by cases h.2)] at hR
              simp only [Bool.false_and] at hR
              subst hR
              clear ht
              cases q
              all_goals
                go_wp2_with (fail)
                go_ret
                exact ⟨rfl, x3⟩
          · have hz : ¬ ((s.size : Int) ≤ 64) := by omega
            rw [decide_eq_false (fun h : s.size ≤ 64 ∧ textOk s = true => h64 h.1)] at hR
            simp only [Bool.false_and] at hR
            subst hR
            generalize (if textOk s = true then (0 : Int) else 3) = E
            cases q
            all_goals
              go_wp2_with (fail)
              go_ret
              exact ⟨rfl, x3⟩
        · have e : mayV ⟨k, n, f, s⟩ = false := by unfold mayV; simp only; rw [if_neg h1, if_neg h2, if_neg h3, if_neg h4]
          rw [e] at hR
          subst hR
          clear e
          have z1 : (k == 1) = false := beq_eq_false_iff_ne.2 h1
          have z2 : (k == 2) = false := beq_eq_false_iff_ne.2 h2
          have z3 : (k == 3) = false := beq_eq_false_iff_ne.2 h3
          have z4 : (k == 4) = false := beq_eq_false_iff_ne.2 h4
          clear h1 h2 h3 h4
          go_enter Tryd.func37, Tryd.ntmps37
          go_wp2_with (fail)
          go_ret
          exact ⟨rfl, y1⟩
end Go.Proofs.YthhjjaoppacnmaaDoor
namespace Go.Proofs.YthhjjaoppacnmaaDoor

/-- the fields' ranges -/
def okV (v : V) : Prop := 0 ≤ v.k ∧ v.k ≤ 255 ∧ -9223372036854775808 ≤ v.n ∧ v.n ≤ 9223372036854775807 ∧ 0 ≤ v.f ∧ v.f ≤ 18446744073709551615
theorem okV.f0 {v : V} (h : okV v) : 0 ≤ v.f := h.2.2.2.2.1
theorem okV.f1 {v : V} (h : okV v) : v.f < 18446744073709551616 := by have := h.2.2.2.2.2; omega
end Go.Proofs.YthhjjaoppacnmaaDoor
namespace Go.Proofs.YthhjjaoppacnmaaDoor
open Go.RowKit
set_option linter.unusedVariables false
set_option linter.unusedSimpArgs false

theorem tabs_at {w v W : World} {a b : Nat} (hT : Lib.Utf8Tabs a b w) (h : Below w.heap.size w v) (e : W.heap = v.heap) : Lib.Utf8Tabs a b W := by
  have h2 := Utf8Tabs_below hT h
  have hc : ∀ p, W.cell? p = v.cell? p := fun p => by simp only [World.cell?, e]
  exact ⟨fun c hc' => by rw [hc]; exact h2.1 c hc', fun i hi => by rw [hc, hc]; exact h2.2 i hi⟩
theorem below_at {w v W w' : World} (h : Below w.heap.size w v) (y : Below W.heap.size W w') (e1 : W.heap = v.heap) (e2 : W.os = v.os) (e3 : W.tape = v.tape) (e4 : W.output = v.output) : Below w.heap.size w w' := by
  have y1 : Below v.heap.size v w' := ⟨by rw [← e2]; exact y.os, by rw [← e3]; exact y.tape, by rw [← e4]; exact y.output, by rw [← e1]; exact y.size, fun k hk => by rw [← e1]; exact y.block k (by rw [e1]; exact hk)⟩
  exact ext_trans h y1
theorem kept1 {v W w' : World} {b0 : Nat} {O0 : Obj} (h0 : v.heap[b0]? = some O0) (y : Below W.heap.size W w') (e : W.heap = v.heap) : w'.heap[b0]? = some O0 := by
  have hlt := (Array.getElem?_eq_some_iff.1 h0).1
  rw [y.block b0 (by rw [e]; exact hlt), e]
  exact h0
theorem kept2 {v W w' : World} {b0 b1 : Nat} {O0 O1 : Obj} (h0 : v.heap[b0]? = some O0) (h1 : v.heap[b1]? = some O1) (y : Below W.heap.size W w') (e : W.heap = v.heap) : w'.heap[b0]? = some O0 ∧ w'.heap[b1]? = some O1 := ⟨kept1 h0 y e, kept1 h1 y e⟩
end Go.Proofs.YthhjjaoppacnmaaDoor
namespace Go.Proofs.YthhjjaoppacnmaaDoor
open Go.RowKit
set_option linter.unusedVariables false
set_option linter.unusedSimpArgs false

/-- may a key be by itself? -/
def mayK (k : Ky) : Bool :=
  decide (1 ≤ k.id ∧ k.id ≤ 1000 ∧ 1 ≤ k.kind ∧ k.kind ≤ 4) && (if k.block = true then !k.before && decide (0 ≤ k.group ∧ k.group ≤ 8) else decide (k.group = 0))

set_option maxHeartbeats 1600000 in
theorem mayK_any (i g n : Int) (b a f : Bool) (w : World) :
    Calls Tryd.prog 31 #[.agg #[.int .i64 i, .bool b, .int .u8 n, .bool a, .bool f, .int .i64 g]] w fun e w' => e = .returned (.bool (mayK ⟨i, b, n, a, f, g⟩)) ∧ Below w.heap.size w w' := by
  obtain ⟨R, hR⟩ : ∃ X, mayK ⟨i, b, n, a, f, g⟩ = X := ⟨_, rfl⟩
  rw [hR]
  unfold mayK at hR
  have HR := Lib.hid hR
  clear hR
  by_cases h1 : i < 1
  · go_enter Tryd.func31, Tryd.ntmps31
    go_wp2_with (fail)
    go_ret
    exact ⟨ret_bool (by rw [← HR.out]; simp; omega), ext_alloc w _⟩
  by_cases h2 : 1000 < i
  · go_enter Tryd.func31, Tryd.ntmps31
    go_wp2_with (fail)
    go_ret
    exact ⟨ret_bool (by rw [← HR.out]; simp; omega), ext_alloc w _⟩
  by_cases h3 : n < 1
  · go_enter Tryd.func31, Tryd.ntmps31
    go_wp2_with (fail)
    go_ret
    exact ⟨ret_bool (by rw [← HR.out]; simp; omega), ext_alloc w _⟩
  by_cases h4 : 4 < n
  · go_enter Tryd.func31, Tryd.ntmps31
    go_wp2_with (fail)
    go_ret
    exact ⟨ret_bool (by rw [← HR.out]; simp; omega), ext_alloc w _⟩
  have E4 := Lib.hid (show decide (1 ≤ i ∧ i ≤ 1000 ∧ 1 ≤ n ∧ n ≤ 4) = true by simp; omega)
  cases b with
  | false =>
    go_enter Tryd.func31, Tryd.ntmps31
    go_wp2_with (fail)
    go_ret
    exact ⟨ret_bool (by have h := HR.out; rw [E4.out] at h; rw [← h]; simp; rfl), ext_alloc w _⟩
  | true =>
    cases f with
    | true =>
      go_enter Tryd.func31, Tryd.ntmps31
      go_wp2_with (fail)
      go_ret
      exact ⟨ret_bool (by have h := HR.out; rw [E4.out] at h; rw [← h]; simp), ext_alloc w _⟩
    | false =>
      by_cases h5 : 0 ≤ g
      · go_enter Tryd.func31, Tryd.ntmps31
        go_wp2_with (fail)
        go_ret
        exact ⟨ret_bool (by have h := HR.out; rw [E4.out] at h; rw [← h]; simp [h5] <;> omega), ext_alloc w _⟩
      · go_enter Tryd.func31, Tryd.ntmps31
        go_wp2_with (fail)
        go_ret
        exact ⟨ret_bool (by have h := HR.out; rw [E4.out] at h; rw [← h]; simp [h5] <;> omega), ext_alloc w _⟩

/-- a schema's struct at block s: its map holds just these keys; its slice holds them by rising IDs -/
def Sch (w : World) (s : Nat) (l : List Ky) : Prop :=
  ∃ bm A n c ls, w.heap[s]? = some (.cells #[.slice A n c, .map (some bm)] 65 (0, 0)) ∧ MapK w bm l ∧ n = ls.length ∧ ls.Perm l ∧ ls.Pairwise (fun a b => a.id ≤ b.id) ∧ RdKy w w.heap.size A ls
theorem lt_of_some {w : World} {b : Nat} {o : Obj} (h : w.heap[b]? = some o) : b < w.heap.size := (Array.getElem?_eq_some_iff.1 h).1
theorem MapK.ext {w w' : World} {b : Nat} {l : List Ky} (h : MapK w b l) (y : Below w.heap.size w w') : MapK w' b l := by
  obtain ⟨es, clock, he, hk⟩ := h
  exact ⟨es, clock, (y.block b (lt_of_some he)).trans he, hk⟩
theorem Sch.ext {w w' : World} {s : Nat} {l : List Ky} (h : Sch w s l) (y : Below w.heap.size w w') : Sch w' s l := by
  obtain ⟨bm, A, n, c, ls, hb, hm, hn, hp, hs, hr⟩ := h
  exact ⟨bm, A, n, c, ls, (y.block s (lt_of_some hb)).trans hb, hm.ext y, hn, hp, hs, hr.ext y⟩
theorem Sch.parts {w : World} {s : Nat} {l : List Ky} (h : Sch w s l) : ∃ bm sl, w.heap[s]? = some (.cells #[sl, .map (some bm)] 65 (0, 0)) ∧ MapK w bm l := by
  obtain ⟨bm, A, n, c, ls, hb, hm, _⟩ := h
  exact ⟨bm, _, hb, hm⟩

section
variable {ops : Array Oper} {rest : List Oper} {o : Oper} {a : Act} {Q : Exit → Act → World → Prop} {w : World}
theorem wpList_lookKy (hg : o.guard = none) (m x : Operand) (hop : o.op = Op.lookup 63 m x true) (b : Nat) (l : List Ky) (hm : a.eval m = .map (some b)) (hM : MapK w b l) (id : Int) (hx : a.eval x = .int .i64 id)
    (hK : ∀ i c n d f g q, (findK l id).getD Ky.zero = ⟨i, c, n, d, f, g⟩ → (findK l id).isSome = q → wpList Tryd.prog ops Q rest (a.put o.dst (.tuple #[.agg #[.int .i64 i, .bool c, .int .u8 n, .bool d, .bool f, .int .i64 g], .bool q])) w) : wpList Tryd.prog ops Q (o :: rest) a w := by
  refine wpList_plain hg fun K' hK' => ?_
  unfold Oper.wp
  simp [execOp, hop, hm, hx, hM.look id, Result.andThen]
  have h := hK ((findK l id).getD Ky.zero).id _ _ _ _ _ _ rfl rfl
  exact hK' _ _ h
end

/-- what Find answers -/
def FindOutK (l : List Ky) (id : Int) (w : World) (e : Ending) (w' : World) : Prop :=
  ∃ i c n d f g q, e = .returned (.tuple #[.agg #[.int .i64 i, .bool c, .int .u8 n, .bool d, .bool f, .int .i64 g], .bool q]) ∧ (findK l id).getD Ky.zero = ⟨i, c, n, d, f, g⟩ ∧ (findK l id).isSome = q ∧ Below w.heap.size w w'

set_option maxHeartbeats 1600000 in
theorem findS_any (s : Nat) (l : List Ky) (id : Int) (w : World) (h : Sch w s l) :
    Calls Tryd.prog 46 #[.pointer (some ⟨s, 0, none⟩), .int .i64 id] w (FindOutK l id w) := by
  obtain ⟨bm, sl, hb, hm⟩ := h.parts
  have y := ext_alloc w (.cells #[.int .i64 0, .bool false, .int .u8 0, .bool false, .bool false, .int .i64 0] 62)
  have hb' := (y.block s (lt_of_some hb)).trans hb
  obtain ⟨es, clock, he, hk⟩ := hm
  have hm' : MapK (w.alloc (.cells #[.int .i64 0, .bool false, .int .u8 0, .bool false, .bool false, .int .i64 0] 62)) bm l := ⟨es, clock, (y.block bm (lt_of_some he)).trans he, hk⟩
  obtain ⟨c0, c1⟩ := box_2 hb'
  have HM := Lib.hid hm'
  clear hb hb' he hk hm'
  go_enter Tryd.func46, Tryd.ntmps46
  go_wp2_with (at_lookup; refine wpList_lookKy rfl _ _ rfl bm l rfl HM.out id rfl ?_; intro i c n d f g q hq1 hq2; have HQ1 := Lib.hid hq1; have HQ2 := Lib.hid hq2; clear hq1 hq2)
  refine bodyPost_ret (v := .tuple #[.agg #[.int .i64 i, .bool c, .int .u8 n, .bool d, .bool f, .int .i64 g], .bool q]) (by simp [results, Tryd.results46, go_sem]) rfl ?_
  exact ⟨i, c, n, d, f, g, q, rfl, HQ1.out, HQ2.out, by first | exact ext_trans (ext_alloc w _) (ext_alloc _ _) | trace_state⟩

/-- fits: may the key with an ID have a value? -/
def fitsK (l : List Ky) (id : Int) (v : V) : Bool :=
  match findK l id with
  | none => false
  | some k => decide (k.kind = v.k) && mayV v

set_option maxHeartbeats 1600000 in
theorem fitsS_any (s : Nat) (l : List Ky) (id k n f : Int) (t : ByteArray) (w : World) (h : Sch w s l) (h0 : 0 ≤ f) (h1 : f < 18446744073709551616)
    (hT : Lib.Utf8Tabs 1 2 w) :
    Calls Tryd.prog 36 #[.pointer (some ⟨s, 0, none⟩), .int .i64 id, .agg #[.int .u8 k, .int .i64 n, .int .u64 f, .string t]] w fun e w' => e = .returned (.bool (fitsK l id ⟨k, n, f, t⟩)) ∧ Below w.heap.size w w' := by
  obtain ⟨R, hR⟩ : ∃ X, fitsK l id ⟨k, n, f, t⟩ = X := ⟨_, rfl⟩
  obtain ⟨m, hm⟩ : ∃ X, mayV ⟨k, n, f, t⟩ = X := ⟨_, rfl⟩
  rw [hR]
  unfold fitsK at hR
  rw [hm] at hR
  have HR := Lib.hid hR
  have HMV := Lib.hid hm
  have y0 := ext_alloc w (.cells #[.int .u8 k, .int .i64 n, .int .u64 f, .string t] 26)
  have hv0 := heap_alloc_new w (.cells #[.int .u8 k, .int .i64 n, .int .u64 f, .string t] 26)
  have hs0 := h.ext y0
  have hT0 := Utf8Tabs_below hT y0
  clear hR hm h
  go_enter Tryd.func36, Tryd.ntmps36
  go_wp2_with (go_at_call 46; refine Hid.out ?_)
  refine Lib.hid ?_
  have H0 := Lib.hid hv0
  clear hv0
  generalize hw0 : w.alloc _ = w0 at *
  clear hw0
  refine (findS_any s l id w0 hs0).mono ?_
  rintro e w1 ⟨i, c, kd, d, g, q, b, rfl, hk, hb, y1⟩
  have hv1 := (y1.block w.heap.size (lt_of_some H0.out)).trans H0.out
  have y1' := ext_trans y0 y1
  have y2 := ext_alloc w1 (.cells #[.int .i64 i, .bool c, .int .u8 kd, .bool d, .bool g, .int .i64 q] 62)
  have hv2 := (y2.block w.heap.size (lt_of_some hv1)).trans hv1
  have hT2 := Utf8Tabs_below hT0 (ext_trans y1 y2)
  have yy := ext_trans y1' y2
  obtain ⟨a0, a1, a2, a3⟩ := box_v hv2
  have HB := Lib.hid hb
  have HK := Lib.hid hk
  clear hv1 hv2 H0 hb hk hT hT0 hs0
  cases b with
  | false =>
    go_wp2_with (fail)
    go_ret
    refine ⟨ret_bool ?_, yy⟩
    have h := HR.out
    have hb := HB.out
    cases hq : findK l id with
    | none => rw [hq] at h; exact h
    | some k => rw [hq] at hb; simp at hb
  | true =>
    obtain ⟨K, hK⟩ : ∃ K, findK l id = some K := Option.isSome_iff_exists.1 HB.out
    have hR := HR.out
    have hk := HK.out
    rw [hK] at hR hk
    simp only [Option.getD_some] at hk
    subst hk
    simp only at hR
    have HR := Lib.hid hR
    clear hR
    by_cases hkk : kd = k
    · subst hkk
      go_wp2_with (go_at_call 35; refine Hid.out ?_)
      refine Lib.hid ?_
      refine (mayV_any kd n f t _ h0 h1 hT2).mono ?_
      rintro e w3 ⟨rfl, y3⟩
      rw [HMV.out]
      go_wp2_with (fail)
      go_ret
      refine ⟨ret_bool ?_, below_at yy y3 rfl rfl rfl rfl⟩
      rw [← HR.out]; simp
    · go_wp2_with (fail)
      go_ret
      refine ⟨ret_bool ?_, yy⟩
      rw [← HR.out]; simp [hkk]
end Go.Proofs.YthhjjaoppacnmaaDoor
