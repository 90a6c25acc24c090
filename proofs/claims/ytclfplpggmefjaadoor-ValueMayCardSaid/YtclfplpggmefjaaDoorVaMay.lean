/- The walk of value.May. -/
import Derived.Test.YtclfplpggmefjaaDoorVaText
import Derived.Deep.RegionHeld3
namespace Go.Proofs.YtclfplpggmefjaaDoor
open Go.RowKit
set_option linter.unusedVariables false
set_option linter.unusedSimpArgs false

/-- may a value be? -/
def mayV (v : V) : Bool :=
  if v.k = 1 then beqV v (flagV (decide (v.n = 1)))
  else if v.k = 2 then beqV v (intV v.n)
  else if v.k = 3 then beqV v (floatV v.f)
  else if v.k = 4 then (decide (v.s.size ≤ 64 ∧ textOk v.s = true) && beqV v (textV v.s))
  else false

def MayOut (v : V) (w : World) (e : Ending) (w' : World) : Prop := e = .returned (.bool (mayV v)) ∧ Below w.heap.size w w'

set_option maxHeartbeats 1600000 in
theorem mayV_any (k n f : Int) (s : ByteArray) (w : World) (hf0 : 0 ≤ f) (hf1 : f < 18446744073709551616) (hT : Lib.Utf8Tabs 1 2 w) :
    Calls Tryd.prog 16 #[.agg #[.int .u8 k, .int .i64 n, .int .u64 f, .string s]] w (MayOut ⟨k, n, f, s⟩ w) := by
  obtain ⟨R, hR⟩ : ∃ X, mayV ⟨k, n, f, s⟩ = X := ⟨_, rfl⟩
  unfold MayOut
  rw [hR]
  have y1 : Below w.heap.size w (w.alloc (.cells #[.int .u8 k, .int .i64 n, .int .u64 f, .string s] 24)) := ext_alloc w _
  have HBX := Lib.hid (heap_alloc_new w (.cells #[.int .u8 k, .int .i64 n, .int .u64 f, .string s] 24))
  have hlt : w.heap.size < (w.alloc (.cells #[.int .u8 k, .int .i64 n, .int .u64 f, .string s] 24)).heap.size := by simp
  by_cases h1 : k = 1
  · subst h1
    obtain ⟨b, hb⟩ : ∃ X : Bool, (n == 1) = X := ⟨_, rfl⟩
    have hd : decide (n = 1) = b := by rw [← hb]; rfl
    have hb2 := hb
    rw [show mayV ⟨1, n, f, s⟩ = beqV ⟨1, n, f, s⟩ ⟨1, if decide (n = 1) = true then 1 else 0, 0, ⟨#[]⟩⟩ from rfl, hd] at hR
    obtain ⟨m, hm⟩ : ∃ X : Int, (if b = true then (1 : Int) else 0) = X := ⟨_, rfl⟩
    rw [hm] at hR
    have HM := Lib.hid hm
    have HR := Lib.hid hR
    clear hR hd hm hb2
    go_enter Tryd.func16, Tryd.ntmps16
    go_wp2_with (fail)
    generalize w.alloc (.cells #[.int .u8 1, .int .i64 n, .int .u64 f, .string s] 24) = w1 at *
    obtain ⟨b0, b1, b2, b3⟩ := box_v HBX.out
    go_region_held3 (fun w' => w'.cell? ⟨w.heap.size, 0, none⟩ = some (.int .u8 1) ∧ w'.cell? ⟨w.heap.size, 1, none⟩ = some (.int .i64 n) ∧ w'.cell? ⟨w.heap.size, 2, none⟩ = some (.int .u64 f) ∧ w'.cell? ⟨w.heap.size, 3, none⟩ = some (.string s))
      (go_keep) ((go_at_call 17; refine (flag_any b _).mono ?_; rw [HM.out]; rintro e w2 ⟨rfl, y⟩; have x2 : Below w.heap.size w w2 := ext_trans y1 (show Below w1.heap.size w1 w2 from ⟨y.os, y.tape, y.output, y.size, y.block⟩); obtain ⟨f0, f1, f2, f3⟩ := box_v ((y.block w.heap.size hlt).trans HBX.out); clear y))
    all_goals go_wp2_with (fail)
    all_goals go_ret
    all_goals exact ⟨ret_boolV HR.out, by first | exact x2 | exact below_draws x2⟩
  · by_cases h2 : k = 2
    · subst h2
      rw [show mayV ⟨2, n, f, s⟩ = beqV ⟨2, n, f, s⟩ ⟨2, n, 0, ⟨#[]⟩⟩ from rfl] at hR
      have HR := Lib.hid hR
      clear hR h1
      go_enter Tryd.func16, Tryd.ntmps16
      go_wp2_with (fail)
      generalize w.alloc (.cells #[.int .u8 2, .int .i64 n, .int .u64 f, .string s] 24) = w1 at *
      obtain ⟨b0, b1, b2, b3⟩ := box_v HBX.out
      go_region_held3 (fun w' => w'.cell? ⟨w.heap.size, 0, none⟩ = some (.int .u8 2) ∧ w'.cell? ⟨w.heap.size, 1, none⟩ = some (.int .i64 n) ∧ w'.cell? ⟨w.heap.size, 2, none⟩ = some (.int .u64 f) ∧ w'.cell? ⟨w.heap.size, 3, none⟩ = some (.string s))
        (go_keep) ((go_at_call 18; refine (int_any n _).mono ?_; rintro e w2 ⟨rfl, y⟩; have x2 : Below w.heap.size w w2 := ext_trans y1 (show Below w1.heap.size w1 w2 from ⟨y.os, y.tape, y.output, y.size, y.block⟩); obtain ⟨f0, f1, f2, f3⟩ := box_v ((y.block w.heap.size hlt).trans HBX.out); clear y))
      all_goals go_wp2_with (fail)
      all_goals go_ret
      all_goals exact ⟨ret_boolV HR.out, by first | exact x2 | exact below_draws x2⟩
    · by_cases h3 : k = 3
      · subst h3
        obtain ⟨F, hF⟩ : ∃ X, (floatV f).f = X := ⟨_, rfl⟩
        rw [show mayV ⟨3, n, f, s⟩ = beqV ⟨3, n, f, s⟩ ⟨3, 0, (floatV f).f, ⟨#[]⟩⟩ from rfl, hF] at hR
        have HR := Lib.hid hR
        have HF := Lib.hid hF
        have hn := Int.toNat_of_nonneg hf0
        have HN := Lib.hid hn
        have hfl : f.toNat < 18446744073709551616 := by omega
        clear hR h1 h2 hF hn
        go_enter Tryd.func16, Tryd.ntmps16
        go_wp2_with (fail)
        generalize w.alloc (.cells #[.int .u8 3, .int .i64 n, .int .u64 f, .string s] 24) = w1 at *
        obtain ⟨b0, b1, b2, b3⟩ := box_v HBX.out
        go_region_held3 (fun w' => w'.cell? ⟨w.heap.size, 0, none⟩ = some (.int .u8 3) ∧ w'.cell? ⟨w.heap.size, 1, none⟩ = some (.int .i64 n) ∧ w'.cell? ⟨w.heap.size, 2, none⟩ = some (.int .u64 f) ∧ w'.cell? ⟨w.heap.size, 3, none⟩ = some (.string s))
          (go_keep) ((go_at_call 19; refine (float_any f.toNat _ hfl).mono ?_; rw [HN.out, HF.out]; rintro e w2 ⟨rfl, y⟩; have x2 : Below w.heap.size w w2 := ext_trans y1 (show Below w1.heap.size w1 w2 from ⟨y.os, y.tape, y.output, y.size, y.block⟩); obtain ⟨f0, f1, f2, f3⟩ := box_v ((y.block w.heap.size hlt).trans HBX.out); clear y))
        all_goals go_wp2_with (fail)
        all_goals go_ret
        all_goals exact ⟨ret_boolV HR.out, by first | exact x2 | exact below_draws x2⟩
      · by_cases h4 : k = 4
        · subst h4
          obtain ⟨O, hO⟩ : ∃ X : Bool, decide (s.size ≤ 64 ∧ textOk s = true) = X := ⟨_, rfl⟩
          rw [show mayV ⟨4, n, f, s⟩ = (decide (s.size ≤ 64 ∧ textOk s = true) && beqV ⟨4, n, f, s⟩ ⟨4, 0, 0, s⟩) from rfl, hO] at hR
          have HR := Lib.hid hR
          have HO := Lib.hid hO
          have hT1 := Utf8Tabs_below hT y1
          clear hR h1 h2 h3 hO
          go_enter Tryd.func16, Tryd.ntmps16
          go_wp2_with (go_at_call 11; refine Hid.out ?_)
          generalize w.alloc (.cells #[.int .u8 4, .int .i64 n, .int .u64 f, .string s] 24) = w1 at *
          refine Lib.hid ?_
          obtain ⟨b0, b1, b2, b3⟩ := box_v HBX.out
          refine (text_any s w1 hT1).mono ?_
          rintro e w2 ⟨he, y⟩
          have x2 := ext_trans y1 y
          obtain ⟨f0, f1, f2, f3⟩ := box_v ((y.block w.heap.size hlt).trans HBX.out)
          have hs2 : w.heap.size < w2.heap.size := by have := y.size; omega
          clear y b0 b1 b2 b3
          cases O with
          | true =>
            have ho := of_decide_eq_true HO.out
            rw [if_pos ho, if_pos ho] at he
            subst he
            clear ho
            go_wp2_with (fail)
            go_ret
            exact ⟨ret_boolV (by rw [← HR.out]; rfl), x2.alloc x2.size _⟩
          | false =>
            have ho := of_decide_eq_false HO.out
            rw [if_neg ho, if_neg ho] at he
            subst he
            clear ho
            go_wp2_with (fail)
            go_ret
            exact ⟨ret_boolV (by rw [← HR.out]; rfl), x2.alloc x2.size _⟩
        · have e : mayV ⟨k, n, f, s⟩ = false := by unfold mayV; simp only; rw [if_neg h1, if_neg h2, if_neg h3, if_neg h4]
          rw [e] at hR
          subst hR
          clear e
          have z1 : (k == 1) = false := beq_eq_false_iff_ne.2 h1
          have z2 : (k == 2) = false := beq_eq_false_iff_ne.2 h2
          have z3 : (k == 3) = false := beq_eq_false_iff_ne.2 h3
          have z4 : (k == 4) = false := beq_eq_false_iff_ne.2 h4
          clear h1 h2 h3 h4
          go_enter Tryd.func16, Tryd.ntmps16
          go_wp2_with (fail)
          go_ret
          exact ⟨rfl, y1⟩
end Go.Proofs.YtclfplpggmefjaaDoor
