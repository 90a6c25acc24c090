/- The walks of rubricref01.Same and of both Newlines. -/
import Derived.Test.YteaglmdlghdohaaDoorRuTypes
import Derived.Deep.LoopGhost
import Derived.Deep.DeepMust
namespace Go.Proofs.YteaglmdlghdohaaDoor
open Go.RowKit
set_option linter.unusedVariables false
set_option linter.unusedSimpArgs false

theorem ret_boolR {a b : Bool} (h : a = b) : Ending.returned (.bool a) = Ending.returned (.bool b) := by rw [h]
/-- the answer v, and nothing but draws -/
def QuietR (v : Value) (w : World) (e : Ending) (w' : World) : Prop := e = .returned v ∧ ∃ d, w' = w.drewN d

/-- how many newlines -/
def nlR (l : List Int) : Nat := l.countP (fun r => r == 10)
theorem nlR_take {l : List Int} {i : Nat} {r : Int} (h : l[i]? = some r) : nlR (l.take (i + 1)) = nlR (l.take i) + (if r = 10 then 1 else 0) := by
  obtain ⟨hi, he⟩ := List.getElem?_eq_some_iff.1 h
  rw [List.take_succ_eq_append_getElem hi, he]
  simp [nlR, List.countP_append, List.countP_cons]
theorem nlR_le (l : List Int) (i : Nat) : nlR (l.take i) ≤ l.length := by
  have h1 := List.countP_le_length (p := fun r => r == (10 : Int)) (l := l.take i)
  have h2 := List.length_take (i := i) (l := l)
  unfold nlR
  omega

set_option maxHeartbeats 400000 in
theorem newlines_any (A : Option Addr) (n c : Nat) (l : List Int) (w : World) (hn : n = l.length) (h : RdI32 w w.heap.size A l) (hb : n ≤ 9223372036854775806) :
    Calls Tryd.prog 15 #[.slice A n c] w fun e w' => e = .returned (.int .i64 (nlR l : Nat)) ∧ w = w' := by
  have N := Lib.hid hn
  clear hn
  go_enter Tryd.func15, Tryd.ntmps15
  go_wp2_with (fail)
  go_loopg [3, 8] n (fun g kv iv wr => ∃ i k : Nat, i ≤ n ∧ g = n - i ∧ kv = .int .i64 (k : Int) ∧ iv = .int .i64 (i : Int) ∧ w = wr ∧ Hid (nlR (l.take i) = k))
  case atStart => exact ⟨0, 0, by omega, rfl, rfl, rfl, rfl, Lib.hid rfl⟩
  case round =>
    obtain ⟨i, k, hi, hg, rfl, rfl, rfl, HK⟩ := hrel
    have HG := Lib.hid hg
    clear hg
    by_cases hlt : i < n
    · obtain ⟨ad, r, rfl, _, _, hri, hc1⟩ := h.el (i := i) (by have := N.out; omega)
      have r0 : w.cell? (ad.add (i * 1)) = some (.int .i32 r) := by have := hc1 0 _ rfl; rwa [add_zero'] at this
      rw [Nat.mul_one] at r0
      have hk1 := nlR_take hri
      have hk2 := nlR_le l i
      rw [HK.out] at hk1 hk2
      have hkb : k ≤ n := by rw [N.out]; exact hk2
      clear hk2 hri hc1
      by_cases h10 : r = 10
      · rw [if_pos h10] at hk1
        subst h10
        have HK1 := Lib.hid hk1
        clear hk1
        go_wp2_with (fail)
        go_roundg (n - (i + 1))
        case measure => have := HG.out; omega
        case rel => exact ⟨i + 1, k + 1, by omega, rfl, by go_num, by go_num, rfl, HK1⟩
      · rw [if_neg h10] at hk1
        have HK1 := Lib.hid hk1
        clear hk1
        go_wp2_with (fail)
        go_roundg (n - (i + 1))
        case measure => have := HG.out; omega
        case rel => exact ⟨i + 1, k, by omega, rfl, rfl, by go_num, rfl, HK1⟩
    · have hl : nlR l = k := by rw [← HK.out, List.take_of_length_le (by have := N.out; omega)]
      have HL := Lib.hid hl
      clear hl
      go_wp2_with (fail)
      go_ret
      exact ⟨by rw [HL.out]; rfl, rfl⟩
set_option maxHeartbeats 400000 in
theorem refNewlines_any (A : Option Addr) (n c : Nat) (l : List Int) (w : World) (hn : n = l.length) (h : RdI32 w w.heap.size A l) (hb : n ≤ 9223372036854775806) :
    Calls Tryd.prog 16 #[.slice A n c] w fun e w' => e = .returned (.int .i64 (nlR l : Nat)) ∧ w = w' := by
  have N := Lib.hid hn
  clear hn
  go_enter Tryd.func16, Tryd.ntmps16
  go_wp2_with (fail)
  go_loopg [3, 4] n (fun g kv iv wr => ∃ i k : Nat, i ≤ n ∧ g = n - i ∧ kv = .int .i64 (k : Int) ∧ iv = .int .i64 (i : Int) ∧ w = wr ∧ Hid (nlR (l.take i) = k))
  case atStart => exact ⟨0, 0, by omega, rfl, rfl, rfl, rfl, Lib.hid rfl⟩
  case round =>
    obtain ⟨i, k, hi, hg, rfl, rfl, rfl, HK⟩ := hrel
    have HG := Lib.hid hg
    clear hg
    by_cases hlt : i < n
    · obtain ⟨ad, r, rfl, _, _, hri, hc1⟩ := h.el (i := i) (by have := N.out; omega)
      have r0 : w.cell? (ad.add (i * 1)) = some (.int .i32 r) := by have := hc1 0 _ rfl; rwa [add_zero'] at this
      rw [Nat.mul_one] at r0
      have hk1 := nlR_take hri
      have hk2 := nlR_le l i
      rw [HK.out] at hk1 hk2
      have hkb : k ≤ n := by rw [N.out]; exact hk2
      clear hk2 hri hc1
      by_cases h10 : r = 10
      · rw [if_pos h10] at hk1
        subst h10
        have HK1 := Lib.hid hk1
        clear hk1
        go_wp2_with (fail)
        go_roundg (n - (i + 1))
        case measure => have := HG.out; omega
        case rel => exact ⟨i + 1, k + 1, by omega, rfl, by go_num, by go_num, rfl, HK1⟩
      · rw [if_neg h10] at hk1
        have HK1 := Lib.hid hk1
        clear hk1
        go_wp2_with (fail)
        go_roundg (n - (i + 1))
        case measure => have := HG.out; omega
        case rel => exact ⟨i + 1, k, by omega, rfl, rfl, by go_num, rfl, HK1⟩
    · have hl : nlR l = k := by rw [← HK.out, List.take_of_length_le (by have := N.out; omega)]
      have HL := Lib.hid hl
      clear hl
      go_wp2_with (fail)
      go_ret
      exact ⟨by rw [HL.out]; rfl, rfl⟩

set_option maxHeartbeats 400000 in
theorem refSame_any (A B : Option Addr) (n m c d : Nat) (l k : List Int) (w : World) (hn : n = l.length) (hm : m = k.length) (h1 : RdI32 w w.heap.size A l) (h2 : RdI32 w w.heap.size B k) (hb : n ≤ 140737488355328) (hb2 : m ≤ 140737488355328) :
    Calls Tryd.prog 12 #[.slice A n c, .slice B m d] w (QuietR (.bool (decide (l = k))) w) := by
  have N := Lib.hid hn
  have M := Lib.hid hm
  generalize hR : decide (l = k) = R
  have HR := Lib.hid hR
  clear hn hR hm
  by_cases hnm : (n : Int) = m
  · have hnm' : n = m := by omega
    subst hnm'
    clear hnm
    go_enter Tryd.func12, Tryd.ntmps12
    go_wp2_with (fail)
    go_loopg [5] n (fun g iv wr => ∃ i : Nat, i ≤ n ∧ g = n - i ∧ iv = .int .i64 (i : Int) ∧ (∃ d, wr = w.drewN d) ∧ Hid (decide (l.drop i = k.drop i) = R))
    case atStart => exact ⟨0, by omega, rfl, rfl, ⟨0, rfl⟩, Lib.hid (by rw [List.drop_zero, List.drop_zero]; exact HR.out)⟩
    case round =>
      obtain ⟨i, hi, hg, rfl, ⟨q, rfl⟩, HI⟩ := hrel
      have HG := Lib.hid hg
      clear hg HR
      by_cases hlt : i < n
      · have hl1 : i < l.length := by have := N.out; omega
        have hl2 : i < k.length := by have := M.out; omega
        obtain ⟨ad, x, rfl, _, hd1, _, hc1⟩ := h1.el hl1
        obtain ⟨ad2, y, rfl, _, hd2, _, hc2⟩ := h2.el hl2
        have HI' : Hid (decide (x :: l.drop (i + 1) = y :: k.drop (i + 1)) = R) := Lib.hid (by rw [← HI.out, hd1, hd2])
        clear HI hd1 hd2
        have r0 : w.cell? (ad.add (i * 1)) = some (.int .i32 x) := by have := hc1 0 _ rfl; rwa [add_zero'] at this
        have s0 : w.cell? (ad2.add (i * 1)) = some (.int .i32 y) := by have := hc2 0 _ rfl; rwa [add_zero'] at this
        rw [Nat.mul_one] at r0 s0
        clear hc1 hc2
        by_cases hxy : x = y
        · subst hxy
          go_wp2_with (go_quiet (fail))
          go_roundg (n - (i + 1))
          case measure => have := HG.out; omega
          case rel => exact ⟨i + 1, by omega, rfl, by go_num, ⟨_, rfl⟩, Lib.hid (by rw [← HI'.out]; simp only [List.cons.injEq, true_and])⟩
        · go_wp2_with (go_quiet (fail))
          go_ret
          exact ⟨ret_boolR (by rw [← HI'.out]; exact (decide_eq_false fun e => hxy (List.cons.inj e).1).symm), _, World.drewN_drewN _ _ _⟩
      · go_wp2_with (fail)
        go_ret
        exact ⟨ret_boolR (by rw [← HI.out, List.drop_eq_nil_of_le (by have := N.out; omega), List.drop_eq_nil_of_le (by have := M.out; omega)]; rfl), _, rfl⟩
  · have hne : ((n : Int) == m) = false := beq_eq_false_iff_ne.2 hnm
    go_enter Tryd.func12, Tryd.ntmps12
    go_wp2_with (fail)
    go_ret
    refine ⟨ret_boolR ?_, 0, rfl⟩
    rw [← HR.out]
    refine (decide_eq_false fun e => ?_).symm
    have h3 := N.out
    have h4 := M.out
    rw [e] at h3
    omega
end Go.Proofs.YteaglmdlghdohaaDoor
