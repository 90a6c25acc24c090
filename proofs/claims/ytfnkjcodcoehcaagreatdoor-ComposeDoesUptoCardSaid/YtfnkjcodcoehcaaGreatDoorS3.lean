/- Merged texts: Flo, RuReads, RuBytes. -/
import Ieee.Arith
import GoSem.Core.Float
import Derived.Laws.FloatBits
import Derived.Deep.LoopGhost
import Derived.Deep.DeepMust
import Derived.Test.YtfnkjcodcoehcaaGreatDoorS2
namespace Go.Proofs.YtfnkjcodcoehcaaGreatDoor
open Ieee
set_option linter.unusedVariables false
set_option linter.unusedSimpArgs false

/-- the datum of a word, in numbers -/
theorem read_eq (w : Nat) : Ieee.double.read w =
    if w % 9223372036854775808 < 4503599627370496 then .number (w / 9223372036854775808 % 2 == 1) (w % 9223372036854775808) (-1074)
    else if w % 9223372036854775808 < 9218868437227405312 then
      .number (w / 9223372036854775808 % 2 == 1) (4503599627370496 + w % 9223372036854775808 % 4503599627370496) (-1074 + (w % 9223372036854775808 / 4503599627370496 - 1 : Nat))
    else if w % 9223372036854775808 = 9218868437227405312 then .infinity (w / 9223372036854775808 % 2 == 1)
    else .nan (w / 9223372036854775808 % 2 == 1) (w % 9223372036854775808 - 9218868437227405312) := rfl

/-- a rung's magnitude, in units of the least -/
def magF (r : Nat) : Nat := if r < 4503599627370496 then r else (4503599627370496 + r % 4503599627370496) * 2 ^ (r / 4503599627370496 - 1)
theorem magF_succ (r : Nat) : magF r < magF (r + 1) := by
  unfold magF
  by_cases h : r + 1 < 4503599627370496
  · rw [if_pos h, if_pos (by omega)]; omega
  · by_cases h2 : r < 4503599627370496
    · have e : r = 4503599627370495 := by omega
      subst e
      decide
    · rw [if_neg h2, if_neg h]
      by_cases h3 : (r + 1) % 4503599627370496 = 0
      · have e1 : r % 4503599627370496 = 4503599627370495 := by omega
        have e2 : (r + 1) / 4503599627370496 - 1 = (r / 4503599627370496 - 1) + 1 := by omega
        rw [h3, e1, e2, Nat.pow_succ]
        have hp : 0 < 2 ^ (r / 4503599627370496 - 1) := Nat.two_pow_pos _
        generalize 2 ^ (r / 4503599627370496 - 1) = p at *
        omega
      · have e1 : (r + 1) % 4503599627370496 = r % 4503599627370496 + 1 := by omega
        have e2 : (r + 1) / 4503599627370496 = r / 4503599627370496 := by omega
        rw [e1, e2]
        exact Nat.mul_lt_mul_of_pos_right (by omega) (Nat.two_pow_pos _)
theorem magF_lt {a b : Nat} (h : a < b) : magF a < magF b := by
  obtain ⟨k, rfl⟩ : ∃ k, b = a + 1 + k := ⟨b - (a + 1), by omega⟩
  clear h
  induction k with
  | zero => exact magF_succ a
  | succ k ih => exact Nat.lt_trans ih (magF_succ _)
theorem magF_zero : magF 0 = 0 := rfl

def sgn (s : Bool) (m : Nat) : Int := if s then -(m : Int) else (m : Int)
theorem signed_eq (s : Bool) (m u : Nat) : signed s m u = sgn s (m * 2 ^ u) := by
  unfold signed sgn
  rw [Nat.shiftLeft_eq]
theorem sgn_mul (s : Bool) (m c : Nat) : sgn s (m * c) = sgn s m * c := by
  unfold sgn
  cases s <;> simp [Int.neg_mul]
theorem cmp_mul {x y : Int} {c : Nat} (h : 0 < c) : compare (x * c) (y * c) = compare x y := by
  have hc : (0 : Int) < c := by omega
  rcases Int.lt_trichotomy x y with hx | hx | hx
  · rw [Int.compare_eq_lt.2 hx, Int.compare_eq_lt.2 (Int.mul_lt_mul_of_pos_right hx hc)]
  · subst hx; simp
  · rw [Int.compare_eq_gt.2 hx, Int.compare_eq_gt.2 (Int.mul_lt_mul_of_pos_right hx hc)]
theorem sgn_mono (s t : Bool) (a b : Nat) : compare (sgn s (magF a)) (sgn t (magF b)) = compare (sgn s a) (sgn t b) := by
  have key : ∀ x y : Nat, (magF x < magF y ↔ x < y) ∧ (magF x = magF y ↔ x = y) := fun x y => by
    rcases Nat.lt_trichotomy x y with h | h | h
    · have := magF_lt h; constructor <;> constructor <;> intro _ <;> omega
    · subst h; simp
    · have := magF_lt h; constructor <;> constructor <;> intro _ <;> omega
  have k0 := key a b
  have ka := key 0 a
  have kb := key 0 b
  rw [magF_zero] at ka kb
  generalize magF a = ma at *
  generalize magF b = mb at *
  have hh : ∀ x y x' y' : Int, (x < y ↔ x' < y') → (x = y ↔ x' = y') → compare x y = compare x' y' := fun x y x' y' h1 h2 => by
    rcases Int.lt_trichotomy x y with h | h | h
    · rw [Int.compare_eq_lt.2 h, Int.compare_eq_lt.2 (h1.1 h)]
    · rw [Int.compare_eq_eq.2 h, Int.compare_eq_eq.2 (h2.1 h)]
    · have h3 : ¬ x' < y' := fun c => by have := h1.2 c; omega
      have h4 : ¬ x' = y' := fun c => by have := h2.2 c; omega
      rw [Int.compare_eq_gt.2 h, Int.compare_eq_gt.2 (by omega)]
  apply hh <;> cases s <;> cases t <;> simp only [sgn, Bool.false_eq_true, if_false, if_true] <;> constructor <;> intro _ <;> omega

/-- a number's datum, against the rung's magnitude -/
theorem read_num {w : Nat} (h : w % 9223372036854775808 < 9218868437227405312) :
    ∃ m p, Ieee.double.read w = .number (w / 9223372036854775808 % 2 == 1) m p ∧ -1074 ≤ p ∧ m * 2 ^ (p + 1074).toNat = magF (w % 9223372036854775808) := by
  rw [read_eq]
  unfold magF
  by_cases h1 : w % 9223372036854775808 < 4503599627370496
  · rw [if_pos h1, if_pos h1]
    exact ⟨_, _, rfl, by omega, by simp⟩
  · rw [if_neg h1, if_neg h1, if_pos h]
    refine ⟨_, _, rfl, by omega, ?_⟩
    congr 2
    omega
/-- a word as a whole number that rises with what it stands for -/
def keyF (w : Nat) : Int := sgn (w / 9223372036854775808 % 2 == 1) (w % 9223372036854775808)
def isNanF (w : Nat) : Bool := decide (9218868437227405312 < w % 9223372036854775808)
theorem order_nan {a b : Nat} (h : isNanF a = true ∨ isNanF b = true) : Ieee.double.order a b = none := by
  have hn : ∀ w, isNanF w = true → ∃ s t, Ieee.double.read w = .nan s t := fun w hw => by
    have := of_decide_eq_true hw
    rw [read_eq, if_neg (by omega), if_neg (by omega), if_neg (by omega)]
    exact ⟨_, _, rfl⟩
  unfold Format.order
  rcases h with h | h
  · obtain ⟨s, t, e⟩ := hn a h
    rw [e]
    cases Ieee.double.read b <;> rfl
  · obtain ⟨s, t, e⟩ := hn b h
    rw [e]
    cases Ieee.double.read a <;> rfl
theorem read_inf {w : Nat} (h : w % 9223372036854775808 = 9218868437227405312) : Ieee.double.read w = .infinity (w / 9223372036854775808 % 2 == 1) := by
  rw [read_eq, if_neg (by omega), if_neg (by omega), if_pos h]
theorem order_num {a b : Nat} (ha : isNanF a = false) (hb : isNanF b = false) : Ieee.double.order a b = some (compare (keyF a) (keyF b)) := by
  have ha := of_decide_eq_false ha
  have hb := of_decide_eq_false hb
  unfold Format.order keyF
  generalize hs : (a / 9223372036854775808 % 2 == 1) = s
  generalize ht : (b / 9223372036854775808 % 2 == 1) = t
  by_cases ia : a % 9223372036854775808 = 9218868437227405312
  · rw [read_inf ia, hs, ia]
    by_cases ib : b % 9223372036854775808 = 9218868437227405312
    · rw [read_inf ib, ht, ib]
      cases s <;> cases t <;> rfl
    · obtain ⟨m, p, e, _, _⟩ := read_num (w := b) (by omega)
      rw [e]
      generalize b % 9223372036854775808 = r at *
      simp only [Datum.order]
      cases s
      · simp only [Bool.false_eq_true, if_false]
        rw [Int.compare_eq_gt.2 (by unfold sgn; cases t <;> simp <;> omega)]
      · simp only [if_true]
        rw [Int.compare_eq_lt.2 (by unfold sgn; cases t <;> simp <;> omega)]
  · by_cases ib : b % 9223372036854775808 = 9218868437227405312
    · obtain ⟨m, p, e, _, _⟩ := read_num (w := a) (by omega)
      rw [read_inf ib, ht, ib, e]
      generalize a % 9223372036854775808 = r at *
      simp only [Datum.order]
      cases t
      · simp only [Bool.false_eq_true, if_false]
        rw [Int.compare_eq_lt.2 (by unfold sgn; cases s <;> simp <;> omega)]
      · simp only [if_true]
        rw [Int.compare_eq_gt.2 (by unfold sgn; cases s <;> simp <;> omega)]
    · obtain ⟨m, p, e, hp, hm⟩ := read_num (w := a) (by omega)
      obtain ⟨n, q, e2, hq, hn⟩ := read_num (w := b) (by omega)
      rw [e, e2, hs, ht]
      simp only [Datum.order]
      congr 1
      rw [signed_eq, signed_eq, ← sgn_mono s t (a % 9223372036854775808) (b % 9223372036854775808), ← hm, ← hn]
      have hb1 : (p + 1074).toNat = (p - min p q).toNat + (min p q + 1074).toNat := by omega
      have hb2 : (q + 1074).toNat = (q - min p q).toNat + (min p q + 1074).toNat := by omega
      rw [hb1, hb2, Nat.pow_add, Nat.pow_add, ← Nat.mul_assoc, ← Nat.mul_assoc, sgn_mul s (m * 2 ^ (p - min p q).toNat) (2 ^ (min p q + 1074).toNat), sgn_mul t (n * 2 ^ (q - min p q).toNat) (2 ^ (min p q + 1074).toNat), cmp_mul (Nat.two_pow_pos _)]
theorem order_self (a : Nat) : (Ieee.double.order a a != some .eq) = isNanF a := by
  cases h : isNanF a with
  | true => rw [order_nan (.inl h)]; rfl
  | false =>
    rw [order_num h h, Int.compare_eq_eq.2 rfl]
    rfl

/-! ### whole numbers -/
end Go.Proofs.YtfnkjcodcoehcaaGreatDoor
namespace Go.Proofs.YtfnkjcodcoehcaaGreatDoor
open Go.RowKit
set_option linter.unusedVariables false
set_option linter.unusedSimpArgs false

theorem ret_boolR {a b : Bool} (h : a = b) : Ending.returned (.bool a) = Ending.returned (.bool b) := by rw [h]
/-- the answer v, and nothing but draws -/
def QuietR (v : Value) (w : World) (e : Ending) (w' : World) : Prop := e = .returned v ∧ ∃ d, w' = w.drewN d

/-- how many newlines -/
def nlR (l : List Int) : Nat := l.countP (fun r => r == 10)
set_option maxHeartbeats 400000 in
theorem refSame_any (A B : Option Addr) (n m c d : Nat) (l k : List Int) (w : World) (hn : n = l.length) (hm : m = k.length) (h1 : RdI32 w w.heap.size A l) (h2 : RdI32 w w.heap.size B k) (hb : n ≤ 140737488355328) (hb2 : m ≤ 140737488355328) :
    Calls Tryz.prog 59 #[.slice A n c, .slice B m d] w (QuietR (.bool (decide (l = k))) w) := by
  have N := Lib.hid hn
  have M := Lib.hid hm
  generalize hR : decide (l = k) = R
  have HR := Lib.hid hR
  clear hn hR hm
  by_cases hnm : (n : Int) = m
  · have hnm' : n = m := by omega
    subst hnm'
    clear hnm
    go_enter Tryz.func59, Tryz.ntmps59
    go_wp2_with (fail)
    go_loopg [5] n (fun g iv wr => ∃ i : Nat, i ≤ n ∧ g = n - i ∧ iv = .int .i64 (i : Int) ∧ (∃ d, wr = w.drewN d) ∧ Hid (decide (l.drop i = k.drop i) = R))
    case atStart => exact ⟨0, by omega, rfl, rfl, ⟨0, rfl⟩, Lib.hid (by rw [List.drop_zero, List.drop_zero]; exact HR.out)⟩
    case round =>
      obtain ⟨i, hi, hg, rfl, ⟨q, rfl⟩, HI⟩ := hrel
      have HG := Lib.hid hg
      clear hg HR
      by_cases hlt : i < n
      · have hl1 : i < l.length := by have := N.out; omega
        have hl2 : i < k.length := by have := M.out; omega
        obtain ⟨ad, x, rfl, _, hd1, _, hc1⟩ := h1.el hl1
        obtain ⟨ad2, y, rfl, _, hd2, _, hc2⟩ := h2.el hl2
        have HI' : Hid (decide (x :: l.drop (i + 1) = y :: k.drop (i + 1)) = R) := Lib.hid (by rw [← HI.out, hd1, hd2])
        clear HI hd1 hd2
        have r0 : w.cell? (ad.add (i * 1)) = some (.int .i32 x) := by have := hc1 0 _ rfl; rwa [add_zero'] at this
        have s0 : w.cell? (ad2.add (i * 1)) = some (.int .i32 y) := by have := hc2 0 _ rfl; rwa [add_zero'] at this
        rw [Nat.mul_one] at r0 s0
        clear hc1 hc2
        by_cases hxy : x = y
        · subst hxy
          go_wp2_with (go_quiet (fail))
          go_roundg (n - (i + 1))
          case measure => have := HG.out; omega
          case rel => exact ⟨i + 1, by omega, rfl, by go_num, ⟨_, rfl⟩, Lib.hid (by rw [← HI'.out]; simp only [List.cons.injEq, true_and])⟩
        · go_wp2_with (go_quiet (fail))
          go_ret
          exact ⟨ret_boolR (by rw [← HI'.out]; exact (decide_eq_false fun e => hxy (List.cons.inj e).1).symm), _, World.drewN_drewN _ _ _⟩
      · go_wp2_with (fail)
        go_ret
        exact ⟨ret_boolR (by rw [← HI.out, List.drop_eq_nil_of_le (by have := N.out; omega), List.drop_eq_nil_of_le (by have := M.out; omega)]; rfl), _, rfl⟩
  · have hne : ((n : Int) == m) = false := beq_eq_false_iff_ne.2 hnm
    go_enter Tryz.func59, Tryz.ntmps59
    go_wp2_with (fail)
    go_ret
    refine ⟨ret_boolR ?_, 0, rfl⟩
    rw [← HR.out]
    refine (decide_eq_false fun e => ?_).symm
    have h3 := N.out
    have h4 := M.out
    rw [e] at h3
    omega
end Go.Proofs.YtfnkjcodcoehcaaGreatDoor
namespace Go.Proofs.YtfnkjcodcoehcaaGreatDoor
open Go.RowKit
set_option linter.unusedVariables false
set_option linter.unusedSimpArgs false

theorem encR_len (r : Int) : 1 ≤ (encR r).length ∧ (encR r).length ≤ 4 := by
  unfold encR
  split
  · simp
  · split
    · simp
    · split <;> simp
theorem mayR_le {r : Int} (h : mayR r = true) : 0 ≤ r ∧ r ≤ 1114111 := by have := of_decide_eq_true h; omega
end Go.Proofs.YtfnkjcodcoehcaaGreatDoor
