/- Plain laws of float64 by its bits: how two stand to each other, whole numbers near it. Nothing of the program stands here. -/
import Ieee.Arith
import GoSem.Core.Float
import Derived.Laws.FloatBits
namespace Go.Proofs.YtclfplpggmefjaaDoor
open Ieee
set_option linter.unusedVariables false
set_option linter.unusedSimpArgs false

theorem dW (w : Nat) : w / Ieee.double.signWeight % 2 = w / 9223372036854775808 % 2 := rfl
/-- the datum of a word, in numbers -/
theorem read_eq (w : Nat) : Ieee.double.read w =
    if w % 9223372036854775808 < 4503599627370496 then .number (w / 9223372036854775808 % 2 == 1) (w % 9223372036854775808) (-1074)
    else if w % 9223372036854775808 < 9218868437227405312 then
      .number (w / 9223372036854775808 % 2 == 1) (4503599627370496 + w % 9223372036854775808 % 4503599627370496) (-1074 + (w % 9223372036854775808 / 4503599627370496 - 1 : Nat))
    else if w % 9223372036854775808 = 9218868437227405312 then .infinity (w / 9223372036854775808 % 2 == 1)
    else .nan (w / 9223372036854775808 % 2 == 1) (w % 9223372036854775808 - 9218868437227405312) := rfl

/-- a rung's magnitude, in units of the least -/
def magF (r : Nat) : Nat := if r < 4503599627370496 then r else (4503599627370496 + r % 4503599627370496) * 2 ^ (r / 4503599627370496 - 1)
theorem magF_succ (r : Nat) : magF r < magF (r + 1) := by
  unfold magF
  by_cases h : r + 1 < 4503599627370496
  · rw [if_pos h, if_pos (by omega)]; omega
  · by_cases h2 : r < 4503599627370496
    · have e : r = 4503599627370495 := by omega
      subst e
      decide
    · rw [if_neg h2, if_neg h]
      by_cases h3 : (r + 1) % 4503599627370496 = 0
      · have e1 : r % 4503599627370496 = 4503599627370495 := by omega
        have e2 : (r + 1) / 4503599627370496 - 1 = (r / 4503599627370496 - 1) + 1 := by omega
        rw [h3, e1, e2, Nat.pow_succ]
        have hp : 0 < 2 ^ (r / 4503599627370496 - 1) := Nat.two_pow_pos _
        generalize 2 ^ (r / 4503599627370496 - 1) = p at *
        omega
      · have e1 : (r + 1) % 4503599627370496 = r % 4503599627370496 + 1 := by omega
        have e2 : (r + 1) / 4503599627370496 = r / 4503599627370496 := by omega
        rw [e1, e2]
        exact Nat.mul_lt_mul_of_pos_right (by omega) (Nat.two_pow_pos _)
theorem magF_lt {a b : Nat} (h : a < b) : magF a < magF b := by
  obtain ⟨k, rfl⟩ : ∃ k, b = a + 1 + k := ⟨b - (a + 1), by omega⟩
  clear h
  induction k with
  | zero => exact magF_succ a
  | succ k ih => exact Nat.lt_trans ih (magF_succ _)
theorem magF_zero : magF 0 = 0 := rfl

def sgn (s : Bool) (m : Nat) : Int := if s then -(m : Int) else (m : Int)
theorem signed_eq (s : Bool) (m u : Nat) : signed s m u = sgn s (m * 2 ^ u) := by
  unfold signed sgn
  rw [Nat.shiftLeft_eq]
theorem sgn_mul (s : Bool) (m c : Nat) : sgn s (m * c) = sgn s m * c := by
  unfold sgn
  cases s <;> simp [Int.neg_mul]
theorem cmp_mul {x y : Int} {c : Nat} (h : 0 < c) : compare (x * c) (y * c) = compare x y := by
  have hc : (0 : Int) < c := by omega
  rcases Int.lt_trichotomy x y with hx | hx | hx
  · rw [Int.compare_eq_lt.2 hx, Int.compare_eq_lt.2 (Int.mul_lt_mul_of_pos_right hx hc)]
  · subst hx; simp
  · rw [Int.compare_eq_gt.2 hx, Int.compare_eq_gt.2 (Int.mul_lt_mul_of_pos_right hx hc)]
theorem sgn_mono (s t : Bool) (a b : Nat) : compare (sgn s (magF a)) (sgn t (magF b)) = compare (sgn s a) (sgn t b) := by
  have key : ∀ x y : Nat, (magF x < magF y ↔ x < y) ∧ (magF x = magF y ↔ x = y) := fun x y => by
    rcases Nat.lt_trichotomy x y with h | h | h
    · have := magF_lt h; constructor <;> constructor <;> intro _ <;> omega
    · subst h; simp
    · have := magF_lt h; constructor <;> constructor <;> intro _ <;> omega
  have k0 := key a b
  have ka := key 0 a
  have kb := key 0 b
  rw [magF_zero] at ka kb
  generalize magF a = ma at *
  generalize magF b = mb at *
  have hh : ∀ x y x' y' : Int, (x < y ↔ x' < y') → (x = y ↔ x' = y') → compare x y = compare x' y' := fun x y x' y' h1 h2 => by
    rcases Int.lt_trichotomy x y with h | h | h
    · rw [Int.compare_eq_lt.2 h, Int.compare_eq_lt.2 (h1.1 h)]
    · rw [Int.compare_eq_eq.2 h, Int.compare_eq_eq.2 (h2.1 h)]
    · have h3 : ¬ x' < y' := fun c => by have := h1.2 c; omega
      have h4 : ¬ x' = y' := fun c => by have := h2.2 c; omega
      rw [Int.compare_eq_gt.2 h, Int.compare_eq_gt.2 (by omega)]
  apply hh <;> cases s <;> cases t <;> simp only [sgn, Bool.false_eq_true, if_false, if_true] <;> constructor <;> intro _ <;> omega

/-- a number's datum, against the rung's magnitude -/
theorem read_num {w : Nat} (h : w % 9223372036854775808 < 9218868437227405312) :
    ∃ m p, Ieee.double.read w = .number (w / 9223372036854775808 % 2 == 1) m p ∧ -1074 ≤ p ∧ m * 2 ^ (p + 1074).toNat = magF (w % 9223372036854775808) := by
  rw [read_eq]
  unfold magF
  by_cases h1 : w % 9223372036854775808 < 4503599627370496
  · rw [if_pos h1, if_pos h1]
    exact ⟨_, _, rfl, by omega, by simp⟩
  · rw [if_neg h1, if_neg h1, if_pos h]
    refine ⟨_, _, rfl, by omega, ?_⟩
    congr 2
    omega
/-- a word as a whole number that rises with what it stands for -/
def keyF (w : Nat) : Int := sgn (w / 9223372036854775808 % 2 == 1) (w % 9223372036854775808)
def isNanF (w : Nat) : Bool := decide (9218868437227405312 < w % 9223372036854775808)
theorem order_nan {a b : Nat} (h : isNanF a = true ∨ isNanF b = true) : Ieee.double.order a b = none := by
  have hn : ∀ w, isNanF w = true → ∃ s t, Ieee.double.read w = .nan s t := fun w hw => by
    have := of_decide_eq_true hw
    rw [read_eq, if_neg (by omega), if_neg (by omega), if_neg (by omega)]
    exact ⟨_, _, rfl⟩
  unfold Format.order
  rcases h with h | h
  · obtain ⟨s, t, e⟩ := hn a h
    rw [e]
    cases Ieee.double.read b <;> rfl
  · obtain ⟨s, t, e⟩ := hn b h
    rw [e]
    cases Ieee.double.read a <;> rfl
theorem read_inf {w : Nat} (h : w % 9223372036854775808 = 9218868437227405312) : Ieee.double.read w = .infinity (w / 9223372036854775808 % 2 == 1) := by
  rw [read_eq, if_neg (by omega), if_neg (by omega), if_pos h]
theorem order_num {a b : Nat} (ha : isNanF a = false) (hb : isNanF b = false) : Ieee.double.order a b = some (compare (keyF a) (keyF b)) := by
  have ha := of_decide_eq_false ha
  have hb := of_decide_eq_false hb
  unfold Format.order keyF
  generalize hs : (a / 9223372036854775808 % 2 == 1) = s
  generalize ht : (b / 9223372036854775808 % 2 == 1) = t
  by_cases ia : a % 9223372036854775808 = 9218868437227405312
  · rw [read_inf ia, hs, ia]
    by_cases ib : b % 9223372036854775808 = 9218868437227405312
    · rw [read_inf ib, ht, ib]
      cases s <;> cases t <;> rfl
    · obtain ⟨m, p, e, _, _⟩ := read_num (w := b) (by omega)
      rw [e]
      generalize b % 9223372036854775808 = r at *
      simp only [Datum.order]
      cases s
      · simp only [Bool.false_eq_true, if_false]
        rw [Int.compare_eq_gt.2 (by unfold sgn; cases t <;> simp <;> omega)]
      · simp only [if_true]
        rw [Int.compare_eq_lt.2 (by unfold sgn; cases t <;> simp <;> omega)]
  · by_cases ib : b % 9223372036854775808 = 9218868437227405312
    · obtain ⟨m, p, e, _, _⟩ := read_num (w := a) (by omega)
      rw [read_inf ib, ht, ib, e]
      generalize a % 9223372036854775808 = r at *
      simp only [Datum.order]
      cases t
      · simp only [Bool.false_eq_true, if_false]
        rw [Int.compare_eq_lt.2 (by unfold sgn; cases s <;> simp <;> omega)]
      · simp only [if_true]
        rw [Int.compare_eq_gt.2 (by unfold sgn; cases s <;> simp <;> omega)]
    · obtain ⟨m, p, e, hp, hm⟩ := read_num (w := a) (by omega)
      obtain ⟨n, q, e2, hq, hn⟩ := read_num (w := b) (by omega)
      rw [e, e2, hs, ht]
      simp only [Datum.order]
      congr 1
      rw [signed_eq, signed_eq, ← sgn_mono s t (a % 9223372036854775808) (b % 9223372036854775808), ← hm, ← hn]
      have hb1 : (p + 1074).toNat = (p - min p q).toNat + (min p q + 1074).toNat := by omega
      have hb2 : (q + 1074).toNat = (q - min p q).toNat + (min p q + 1074).toNat := by omega
      rw [hb1, hb2, Nat.pow_add, Nat.pow_add, ← Nat.mul_assoc, ← Nat.mul_assoc, sgn_mul s (m * 2 ^ (p - min p q).toNat) (2 ^ (min p q + 1074).toNat), sgn_mul t (n * 2 ^ (q - min p q).toNat) (2 ^ (min p q + 1074).toNat), cmp_mul (Nat.two_pow_pos _)]
theorem order_self (a : Nat) : (Ieee.double.order a a != some .eq) = isNanF a := by
  cases h : isNanF a with
  | true => rw [order_nan (.inl h)]; rfl
  | false =>
    rw [order_num h h, Int.compare_eq_eq.2 rfl]
    rfl

/-! ### whole numbers -/
/-- the kept digits of a whole number, of which d are dropped: to the nearest, ties to even -/
def keepE (n d : Nat) : Nat := n / 2 ^ d + (if 2 ^ d < 2 * (n % 2 ^ d) ∨ (2 ^ d = 2 * (n % 2 ^ d) ∧ n / 2 ^ d % 2 = 1) then 1 else 0)
theorem cut_even (neg : Bool) (n d : Nat) (h : d ≤ n.log2 + 2) : Toward.even.cut neg n d = keepE n d := by
  unfold Toward.cut keepE
  simp only [Nat.min_eq_left h, Nat.one_shiftLeft]
  congr 1
  by_cases c : 2 ^ d < 2 * (n % 2 ^ d) ∨ (2 ^ d = 2 * (n % 2 ^ d) ∧ n / 2 ^ d % 2 = 1)
  · rw [if_pos c]
    have : (decide (2 ^ d < 2 * (n % 2 ^ d)) || (2 ^ d == 2 * (n % 2 ^ d)) && (n / 2 ^ d % 2 == 1)) = true := by simpa using c
    rw [this]; rfl
  · rw [if_neg c]
    have : (decide (2 ^ d < 2 * (n % 2 ^ d)) || (2 ^ d == 2 * (n % 2 ^ d)) && (n / 2 ^ d % 2 == 1)) = false := by
      rw [Bool.eq_false_iff]
      intro h
      exact c (by simpa using h)
    rw [this]; rfl
theorem keepE_mono {m n : Nat} (d : Nat) (h : m ≤ n) : keepE m d ≤ keepE n d := by
  unfold keepE
  have hp : 0 < 2 ^ d := Nat.two_pow_pos _
  have hm := Nat.div_add_mod m (2 ^ d)
  have hn := Nat.div_add_mod n (2 ^ d)
  have lm := Nat.mod_lt m hp
  have ln := Nat.mod_lt n hp
  have hq : m / 2 ^ d ≤ n / 2 ^ d := Nat.div_le_div_right h
  rcases Nat.lt_or_ge (m / 2 ^ d) (n / 2 ^ d) with hlt | hge
  · split <;> split <;> omega
  · have e : m / 2 ^ d = n / 2 ^ d := by omega
    rw [e] at hm ⊢
    have hr : m % 2 ^ d ≤ n % 2 ^ d := by omega
    split <;> split <;> omega
theorem keepE_zero (n : Nat) : keepE n 0 = n := by
  unfold keepE
  simp [Nat.mod_one]
/-- the digits that are kept of a whole number -/
def keptN (m : Nat) : Nat := if m.log2 ≤ 52 then m * 2 ^ (52 - m.log2) else keepE m (m.log2 - 52)
/-- the rung of a whole number -/
def rungN (m : Nat) : Nat := if m = 0 then 0 else (m.log2 + 1022) * 4503599627370496 + keptN m
theorem log_lt {m k : Nat} (hm : m < 2 ^ k) (h0 : m ≠ 0) : m.log2 < k := by
  have := Nat.log2_self_le h0
  exact (Nat.pow_lt_pow_iff_right (by omega)).1 (Nat.lt_of_le_of_lt this hm)
theorem kept_bd {m : Nat} (h0 : m ≠ 0) : 4503599627370496 ≤ keptN m ∧ keptN m ≤ 9007199254740992 := by
  have h1 := Nat.log2_self_le h0
  have h2 := Nat.lt_log2_self (n := m)
  unfold keptN
  by_cases h : m.log2 ≤ 52
  · rw [if_pos h]
    have hp : 0 < 2 ^ (52 - m.log2) := Nat.two_pow_pos _
    have e1 : 2 ^ m.log2 * 2 ^ (52 - m.log2) = 4503599627370496 := by rw [← Nat.pow_add, show m.log2 + (52 - m.log2) = 52 by omega]
    have a1 := Nat.mul_le_mul_right (2 ^ (52 - m.log2)) h1
    have a2 := (Nat.mul_lt_mul_right hp).2 h2
    rw [e1] at a1
    rw [Nat.pow_succ, Nat.mul_right_comm, e1] at a2
    omega
  · rw [if_neg h]
    unfold keepE
    have hp : 0 < 2 ^ (m.log2 - 52) := Nat.two_pow_pos _
    have e1 : 4503599627370496 * 2 ^ (m.log2 - 52) = 2 ^ m.log2 := by
      rw [show (4503599627370496 : Nat) = 2 ^ 52 by decide, ← Nat.pow_add, show 52 + (m.log2 - 52) = m.log2 by omega]
    have a1 : 4503599627370496 ≤ m / 2 ^ (m.log2 - 52) := (Nat.le_div_iff_mul_le hp).2 (by rw [e1]; exact h1)
    have a2 : m / 2 ^ (m.log2 - 52) < 9007199254740992 := (Nat.div_lt_iff_lt_mul hp).2 (by
      rw [show (9007199254740992 : Nat) = 4503599627370496 * 2 by decide, Nat.mul_right_comm, e1, ← Nat.pow_succ]
      exact h2)
    split <;> omega
theorem nearest_eq (neg : Bool) {m : Nat} (hm : m < 2 ^ 64) : Ieee.double.nearest neg m 0 = (if neg then 9223372036854775808 + rungN m else rungN m) := by
  have hW : ∀ r, Ieee.double.word neg r = (if neg then 9223372036854775808 + r else r) := fun r => rfl
  unfold Format.nearest
  by_cases h0 : m = 0
  · rw [if_pos h0, hW]
    simp [rungN, h0]
  · rw [if_neg h0]
    have hl := log_lt hm h0
    have hk := kept_bd h0
    have e1 : max ((0 : Int) + (m.log2 : Nat) - (Ieee.double.fractionBits : Nat)) Ieee.double.leastPlace = (m.log2 : Int) - 52 := by
      show max ((0 : Int) + (m.log2 : Nat) - 52) (-1074) = _
      omega
    simp only [e1]
    have e2 : Toward.even.cut neg (m <<< ((0 : Int) - ((m.log2 : Int) - 52)).toNat) (((m.log2 : Int) - 52) - 0).toNat = keptN m := by
      unfold keptN
      by_cases h : m.log2 ≤ 52
      · rw [if_pos h, show (((m.log2 : Int) - 52) - 0).toNat = 0 by omega, show ((0 : Int) - ((m.log2 : Int) - 52)).toNat = 52 - m.log2 by omega, cut_even _ _ _ (by omega), keepE_zero, Nat.shiftLeft_eq]
      · rw [if_neg h, show (((m.log2 : Int) - 52) - 0).toNat = m.log2 - 52 by omega, show ((0 : Int) - ((m.log2 : Int) - 52)).toNat = 0 by omega, Nat.shiftLeft_zero, cut_even _ _ _ (by omega)]
    rw [e2, hW]
    have e3 : (((m.log2 : Int) - 52) - Ieee.double.leastPlace).toNat = m.log2 + 1022 := by
      show (((m.log2 : Int) - 52) - (-1074)).toNat = _
      omega
    rw [e3]
    have e4 : Ieee.double.binade = 4503599627370496 := rfl
    have e5 : Ieee.double.infRung = 9218868437227405312 := rfl
    rw [e4, e5, Nat.min_eq_left (by omega)]
    simp [rungN, h0]
theorem rungN_lt {m : Nat} (hm : m < 2 ^ 64) : rungN m < 9218868437227405312 := by
  unfold rungN
  by_cases h0 : m = 0
  · rw [if_pos h0]; omega
  · rw [if_neg h0]
    have hl := log_lt hm h0
    have hk := kept_bd h0
    omega
theorem log_mono {m n : Nat} (h : m ≤ n) (h0 : m ≠ 0) : m.log2 ≤ n.log2 := by
  have h1 := Nat.log2_self_le h0
  have h2 := Nat.lt_log2_self (n := n)
  have : 2 ^ m.log2 < 2 ^ (n.log2 + 1) := by omega
  have := (Nat.pow_lt_pow_iff_right (a := 2) (by omega)).1 this
  omega
theorem rungN_mono {m n : Nat} (h : m ≤ n) : rungN m ≤ rungN n := by
  unfold rungN
  by_cases h0 : m = 0
  · rw [if_pos h0]; omega
  · rw [if_neg h0, if_neg (by omega)]
    have hl := log_mono h h0
    have k1 := kept_bd h0
    have k2 := kept_bd (m := n) (by omega)
    rcases Nat.lt_or_ge m.log2 n.log2 with hlt | hge
    · omega
    · have e : m.log2 = n.log2 := by omega
      have : keptN m ≤ keptN n := by
        unfold keptN
        rw [e]
        split
        · exact Nat.mul_le_mul_right _ h
        · exact keepE_mono _ h
      rw [e]
      omega
/-- the word of a whole number -/
def ofIntF (n : Int) : Nat := FloatKind.f64.nearest n
theorem ofIntF_eq {n : Int} (h : n.natAbs < 2 ^ 64) : ofIntF n = if n < 0 then 9223372036854775808 + rungN n.natAbs else rungN n.natAbs := by
  show Ieee.double.nearest (decide (n < 0)) n.natAbs 0 = _
  rw [nearest_eq _ h]
  by_cases c : n < 0 <;> simp [c]
theorem ofIntF_lt {n : Int} (h : n.natAbs < 2 ^ 64) : ofIntF n < 18446744073709551616 := by
  have := rungN_lt h
  rw [ofIntF_eq h]
  split <;> omega
theorem ofIntF_nan {n : Int} (h : n.natAbs < 2 ^ 64) : isNanF (ofIntF n) = false := by
  have := rungN_lt h
  rw [ofIntF_eq h]
  unfold isNanF
  apply decide_eq_false
  split <;> omega
theorem keyF_int {n : Int} (h : n.natAbs < 2 ^ 64) : keyF (ofIntF n) = if n < 0 then -(rungN n.natAbs : Int) else (rungN n.natAbs : Int) := by
  have := rungN_lt h
  rw [ofIntF_eq h]
  unfold keyF sgn
  by_cases c : n < 0
  · rw [if_pos c, if_pos c]
    have e1 : (9223372036854775808 + rungN n.natAbs) / 9223372036854775808 % 2 = 1 := by omega
    have e2 : (9223372036854775808 + rungN n.natAbs) % 9223372036854775808 = rungN n.natAbs := by omega
    rw [e1, e2]
    rfl
  · rw [if_neg c, if_neg c]
    have e1 : rungN n.natAbs / 9223372036854775808 % 2 = 0 := by omega
    have e2 : rungN n.natAbs % 9223372036854775808 = rungN n.natAbs := by omega
    rw [e1, e2]
    rfl
theorem key_mono {m n : Int} (hm : m.natAbs < 2 ^ 64) (hn : n.natAbs < 2 ^ 64) (h : m ≤ n) : keyF (ofIntF m) ≤ keyF (ofIntF n) := by
  rw [keyF_int hm, keyF_int hn]
  by_cases c1 : m < 0
  · by_cases c2 : n < 0
    · rw [if_pos c1, if_pos c2]
      have := rungN_mono (m := n.natAbs) (n := m.natAbs) (by omega)
      omega
    · rw [if_pos c1, if_neg c2]; omega
  · rw [if_neg c1, if_neg (by omega)]
    have := rungN_mono (m := m.natAbs) (n := n.natAbs) (by omega)
    omega
/-- of whole numbers near nought the float is that number -/
theorem toInt_int {n : Int} (h : n.natAbs < 9007199254740992) : (FloatKind.f64.decode (ofIntF n)).toInt .zero = some n := by
  show (Ieee.double.read (ofIntF n)).toInt .zero = some n
  have h64 : n.natAbs < 2 ^ 64 := by omega
  have hr := rungN_lt h64
  obtain ⟨m, hm⟩ : ∃ m, n.natAbs = m := ⟨_, rfl⟩
  have hs : (ofIntF n / 9223372036854775808 % 2 == 1) = decide (n < 0) ∧ ofIntF n % 9223372036854775808 = rungN m := by
    rw [ofIntF_eq h64]
    rw [hm] at hr ⊢
    by_cases c : n < 0
    · rw [if_pos c]
      refine ⟨?_, by omega⟩
      rw [show (9223372036854775808 + rungN m) / 9223372036854775808 % 2 = 1 by omega]
      simp [c]
    · rw [if_neg c]
      refine ⟨?_, by omega⟩
      rw [show rungN m / 9223372036854775808 % 2 = 0 by omega]
      simp [c]
  rw [read_eq, hs.1, hs.2]
  rw [hm] at hr h h64
  by_cases h0 : m = 0
  · subst h0
    obtain rfl : n = 0 := by omega
    decide
  · have hl := log_lt (k := 53) (m := m) (by omega) h0
    have hk := kept_bd h0
    have hkk : keptN m = m * 2 ^ (52 - m.log2) := by unfold keptN; rw [if_pos (by omega)]
    have hk2 : keptN m < 9007199254740992 := by
      have h2 := Nat.lt_log2_self (n := m)
      have hp : 0 < 2 ^ (52 - m.log2) := Nat.two_pow_pos _
      have e1 : 2 ^ m.log2 * 2 ^ (52 - m.log2) = 4503599627370496 := by rw [← Nat.pow_add, show m.log2 + (52 - m.log2) = 52 by omega]
      have a2 := (Nat.mul_lt_mul_right hp).2 h2
      rw [Nat.pow_succ, Nat.mul_right_comm, e1] at a2
      omega
    have hrr : rungN m = (m.log2 + 1022) * 4503599627370496 + keptN m := by unfold rungN; rw [if_neg h0]
    rw [if_neg (by omega), if_pos hr]
    unfold Datum.toInt Datum.integral
    simp only
    have e1 : 4503599627370496 + rungN m % 4503599627370496 = keptN m := by omega
    have e2 : (-1074 + ((rungN m / 4503599627370496 - 1 : Nat) : Int)) = (m.log2 : Int) - 52 := by omega
    rw [e1, e2, show ((m.log2 : Int) - 52).toNat = 0 by omega, Nat.shiftLeft_zero, show (-((m.log2 : Int) - 52)).toNat = 52 - m.log2 by omega, hkk]
    have e3 : Toward.zero.cut (decide (n < 0)) (m * 2 ^ (52 - m.log2)) (52 - m.log2) = m := by
      have hp : 0 < 2 ^ (52 - m.log2) := Nat.two_pow_pos _
      have hlog : 52 - m.log2 ≤ (m * 2 ^ (52 - m.log2)).log2 + 2 := by
        have : 2 ^ (52 - m.log2) ≤ m * 2 ^ (52 - m.log2) := Nat.le_mul_of_pos_left _ (by omega)
        have h2 := Nat.lt_log2_self (n := m * 2 ^ (52 - m.log2))
        have := (Nat.pow_lt_pow_iff_right (a := 2) (by omega)).1 (Nat.lt_of_le_of_lt this h2)
        omega
      unfold Toward.cut
      simp only [Nat.min_eq_left hlog, Nat.one_shiftLeft, Nat.mul_div_cancel _ hp]
      rfl
    rw [e3, signed_eq]
    unfold sgn
    by_cases c : n < 0
    · simp [c]; omega
    · simp [c]; omega
end Go.Proofs.YtclfplpggmefjaaDoor
