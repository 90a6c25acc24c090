/- Merged texts: RuLaw. -/
import Derived.Test.YthhjjaoppacnmaaDoorA3
namespace Go.Proofs.YthhjjaoppacnmaaDoor
open Go.RowKit
set_option linter.unusedVariables false
set_option linter.unusedSimpArgs false

theorem encR_1 {r : Int} (h : r < 128) : encR r = [r] := by rw [encR, if_pos h]
theorem encR_2 {r : Int} (h : ¬ r < 128) (h2 : r < 2048) : encR r = [192 + r / 64, 128 + r % 64] := by rw [encR, if_neg h, if_pos h2]
theorem encR_3 {r : Int} (h : ¬ r < 2048) (h2 : r < 65536) : encR r = [224 + r / 4096, 128 + r / 64 % 64, 128 + r % 64] := by rw [encR, if_neg (by omega), if_neg h, if_pos h2]
theorem encR_4 {r : Int} (h : ¬ r < 65536) : encR r = [240 + r / 262144, 128 + r / 4096 % 64, 128 + r / 64 % 64, 128 + r % 64] := by rw [encR, if_neg (by omega), if_neg (by omega), if_neg h]
theorem encR_n {r : Int} : (encR r).length = if r < 128 then 1 else if r < 2048 then 2 else if r < 65536 then 3 else 4 := by
  unfold encR
  repeat' split
  all_goals rfl

theorem head_ok {n : Nat} {r0 r : Int} {b : List Int} (hl : n ≤ b.length) (hc : contR r0 ((b.drop 1).take (n - 1)) = some r) (hm : mayR r = true) (he : (encR r).length = n) : headR n r0 b = (r, n) := by
  unfold headR
  rw [if_neg (by omega), hc]
  exact if_pos ⟨hm, he⟩
theorem contR_cons {r x : Int} {t : List Int} (h : 128 ≤ x) (h2 : x ≤ 191) : contR r (x :: t) = contR (r * 64 + x - 128) t := by rw [contR, if_pos ⟨h, h2⟩]

theorem next_enc {r : Int} (h : mayR r = true) (rest : List Int) : nextR (encR r ++ rest) = (r, (encR r).length) := by
  have hb := mayR_le h
  by_cases h1 : r < 128
  · have hl : (encR r).length = 1 := by rw [encR_n, if_pos h1]
    rw [hl]
    have e : encR r ++ rest = r :: rest := by rw [encR_1 h1]; rfl
    rw [e, nextR_cons (b0 := r) rfl, if_neg (by omega), if_neg (by omega), if_neg (by omega), if_neg (by omega)]
    exact head_ok (by simp) (by simp [contR]) h hl
  · by_cases h2 : r < 2048
    · have hl : (encR r).length = 2 := by rw [encR_n, if_neg h1, if_pos h2]
      rw [hl]
      have e : encR r ++ rest = (192 + r / 64) :: (128 + r % 64) :: rest := by rw [encR_2 h1 h2]; rfl
      rw [e, nextR_cons (b0 := 192 + r / 64) rfl, if_neg (by omega), if_neg (by omega), if_pos (by omega)]
      refine head_ok (by simp) ?_ h hl
      simp only [List.drop_succ_cons, List.drop_zero, Nat.reduceSub, List.take_succ_cons, List.take_zero]
      rw [contR_cons (by omega) (by omega)]
      rw [contR]; congr 1; omega
    · by_cases h3 : r < 65536
      · have hl : (encR r).length = 3 := by rw [encR_n, if_neg h1, if_neg h2, if_pos h3]
        rw [hl]
        have e : encR r ++ rest = (224 + r / 4096) :: (128 + r / 64 % 64) :: (128 + r % 64) :: rest := by rw [encR_3 h2 h3]; rfl
        rw [e, nextR_cons (b0 := 224 + r / 4096) rfl, if_neg (by omega), if_pos (by omega)]
        refine head_ok (by simp) ?_ h hl
        simp only [List.drop_succ_cons, List.drop_zero, Nat.reduceSub, List.take_succ_cons, List.take_zero]
        rw [contR_cons (by omega) (by omega), contR_cons (by omega) (by omega)]
        rw [contR]; congr 1; omega
      · have hl : (encR r).length = 4 := by rw [encR_n, if_neg h1, if_neg h2, if_neg h3]
        rw [hl]
        have e : encR r ++ rest = (240 + r / 262144) :: (128 + r / 4096 % 64) :: (128 + r / 64 % 64) :: (128 + r % 64) :: rest := by rw [encR_4 h3]; rfl
        rw [e, nextR_cons (b0 := 240 + r / 262144) rfl, if_pos (by omega)]
        refine head_ok (by simp) ?_ h hl
        simp only [List.drop_succ_cons, List.drop_zero, Nat.reduceSub, List.take_succ_cons, List.take_zero]
        rw [contR_cons (by omega) (by omega), contR_cons (by omega) (by omega), contR_cons (by omega) (by omega)]
        rw [contR]; congr 1; omega

theorem head_inv {n : Nat} {r0 r : Int} {m : Nat} {b : List Int} (h : headR n r0 b = (r, m)) (hm : m ≠ 0) : n ≤ b.length ∧ contR r0 ((b.drop 1).take (n - 1)) = some r ∧ mayR r = true ∧ (encR r).length = n ∧ m = n := by
  unfold headR at h
  split at h
  · injection h with _ h; exact absurd h.symm hm
  · rename_i hl
    split at h
    · injection h with _ h; exact absurd h.symm hm
    · rename_i r' hc
      split at h
      · rename_i hh
        injection h with h h'
        subst h; subst h'
        exact ⟨by omega, hc, hh.1, hh.2, rfl⟩
      · injection h with _ h; exact absurd h.symm hm
theorem contR_inv {r x r' : Int} {t : List Int} (h : contR r (x :: t) = some r') : 128 ≤ x ∧ x ≤ 191 ∧ contR (r * 64 + x - 128) t = some r' := by
  rw [contR] at h
  split at h
  · rename_i hh; exact ⟨hh.1, hh.2, h⟩
  · cases h

theorem next_inv {b : List Int} {r : Int} {n : Nat} (hu : ∀ x ∈ b, 0 ≤ x ∧ x ≤ 255) (h : nextR b = (r, n)) (hn : n ≠ 0) : mayR r = true ∧ n = (encR r).length ∧ b = encR r ++ b.drop n := by
  cases b with
  | nil =>
    have e : nextR [] = (0, 0) := rfl
    rw [e] at h
    injection h with _ h
    exact absurd h.symm hn
  | cons b0 t =>
    have h0 := hu b0 (by simp)
    rw [nextR_cons (b0 := b0) rfl] at h
    split at h
    · rename_i c0
      obtain ⟨h1, h2, h3, h4, rfl⟩ := head_inv h hn
      refine ⟨h3, h4.symm, ?_⟩
      match t, h1 with
      | x1 :: x2 :: x3 :: t', _ =>
        simp only [List.drop_succ_cons, List.drop_zero, Nat.reduceSub, List.take_succ_cons, List.take_zero] at h2
        obtain ⟨a1, a2, h2⟩ := contR_inv h2
        obtain ⟨a3, a4, h2⟩ := contR_inv h2
        obtain ⟨a5, a6, h2⟩ := contR_inv h2
        rw [contR] at h2
        injection h2 with h2
        have hr : ¬ r < 65536 := by rw [encR_n] at h4; intro hc; split at h4 <;> (try (split at h4)) <;> (try (split at h4)) <;> omega
        rw [encR_4 hr]
        simp only [List.drop_succ_cons, List.drop_zero, List.cons_append, List.nil_append, List.cons.injEq, and_true]
        omega
    · rename_i c0
      split at h
      · rename_i c1
        obtain ⟨h1, h2, h3, h4, rfl⟩ := head_inv h hn
        refine ⟨h3, h4.symm, ?_⟩
        match t, h1 with
        | x1 :: x2 :: t', _ =>
          simp only [List.drop_succ_cons, List.drop_zero, Nat.reduceSub, List.take_succ_cons, List.take_zero] at h2
          obtain ⟨a1, a2, h2⟩ := contR_inv h2
          obtain ⟨a3, a4, h2⟩ := contR_inv h2
          rw [contR] at h2
          injection h2 with h2
          have hr : ¬ r < 2048 ∧ r < 65536 := by rw [encR_n] at h4; (split at h4 <;> (try (split at h4)) <;> (try (split at h4))) <;> omega
          rw [encR_3 hr.1 hr.2]
          simp only [List.drop_succ_cons, List.drop_zero, List.cons_append, List.nil_append, List.cons.injEq, and_true]
          omega
      · rename_i c1
        split at h
        · rename_i c2
          obtain ⟨h1, h2, h3, h4, rfl⟩ := head_inv h hn
          refine ⟨h3, h4.symm, ?_⟩
          match t, h1 with
          | x1 :: t', _ =>
            simp only [List.drop_succ_cons, List.drop_zero, Nat.reduceSub, List.take_succ_cons, List.take_zero] at h2
            obtain ⟨a1, a2, h2⟩ := contR_inv h2
            rw [contR] at h2
            injection h2 with h2
            have hr : ¬ r < 128 ∧ r < 2048 := by rw [encR_n] at h4; (split at h4 <;> (try (split at h4)) <;> (try (split at h4))) <;> omega
            rw [encR_2 hr.1 hr.2]
            simp only [List.drop_succ_cons, List.drop_zero, List.cons_append, List.nil_append, List.cons.injEq, and_true]
            omega
        · rename_i c2
          split at h
          · injection h with _ h; exact absurd h.symm hn
          · rename_i c3
            obtain ⟨h1, h2, h3, h4, rfl⟩ := head_inv h hn
            refine ⟨h3, h4.symm, ?_⟩
            simp only [List.drop_succ_cons, List.drop_zero, Nat.reduceSub, List.take_zero, contR] at h2
            injection h2 with h2
            subst h2
            rw [encR_1 (by omega)]
            rfl

/-- the runes of bytes -/
def readGo : Nat → List Int → Option (List Int)
  | 0, b => if b = [] then some [] else none
  | n + 1, b => if b = [] then some [] else if (nextR b).2 = 0 then none else (readGo n (b.drop (nextR b).2)).map ((nextR b).1 :: ·)
def readR (b : List Int) : Option (List Int) := readGo b.length b
theorem readGo_nil (n : Nat) : readGo n [] = some [] := by cases n <;> simp [readGo]
theorem readGo_fuel : ∀ (n m : Nat) (b : List Int), b.length ≤ n → b.length ≤ m → readGo n b = readGo m b
  | 0, m, b, hn, _ => by
    obtain rfl : b = [] := List.eq_nil_of_length_eq_zero (by omega)
    rw [readGo_nil, readGo_nil]
  | n + 1, 0, b, _, hm => by
    obtain rfl : b = [] := List.eq_nil_of_length_eq_zero (by omega)
    rw [readGo_nil, readGo_nil]
  | n + 1, m + 1, b, hn, hm => by
    unfold readGo
    by_cases hne : b = []
    · simp [hne]
    · rw [if_neg hne, if_neg hne]
      by_cases hz : (nextR b).2 = 0
      · rw [if_pos hz, if_pos hz]
      · have hl : 0 < b.length := List.length_pos_iff.2 hne
        rw [if_neg hz, if_neg hz, readGo_fuel n m _ (by rw [List.length_drop]; omega) (by rw [List.length_drop]; omega)]
theorem readR_nil : readR [] = some [] := readGo_nil 0
theorem readR_step {b : List Int} (hne : b ≠ []) : readR b = if (nextR b).2 = 0 then none else (readR (b.drop (nextR b).2)).map ((nextR b).1 :: ·) := by
  have hl : 0 < b.length := List.length_pos_iff.2 hne
  obtain ⟨n, hn⟩ : ∃ n, b.length = n + 1 := ⟨b.length - 1, by omega⟩
  unfold readR
  rw [hn]
  show (if b = [] then some [] else _) = _
  rw [if_neg hne]
  by_cases hz : (nextR b).2 = 0
  · rw [if_pos hz, if_pos hz]
  · rw [if_neg hz, if_neg hz, readGo_fuel n (b.drop (nextR b).2).length _ (by rw [List.length_drop]; omega) (Nat.le_refl _)]
end Go.Proofs.YthhjjaoppacnmaaDoor
