/- Plain laws of runes and their bytes: what is encoded is read again, what is read was encoded. -/
import Derived.Test.YtipoeidmblnbbaaGreatDoorPk3
namespace Go.Proofs.YtipoeidmblnbbaaGreatDoor
open Go.RowKit
set_option linter.unusedVariables false
set_option linter.unusedSimpArgs false

theorem encR_1 {r : Int} (h : r < 128) : encR r = [r] := by rw [encR, if_pos h]
theorem encR_2 {r : Int} (h : ¬ r < 128) (h2 : r < 2048) : encR r = [192 + r / 64, 128 + r % 64] := by rw [encR, if_neg h, if_pos h2]
theorem encR_3 {r : Int} (h : ¬ r < 2048) (h2 : r < 65536) : encR r = [224 + r / 4096, 128 + r / 64 % 64, 128 + r % 64] := by rw [encR, if_neg (by omega), if_neg h, if_pos h2]
theorem encR_4 {r : Int} (h : ¬ r < 65536) : encR r = [240 + r / 262144, 128 + r / 4096 % 64, 128 + r / 64 % 64, 128 + r % 64] := by rw [encR, if_neg (by omega), if_neg (by omega), if_neg h]
theorem encR_n {r : Int} : (encR r).length = if r < 128 then 1 else if r < 2048 then 2 else if r < 65536 then 3 else 4 := by
  unfold encR
  repeat' split
  all_goals rfl

theorem head_ok {n : Nat} {r0 r : Int} {b : List Int} (hl : n ≤ b.length) (hc : contR r0 ((b.drop 1).take (n - 1)) = some r) (hm : mayR r = true) (he : (encR r).length = n) : headR n r0 b = (r, n) := by
  unfold headR
  rw [if_neg (by omega), hc]
  exact if_pos ⟨hm, he⟩
theorem contR_cons {r x : Int} {t : List Int} (h : 128 ≤ x) (h2 : x ≤ 191) : contR r (x :: t) = contR (r * 64 + x - 128) t := by rw [contR, if_pos ⟨h, h2⟩]

theorem next_enc {r : Int} (h : mayR r = true) (rest : List Int) : nextR (encR r ++ rest) = (r, (encR r).length) := by
  have hb := mayR_le h
  by_cases h1 : r < 128
  · have hl : (encR r).length = 1 := by rw [encR_n, if_pos h1]
    rw [hl]
    have e : encR r ++ rest = r :: rest := by rw [encR_1 h1]; rfl
    rw [e, nextR_cons (b0 := r) rfl, if_neg (by omega), if_neg (by omega), if_neg (by omega), if_neg (by omega)]
    exact head_ok (by simp) (by simp [contR]) h hl
  · by_cases h2 : r < 2048
    · have hl : (encR r).length = 2 := by rw [encR_n, if_neg h1, if_pos h2]
      rw [hl]
      have e : encR r ++ rest = (192 + r / 64) :: (128 + r % 64) :: rest := by rw [encR_2 h1 h2]; rfl
      rw [e, nextR_cons (b0 := 192 + r / 64) rfl, if_neg (by omega), if_neg (by omega), if_pos (by omega)]
      refine head_ok (by simp) ?_ h hl
      simp only [List.drop_succ_cons, List.drop_zero, Nat.reduceSub, List.take_succ_cons, List.take_zero]
      rw [contR_cons (by omega) (by omega)]
      rw [contR]; congr 1; omega
    · by_cases h3 : r < 65536
      · have hl : (encR r).length = 3 := by rw [encR_n, if_neg h1, if_neg h2, if_pos h3]
        rw [hl]
        have e : encR r ++ rest = (224 + r / 4096) :: (128 + r / 64 % 64) :: (128 + r % 64) :: rest := by rw [encR_3 h2 h3]; rfl
        rw [e, nextR_cons (b0 := 224 + r / 4096) rfl, if_neg (by omega), if_pos (by omega)]
        refine head_ok (by simp) ?_ h hl
        simp only [List.drop_succ_cons, List.drop_zero, Nat.reduceSub, List.take_succ_cons, List.take_zero]
        rw [contR_cons (by omega) (by omega), contR_cons (by omega) (by omega)]
        rw [contR]; congr 1; omega
      · have hl : (encR r).length = 4 := by rw [encR_n, if_neg h1, if_neg h2, if_neg h3]
        rw [hl]
        have e : encR r ++ rest = (240 + r / 262144) :: (128 + r / 4096 % 64) :: (128 + r / 64 % 64) :: (128 + r % 64) :: rest := by rw [encR_4 h3]; rfl
        rw [e, nextR_cons (b0 := 240 + r / 262144) rfl, if_pos (by omega)]
        refine head_ok (by simp) ?_ h hl
        simp only [List.drop_succ_cons, List.drop_zero, Nat.reduceSub, List.take_succ_cons, List.take_zero]
        rw [contR_cons (by omega) (by omega), contR_cons (by omega) (by omega), contR_cons (by omega) (by omega)]
        rw [contR]; congr 1; omega

/-- the first byte tells how many there are -/
theorem next_short {r : Int} (h : mayR r = true) {k : Nat} (h0 : 0 < k) (hk : k < (encR r).length) : nextR ((encR r).take k) = (0, 0) := by
  have hb := mayR_le h
  have short : ∀ n r0 b, b.length < n → headR n r0 b = (0, 0) := fun n r0 b hl => by unfold headR; rw [if_pos hl]
  obtain ⟨j, rfl⟩ : ∃ j, k = j + 1 := ⟨k - 1, by omega⟩
  have hlen : ((encR r).take (j + 1)).length = j + 1 := by rw [List.length_take]; omega
  rw [encR_n] at hk
  by_cases h1 : r < 128
  · rw [if_pos h1] at hk; omega
  · rw [if_neg h1] at hk
    by_cases h2 : r < 2048
    · rw [if_pos h2] at hk
      rw [nextR_cons (b0 := 192 + r / 64) (by rw [encR_2 h1 h2]; rfl), if_neg (by omega), if_neg (by omega), if_pos (by omega)]
      exact short _ _ _ (by omega)
    · rw [if_neg h2] at hk
      by_cases h3 : r < 65536
      · rw [if_pos h3] at hk
        rw [nextR_cons (b0 := 224 + r / 4096) (by rw [encR_3 h2 h3]; rfl), if_neg (by omega), if_pos (by omega)]
        exact short _ _ _ (by omega)
      · rw [if_neg h3] at hk
        rw [nextR_cons (b0 := 240 + r / 262144) (by rw [encR_4 h3]; rfl), if_pos (by omega)]
        exact short _ _ _ (by omega)

theorem head_inv {n : Nat} {r0 r : Int} {m : Nat} {b : List Int} (h : headR n r0 b = (r, m)) (hm : m ≠ 0) : n ≤ b.length ∧ contR r0 ((b.drop 1).take (n - 1)) = some r ∧ mayR r = true ∧ (encR r).length = n ∧ m = n := by
  unfold headR at h
  split at h
  · injection h with _ h; exact absurd h.symm hm
  · rename_i hl
    split at h
    · injection h with _ h; exact absurd h.symm hm
    · rename_i r' hc
      split at h
      · rename_i hh
        injection h with h h'
        subst h; subst h'
        exact ⟨by omega, hc, hh.1, hh.2, rfl⟩
      · injection h with _ h; exact absurd h.symm hm
theorem contR_inv {r x r' : Int} {t : List Int} (h : contR r (x :: t) = some r') : 128 ≤ x ∧ x ≤ 191 ∧ contR (r * 64 + x - 128) t = some r' := by
  rw [contR] at h
  split at h
  · rename_i hh; exact ⟨hh.1, hh.2, h⟩
  · cases h

theorem next_inv {b : List Int} {r : Int} {n : Nat} (hu : ∀ x ∈ b, 0 ≤ x ∧ x ≤ 255) (h : nextR b = (r, n)) (hn : n ≠ 0) : mayR r = true ∧ n = (encR r).length ∧ b = encR r ++ b.drop n := by
  cases b with
  | nil =>
    have e : nextR [] = (0, 0) := rfl
    rw [e] at h
    injection h with _ h
    exact absurd h.symm hn
  | cons b0 t =>
    have h0 := hu b0 (by simp)
    rw [nextR_cons (b0 := b0) rfl] at h
    split at h
    · rename_i c0
      obtain ⟨h1, h2, h3, h4, rfl⟩ := head_inv h hn
      refine ⟨h3, h4.symm, ?_⟩
      match t, h1 with
      | x1 :: x2 :: x3 :: t', _ =>
        simp only [List.drop_succ_cons, List.drop_zero, Nat.reduceSub, List.take_succ_cons, List.take_zero] at h2
        obtain ⟨a1, a2, h2⟩ := contR_inv h2
        obtain ⟨a3, a4, h2⟩ := contR_inv h2
        obtain ⟨a5, a6, h2⟩ := contR_inv h2
        rw [contR] at h2
        injection h2 with h2
        have hr : ¬ r < 65536 := by rw [encR_n] at h4; intro hc; split at h4 <;> (try (split at h4)) <;> (try (split at h4)) <;> omega
        rw [encR_4 hr]
        simp only [List.drop_succ_cons, List.drop_zero, List.cons_append, List.nil_append, List.cons.injEq, and_true]
        omega
    · rename_i c0
      split at h
      · rename_i c1
        obtain ⟨h1, h2, h3, h4, rfl⟩ := head_inv h hn
        refine ⟨h3, h4.symm, ?_⟩
        match t, h1 with
        | x1 :: x2 :: t', _ =>
          simp only [List.drop_succ_cons, List.drop_zero, Nat.reduceSub, List.take_succ_cons, List.take_zero] at h2
          obtain ⟨a1, a2, h2⟩ := contR_inv h2
          obtain ⟨a3, a4, h2⟩ := contR_inv h2
          rw [contR] at h2
          injection h2 with h2
          have hr : ¬ r < 2048 ∧ r < 65536 := by rw [encR_n] at h4; (split at h4 <;> (try (split at h4)) <;> (try (split at h4))) <;> omega
          rw [encR_3 hr.1 hr.2]
          simp only [List.drop_succ_cons, List.drop_zero, List.cons_append, List.nil_append, List.cons.injEq, and_true]
          omega
      · rename_i c1
        split at h
        · rename_i c2
          obtain ⟨h1, h2, h3, h4, rfl⟩ := head_inv h hn
          refine ⟨h3, h4.symm, ?_⟩
          match t, h1 with
          | x1 :: t', _ =>
            simp only [List.drop_succ_cons, List.drop_zero, Nat.reduceSub, List.take_succ_cons, List.take_zero] at h2
            obtain ⟨a1, a2, h2⟩ := contR_inv h2
            rw [contR] at h2
            injection h2 with h2
            have hr : ¬ r < 128 ∧ r < 2048 := by rw [encR_n] at h4; (split at h4 <;> (try (split at h4)) <;> (try (split at h4))) <;> omega
            rw [encR_2 hr.1 hr.2]
            simp only [List.drop_succ_cons, List.drop_zero, List.cons_append, List.nil_append, List.cons.injEq, and_true]
            omega
        · rename_i c2
          split at h
          · injection h with _ h; exact absurd h.symm hn
          · rename_i c3
            obtain ⟨h1, h2, h3, h4, rfl⟩ := head_inv h hn
            refine ⟨h3, h4.symm, ?_⟩
            simp only [List.drop_succ_cons, List.drop_zero, Nat.reduceSub, List.take_zero, contR] at h2
            injection h2 with h2
            subst h2
            rw [encR_1 (by omega)]
            rfl

/-- the runes of bytes -/
def readGo : Nat → List Int → Option (List Int)
  | 0, b => if b = [] then some [] else none
  | n + 1, b => if b = [] then some [] else if (nextR b).2 = 0 then none else (readGo n (b.drop (nextR b).2)).map ((nextR b).1 :: ·)
def readR (b : List Int) : Option (List Int) := readGo b.length b
theorem readGo_nil (n : Nat) : readGo n [] = some [] := by cases n <;> simp [readGo]
theorem readGo_fuel : ∀ (n m : Nat) (b : List Int), b.length ≤ n → b.length ≤ m → readGo n b = readGo m b
  | 0, m, b, hn, _ => by
    obtain rfl : b = [] := List.eq_nil_of_length_eq_zero (by omega)
    rw [readGo_nil, readGo_nil]
  | n + 1, 0, b, _, hm => by
    obtain rfl : b = [] := List.eq_nil_of_length_eq_zero (by omega)
    rw [readGo_nil, readGo_nil]
  | n + 1, m + 1, b, hn, hm => by
    unfold readGo
    by_cases hne : b = []
    · simp [hne]
    · rw [if_neg hne, if_neg hne]
      by_cases hz : (nextR b).2 = 0
      · rw [if_pos hz, if_pos hz]
      · have hl : 0 < b.length := List.length_pos_iff.2 hne
        rw [if_neg hz, if_neg hz, readGo_fuel n m _ (by rw [List.length_drop]; omega) (by rw [List.length_drop]; omega)]
theorem readR_nil : readR [] = some [] := readGo_nil 0
theorem readR_step {b : List Int} (hne : b ≠ []) : readR b = if (nextR b).2 = 0 then none else (readR (b.drop (nextR b).2)).map ((nextR b).1 :: ·) := by
  have hl : 0 < b.length := List.length_pos_iff.2 hne
  obtain ⟨n, hn⟩ : ∃ n, b.length = n + 1 := ⟨b.length - 1, by omega⟩
  unfold readR
  rw [hn]
  show (if b = [] then some [] else _) = _
  rw [if_neg hne]
  by_cases hz : (nextR b).2 = 0
  · rw [if_pos hz, if_pos hz]
  · rw [if_neg hz, if_neg hz, readGo_fuel n (b.drop (nextR b).2).length _ (by rw [List.length_drop]; omega) (Nat.le_refl _)]
theorem encR_ne (r : Int) : encR r ≠ [] := fun h => by have := (encR_len r).1; rw [h] at this; simp at this

theorem read_bytes : ∀ (l : List Int) (rest : List Int), okR l = true → readR (bytesR l ++ rest) = (readR rest).map (l ++ ·)
  | [], rest, _ => by
    show readR rest = _
    cases readR rest <;> rfl
  | r :: l, rest, h => by
    have hr : mayR r = true ∧ okR l = true := by simpa [okR] using h
    have e : bytesR (r :: l) ++ rest = encR r ++ (bytesR l ++ rest) := by simp [bytesR]
    have hn := next_enc hr.1 (bytesR l ++ rest)
    rw [e, readR_step (by simp [encR_ne]), hn]
    have hl := (encR_len r).1
    simp only [List.drop_left]
    rw [if_neg (by omega), read_bytes l rest hr.2]
    cases readR rest <;> rfl
theorem read_back {l : List Int} (h : okR l = true) : readR (bytesR l) = some l := by
  have := read_bytes l [] h
  rw [List.append_nil, readR_nil] at this
  simpa using this
theorem bytes_back : ∀ (n : Nat) (b l : List Int), b.length ≤ n → (∀ x ∈ b, 0 ≤ x ∧ x ≤ 255) → readR b = some l → okR l = true ∧ bytesR l = b
  | n, [], l, _, _, h => by
    rw [readR_nil] at h
    injection h with h
    subst h
    exact ⟨rfl, rfl⟩
  | 0, b0 :: t, l, hn, _, _ => absurd hn (by simp)
  | n + 1, b0 :: t, l, hn, hu, h => by
    rw [readR_step (by simp)] at h
    by_cases hz : (nextR (b0 :: t)).2 = 0
    · rw [if_pos hz] at h; cases h
    · rw [if_neg hz] at h
      obtain ⟨l', hl', rfl⟩ := Option.map_eq_some_iff.1 h
      have ⟨h1, h2, h3⟩ := next_inv hu (r := (nextR (b0 :: t)).1) (n := (nextR (b0 :: t)).2) rfl hz
      have ih := bytes_back n _ l' (by rw [List.length_drop]; simp only [List.length_cons] at *; omega) (fun x hx => hu x (List.mem_of_mem_drop hx)) hl'
      refine ⟨?_, ?_⟩
      · have h4 := ih.1
        unfold okR at h4 ⊢
        rw [List.all_cons, h4, h1]
        rfl
      · show encR _ ++ bytesR l' = _
        rw [ih.2]
        exact h3.symm
theorem read_iff {b l : List Int} (hu : ∀ x ∈ b, 0 ≤ x ∧ x ≤ 255) (h : readR b = some l) : okR l = true ∧ bytesR l = b := bytes_back b.length b l (Nat.le_refl _) hu h
theorem read_short {l : List Int} {r : Int} {k : Nat} (h : okR l = true) (hr : mayR r = true) (h0 : 0 < k) (hk : k < (encR r).length) : readR (bytesR l ++ (encR r).take k) = none := by
  have hne : (encR r).take k ≠ [] := fun h => by
    have := congrArg List.length h
    rw [List.length_take, List.length_nil] at this
    omega
  rw [read_bytes l _ h, readR_step hne, next_short hr h0 hk]
  rfl
end Go.Proofs.YtipoeidmblnbbaaGreatDoor
