/- The laws of steps, as plain mathematics. -/
import Derived.Test.YtnhmbocgopjbjaaStep
namespace Go.Proofs.Ytnhmbocgopjbjaa
set_option linter.unusedVariables false
set_option linter.unusedSimpArgs false

theorem apply_two {p : List Ch} {s : List At} (hp : riseC p = true) (hs : riseA s = true) : applyP p (applyP p s) = applyP p s := by
  obtain ⟨h1, h2, _⟩ := apply_all (riseC_srt.1 hp) (riseA_srt.1 hs)
  obtain ⟨g1, g2, _⟩ := apply_all (riseC_srt.1 hp) h1
  refine lk_ext At.key g1 h1 fun k => ?_
  rw [g2 k, h2 k]
  unfold lkApply
  cases lk Ch.key p k with
  | none => rfl
  | some c => rfl
theorem apply_nil' (s : List At) : applyP [] s = s := rfl
/-- what the key has behind a step -/
theorem stepQ_get {l : List Ky} {s : List At} {key n : Int} (hs : riseA s = true) : getA (applyP (stepQ l key n) s) key = if n = 0 then none else some ⟨2, n, 0, ⟨#[]⟩⟩ := by
  obtain ⟨h1, h2, _⟩ := apply_all (riseC_srt.1 (stepQ_rise l key n)) (riseA_srt.1 hs)
  rw [getA_lk, h2 key]
  unfold stepQ
  by_cases hn : n = 0
  · rw [if_pos hn, if_pos hn, lk_cons, if_pos (show (goneK key).key = key from rfl)]; rfl
  · rw [if_neg hn, if_neg hn, completeP_lk (one_rise _)]
    unfold complLk
    rw [lk_cons, if_pos rfl]
    rfl
/-- what a step of a good key answers -/
def GoodK (l : List Ky) (key : Int) : Prop := ∃ k, findK l key = some k ∧ k.kind = 2 ∧ k.block = true
theorem stepP_good {l : List Ky} {key b : Int} {s : List At} (h : GoodK l key) :
    stepP l s key b = (if applyP (stepQ l key (stepN s key b)) s = s then [] else stepQ l key (stepN s key b), 0) := by
  obtain ⟨k, h1, h2, h3⟩ := h
  unfold stepP
  rw [h1]
  simp only
  rw [if_neg (by simp [h2]), if_neg (by simp [h3])]
  split <;> rfl
theorem step_now {l : List Ky} {key b : Int} {s : List At} (h : GoodK l key) : applyP (stepP l s key b).1 s = applyP (stepQ l key (stepN s key b)) s := by
  rw [stepP_good h]
  show applyP (if applyP (stepQ l key (stepN s key b)) s = s then [] else stepQ l key (stepN s key b)) s = _
  split
  · rename_i hh; rw [hh]; rfl
  · rfl
theorem stepN_range (s : List At) (key b : Int) : 0 ≤ stepN s key b ∧ stepN s key b ≤ 8 := by
  unfold stepN; exact holdI_lo (by omega)
theorem holdI_id {n : Int} (h0 : 0 ≤ n) (h8 : n ≤ 8) : holdI n 0 8 = n := by unfold holdI; rw [if_neg (by omega), if_neg (by omega)]
theorem step_zero {l : List Ky} {key b : Int} {s : List At} (h : GoodK l key) (hs : riseA s = true) : stepP l (applyP (stepQ l key (stepN s key b)) s) key 0 = ([], 0) := by
  obtain ⟨r0, r8⟩ := stepN_range s key b
  have hq := stepQ_get (l := l) (key := key) (n := stepN s key b) hs
  have hN : stepN (applyP (stepQ l key (stepN s key b)) s) key 0 = stepN s key b := by
    generalize stepN s key b = N at *
    unfold stepN
    rw [hq]
    have h0 : holdI 0 (-8) 8 = 0 := by decide
    by_cases hn : N = 0
    · subst hn; rw [h0]; decide
    · rw [if_neg hn, h0]
      simp only [if_true]
      rw [holdI_id r0 r8, Int.add_zero, holdI_id r0 r8]
  rw [stepP_good h, hN, apply_two (stepQ_rise _ _ _) hs, if_pos rfl]
/-- what a step leads to -/
theorem step_get {l : List Ky} {key b : Int} {s : List At} (h : GoodK l key) (hs : riseA s = true) : ∃ n : Int, 0 ≤ n ∧ n ≤ 8 ∧ getA (applyP (stepQ l key (stepN s key b)) s) key = if n = 0 then none else some ⟨2, n, 0, ⟨#[]⟩⟩ :=
  ⟨stepN s key b, (stepN_range s key b).1, (stepN_range s key b).2, stepQ_get hs⟩
theorem step_bad {l : List Ky} {key b : Int} {s : List At} (h : ¬ GoodK l key) : (stepP l s key b).1 = [] ∧ ((stepP l s key b).2 = 4 ∨ (stepP l s key b).2 = 7) := by
  unfold stepP
  cases hf : findK l key with
  | none => exact ⟨rfl, .inl rfl⟩
  | some k =>
    simp only
    by_cases h1 : k.kind = 2
    · rw [if_neg (by simp [h1])]
      by_cases h2 : k.block = false
      · rw [if_pos h2]; exact ⟨rfl, .inr rfl⟩
      · exact absurd ⟨k, hf, h1, by simpa using h2⟩ h
    · rw [if_pos h1]; exact ⟨rfl, .inl rfl⟩
end Go.Proofs.Ytnhmbocgopjbjaa
