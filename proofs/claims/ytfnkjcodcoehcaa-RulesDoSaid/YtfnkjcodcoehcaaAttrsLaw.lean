/- The laws of sets (With, Without, Same) as plain mathematics. -/
import Derived.Test.YtfnkjcodcoehcaaPatchLaw
import Derived.Test.YtfnkjcodcoehcaaAttrsOps
namespace Go.Proofs.Ytfnkjcodcoehcaa
set_option linter.unusedVariables false
set_option linter.unusedSimpArgs false

theorem with_all {l : List At} (h : riseA l = true) (a : At) :
    riseA (withP l a) = true ∧ (∀ k, lk At.key (withP l a) k = if a.key = k then some a else lk At.key l k) ∧ (withP l a).length ≤ l.length + 1 := by
  have hs := riseA_srt.1 h
  have hp : Srt Ch.key [(⟨a.key, false, a.v⟩ : Ch)] := (srt_cons Ch.key).2 ⟨by simp, Srt.nil Ch.key⟩
  obtain ⟨h1, h2, _, h4⟩ := apply_all hp hs
  refine ⟨riseA_srt.2 h1, fun k => ?_, by unfold withP; simp at h4; omega⟩
  unfold withP
  rw [h2 k, lk_cons, lk_nil]
  simp only
  split <;> simp [lkApply]

/-- put in from the first on -/
def aP (l : List At) : List At := l.foldl withP []
/-- put in where the key is not yet there -/
def stepB (b : List At) (x : At) : List At := if (getA b x.key).isSome = true then b else withP b x
def bP (l : List At) : List At := l.foldl stepB []

theorem riseA_nil : riseA [] = true := rfl
theorem foldl_with (l : List At) : ∀ {s : List At}, riseA s = true →
    riseA (l.foldl withP s) = true ∧ (∀ k, lk At.key (l.foldl withP s) k = (lk At.key l.reverse k).or (lk At.key s k)) ∧ (l.foldl withP s).length ≤ s.length + l.length := by
  induction l with
  | nil => intro s hs; exact ⟨hs, fun k => rfl, Nat.le_refl _⟩
  | cons a l ih =>
    intro s hs
    obtain ⟨h1, h2, h3⟩ := with_all hs a
    obtain ⟨g1, g2, g3⟩ := ih h1
    refine ⟨g1, fun k => ?_, by simp only [List.foldl_cons, List.length_cons]; omega⟩
    rw [List.foldl_cons, g2 k, h2 k, List.reverse_cons, lk_append, lk_cons, lk_nil]
    cases lk At.key l.reverse k with
    | some _ => rfl
    | none => split <;> simp
theorem step_all {s : List At} (hs : riseA s = true) (x : At) :
    riseA (stepB s x) = true ∧ (∀ k, lk At.key (stepB s x) k = (lk At.key s k).or (if x.key = k then some x else none)) ∧ (stepB s x).length ≤ s.length + 1 := by
  unfold stepB
  obtain ⟨h1, h2, h3⟩ := with_all hs x
  have e : getA s x.key = (lk At.key s x.key).map (·.v) := rfl
  rw [e, Option.isSome_map]
  split
  · rename_i h
    refine ⟨hs, fun k => ?_, by omega⟩
    by_cases hk : x.key = k
    · subst hk
      obtain ⟨y, hy⟩ := Option.isSome_iff_exists.1 h
      rw [hy]; rfl
    · rw [if_neg hk, Option.or_none]
  · rename_i h
    refine ⟨h1, fun k => ?_, h3⟩
    rw [h2 k]
    by_cases hk : x.key = k
    · subst hk
      have : lk At.key s x.key = none := by simpa using h
      rw [if_pos rfl, if_pos rfl, this]; rfl
    · rw [if_neg hk, if_neg hk, Option.or_none]
theorem foldl_step (l : List At) : ∀ {s : List At}, riseA s = true →
    riseA (l.foldl stepB s) = true ∧ (∀ k, lk At.key (l.foldl stepB s) k = (lk At.key s k).or (lk At.key l k)) ∧ (l.foldl stepB s).length ≤ s.length + l.length := by
  induction l with
  | nil => intro s hs; exact ⟨hs, fun k => by simp [lk_nil], Nat.le_refl _⟩
  | cons a l ih =>
    intro s hs
    obtain ⟨h1, h2, h3⟩ := step_all hs a
    obtain ⟨g1, g2, g3⟩ := ih h1
    refine ⟨g1, fun k => ?_, by simp only [List.foldl_cons, List.length_cons]; omega⟩
    rw [List.foldl_cons, g2 k, h2 k, lk_cons, Option.or_assoc]
    split <;> simp
theorem law_order (l : List At) : aP l = bP l.reverse := by
  obtain ⟨h1, h2, _⟩ := foldl_with l riseA_nil
  obtain ⟨g1, g2, _⟩ := foldl_step l.reverse riseA_nil
  refine lk_ext At.key (riseA_srt.1 h1) (riseA_srt.1 g1) fun k => ?_
  show lk At.key (l.foldl withP []) k = lk At.key (l.reverse.foldl stepB []) k
  rw [h2 k, g2 k, lk_nil]
  simp
theorem aP_rise (l : List At) : riseA (aP l) = true := (foldl_with l riseA_nil).1
theorem aP_len (l : List At) : (aP l).length ≤ l.length := by have := (foldl_with l riseA_nil).2.2; simpa [aP] using this
theorem bP_rise (l : List At) : riseA (bP l) = true := (foldl_step l riseA_nil).1
theorem bP_len (l : List At) : (bP l).length ≤ l.length := by have := (foldl_step l riseA_nil).2.2; simpa [bP] using this
theorem aP_snoc (l : List At) (a : At) : aP (l ++ [a]) = withP (aP l) a := by simp [aP]
theorem bP_snoc (l : List At) (a : At) : bP (l ++ [a]) = stepB (bP l) a := by simp [bP]
theorem take_snoc {α : Type} {l : List α} {i : Nat} {a : α} (h : l[i]? = some a) : l.take (i + 1) = l.take i ++ [a] := by
  obtain ⟨hi, he⟩ := List.getElem?_eq_some_iff.1 h
  rw [List.take_succ_eq_append_getElem hi, he]
theorem rev_at {α : Type} {l : List α} {i j : Nat} {a : α} (h : l[j]? = some a) (hij : i + j + 1 = l.length) : l.reverse[i]? = some a := by
  rw [List.getElem?_reverse (by omega)]
  have : l.length - 1 - i = j := by omega
  rw [this, h]
theorem get_at {l : List At} (h : riseA l = true) {i : Nat} {a : At} (ha : l[i]? = some a) : getA l a.key = some a.v := by
  rw [getA_lk, lk_of_mem At.key (riseA_srt.1 h) (List.mem_of_getElem? ha)]
  rfl
end Go.Proofs.Ytfnkjcodcoehcaa
