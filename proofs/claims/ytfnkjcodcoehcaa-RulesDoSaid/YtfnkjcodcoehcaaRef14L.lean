/- Plain: what rubricref04.Keys, Group and rubricref14 compute, and that where keys rise it is what the program computes. -/
import Derived.Test.YtfnkjcodcoehcaaTypedLaw
import Derived.Test.YtfnkjcodcoehcaaStep
import Derived.Test.YtfnkjcodcoehcaaRefPatLaw
import Derived.Test.YtfnkjcodcoehcaaSchema2
namespace Go.Proofs.Ytfnkjcodcoehcaa
open Go.RowKit
set_option linter.unusedVariables false
set_option linter.unusedSimpArgs false

/-- the keys found of m IDs from id on -/
def keysF (l : List Ky) : Nat → Int → List Ky
  | 0, _ => []
  | m + 1, id => (match findK l id with | some k => [k] | none => []) ++ keysF l m (id + 1)
theorem keysF_len (l : List Ky) : ∀ m id, (keysF l m id).length ≤ m
  | 0, _ => Nat.le_refl _
  | m + 1, id => by
    unfold keysF
    have := keysF_len l m (id + 1)
    cases findK l id <;> simp <;> omega
theorem keysF_hit {l : List Ky} {m : Nat} {id : Int} {k : Ky} {r R : List Ky} (h : r ++ keysF l (m + 1) id = R) (hf : findK l id = some k) : (r ++ [k]) ++ keysF l m (id + 1) = R := by
  rw [keysF, hf] at h; rw [← h]; simp
theorem keysF_miss {l : List Ky} {m : Nat} {id : Int} {r R : List Ky} (h : r ++ keysF l (m + 1) id = R) (hf : findK l id = none) : r ++ keysF l m (id + 1) = R := by
  rw [keysF, hf] at h; rw [← h]; simp
theorem keysF_mem {l : List Ky} {k : Ky} : ∀ (m : Nat) (id : Int), k ∈ keysF l m id ↔ ∃ j : Int, id ≤ j ∧ j < id + m ∧ findK l j = some k
  | 0, id => by simp only [keysF, List.not_mem_nil, false_iff]; rintro ⟨j, h1, h2, _⟩; omega
  | m + 1, id => by
    rw [keysF, List.mem_append, keysF_mem m (id + 1)]
    constructor
    · rintro (h | ⟨j, h1, h2, h3⟩)
      · refine ⟨id, Int.le_refl _, by omega, ?_⟩
        cases hf : findK l id with
        | none => rw [hf] at h; simp at h
        | some x => rw [hf] at h; simp at h; rw [h]
      · exact ⟨j, by omega, by omega, h3⟩
    · rintro ⟨j, h1, h2, h3⟩
      by_cases hj : j = id
      · subst hj; left; rw [h3]; simp
      · exact .inr ⟨j, by omega, by omega, h3⟩
def keysL (l : List Ky) : List Ky := keysF l 1000 1
theorem findK_id {l : List Ky} {id : Int} {k : Ky} (h : findK l id = some k) : k.id = id ∧ k ∈ l := by
  unfold findK at h
  exact ⟨by simpa using List.find?_some h, List.mem_of_find?_eq_some h⟩
theorem okPre_find : ∀ {l seen : List Ky}, okPre seen l = true → ∀ k ∈ l, mayK k = true ∧ findK seen k.id = none ∧ findK l k.id = some k
  | [], _, _, k, hk => by cases hk
  | x :: r, seen, h, k, hk => by
    unfold okPre at h
    simp only [Bool.and_eq_true, Option.isNone_iff_eq_none] at h
    obtain ⟨⟨h1, h2⟩, h3⟩ := h
    rcases List.mem_cons.1 hk with rfl | hk
    · exact ⟨h1, h2, by unfold findK; rw [List.find?_cons]; simp⟩
    · obtain ⟨g1, g2, g3⟩ := okPre_find h3 k hk
      unfold findK at g2 g3 ⊢
      rw [List.find?_append] at g2
      have g4 : List.find? (fun z => decide (z.id = k.id)) seen = none := by
        cases hq : List.find? (fun z => decide (z.id = k.id)) seen with
        | none => rfl
        | some q => rw [hq] at g2; simp at g2
      have g5 : ¬ x.id = k.id := by
        intro e
        rw [g4] at g2
        simp [List.find?_cons, e] at g2
      refine ⟨g1, g4, ?_⟩
      rw [List.find?_cons]
      simp only [g5, decide_false, g3]
theorem keysL_mem {l : List Ky} (h : mayKs l = true) (k : Ky) : k ∈ keysL l ↔ k ∈ l := by
  unfold mayKs at h
  simp only [Bool.and_eq_true] at h
  unfold keysL
  rw [keysF_mem]
  constructor
  · rintro ⟨j, _, _, h3⟩; exact (findK_id h3).2
  · intro hk
    obtain ⟨g1, _, g3⟩ := okPre_find h.2 k hk
    unfold mayK at g1
    simp only [Bool.and_eq_true, decide_eq_true_eq] at g1
    exact ⟨k.id, g1.1.1, by have := g1.1.2.1; omega, g3⟩
/-- what rubricref04.Group answers -/
def groupR (l : List Ky) (id : Int) : List Int :=
  match findK l id with
  | none => []
  | some k => if k.group = 0 then [] else othersL (keysL l) k.group id
theorem groupR_mem {l : List Ky} (h : mayKs l = true) (id k : Int) : k ∈ groupR l id ↔ k ∈ groupL l id := by
  unfold groupR groupL
  cases findK l id with
  | none => exact Iff.rfl
  | some x =>
    simp only
    split
    · exact Iff.rfl
    · unfold othersL
      simp only [List.mem_map, List.mem_filter, keysL_mem h]
theorem groupR_len (l : List Ky) (id : Int) : (groupR l id).length ≤ 1000 := by
  unfold groupR
  cases findK l id with
  | none => simp
  | some x =>
    simp only
    split
    · simp
    · unfold othersL
      rw [List.length_map]
      exact Nat.le_trans (List.length_filter_le _ _) (keysF_len _ _ _)
/-- a change is put in where its key was not handed in -/
theorem ComplInv.put {l : List Ky} {p r : List Ch} {D : Int → Prop} {o : Int} (h : ComplInv l p r D) (hn : lk Ch.key p o = none) : ComplInv l p (putF (goneK o) r) (fun k => D k ∨ k = o) := fun hp => by
  obtain ⟨os, h1, h2, h3, h4⟩ := h hp
  obtain ⟨g1, g2, _⟩ := putF_all (riseC_srt.1 h1) (goneK o)
  refine ⟨os ++ [o], riseC_srt.2 g1, fun k => ?_, fun k => by simp [h3 k], ?_⟩
  · rw [g2 k, h2 k]
    show (if o = k then some (goneK o) else complLk os p k) = complLk (os ++ [o]) p k
    unfold complLk
    by_cases hk : o = k
    · subst hk
      rw [if_pos rfl, hn]
      simp
    · rw [if_neg hk]
      have : (k ∈ os ++ [o]) ↔ k ∈ os := by simp; exact fun e => absurd e.symm hk
      simp only [this]
  · rw [List.any_append, h4]
    simp only [List.any_cons, List.any_nil, Bool.or_false, Bool.false_or]
    unfold setB
    rw [hn]
theorem ComplInv.stay {l : List Ky} {p r : List Ch} {D : Int → Prop} {o : Int} {d : Ch} (h : ComplInv l p r D) (hl : lk Ch.key p o = some d) (hg : d.gone = true) : ComplInv l p r (fun k => D k ∨ k = o) := fun hp => by
  obtain ⟨os, h1, h2, h3, h4⟩ := h hp
  refine ⟨os ++ [o], h1, fun k => ?_, fun k => by simp [h3 k], ?_⟩
  · rw [h2 k]
    unfold complLk
    by_cases hk : k = o
    · subst hk; rw [hl]; rfl
    · have : (k ∈ os ++ [o]) ↔ k ∈ os := by simp [hk]
      simp only [this]
  · rw [List.any_append, h4]
    simp only [List.any_cons, List.any_nil, Bool.or_false, Bool.false_or]
    unfold setB
    rw [hl]
    simp [hg]
/-- the folds of rubricref14.Typed -/
def stepL (l : List Ky) (o : List At) (x : At) : List At := if prK l afterK x.key = true then with05P o x else o
def stepR (l : List Ky) (o : List At) (x : At) : List At := if prK l beforeK x.key = true ∧ (getA o x.key).isSome = false then with05P o x else o
def typedR (l : List Ky) (a b : List At) : List At := b.foldl (stepR l) (a.foldl (stepL l) [])
theorem stepL_len (l : List Ky) (o : List At) (x : At) : (stepL l o x).length ≤ o.length + 1 := by
  unfold stepL; split
  · exact with05_len _ _
  · omega
theorem stepR_len (l : List Ky) (o : List At) (x : At) : (stepR l o x).length ≤ o.length + 1 := by
  unfold stepR; split
  · exact with05_len _ _
  · omega
theorem foldL_is (l : List Ky) : ∀ (a : List At) {s : List At}, riseA s = true → a.foldl (stepL l) s = (siftP l afterK a).foldl withP s
  | [], _, _ => rfl
  | x :: a, s, hs => by
    have e : siftP l afterK (x :: a) = (if prK l afterK x.key = true then [x] else []) ++ siftP l afterK a := by
      unfold siftP
      rw [List.filter_cons]
      show (if prK l afterK x.key = true then _ else _) = _
      split <;> rfl
    rw [List.foldl_cons, e]
    unfold stepL
    split
    · rw [with05_is hs]
      exact foldL_is l a (with_all hs x).1
    · exact foldL_is l a hs
theorem foldR_is (l : List Ky) : ∀ (b : List At) {s : List At}, riseA s = true → b.foldl (stepR l) s = (siftP l beforeK b).foldl stepB s
  | [], _, _ => rfl
  | x :: b, s, hs => by
    have e : siftP l beforeK (x :: b) = (if prK l beforeK x.key = true then [x] else []) ++ siftP l beforeK b := by
      unfold siftP
      rw [List.filter_cons]
      show (if prK l beforeK x.key = true then _ else _) = _
      split <;> rfl
    rw [List.foldl_cons, e]
    unfold stepR
    by_cases h1 : prK l beforeK x.key = true
    · rw [if_pos h1]
      by_cases h2 : (getA s x.key).isSome = true
      · rw [if_neg (by rw [h2]; simp)]
        show _ = (siftP l beforeK b).foldl stepB (stepB s x)
        unfold stepB
        rw [if_pos h2]
        exact foldR_is l b hs
      · rw [if_pos ⟨h1, by simpa using h2⟩, with05_is hs]
        show _ = (siftP l beforeK b).foldl stepB (stepB s x)
        have : stepB s x = withP s x := by unfold stepB; rw [if_neg h2]
        rw [this]
        exact foldR_is l b (with_all hs x).1
    · rw [if_neg h1, if_neg (fun h => h1 h.1)]
      exact foldR_is l b hs
theorem with_srt {t : List At} (h : riseA t = true) : t.foldl withP [] = t := by
  obtain ⟨h1, h2, _⟩ := foldl_with t riseA_nil
  refine lk_ext At.key (riseA_srt.1 h1) (riseA_srt.1 h) fun k => ?_
  rw [h2 k, lk_nil, Option.or_none]
  have hs := riseA_srt.1 h
  cases hl : lk At.key t k with
  | some x =>
    have hk := lk_key At.key hl
    cases hr : lk At.key t.reverse k with
    | some y =>
      have hy := List.mem_reverse.1 (lk_mem At.key hr)
      have e := lk_of_mem At.key hs hy
      rw [lk_key At.key hr, hl] at e
      exact e.symm
    | none =>
      have : (lk At.key t.reverse k).isSome = true := (lk_isSome At.key).2 ⟨x, List.mem_reverse.2 (lk_mem At.key hl), hk⟩
      rw [hr] at this; cases this
  | none =>
    cases hr : lk At.key t.reverse k with
    | none => rfl
    | some y =>
      have : (lk At.key t k).isSome = true := (lk_isSome At.key).2 ⟨y, List.mem_reverse.1 (lk_mem At.key hr), lk_key At.key hr⟩
      rw [hl] at this; cases this
theorem typedR_is {l : List Ky} {a b : List At} (ha : riseA a = true) : typedR l a b = typedP l a b := by
  unfold typedR typedP
  have h1 := sift_rise (l := l) (pr := afterK) ha
  rw [foldL_is l a riseA_nil, with_srt h1, foldR_is l b h1]
/-- what Complete answers, as a pair -/
def complO (l : List Ky) (p : List Ch) : List Ch × Int := if confP l p = true then ([], 3) else (completeP l p, 0)
theorem complOut_is {l : List Ky} {p r : List Ch} {er : Int} (h : confP l p = true ∧ er = 3 ∧ r = [] ∨ confP l p = false ∧ er = 0 ∧ r = completeP l p) : (r, er) = complO l p := by
  unfold complO
  rcases h with ⟨h1, h2, h3⟩ | ⟨h1, h2, h3⟩
  · rw [if_pos h1, h2, h3]
  · rw [if_neg (by rw [h1]; decide), h2, h3]
theorem split14_is (l : List Ky) (s : List At) : s.filter (fun a => match findK l a.key with | some k => splitQ k | none => false) = siftP l splitK s := rfl
end Go.Proofs.Ytfnkjcodcoehcaa
