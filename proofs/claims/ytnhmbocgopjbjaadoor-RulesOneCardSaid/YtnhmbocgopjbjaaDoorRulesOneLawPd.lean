/- The laws of a completed patch, as plain mathematics. -/
import Derived.Test.YtnhmbocgopjbjaaDoorStepPd
import Derived.Test.YtnhmbocgopjbjaaDoorPk15
import Derived.Test.YtnhmbocgopjbjaaDoorPk11
namespace Go.Proofs.YtnhmbocgopjbjaaDoor
set_option linter.unusedVariables false
set_option linter.unusedSimpArgs false

theorem mayP0 {l : List Ky} {p : List Ch} (h : mayP l p = 0) : p.length ≤ 64 ∧ riseC p = true ∧ p.all okC = true ∧ p.all (thereC l) = true := by
  unfold mayP at h
  by_cases h1 : 64 < p.length
  · rw [if_pos h1] at h; cases h
  · rw [if_neg h1] at h
    by_cases h2 : riseC p = true ∧ p.all okC = true
    · rw [if_pos h2] at h
      by_cases h3 : p.all (thereC l) = true
      · exact ⟨by omega, h2.1, h2.2, h3⟩
      · rw [if_neg h3] at h; cases h
    · rw [if_neg h2] at h; cases h
theorem mayP_mk {l : List Ky} {p : List Ch} (h0 : p.length ≤ 64) (h1 : riseC p = true) (h2 : ∀ c ∈ p, okC c = true) (h3 : ∀ c ∈ p, thereC l c = true) : mayP l p = 0 := by
  unfold mayP
  rw [if_neg (by omega), if_pos ⟨h1, List.all_eq_true.2 h2⟩, if_pos (List.all_eq_true.2 h3)]
theorem findK_mem {l : List Ky} {k : Ky} (h : k ∈ l) : (findK l k.id).isSome = true := by
  unfold findK
  rw [List.find?_isSome]
  exact ⟨k, h, by simp⟩
theorem group_there {l : List Ky} {id k : Int} (h : k ∈ groupL l id) : (findK l k).isSome = true := by
  unfold groupL at h
  cases hf : findK l id with
  | none => rw [hf] at h; simp at h
  | some x =>
    rw [hf] at h
    simp only at h
    split at h
    · simp at h
    · unfold othersL at h
      obtain ⟨o, ho, rfl⟩ := List.mem_map.1 h
      exact findK_mem (List.mem_filter.1 ho).1
/-- where a change of a completed patch is from -/
theorem compl_mem {l : List Ky} {p : List Ch} (hp : riseC p = true) {c : Ch} (hc : c ∈ completeP l p) : c ∈ p ∨ (c = goneK c.key ∧ (findK l c.key).isSome = true) := by
  have h1 := lk_of_mem Ch.key (riseC_srt.1 (completeP_rise (l := l) hp)) hc
  rw [completeP_lk hp] at h1
  unfold complLk at h1
  cases hl : lk Ch.key p c.key with
  | some d => rw [hl] at h1; injection h1 with h1; subst h1; exact .inl (lk_mem Ch.key hl)
  | none =>
    rw [hl, Option.none_or] at h1
    split at h1
    · rename_i hm
      injection h1 with h1
      obtain ⟨d, _, _, hg⟩ := mem_othersOf.1 hm
      exact .inr ⟨h1.symm, group_there hg⟩
    · cases h1
theorem keys_lenC2 {l : List Ky} {p : List Ch} (hp : riseC p = true) (h : ∀ c ∈ p, thereC l c = true) : p.length ≤ l.length := by
  have h2 : (p.map (·.key)).Pairwise (· < ·) := List.pairwise_map.2 (riseC_srt.1 hp)
  have h3 := keys_len (l := l) h2 (fun k hk => by
    obtain ⟨c, hc, rfl⟩ := List.mem_map.1 hk
    have := h c hc
    unfold thereC at this
    exact (Bool.and_eq_true_iff.1 this).1)
  simpa using h3
theorem compl_there {l : List Ky} {p : List Ch} (h : mayP l p = 0) : ∀ c ∈ completeP l p, thereC l c = true := fun c hc => by
  obtain ⟨h1, h2, h3, h4⟩ := mayP0 h
  rcases compl_mem h2 hc with hm | ⟨e, ht⟩
  · exact List.all_eq_true.1 h4 c hm
  · rw [e]; unfold thereC; rw [show (goneK c.key).key = c.key from rfl, ht]; rfl
theorem compl_len {l : List Ky} {p : List Ch} (h : mayP l p = 0) : (completeP l p).length ≤ l.length :=
  keys_lenC2 (completeP_rise (mayP0 h).2.1) (compl_there h)
theorem compl_may {l : List Ky} {p : List Ch} (h : mayP l p = 0) (hl : l.length ≤ 64) : mayP l (completeP l p) = 0 := by
  obtain ⟨h1, h2, h3, h4⟩ := mayP0 h
  refine mayP_mk (by have := compl_len h; omega) (completeP_rise h2) (fun c hc => ?_) (compl_there h)
  rcases compl_mem h2 hc with hm | ⟨e, _⟩
  · exact List.all_eq_true.1 h3 c hm
  · rw [e]; unfold okC; rw [if_pos (show (goneK c.key).gone = true from rfl)]; exact beqV_eq rfl
theorem compl_vc {l : List Ky} {p : List Ch} (hp : riseC p = true) (hv : okVc p) : okVc (completeP l p) := fun c hc => by
  rcases compl_mem hp hc with hm | ⟨e, _⟩
  · exact hv c hm
  · rw [e]; exact (show okV V.zero from ⟨by decide, by decide, by decide, by decide, by decide, by decide⟩)
/-- the changes that set are the same -/
theorem compl_set {l : List Ky} {p : List Ch} (hp : riseC p = true) {c : Ch} : (c ∈ completeP l p ∧ c.gone = false) ↔ (c ∈ p ∧ c.gone = false) := by
  constructor
  · rintro ⟨h1, h2⟩
    rcases compl_mem hp h1 with hm | ⟨e, _⟩
    · exact ⟨hm, h2⟩
    · rw [e] at h2; cases h2
  · rintro ⟨h1, h2⟩
    refine ⟨?_, h2⟩
    have h3 := lk_of_mem Ch.key (riseC_srt.1 hp) h1
    have h4 : lk Ch.key (completeP l p) c.key = some c := by rw [completeP_lk hp]; unfold complLk; rw [h3]; rfl
    exact lk_mem Ch.key h4
theorem compl_others {l : List Ky} {p : List Ch} (hp : riseC p = true) (k : Int) : k ∈ othersOf l (completeP l p) ↔ k ∈ othersOf l p := by
  rw [mem_othersOf, mem_othersOf]
  constructor
  · rintro ⟨c, h1, h2, h3⟩
    obtain ⟨g1, g2⟩ := (compl_set hp).1 ⟨h1, h2⟩
    exact ⟨c, g1, g2, h3⟩
  · rintro ⟨c, h1, h2, h3⟩
    obtain ⟨g1, g2⟩ := (compl_set (l := l) hp).2 ⟨h1, h2⟩
    exact ⟨c, g1, g2, h3⟩
theorem compl_twice {l : List Ky} {p : List Ch} (hp : riseC p = true) : completeP l (completeP l p) = completeP l p := by
  have h1 := completeP_rise (l := l) hp
  refine lk_ext Ch.key (riseC_srt.1 (completeP_rise h1)) (riseC_srt.1 h1) fun k => ?_
  rw [completeP_lk h1, complLk_mem (compl_others hp)]
  have e := completeP_lk (l := l) hp k
  unfold complLk at e ⊢
  rw [e]
  cases lk Ch.key p k with
  | some d => rfl
  | none =>
    rw [Option.none_or]
    split <;> rfl
theorem compl_noconf {l : List Ky} {p : List Ch} (hp : riseC p = true) (h : confP l p = false) : confP l (completeP l p) = false := by
  rw [Bool.eq_false_iff] at h ⊢
  intro hh
  unfold confP at hh
  obtain ⟨k, hk, hs⟩ := List.any_eq_true.1 hh
  refine h ?_
  unfold confP
  refine List.any_eq_true.2 ⟨k, (compl_others hp k).1 hk, ?_⟩
  unfold setB at hs ⊢
  rw [completeP_lk hp] at hs
  unfold complLk at hs
  cases hl : lk Ch.key p k with
  | some d => rw [hl] at hs; exact hs
  | none =>
    rw [hl, Option.none_or, if_pos ((compl_others hp k).1 hk)] at hs
    exact hs
/-- what a set has of a key that is set, and of the others of its group -/
theorem compl_get {l : List Ky} {p : List Ch} {s : List At} (hp : riseC p = true) (hs : riseA s = true) (hn : confP l p = false) {c : Ch} (hc : c ∈ p) (hg : c.gone = false) :
    getA (applyP (completeP l p) s) c.key = some c.v ∧ ∀ k ∈ groupL l c.key, getA (applyP (completeP l p) s) k = none := by
  obtain ⟨h1, h2, _⟩ := apply_all (riseC_srt.1 (completeP_rise (l := l) hp)) (riseA_srt.1 hs)
  constructor
  · rw [getA_lk, h2, completeP_lk hp]
    unfold complLk
    rw [lk_of_mem Ch.key (riseC_srt.1 hp) hc]
    unfold lkApply
    simp [hg]
  · intro k hk
    have hm : k ∈ othersOf l p := mem_othersOf.2 ⟨c, hc, hg, hk⟩
    rw [getA_lk, h2, completeP_lk hp]
    unfold complLk
    rw [if_pos hm]
    have hb : setB p k = false := by
      rw [Bool.eq_false_iff]
      intro hh
      rw [Bool.eq_false_iff] at hn
      exact hn (List.any_eq_true.2 ⟨k, hm, hh⟩)
    unfold setB at hb
    cases hl : lk Ch.key p k with
    | none => rfl
    | some d =>
      rw [hl] at hb
      simp at hb
      unfold lkApply
      simp [hb]
end Go.Proofs.YtnhmbocgopjbjaaDoor
