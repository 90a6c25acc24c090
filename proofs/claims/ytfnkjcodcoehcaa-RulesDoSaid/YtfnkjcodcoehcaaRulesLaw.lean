/- The laws of completing a patch, and of steps, as plain mathematics. -/
import Derived.Test.YtfnkjcodcoehcaaPatchLaw
import Derived.Test.YtfnkjcodcoehcaaGroup
import Derived.Test.YtfnkjcodcoehcaaFindCh
import Derived.Test.YtfnkjcodcoehcaaInsertCh
namespace Go.Proofs.Ytfnkjcodcoehcaa
set_option linter.unusedVariables false
set_option linter.unusedSimpArgs false

def goneK (k : Int) : Ch := ⟨k, true, V.zero⟩
/-- the others that a patch lets go -/
def othersOf (l : List Ky) (p : List Ch) : List Int := (p.filter (fun c => !c.gone)).flatMap (fun c => groupL l c.key)
/-- is a key set by a patch? -/
def setB (p : List Ch) (k : Int) : Bool := match lk Ch.key p k with | some c => !c.gone | none => false
def confP (l : List Ky) (p : List Ch) : Bool := (othersOf l p).any (setB p)
def complLk (os : List Int) (p : List Ch) (k : Int) : Option Ch := (lk Ch.key p k).or (if k ∈ os then some (goneK k) else none)
def complF (os : List Int) (p : List Ch) : List Ch := os.foldl (fun o k => composeP [goneK k] o) p
def completeP (l : List Ky) (p : List Ch) : List Ch := complF (othersOf l p) p

theorem complLk_nil (p : List Ch) (k : Int) : complLk [] p k = lk Ch.key p k := by simp [complLk]
theorem complLk_set {os : List Int} {p : List Ch} {k : Int} {c : Ch} (h : complLk os p k = some c) (hg : c.gone = false) : lk Ch.key p k = some c := by
  unfold complLk at h
  cases hl : lk Ch.key p k with
  | some d => rw [hl] at h; exact h
  | none =>
    rw [hl, Option.none_or] at h
    split at h
    · injection h with h; subst h; cases hg
    · cases h
theorem complLk_none {os : List Int} {p : List Ch} {k : Int} (h : complLk os p k = none) : lk Ch.key p k = none ∧ k ∉ os := by
  unfold complLk at h
  cases hl : lk Ch.key p k with
  | some d => rw [hl] at h; cases h
  | none =>
    rw [hl, Option.none_or] at h
    split at h
    · cases h
    · rename_i hm; exact ⟨rfl, hm⟩
theorem complLk_mem {os ps : List Int} (h : ∀ k, k ∈ os ↔ k ∈ ps) (p : List Ch) (k : Int) : complLk os p k = complLk ps p k := by
  unfold complLk
  by_cases hk : k ∈ os
  · rw [if_pos hk, if_pos ((h k).1 hk)]
  · rw [if_neg hk, if_neg (fun hh => hk ((h k).2 hh))]
/-- one more, that is there and gone -/
theorem complLk_there {os : List Int} {p : List Ch} {o : Int} {c : Ch} (h : complLk os p o = some c) (hg : c.gone = true) (k : Int) : complLk (os ++ [o]) p k = complLk os p k := by
  unfold complLk
  cases hl : lk Ch.key p k with
  | some d => rfl
  | none =>
    simp only [Option.none_or, List.mem_append, List.mem_singleton]
    by_cases hk : k = o
    · subst hk
      unfold complLk at h
      rw [hl, Option.none_or] at h
      split at h
      · rename_i hm; rw [if_pos (Or.inl hm), if_pos hm]
      · cases h
    · simp [hk]
/-- one more, that is not there -/
theorem complLk_new {os : List Int} {p : List Ch} {o : Int} (h : complLk os p o = none) (k : Int) : complLk (os ++ [o]) p k = if o = k then some (goneK k) else complLk os p k := by
  obtain ⟨h1, h2⟩ := complLk_none h
  unfold complLk
  by_cases hk : o = k
  · subst hk
    rw [h1, if_pos rfl]; simp
  · rw [if_neg hk]
    have : (k ∈ os ++ [o]) ↔ k ∈ os := by simp; intro e; exact absurd e.symm hk
    simp only [this]
theorem gone_srt (k : Int) : Srt Ch.key [goneK k] := (srt_cons Ch.key).2 ⟨by simp, Srt.nil Ch.key⟩
theorem complF_all (os : List Int) : ∀ {p : List Ch}, Srt Ch.key p → Srt Ch.key (complF os p) ∧ ∀ k, lk Ch.key (complF os p) k = complLk os p k := by
  induction os with
  | nil => intro p hp; exact ⟨hp, fun k => (complLk_nil p k).symm⟩
  | cons o os ih =>
    intro p hp
    obtain ⟨h1, h2, _⟩ := compose_all hp (gone_srt o)
    obtain ⟨g1, g2⟩ := ih h1
    refine ⟨g1, fun k => ?_⟩
    show lk Ch.key (complF os (composeP [goneK o] p)) k = _
    rw [g2 k]
    unfold complLk
    rw [h2 k, lk_cons, lk_nil, Option.or_assoc]
    congr 1
    by_cases hk : o = k
    · subst hk; simp [goneK]
    · have : ¬ k = o := fun e => hk e.symm
      have hk2 : ¬ (goneK o).key = k := hk
      rw [if_neg hk2]; simp [this]
theorem compl_ext {l : List Ky} {p r : List Ch} (hp : riseC p = true) (hr : riseC r = true) (h : ∀ k, lk Ch.key r k = complLk (othersOf l p) p k) : r = completeP l p := by
  obtain ⟨g1, g2⟩ := complF_all (othersOf l p) (riseC_srt.1 hp)
  exact lk_ext Ch.key (riseC_srt.1 hr) g1 (fun k => by rw [h k]; exact (g2 k).symm)

/-- putting in where a key is not -/
theorem insC_lk {l : List Ch} {c : Ch} {i : Nat} (h : FindOutC l c.key i false) (hr : riseC l = true) : riseC (insC l i c) = true ∧ ∀ k, lk Ch.key (insC l i c) k = if c.key = k then some c else lk Ch.key l k := by
  obtain ⟨hi, hb, hc⟩ := h
  obtain ⟨h1, h2⟩ := hc hr
  have hs := riseC_srt.1 hr
  have e : l = l.take i ++ l.drop i := (List.take_append_drop i l).symm
  have hs2 : Srt Ch.key (l.take i ++ l.drop i) := by rw [← e]; exact hs
  obtain ⟨s1, s2, s3⟩ := (srt_append Ch.key).1 hs2
  have a1 : ∀ a ∈ l.take i, a.key < c.key := by
    intro a ha
    obtain ⟨j, hj, rfl⟩ := List.getElem_of_mem ha
    have hj' : j < i ∧ j < l.length := by rw [List.length_take] at hj; omega
    refine h1 j _ hj'.1 ?_
    rw [List.getElem_take, List.getElem?_eq_getElem hj'.2]
  have a2 : ∀ a ∈ l.drop i, c.key < a.key := by
    intro a ha
    obtain ⟨j, hj, rfl⟩ := List.getElem_of_mem ha
    have hj' : i + j < l.length := by rw [List.length_drop] at hj; omega
    have e1 : l[i + j]? = some ((l.drop i)[j]) := by rw [List.getElem_drop, List.getElem?_eq_getElem hj']
    have h3 := h2 (i + j) _ (by omega) e1
    rcases Int.lt_or_le c.key ((l.drop i)[j]).key with h | h
    · exact h
    · exfalso
      have hk : ((l.drop i)[j]).key = c.key := by omega
      by_cases hj0 : j = 0
      · subst hj0
        have := hb.2 ⟨_, e1, hk⟩
        cases this
      · obtain ⟨b, hb0⟩ : ∃ b, l[i]? = some b := ⟨l[i], List.getElem?_eq_getElem (by omega)⟩
        have h4 := riseC_lt hr (x := i) (y := i + j) (by omega) hb0 e1
        have h5 := h2 i b (by omega) hb0
        omega
  have hsi : Srt Ch.key (insC l i c) := by
    unfold insC
    refine (srt_append Ch.key).2 ⟨s1, (srt_cons Ch.key).2 ⟨a2, s2⟩, fun a ha b hb => ?_⟩
    rcases List.mem_cons.1 hb with rfl | hb
    · exact a1 a ha
    · exact s3 a ha b hb
  refine ⟨riseC_srt.2 hsi, fun k => ?_⟩
  unfold insC
  rw [lk_append, lk_cons]
  by_cases hk : c.key = k
  · rw [if_pos hk, if_pos hk, lk_none Ch.key (fun a ha => by have := a1 a ha; omega)]; rfl
  · rw [if_neg hk, if_neg hk, ← lk_append, List.take_append_drop]
/-- looked up where it is found -/
theorem findC_lk {l : List Ch} {k : Int} {i : Nat} {b : Bool} (h : FindOutC l k i b) (hr : riseC l = true) : (b = true → ∃ c, l[i]? = some c ∧ c.key = k ∧ lk Ch.key l k = some c) ∧ (b = false → lk Ch.key l k = none) := by
  obtain ⟨hi, hb, hc⟩ := h
  have hs := riseC_srt.1 hr
  constructor
  · intro h
    obtain ⟨c, h1, h2⟩ := hb.1 h
    refine ⟨c, h1, h2, ?_⟩
    rw [← h2]
    exact lk_of_mem Ch.key hs (List.mem_of_getElem? h1)
  · intro h
    subst h
    refine lk_none Ch.key (fun a ha hk => ?_)
    obtain ⟨h1, h2⟩ := hc hr
    obtain ⟨j, hj, rfl⟩ := List.getElem_of_mem ha
    have e1 : l[j]? = some l[j] := List.getElem?_eq_getElem hj
    rcases Nat.lt_trichotomy j i with hlt | heq | hgt
    · have := h1 j _ hlt e1; omega
    · subst heq
      have := hb.2 ⟨_, e1, hk⟩; cases this
    · obtain ⟨d, hd⟩ : ∃ d, l[i]? = some d := ⟨l[i]'(by omega), List.getElem?_eq_getElem (by omega)⟩
      have h4 := riseC_lt hr hgt hd e1
      have h5 := h2 i d (by omega) hd
      omega

theorem mem_othersOf {l : List Ky} {p : List Ch} {k : Int} : k ∈ othersOf l p ↔ ∃ c ∈ p, c.gone = false ∧ k ∈ groupL l c.key := by
  simp [othersOf, and_assoc]
theorem othersOf_snoc (l : List Ky) (p : List Ch) (c : Ch) : othersOf l (p ++ [c]) = othersOf l p ++ (if c.gone = true then [] else groupL l c.key) := by
  unfold othersOf
  rw [List.filter_append, List.flatMap_append]
  cases hc : c.gone <;> simp [hc]
theorem conf_mem {l : List Ky} {p : List Ch} {c d : Ch} {o : Int} (hc : c ∈ p) (hg : c.gone = false) (ho : o ∈ groupL l c.key) (hl : lk Ch.key p o = some d) (hd : d.gone = false) : confP l p = true := by
  unfold confP
  rw [List.any_eq_true]
  exact ⟨o, mem_othersOf.2 ⟨c, hc, hg, ho⟩, by simp [setB, hl, hd]⟩
end Go.Proofs.Ytfnkjcodcoehcaa
