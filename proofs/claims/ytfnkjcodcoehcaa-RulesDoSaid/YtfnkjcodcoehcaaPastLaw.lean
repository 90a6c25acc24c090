/- The plain law of two patches at once. -/
import Derived.Test.YtfnkjcodcoehcaaLessP
import Derived.Test.YtfnkjcodcoehcaaPatchLaw
namespace Go.Proofs.Ytfnkjcodcoehcaa
theorem hasKey_lk (p : List Ch) (k : Int) : hasKey p k = (lk Ch.key p k).isSome := by
  cases h : (lk Ch.key p k).isSome with
  | true =>
    obtain ⟨c, hc, hk⟩ := (lk_isSome Ch.key).1 h
    exact List.any_eq_true.2 ⟨c, hc, by simpa using hk⟩
  | false =>
    refine List.any_eq_false.2 fun c hc hk => ?_
    have : (lk Ch.key p k).isSome = true := (lk_isSome Ch.key).2 ⟨c, hc, by simpa using hk⟩
    rw [h] at this; cases this
theorem less_rise {p q : List Ch} (hp : riseC p = true) : riseC (lessP p q) = true := by
  rw [riseC_srt] at *
  exact hp.filter Ch.key _
theorem less_len (p q : List Ch) : (lessP p q).length ≤ p.length := List.length_filter_le _ _
theorem less_none {p q : List Ch} {c : Ch} (h : c ∈ lessP p q) : hasKey q c.key = false := by
  have := (List.mem_filter.1 h).2
  simpa using this
theorem law_past {a : List At} {p q : List Ch} (ha : riseA a = true) (hp : riseC p = true) (hq : riseC q = true) : applyP (lessP q p) (applyP p a) = applyP p (applyP q a) := by
  have hl := less_rise (q := p) hq
  rw [riseA_srt] at ha
  rw [riseC_srt] at hp hq hl
  obtain ⟨a1, a2, _⟩ := apply_all hp ha
  obtain ⟨b1, b2, _⟩ := apply_all hl a1
  obtain ⟨c1, c2, _⟩ := apply_all hq ha
  obtain ⟨d1, d2, _⟩ := apply_all hp c1
  refine lk_ext At.key b1 d1 fun k => ?_
  rw [b2, a2, d2, c2]
  have e : lk Ch.key (lessP q p) k = (lk Ch.key q k).filter (fun c => !hasKey p c.key) := lk_filter Ch.key hq _ k
  rw [e]
  cases hc : lk Ch.key q k with
  | none => cases lk Ch.key p k <;> rfl
  | some c =>
    have hck := lk_key Ch.key hc
    simp only [Option.filter, hck, hasKey_lk]
    cases hd : lk Ch.key p k with
    | none => simp; rfl
    | some d => simp [lkApply]
end Go.Proofs.Ytfnkjcodcoehcaa
