/- The plain laws of what stays: patches and sets that may be lead to such that may be. -/
import Derived.Test.YtclfplpggmefjaaDoorPartsLawPd
import Derived.Test.YtclfplpggmefjaaDoorRefMay05Pd
import Derived.Test.YtclfplpggmefjaaDoorPastLawPd
namespace Go.Proofs.YtclfplpggmefjaaDoor
set_option linter.unusedVariables false
set_option linter.unusedSimpArgs false

theorem one_less {x : Int} : ∀ {keys : List Int}, keys.Pairwise (· < ·) → keys.length ≤ (keys.filter (fun k => decide (k ≠ x))).length + 1
  | [], _ => by simp
  | a :: r, h => by
    have h1 := List.pairwise_cons.1 h
    by_cases e : a = x
    · have hf : (a :: r).filter (fun k => decide (k ≠ x)) = r := by
        rw [List.filter_cons, if_neg (by simp [e])]
        refine List.filter_eq_self.2 fun b hb => ?_
        have := h1.1 b hb
        simp; omega
      rw [hf]; simp
    · rw [List.filter_cons, if_pos (by simp [e])]
      have := one_less h1.2 (x := x)
      simp only [List.length_cons]; omega
theorem keys_len {l : List Ky} : ∀ {keys : List Int}, keys.Pairwise (· < ·) → (∀ k ∈ keys, (findK l k).isSome = true) → keys.length ≤ l.length := by
  induction l with
  | nil =>
    intro keys _ h
    cases keys with
    | nil => simp
    | cons a r => have := h a (by simp); simp [findK] at this
  | cons x l ih =>
    intro keys hp h
    have h1 := ih (keys := keys.filter (fun k => decide (k ≠ x.id))) (List.Pairwise.filter _ hp) (fun k hk => by
      obtain ⟨hk1, hk2⟩ := List.mem_filter.1 hk
      have hk2 : ¬ k = x.id := by simpa using hk2
      have h3 := h k hk1
      have h4 : ¬ x.id = k := fun e => hk2 e.symm
      simpa [findK, h4] using h3)
    have h2 := one_less (x := x.id) hp
    simp only [List.length_cons]; omega
theorem keys_lenC {l : List Ky} {p : List Ch} (hp : riseC p = true) (h : ∀ c ∈ p, thereC l c = true) : p.length ≤ l.length := by
  have h1 := riseC_srt.1 hp
  have h2 : (p.map (·.key)).Pairwise (· < ·) := List.pairwise_map.2 h1
  have h3 := keys_len (l := l) h2 (fun k hk => by
    obtain ⟨c, hc, rfl⟩ := List.mem_map.1 hk
    have := h c hc
    unfold thereC at this
    exact (Bool.and_eq_true_iff.1 this).1)
  simpa using h3
theorem fits_some {l : List Ky} {id : Int} {v : V} (h : fitsK l id v = true) : (findK l id).isSome = true := by
  unfold fitsK at h
  cases hq : findK l id with
  | none => rw [hq] at h; cases h
  | some k => rfl
theorem keys_lenA {l : List Ky} {p : List At} (hp : riseA p = true) (h : ∀ c ∈ p, thereA l c = true) : p.length ≤ l.length := by
  have h1 := riseA_srt.1 hp
  have h2 : (p.map (·.key)).Pairwise (· < ·) := List.pairwise_map.2 h1
  have h3 := keys_len (l := l) h2 (fun k hk => by
    obtain ⟨c, hc, rfl⟩ := List.mem_map.1 hk
    exact fits_some (h c hc))
  simpa using h3
theorem mayS_zero {l : List Ky} {p : List At} (h : mayS l p = 0) : p.length ≤ 64 ∧ riseA p = true ∧ (∀ a ∈ p, okA a = true) ∧ ∀ a ∈ p, thereA l a = true := by
  unfold mayS at h
  by_cases h1 : 64 < p.length
  · rw [if_pos h1] at h; cases h
  · rw [if_neg h1] at h
    by_cases h2 : riseA p = true ∧ p.all okA = true
    · rw [if_pos h2] at h
      by_cases h3 : p.all (thereA l) = true
      · exact ⟨by omega, h2.1, List.all_eq_true.1 h2.2, List.all_eq_true.1 h3⟩
      · rw [if_neg h3] at h; cases h
    · rw [if_neg h2] at h; cases h
/-- a patch whose keys rise, whose changes each may be -/
theorem stayC {l : List Ky} (hl : l.length ≤ 64) {p : List Ch} (hs : Srt Ch.key p) (h : ∀ c ∈ p, okC c = true ∧ thereC l c = true) : mayP l p = 0 :=
  mayP_of (by have := keys_lenC (l := l) (riseC_srt.2 hs) (fun c hc => (h c hc).2); omega) (riseC_srt.2 hs) (fun c hc => (h c hc).1) (fun c hc => (h c hc).2)
theorem stayA {l : List Ky} (hl : l.length ≤ 64) {p : List At} (hs : Srt At.key p) (h : ∀ c ∈ p, okA c = true ∧ thereA l c = true) : mayS l p = 0 := by
  have h1 := keys_lenA (l := l) (riseA_srt.2 hs) (fun c hc => (h c hc).2)
  unfold mayS
  rw [if_neg (by omega), if_pos ⟨riseA_srt.2 hs, List.all_eq_true.2 (fun c hc => (h c hc).1)⟩, if_pos (List.all_eq_true.2 (fun c hc => (h c hc).2))]
theorem gone_ok {l : List Ky} {k : Int} (h : (findK l k).isSome = true) : okC ⟨k, true, V.zero⟩ = true ∧ thereC l ⟨k, true, V.zero⟩ = true := by
  refine ⟨?_, by unfold thereC; rw [h]; rfl⟩
  unfold okC
  rw [if_pos rfl]
  exact beqV_eq rfl
theorem set_ok {l : List Ky} {k : Int} {v : V} (h1 : mayV v = true) (h2 : fitsK l k v = true) : okC ⟨k, false, v⟩ = true ∧ thereC l ⟨k, false, v⟩ = true := by
  refine ⟨?_, ?_⟩
  · unfold okC; rw [if_neg (by simp)]; exact h1
  · unfold thereC; rw [fits_some h2, h2]; rfl

section
variable {l : List Ky} {a b : List At} {p q : List Ch}
theorem mem_diff (a1 : riseA a = true) (b1 : riseA b = true) {c : Ch} (hc : c ∈ diffP a b) : (∃ x ∈ a, c = goneC x) ∨ ∃ y ∈ b, c = chg y := by
  obtain ⟨d1, d2, _⟩ := diff_all (riseA_srt.1 b1) (riseA_srt.1 a1)
  have h1 := lk_of_mem Ch.key d1 hc
  rw [d2] at h1
  cases hx : lk At.key a c.key with
  | none =>
    cases hy : lk At.key b c.key with
    | none => rw [hx, hy] at h1; cases h1
    | some y =>
      rw [hx, hy] at h1
      simp only [lkDiff, Option.some.injEq] at h1
      exact .inr ⟨y, lk_mem At.key hy, h1.symm⟩
  | some x =>
    cases hy : lk At.key b c.key with
    | none =>
      rw [hx, hy] at h1
      simp only [lkDiff, Option.some.injEq] at h1
      exact .inl ⟨x, lk_mem At.key hx, h1.symm⟩
    | some y =>
      rw [hx, hy] at h1
      simp only [lkDiff] at h1
      by_cases hv : x.v = y.v
      · rw [if_pos hv] at h1; cases h1
      · rw [if_neg hv] at h1
        simp only [Option.some.injEq] at h1
        exact .inr ⟨y, lk_mem At.key hy, h1.symm⟩
theorem mem_comp (p1 : riseC p = true) (q1 : riseC q = true) {c : Ch} (hc : c ∈ composeP p q) : c ∈ p ∨ c ∈ q := by
  obtain ⟨d1, d2, _⟩ := compose_all (riseC_srt.1 q1) (riseC_srt.1 p1)
  have h1 := lk_of_mem Ch.key d1 hc
  rw [d2] at h1
  cases hy : lk Ch.key q c.key with
  | some y =>
    rw [hy] at h1
    have hm := lk_mem Ch.key hy
    simp at h1
    rw [← h1]
    exact .inr hm
  | none =>
    rw [hy] at h1
    have h1 : lk Ch.key p c.key = some c := by simpa using h1
    exact .inl (lk_mem Ch.key h1)
theorem mem_inv (p1 : riseC p = true) {c : Ch} (hc : c ∈ invertP a p) : (∃ y ∈ p, c = ⟨y.key, true, V.zero⟩) ∨ ∃ x ∈ a, c = ⟨x.key, false, x.v⟩ := by
  obtain ⟨d1, d2, _⟩ := invert_all (s := a) (riseC_srt.1 p1)
  have h1 := lk_of_mem Ch.key d1 hc
  rw [d2] at h1
  cases hy : lk Ch.key p c.key with
  | none => rw [hy] at h1; cases h1
  | some y =>
    have hm := lk_mem Ch.key hy
    have hyk : y.key = c.key := lk_key Ch.key hy
    cases hx : lk At.key a c.key with
    | none =>
      rw [hx, hy] at h1
      simp only [lkInv] at h1
      by_cases hg : y.gone = true
      · rw [if_pos hg] at h1; cases h1
      · rw [if_neg hg] at h1
        simp only [Option.some.injEq] at h1
        exact .inl ⟨y, hm, h1.symm⟩
    | some x =>
      have hmx := lk_mem At.key hx
      have hxk : x.key = c.key := lk_key At.key hx
      rw [hx, hy] at h1
      simp only [lkInv] at h1
      by_cases hg : y.gone = true ∨ ¬ x.v = y.v
      · rw [if_pos hg] at h1
        simp only [Option.some.injEq] at h1
        refine .inr ⟨x, hmx, ?_⟩
        rw [← h1, hyk, hxk]
      · rw [if_neg hg] at h1; cases h1
theorem stay_diff (hl : l.length ≤ 64) (ha : mayS l a = 0) (hb : mayS l b = 0) : mayP l (diffP a b) = 0 := by
  obtain ⟨_, a1, a2, a3⟩ := mayS_zero ha
  obtain ⟨_, b1, b2, b3⟩ := mayS_zero hb
  obtain ⟨d1, _⟩ := diff_all (riseA_srt.1 b1) (riseA_srt.1 a1)
  refine stayC hl d1 fun c hc => ?_
  rcases mem_diff a1 b1 hc with ⟨x, hx, rfl⟩ | ⟨y, hy, rfl⟩
  · exact gone_ok (fits_some (a3 x hx))
  · exact set_ok (b2 y hy) (b3 y hy)
theorem stay_comp (hl : l.length ≤ 64) (hp : mayP l p = 0) (hq : mayP l q = 0) : mayP l (composeP p q) = 0 := by
  obtain ⟨_, p1, p2, p3⟩ := mayP_zero hp
  obtain ⟨_, q1, q2, q3⟩ := mayP_zero hq
  obtain ⟨d1, _⟩ := compose_all (riseC_srt.1 q1) (riseC_srt.1 p1)
  refine stayC hl d1 fun c hc => ?_
  rcases mem_comp p1 q1 hc with hm | hm
  · exact ⟨List.all_eq_true.1 p2 c hm, List.all_eq_true.1 p3 c hm⟩
  · exact ⟨List.all_eq_true.1 q2 c hm, List.all_eq_true.1 q3 c hm⟩
theorem stay_inv (hl : l.length ≤ 64) (ha : mayS l a = 0) (hp : mayP l p = 0) : mayP l (invertP a p) = 0 := by
  obtain ⟨_, a1, a2, a3⟩ := mayS_zero ha
  obtain ⟨_, p1, p2, p3⟩ := mayP_zero hp
  obtain ⟨d1, _⟩ := invert_all (s := a) (riseC_srt.1 p1)
  refine stayC hl d1 fun c hc => ?_
  rcases mem_inv p1 hc with ⟨y, hy, rfl⟩ | ⟨x, hx, rfl⟩
  · have hth := List.all_eq_true.1 p3 y hy
    unfold thereC at hth
    exact gone_ok (Bool.and_eq_true_iff.1 hth).1
  · exact set_ok (a2 x hx) (a3 x hx)
/-- the values stay in their ranges -/
theorem zero_ok : okV V.zero ∧ V.zero.s.size ≤ 100000000 := ⟨⟨by decide, by decide, by decide, by decide, by decide, by decide⟩, by decide⟩
theorem vs_diff (a1 : riseA a = true) (b1 : riseA b = true) (vb : okVa b) : okVs (diffP a b) := fun c hc => by
  rcases mem_diff a1 b1 hc with ⟨x, hx, rfl⟩ | ⟨y, hy, rfl⟩
  · exact zero_ok
  · exact vb y hy
theorem vs_comp (p1 : riseC p = true) (q1 : riseC q = true) (vp : okVs p) (vq : okVs q) : okVs (composeP p q) := fun c hc => by
  rcases mem_comp p1 q1 hc with hm | hm
  · exact vp c hm
  · exact vq c hm
theorem vs_inv (p1 : riseC p = true) (va : okVa a) : okVs (invertP a p) := fun c hc => by
  rcases mem_inv p1 hc with ⟨y, hy, rfl⟩ | ⟨x, hx, rfl⟩
  · exact zero_ok
  · exact va x hx
theorem vs_filter (f : Ch → Bool) (vp : okVs p) : okVs (p.filter f) := fun c hc => vp c (List.mem_filter.1 hc).1
theorem va_apply (a1 : riseA a = true) (p1 : riseC p = true) (va : okVa a) (vp : okVs p) : okVa (applyP p a) := fun c hc => by
  obtain ⟨d1, d2, _⟩ := apply_all (riseC_srt.1 p1) (riseA_srt.1 a1)
  have h1 := lk_of_mem At.key d1 hc
  rw [d2] at h1
  cases hy : lk Ch.key p c.key with
  | none =>
    rw [hy] at h1
    have h1 : lk At.key a c.key = some c := h1
    exact va c (lk_mem At.key h1)
  | some y =>
    rw [hy] at h1
    simp only [lkApply] at h1
    by_cases hg : y.gone = true
    · rw [if_pos hg] at h1; cases h1
    · rw [if_neg hg] at h1
      simp only [Option.some.injEq] at h1
      rw [← h1]
      exact vp y (lk_mem Ch.key hy)
theorem stay_filter (f : Ch → Bool) (hp : mayP l p = 0) : mayP l (p.filter f) = 0 := by
  obtain ⟨p0, p1, p2, p3⟩ := mayP_zero hp
  refine mayP_of (by have := List.length_filter_le f p; omega) (riseC_srt.2 ((riseC_srt.1 p1).filter Ch.key f)) (fun c hc => ?_) (fun c hc => ?_)
  · exact List.all_eq_true.1 p2 c (List.mem_filter.1 hc).1
  · exact List.all_eq_true.1 p3 c (List.mem_filter.1 hc).1
theorem stay_apply (hl : l.length ≤ 64) (ha : mayS l a = 0) (hp : mayP l p = 0) : mayS l (applyP p a) = 0 := by
  obtain ⟨_, a1, a2, a3⟩ := mayS_zero ha
  obtain ⟨_, p1, p2, p3⟩ := mayP_zero hp
  obtain ⟨d1, d2, _⟩ := apply_all (riseC_srt.1 p1) (riseA_srt.1 a1)
  refine stayA hl d1 fun c hc => ?_
  have h1 := lk_of_mem At.key d1 hc
  rw [d2] at h1
  cases hy : lk Ch.key p c.key with
  | none =>
    rw [hy] at h1
    have h1 : lk At.key a c.key = some c := h1
    have hm := lk_mem At.key h1
    exact ⟨a2 c hm, a3 c hm⟩
  | some y =>
    have hm := lk_mem Ch.key hy
    rw [hy] at h1
    simp only [lkApply] at h1
    by_cases hg : y.gone = true
    · rw [if_pos hg] at h1; cases h1
    · rw [if_neg hg] at h1
      simp only [Option.some.injEq] at h1
      have hok := List.all_eq_true.1 p2 y hm
      have hth := List.all_eq_true.1 p3 y hm
      have hg' : y.gone = false := by simpa using hg
      unfold okC at hok
      rw [if_neg hg] at hok
      unfold thereC at hth
      rw [hg', Bool.false_or] at hth
      rw [← h1]
      exact ⟨hok, (Bool.and_eq_true_iff.1 hth).2⟩
theorem mayKs_len {l : List Ky} (h : mayKs l = true) : l.length ≤ 64 := by
  unfold mayKs at h
  exact of_decide_eq_true (Bool.and_eq_true_iff.1 h).1
end
end Go.Proofs.YtclfplpggmefjaaDoor
