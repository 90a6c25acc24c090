/- The plain laws of a patch's parts. -/
import Derived.Test.YtclfplpggmefjaaDoorPatchLawPd
import Derived.Test.YtclfplpggmefjaaDoorPk11
namespace Go.Proofs.YtclfplpggmefjaaDoor
set_option linter.unusedVariables false
set_option linter.unusedSimpArgs false

theorem mayP_zero {l : List Ky} {p : List Ch} (h : mayP l p = 0) : p.length ≤ 64 ∧ riseC p = true ∧ p.all okC = true ∧ p.all (thereC l) = true := by
  unfold mayP at h
  by_cases h1 : 64 < p.length
  · rw [if_pos h1] at h; cases h
  · rw [if_neg h1] at h
    by_cases h2 : riseC p = true ∧ p.all okC = true
    · rw [if_pos h2] at h
      by_cases h3 : p.all (thereC l) = true
      · exact ⟨by omega, h2.1, h2.2, h3⟩
      · rw [if_neg h3] at h; cases h
    · rw [if_neg h2] at h; cases h
theorem mayP_of {l : List Ky} {p : List Ch} (h0 : p.length ≤ 64) (h1 : riseC p = true) (h2 : ∀ c ∈ p, okC c = true) (h3 : ∀ c ∈ p, thereC l c = true) : mayP l p = 0 := by
  unfold mayP
  rw [if_neg (by omega), if_pos ⟨h1, List.all_eq_true.2 h2⟩, if_pos (List.all_eq_true.2 h3)]
theorem keep_one {l : List Ky} {id : Int} (h : (findK l id).isSome = true) : keepK l true id = !keepK l false id := by
  unfold keepK
  cases hq : findK l id with
  | none => rw [hq] at h; cases h
  | some k => simp only; cases k.block <;> rfl
theorem lk_part {l : List Ky} {b : Bool} {p : List Ch} (hp : Srt Ch.key p) (k : Int) : lk Ch.key (partP l b p) k = if keepK l b k = true then lk Ch.key p k else none := by
  unfold partP
  rw [lk_filter Ch.key hp]
  cases hq : lk Ch.key p k with
  | none => by_cases h : keepK l b k = true <;> simp [h]
  | some c =>
    have hc : c.key = k := lk_key Ch.key hq
    by_cases h : keepK l b k = true
    · simp [Option.filter, hc, h]
    · simp [Option.filter, hc, h]
theorem part_srt {l : List Ky} {b : Bool} {p : List Ch} (hp : Srt Ch.key p) : Srt Ch.key (partP l b p) := hp.filter Ch.key _
theorem there_some {l : List Ky} {p : List Ch} (h : p.all (thereC l) = true) {k : Int} {c : Ch} (hc : lk Ch.key p k = some c) : (findK l k).isSome = true := by
  have h1 := List.all_eq_true.1 h c (lk_mem Ch.key hc)
  have h2 : c.key = k := lk_key Ch.key hc
  unfold thereC at h1
  rw [h2] at h1
  exact (Bool.and_eq_true_iff.1 h1).1
theorem apply_part {l : List Ky} {p : List Ch} {s : List At} (b : Bool) (hp : riseC p = true) (ht : p.all (thereC l) = true) (hs : riseA s = true) : applyP (partP l (!b) p) (applyP (partP l b p) s) = applyP p s := by
  rw [riseC_srt] at hp
  rw [riseA_srt] at hs
  obtain ⟨a1, a2, _⟩ := apply_all (part_srt (l := l) (b := b) hp) hs
  obtain ⟨b1, b2, _⟩ := apply_all (part_srt (l := l) (b := !b) hp) a1
  obtain ⟨c1, c2, _⟩ := apply_all hp hs
  refine lk_ext At.key b1 c1 fun k => ?_
  rw [b2, a2, c2, lk_part hp, lk_part hp]
  cases hq : lk Ch.key p k with
  | none => by_cases h1 : keepK l b k = true <;> by_cases h2 : keepK l (!b) k = true <;> simp [h1, h2, lkApply]
  | some c =>
    have h3 := keep_one (there_some ht hq)
    cases b
    · cases h4 : keepK l false k <;> rw [h4] at h3 <;> simp [h3, lkApply]
    · cases h4 : keepK l false k <;> rw [h4] at h3 <;> simp [h3, h4, lkApply] <;> (intro h5; simp_all)
theorem apply_twice {p : List Ch} {s : List At} (hp : riseC p = true) (hs : riseA s = true) : applyP p (applyP p s) = applyP p s := by
  rw [riseC_srt] at hp
  rw [riseA_srt] at hs
  obtain ⟨a1, a2, _⟩ := apply_all hp hs
  obtain ⟨b1, b2, _⟩ := apply_all hp a1
  refine lk_ext At.key b1 a1 fun k => ?_
  rw [b2, a2]
  cases lk Ch.key p k with
  | none => rfl
  | some c => rfl
theorem part_len {l : List Ky} {p : List Ch} (ht : p.all (thereC l) = true) : (partP l false p).length + (partP l true p).length = p.length := by
  induction p with
  | nil => rfl
  | cons c p ih =>
    simp only [List.all_cons, Bool.and_eq_true] at ht
    have h1 := ih ht.2
    have h2 : (findK l c.key).isSome = true := by have := ht.1; unfold thereC at this; exact (Bool.and_eq_true_iff.1 this).1
    have h3 := keep_one h2
    unfold partP at *
    rw [List.filter_cons, List.filter_cons]
    cases h4 : keepK l false c.key <;> rw [h4] at h3 <;> simp [h3] <;> omega
/-- a key that the patch has not keeps its value -/
theorem apply_keeps {p : List Ch} {s : List At} (hp : riseC p = true) (hs : riseA s = true) {a : At} (ha : a ∈ s) (hn : ∀ c ∈ p, c.key ≠ a.key) : lk At.key (applyP p s) a.key = some a := by
  rw [riseC_srt] at hp
  rw [riseA_srt] at hs
  obtain ⟨a1, a2, _⟩ := apply_all hp hs
  rw [a2, lk_none Ch.key hn]
  exact lk_of_mem At.key hs ha
end Go.Proofs.YtclfplpggmefjaaDoor
