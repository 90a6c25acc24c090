/- The laws of sets that AttrsSame leans on, as plain mathematics. -/
import Derived.Test.YtclfplpggmefjaaAttrsLaw
namespace Go.Proofs.Ytclfplpggmefjaa
set_option linter.unusedVariables false

theorem with_idem {l : List At} (h : riseA l = true) (a : At) : withP (withP l a) a = withP l a := by
  obtain ⟨h1, h2, _⟩ := with_all h a
  obtain ⟨g1, g2, _⟩ := with_all h1 a
  refine lk_ext At.key (riseA_srt.1 g1) (riseA_srt.1 h1) fun k => ?_
  rw [g2 k, h2 k]
  split <;> rfl
theorem with_get {l : List At} (h : riseA l = true) {k : Int} {v : V} (hg : getA l k = some v) : withP l ⟨k, v⟩ = l := by
  obtain ⟨h1, h2, _⟩ := with_all h ⟨k, v⟩
  refine lk_ext At.key (riseA_srt.1 h1) (riseA_srt.1 h) fun j => ?_
  rw [h2 j]
  simp only
  split
  · rename_i e
    subst e
    rw [getA_lk] at hg
    cases hl : lk At.key l k with
    | none => rw [hl] at hg; cases hg
    | some y =>
      rw [hl] at hg
      have hk := lk_key At.key hl
      obtain ⟨a, b⟩ := y
      simp at hg hk
      rw [hg, hk]
  · rfl
theorem without_with {l : List At} (h : riseA l = true) (a : At) : withoutP (withP l a) a.key = withoutP l a.key := by
  obtain ⟨h1, h2, _⟩ := with_all h a
  obtain ⟨g1, g2, _⟩ := without_all h1 a.key
  obtain ⟨f1, f2, _⟩ := without_all h a.key
  refine lk_ext At.key (riseA_srt.1 g1) (riseA_srt.1 f1) fun j => ?_
  rw [g2 j, f2 j, h2 j]
  split <;> simp_all
end Go.Proofs.Ytclfplpggmefjaa
