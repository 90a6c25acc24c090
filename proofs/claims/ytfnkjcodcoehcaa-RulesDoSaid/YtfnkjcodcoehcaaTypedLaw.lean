/- The laws of what is typed, as plain mathematics. -/
import Derived.Test.YtfnkjcodcoehcaaTyped
namespace Go.Proofs.Ytfnkjcodcoehcaa
set_option linter.unusedVariables false
set_option linter.unusedSimpArgs false

/-- does a key hold? -/
def prK (l : List Ky) (pr : Ky → Bool) (k : Int) : Bool := match findK l k with | some x => pr x | none => false
theorem sift_srt {l : List Ky} {pr : Ky → Bool} {s : List At} (h : riseA s = true) : Srt At.key (siftP l pr s) := (riseA_srt.1 h).filter At.key _
theorem sift_lk {l : List Ky} {pr : Ky → Bool} {s : List At} (h : riseA s = true) (k : Int) : lk At.key (siftP l pr s) k = if prK l pr k = true then lk At.key s k else none := by
  unfold siftP
  rw [lk_filter At.key (riseA_srt.1 h)]
  cases hl : lk At.key s k with
  | none => simp
  | some a =>
    have hk := lk_key At.key hl
    subst hk
    unfold prK
    cases hf : findK l a.key with
    | none => simp [Option.filter, hf]
    | some k => simp [Option.filter, hf]
theorem sift_twice (l : List Ky) (pr : Ky → Bool) (s : List At) : siftP l pr (siftP l pr s) = siftP l pr s := by
  unfold siftP
  rw [List.filter_filter]; simp
theorem sift_mem {l : List Ky} {pr : Ky → Bool} {s : List At} {x : At} (h : x ∈ siftP l pr s) : x ∈ s := (List.mem_filter.1 h).1
theorem typed_all {l : List Ky} {a b : List At} (ha : riseA a = true) (hb : riseA b = true) :
    riseA (typedP l a b) = true ∧ (∀ k, lk At.key (typedP l a b) k = (if prK l afterK k = true then lk At.key a k else none).or (if prK l beforeK k = true then lk At.key b k else none)) := by
  unfold typedP
  obtain ⟨h1, h2, _⟩ := foldl_step (siftP l beforeK b) (sift_rise (l := l) (pr := afterK) ha)
  exact ⟨h1, fun k => by rw [h2 k, sift_lk ha, sift_lk hb]⟩
theorem typed_again {l : List Ky} {a b : List At} (ha : riseA a = true) (hb : riseA b = true) : typedP l (typedP l a b) b = typedP l a b := by
  obtain ⟨h1, h2⟩ := typed_all (l := l) ha hb
  obtain ⟨g1, g2⟩ := typed_all (l := l) h1 hb
  refine lk_ext At.key (riseA_srt.1 g1) (riseA_srt.1 h1) fun k => ?_
  rw [g2 k, h2 k]
  cases h3 : prK l afterK k
  · cases h4 : prK l beforeK k <;> simp
  · cases h4 : prK l beforeK k
    · simp
    · cases h5 : lk At.key a k <;> cases h6 : lk At.key b k <;> simp
theorem typed_nil (l : List Ky) : typedP l [] [] = [] := rfl
/-- what is known of one attribute of what is typed -/
def TypedOne (l : List Ky) (a b : List At) (x : At) : Prop :=
  ∃ K, findK l x.key = some K ∧ K.block = false ∧
    (K.after = true ∧ getA a x.key = some x.v ∨ (K.after = false ∨ getA a x.key = none) ∧ K.before = true ∧ getA b x.key = some x.v)
theorem typed_one {l : List Ky} {a b : List At} (ha : riseA a = true) (hb : riseA b = true) {x : At} (hx : x ∈ typedP l a b) : TypedOne l a b x := by
  obtain ⟨h1, h2⟩ := typed_all (l := l) ha hb
  have h3 := lk_of_mem At.key (riseA_srt.1 h1) hx
  rw [h2] at h3
  unfold TypedOne
  unfold prK at h3
  rw [getA_lk, getA_lk]
  cases hf : findK l x.key with
  | none => rw [hf] at h3; simp at h3
  | some K =>
    rw [hf] at h3
    simp only at h3
    refine ⟨K, rfl, ?_⟩
    obtain ⟨i, bl, kd, af, be, gr⟩ := K
    unfold afterK beforeK at h3
    simp only at h3 ⊢
    cases bl with
    | true => simp at h3
    | false =>
      refine ⟨rfl, ?_⟩
      cases af with
      | true =>
        simp only [Bool.not_false, Bool.true_and, if_true] at h3
        cases hq : lk At.key a x.key with
        | some y => rw [hq] at h3; simp at h3; exact .inl ⟨rfl, by rw [h3]; rfl⟩
        | none =>
          rw [hq, Option.none_or] at h3
          cases be with
          | true => simp at h3; exact .inr ⟨.inr rfl, rfl, by rw [h3]; rfl⟩
          | false => simp at h3
      | false =>
        cases be with
        | true => simp at h3; exact .inr ⟨.inl rfl, rfl, by rw [h3]; rfl⟩
        | false => simp at h3
theorem typed_left {l : List Ky} {a : List At} (ha : riseA a = true) {x : At} (hx : x ∈ typedP l a a) : getA a x.key = some x.v := by
  obtain ⟨K, _, _, ⟨_, h⟩ | ⟨_, _, h⟩⟩ := typed_one ha ha hx
  · exact h
  · exact h
end Go.Proofs.Ytfnkjcodcoehcaa
