/- The document's functions of patches as plain functions: they are the program's where keys rise. -/
import Derived.Test.YtfnkjcodcoehcaaRefPut
import Derived.Test.YtfnkjcodcoehcaaPastLaw
namespace Go.Proofs.Ytfnkjcodcoehcaa
open Go.RowKit
set_option linter.unusedVariables false
set_option linter.unusedSimpArgs false

/-- one change done to a set -/
def apply1 (o : List At) (c : Ch) : List At := if c.gone = true then o.filter (fun a => !(a.key == c.key)) else with05P o ⟨c.key, c.v⟩
/-- what the document's Apply of patches answers -/
def applyR (p : List Ch) (s : List At) : List At := p.foldl apply1 s
theorem filt_all {l : List At} (h : riseA l = true) (c : Int) :
    riseA (l.filter (fun a => !(a.key == c))) = true ∧ (∀ k, lk At.key (l.filter (fun a => !(a.key == c))) k = if c = k then none else lk At.key l k) := by
  have hs := riseA_srt.1 h
  refine ⟨riseA_srt.2 (hs.filter At.key _), fun k => ?_⟩
  rw [lk_filter At.key hs]
  cases hl : lk At.key l k with
  | none => simp
  | some a =>
    have := lk_key At.key hl
    by_cases hc : c = k
    · simp [hc, Option.filter, this]
    · have : ¬ a.key = c := by omega
      simp [hc, Option.filter, this]
theorem apply1_all {o : List At} (ho : riseA o = true) (c : Ch) : riseA (apply1 o c) = true ∧ ∀ k, lk At.key (apply1 o c) k = if c.key = k then lkApply (some c) (lk At.key o k) else lk At.key o k := by
  unfold apply1
  by_cases hg : c.gone = true
  · rw [if_pos hg]
    obtain ⟨h1, h2⟩ := filt_all ho c.key
    refine ⟨h1, fun k => ?_⟩
    rw [h2 k]
    split
    · simp [lkApply, hg]
    · rfl
  · rw [if_neg hg, with05_is ho]
    obtain ⟨h1, h2, _⟩ := with_all ho ⟨c.key, c.v⟩
    refine ⟨h1, fun k => ?_⟩
    rw [h2 k]
    simp [lkApply, hg]
theorem applyR_all : ∀ {p : List Ch}, Srt Ch.key p → ∀ {s : List At}, riseA s = true → riseA (applyR p s) = true ∧ ∀ k, lk At.key (applyR p s) k = lkApply (lk Ch.key p k) (lk At.key s k)
  | [], _, s, hs => ⟨hs, fun k => rfl⟩
  | c :: p, hp, s, hs => by
    obtain ⟨h1, h2⟩ := (srt_cons Ch.key).1 hp
    obtain ⟨a1, a2⟩ := apply1_all hs c
    obtain ⟨b1, b2⟩ := applyR_all h2 a1
    have e : applyR (c :: p) s = applyR p (apply1 s c) := rfl
    rw [e]
    refine ⟨b1, fun k => ?_⟩
    rw [b2 k, a2 k, lk_cons]
    by_cases hk : c.key = k
    · rw [if_pos hk, if_pos hk, lk_none Ch.key (fun d hd => by have := h1 d hd; omega)]
      rfl
    · rw [if_neg hk, if_neg hk]
theorem applyR_is {p : List Ch} {s : List At} (hp : riseC p = true) (hs : riseA s = true) : applyR p s = applyP p s := by
  obtain ⟨a1, a2⟩ := applyR_all (riseC_srt.1 hp) hs
  obtain ⟨b1, b2, _⟩ := apply_all (riseC_srt.1 hp) (riseA_srt.1 hs)
  exact lk_ext At.key (riseA_srt.1 a1) b1 fun k => by rw [a2 k, b2 k]
theorem apply1_len (o : List At) (c : Ch) : (apply1 o c).length ≤ o.length + 1 := by
  unfold apply1
  split
  · exact Nat.le_succ_of_le (List.length_filter_le _ _)
  · exact with05_len _ _
theorem applyR_len : ∀ (p : List Ch) (s : List At), (applyR p s).length ≤ s.length + p.length
  | [], s => Nat.le_refl _
  | c :: p, s => by
    have h1 := applyR_len p (apply1 s c)
    have h2 := apply1_len s c
    have e : applyR (c :: p) s = applyR p (apply1 s c) := rfl
    rw [e]
    simp only [List.length_cons]
    omega
/-- what the document's Compose of patches answers -/
def compR (p q : List Ch) : List Ch := q.foldl (fun o c => putF c o) p
theorem compR_all : ∀ {q : List Ch}, Srt Ch.key q → ∀ {p : List Ch}, Srt Ch.key p → Srt Ch.key (compR p q) ∧ ∀ k, lk Ch.key (compR p q) k = (lk Ch.key q k).or (lk Ch.key p k)
  | [], _, p, hp => ⟨hp, fun k => rfl⟩
  | c :: q, hq, p, hp => by
    obtain ⟨h1, h2⟩ := (srt_cons Ch.key).1 hq
    obtain ⟨a1, a2, _⟩ := putF_all hp c
    obtain ⟨b1, b2⟩ := compR_all h2 a1
    have e : compR p (c :: q) = compR (putF c p) q := rfl
    rw [e]
    refine ⟨b1, fun k => ?_⟩
    rw [b2 k, a2 k, lk_cons]
    by_cases hk : c.key = k
    · rw [if_pos hk, if_pos hk, lk_none Ch.key (fun d hd => by have := h1 d hd; omega)]
      rfl
    · rw [if_neg hk, if_neg hk]
theorem compR_is {p q : List Ch} (hp : riseC p = true) (hq : riseC q = true) : compR p q = composeP p q := by
  obtain ⟨a1, a2⟩ := compR_all (riseC_srt.1 hq) (riseC_srt.1 hp)
  obtain ⟨b1, b2, _⟩ := compose_all (riseC_srt.1 hq) (riseC_srt.1 hp)
  exact lk_ext Ch.key a1 b1 fun k => by rw [a2 k, b2 k]
theorem compR_len : ∀ (q p : List Ch), (compR p q).length ≤ p.length + q.length
  | [], p => Nat.le_refl _
  | c :: q, p => by
    have h1 := compR_len q (putF c p)
    have h2 := putF_len c p
    have e : compR p (c :: q) = compR (putF c p) q := rfl
    rw [e]
    simp only [List.length_cons]
    omega
/-- what goes, and what is set, on the way from a set to another one -/
def goneR (a b : List At) : List Ch := (a.filter (fun x => (getA b x.key).isNone)).map goneC
def setR (a b : List At) : List Ch := (b.filter (fun x => !(getA a x.key == some x.v))).map chg
/-- what the document's Diff of sets answers -/
def diffR (a b : List At) : List Ch := compR (compR [] (goneR a b)) (setR a b)
theorem lk_map_chg (l : List At) (k : Int) : lk Ch.key (l.map chg) k = (lk At.key l k).map chg := by
  induction l with
  | nil => rfl
  | cons a l ih =>
    rw [List.map_cons, lk_cons, lk_cons, ih]
    by_cases h : a.key = k <;> simp [h, chg]
theorem diffR_all {a b : List At} (ha : riseA a = true) (hb : riseA b = true) : Srt Ch.key (diffR a b) ∧ ∀ k, lk Ch.key (diffR a b) k = lkDiff (lk At.key a k) (lk At.key b k) := by
  have sa := riseA_srt.1 ha
  have sb := riseA_srt.1 hb
  have g1 : Srt Ch.key (goneR a b) := List.Pairwise.map _ (fun x y h => h) (sa.filter At.key _)
  have g2 : Srt Ch.key (setR a b) := List.Pairwise.map _ (fun x y h => h) (sb.filter At.key _)
  obtain ⟨c1, c2⟩ := compR_all g1 (Srt.nil Ch.key)
  obtain ⟨d1, d2⟩ := compR_all g2 c1
  refine ⟨d1, fun k => ?_⟩
  unfold diffR
  rw [d2 k, c2 k]
  unfold goneR setR
  rw [lk_map_gone, lk_map_chg, lk_filter At.key sa, lk_filter At.key sb, lk_nil]
  cases hx : lk At.key a k with
  | none =>
    cases hy : lk At.key b k with
    | none => rfl
    | some y =>
      have ky := lk_key At.key hy
      simp [Option.filter, getA_lk, ky, hx, lkDiff]
  | some x =>
    have kx := lk_key At.key hx
    cases hy : lk At.key b k with
    | none => simp [Option.filter, getA_lk, kx, hy, lkDiff]
    | some y =>
      have ky := lk_key At.key hy
      by_cases hv : x.v = y.v
      · simp [Option.filter, getA_lk, kx, ky, hx, hy, lkDiff, hv]
      · simp [Option.filter, getA_lk, kx, ky, hx, hy, lkDiff, hv]
theorem diffR_is {a b : List At} (ha : riseA a = true) (hb : riseA b = true) : diffR a b = diffP a b := by
  obtain ⟨a1, a2⟩ := diffR_all ha hb
  obtain ⟨b1, b2, _⟩ := diff_all (riseA_srt.1 hb) (riseA_srt.1 ha)
  exact lk_ext Ch.key a1 b1 fun k => by rw [a2 k, b2 k]
theorem goneR_len (a b : List At) : (goneR a b).length ≤ a.length := by unfold goneR; rw [List.length_map]; exact List.length_filter_le _ _
theorem setR_len (a b : List At) : (setR a b).length ≤ b.length := by unfold setR; rw [List.length_map]; exact List.length_filter_le _ _
theorem lessR_is (p q : List Ch) : p.filter (fun c => (lk Ch.key q c.key).isNone) = lessP p q := by
  unfold lessP
  congr 1
  funext c
  rw [hasKey_lk]
  cases lk Ch.key q c.key <;> rfl
end Go.Proofs.Ytfnkjcodcoehcaa
