/- The laws of sets and patches as plain mathematics: a list by rising keys is what one looks up in it. -/
import Derived.Test.YtfnkjcodcoehcaaFind
namespace Go.Proofs.Ytfnkjcodcoehcaa
set_option linter.unusedVariables false
set_option linter.unusedSimpArgs false

section
variable {α : Type} (key : α → Int)
def lk (l : List α) (k : Int) : Option α := l.find? (fun a => decide (key a = k))
def Srt (l : List α) : Prop := l.Pairwise (fun a b => key a < key b)

theorem lk_nil (k : Int) : lk key [] k = none := rfl
theorem lk_cons (a : α) (l : List α) (k : Int) : lk key (a :: l) k = if key a = k then some a else lk key l k := by
  unfold lk
  by_cases h : key a = k <;> simp [h]
theorem lk_append (l m : List α) (k : Int) : lk key (l ++ m) k = (lk key l k).or (lk key m k) := by
  unfold lk
  rw [List.find?_append]
theorem lk_none {l : List α} {k : Int} (h : ∀ a ∈ l, key a ≠ k) : lk key l k = none := by
  unfold lk
  rw [List.find?_eq_none]
  intro a ha
  simpa using h a ha
theorem lk_key {l : List α} {k : Int} {a : α} (h : lk key l k = some a) : key a = k := by
  unfold lk at h
  have := List.find?_some h
  simpa using this
theorem lk_mem {l : List α} {k : Int} {a : α} (h : lk key l k = some a) : a ∈ l := by
  unfold lk at h
  exact List.mem_of_find?_eq_some h
theorem lk_of_mem {l : List α} (hs : Srt key l) {a : α} (h : a ∈ l) : lk key l (key a) = some a := by
  induction l with
  | nil => simp at h
  | cons b l ih =>
    rw [lk_cons]
    obtain ⟨h1, h2⟩ := List.pairwise_cons.1 hs
    rcases List.mem_cons.1 h with rfl | h
    · simp
    · have := h1 a h
      rw [if_neg (by omega)]
      exact ih h2 h
theorem lk_isSome {l : List α} {k : Int} : (lk key l k).isSome = true ↔ ∃ a ∈ l, key a = k := by
  constructor
  · intro h
    obtain ⟨a, ha⟩ := Option.isSome_iff_exists.1 h
    exact ⟨a, lk_mem key ha, lk_key key ha⟩
  · rintro ⟨a, ha, hk⟩
    cases hl : lk key l k with
    | some _ => rfl
    | none =>
      unfold lk at hl
      rw [List.find?_eq_none] at hl
      exact absurd hk (by simpa using hl a ha)
theorem lk_ext {l m : List α} (hl : Srt key l) (hm : Srt key m) (h : ∀ k, lk key l k = lk key m k) : l = m := by
  induction l generalizing m with
  | nil =>
    cases m with
    | nil => rfl
    | cons b m => have := h (key b); simp [lk_cons, lk_nil] at this
  | cons a l ih =>
    obtain ⟨h1, h2⟩ := List.pairwise_cons.1 hl
    cases m with
    | nil => have := h (key a); simp [lk_cons, lk_nil] at this
    | cons b m =>
      obtain ⟨h3, h4⟩ := List.pairwise_cons.1 hm
      have hab : key a = key b := by
        rcases Int.lt_trichotomy (key a) (key b) with hlt | he | hgt
        · have := h (key a)
          rw [lk_cons, if_pos rfl, lk_cons, if_neg (by omega), lk_none key (fun c hc => by have := h3 c hc; omega)] at this
          cases this
        · exact he
        · have := h (key b)
          rw [lk_cons, lk_cons, if_pos rfl, if_neg (by omega), lk_none key (fun c hc => by have := h1 c hc; omega)] at this
          cases this
      have e := h (key a)
      rw [lk_cons, if_pos rfl, lk_cons, if_pos hab.symm] at e
      injection e with e
      subst e
      congr 1
      refine ih h2 h4 fun k => ?_
      have := h k
      rw [lk_cons, lk_cons] at this
      by_cases hk : key a = k
      · rw [lk_none key (fun c hc => by have := h1 c hc; omega), lk_none key (fun c hc => by have := h3 c hc; omega)]
      · rw [if_neg hk, if_neg hk] at this; exact this
theorem Srt.nil : Srt key ([] : List α) := List.Pairwise.nil
theorem srt_cons {a : α} {l : List α} : Srt key (a :: l) ↔ (∀ b ∈ l, key a < key b) ∧ Srt key l := List.pairwise_cons
theorem srt_append {l m : List α} : Srt key (l ++ m) ↔ Srt key l ∧ Srt key m ∧ ∀ a ∈ l, ∀ b ∈ m, key a < key b := List.pairwise_append
theorem Srt.filter {l : List α} (h : Srt key l) (p : α → Bool) : Srt key (l.filter p) := List.Pairwise.filter p h
theorem lk_filter {l : List α} (hs : Srt key l) (p : α → Bool) (k : Int) : lk key (l.filter p) k = (lk key l k).filter p := by
  induction l with
  | nil => rfl
  | cons a l ih =>
    obtain ⟨h1, h2⟩ := (srt_cons key).1 hs
    rw [lk_cons]
    by_cases hk : key a = k
    · rw [if_pos hk]
      by_cases hp : p a = true
      · rw [List.filter_cons_of_pos hp, lk_cons, if_pos hk]; simp [Option.filter, hp]
      · rw [List.filter_cons_of_neg hp, lk_none key (fun c hc => by have := h1 c (List.mem_filter.1 hc).1; omega)]; simp [Option.filter, hp]
    · rw [if_neg hk, ← ih h2]
      by_cases hp : p a = true
      · rw [List.filter_cons_of_pos hp, lk_cons, if_neg hk]
      · rw [List.filter_cons_of_neg hp]
end

theorem rise_srt {α : Type} (key : α → Int) (l : List α) : rise (l.map key) = true ↔ Srt key l := by
  induction l with
  | nil => simp [rise, Srt]
  | cons a l ih =>
    rw [srt_cons, ← ih]
    constructor
    · intro h
      refine ⟨fun b hb => rise_head h _ (List.mem_map.2 ⟨b, hb, rfl⟩), rise_tail h⟩
    · rintro ⟨h1, h2⟩
      cases l with
      | nil => rfl
      | cons b l =>
        simp only [List.map_cons, rise, Bool.and_eq_true, decide_eq_true_eq]
        exact ⟨h1 b (by simp), h2⟩
theorem riseA_srt {l : List At} : riseA l = true ↔ Srt At.key l := rise_srt At.key l
theorem riseC_srt {l : List Ch} : riseC l = true ↔ Srt Ch.key l := rise_srt Ch.key l
theorem getA_lk (l : List At) (k : Int) : getA l k = (lk At.key l k).map (·.v) := rfl

/-- a list by rising keys, cut at a key -/
theorem cut_lt {α : Type} (key : α → Int) {l : List α} (hs : Srt key l) (c : Int) :
    (∀ a ∈ l.takeWhile (fun a => decide (key a < c)), key a < c) ∧ (∀ a ∈ l.dropWhile (fun a => decide (key a < c)), c ≤ key a) := by
  induction l with
  | nil => simp
  | cons a l ih =>
    obtain ⟨h1, h2⟩ := (srt_cons key).1 hs
    by_cases h : key a < c
    · simp only [List.takeWhile_cons, List.dropWhile_cons, h, decide_true, if_true]
      refine ⟨fun b hb => ?_, (ih h2).2⟩
      rcases List.mem_cons.1 hb with rfl | hb
      · exact h
      · exact (ih h2).1 b hb
    · simp only [List.takeWhile_cons, List.dropWhile_cons, h, decide_false, Bool.false_eq_true, if_false]
      refine ⟨fun b hb => by simp at hb, fun b hb => ?_⟩
      rcases List.mem_cons.1 hb with rfl | hb
      · omega
      · have := h1 b hb; omega
theorem cut_le {α : Type} (key : α → Int) {l : List α} (hs : Srt key l) (c : Int) :
    (∀ a ∈ l.takeWhile (fun a => decide (key a ≤ c)), key a ≤ c) ∧ (∀ a ∈ l.dropWhile (fun a => decide (key a ≤ c)), c < key a) := by
  induction l with
  | nil => simp
  | cons a l ih =>
    obtain ⟨h1, h2⟩ := (srt_cons key).1 hs
    by_cases h : key a ≤ c
    · simp only [List.takeWhile_cons, List.dropWhile_cons, h, decide_true, if_true]
      refine ⟨fun b hb => ?_, (ih h2).2⟩
      rcases List.mem_cons.1 hb with rfl | hb
      · exact h
      · exact (ih h2).1 b hb
    · simp only [List.takeWhile_cons, List.dropWhile_cons, h, decide_false, Bool.false_eq_true, if_false]
      refine ⟨fun b hb => by simp at hb, fun b hb => ?_⟩
      rcases List.mem_cons.1 hb with rfl | hb
      · omega
      · have := h1 b hb; omega
theorem srt_tw {α : Type} (key : α → Int) {l : List α} (hs : Srt key l) (p : α → Bool) : Srt key (l.takeWhile p) := hs.sublist (List.takeWhile_sublist p)
theorem srt_dw {α : Type} (key : α → Int) {l : List α} (hs : Srt key l) (p : α → Bool) : Srt key (l.dropWhile p) := hs.sublist (List.dropWhile_sublist p)
theorem drop1_gt {l : List At} (hs : Srt At.key l) {c : Int} (h : ∀ a ∈ l, c ≤ a.key) : Srt At.key (drop1 c l) ∧ (∀ a ∈ drop1 c l, c < a.key) ∧ ∀ k, c < k → lk At.key (drop1 c l) k = lk At.key l k := by
  cases l with
  | nil => exact ⟨hs, by simp [drop1], fun _ _ => rfl⟩
  | cons a l =>
    obtain ⟨h1, h2⟩ := (srt_cons At.key).1 hs
    have hd : drop1 c (a :: l) = if a.key = c then l else a :: l := rfl
    rw [hd]
    by_cases he : a.key = c
    · rw [if_pos he]
      exact ⟨h2, fun b hb => by have := h1 b hb; omega, fun k hk => by rw [lk_cons, if_neg (by omega)]⟩
    · rw [if_neg he]
      refine ⟨hs, fun b hb => ?_, fun _ _ => rfl⟩
      have ha := h a (by simp)
      rcases List.mem_cons.1 hb with rfl | hb
      · omega
      · have := h1 b hb; omega

/-- what a patch makes of what is looked up -/
def lkApply (c : Option Ch) (x : Option At) : Option At :=
  match c with
  | some c => if c.gone = true then none else some ⟨c.key, c.v⟩
  | none => x
theorem mem_put1 {c : Ch} {a : At} (h : a ∈ put1 c) : a.key = c.key := by
  unfold put1 at h
  split at h
  · simp at h
  · simp at h; rw [h]
theorem apply_all {p : List Ch} (hp : Srt Ch.key p) : ∀ {s : List At}, Srt At.key s →
    Srt At.key (applyP p s) ∧ (∀ k, lk At.key (applyP p s) k = lkApply (lk Ch.key p k) (lk At.key s k)) ∧ (∀ m : Int, (∀ c ∈ p, m < c.key) → (∀ a ∈ s, m < a.key) → ∀ a ∈ applyP p s, m < a.key) ∧ (applyP p s).length ≤ p.length + s.length := by
  induction p with
  | nil => intro s hs; exact ⟨hs, fun k => rfl, fun m _ h a ha => h a ha, by simp [applyP]⟩
  | cons c p ih =>
    intro s hs
    obtain ⟨h1, h2⟩ := (srt_cons Ch.key).1 hp
    obtain ⟨t1, t2⟩ := cut_lt At.key hs c.key
    have hts := srt_tw At.key hs (fun a => decide (a.key < c.key))
    have hds := srt_dw At.key hs (fun a => decide (a.key < c.key))
    have e : applyP (c :: p) s = s.takeWhile (fun a => decide (a.key < c.key)) ++ (put1 c ++ applyP p (drop1 c.key (s.dropWhile (fun a => decide (a.key < c.key))))) := rfl
    have happ : s.takeWhile (fun a => decide (a.key < c.key)) ++ s.dropWhile (fun a => decide (a.key < c.key)) = s := List.takeWhile_append_dropWhile
    have hlen : (s.takeWhile (fun a => decide (a.key < c.key))).length + (s.dropWhile (fun a => decide (a.key < c.key))).length = s.length := by rw [← List.length_append, happ]
    have hlk : ∀ k, lk At.key s k = (lk At.key (s.takeWhile (fun a => decide (a.key < c.key))) k).or (lk At.key (s.dropWhile (fun a => decide (a.key < c.key))) k) := fun k => by rw [← lk_append, happ]
    have hmt : ∀ a ∈ s.takeWhile (fun a => decide (a.key < c.key)), a ∈ s := fun a ha => (List.takeWhile_sublist _).subset ha
    have hmd : ∀ a ∈ s.dropWhile (fun a => decide (a.key < c.key)), a ∈ s := fun a ha => (List.dropWhile_sublist _).subset ha
    generalize s.takeWhile (fun a => decide (a.key < c.key)) = tw at *
    generalize s.dropWhile (fun a => decide (a.key < c.key)) = dw at *
    obtain ⟨d1, d2, d3⟩ := drop1_gt hds t2
    have hdl : (drop1 c.key dw).length ≤ dw.length := by
      unfold drop1; split
      · simp
      · split <;> simp
    have hdm : ∀ a ∈ drop1 c.key dw, a ∈ dw := by
      unfold drop1; split
      · simp
      · intro a ha; split at ha
        · exact List.mem_cons_of_mem _ ha
        · exact ha
    obtain ⟨i1, i2, i3, i4⟩ := ih h2 d1
    rw [e]
    have hput : ∀ a ∈ put1 c, a.key = c.key := fun a ha => mem_put1 ha
    have hpl : (put1 c).length ≤ 1 := by unfold put1; split <;> simp
    have hrest : ∀ a ∈ applyP p (drop1 c.key dw), c.key < a.key := i3 c.key h1 d2
    refine ⟨?_, fun k => ?_, fun m hm1 hm2 a ha => ?_, ?_⟩
    · rw [srt_append, srt_append]
      refine ⟨hts, ⟨?_, i1, fun a ha b hb => ?_⟩, fun a ha b hb => ?_⟩
      · unfold put1; split
        · exact Srt.nil _
        · rw [srt_cons]; exact ⟨by simp, Srt.nil _⟩
      · rw [hput a ha]; exact hrest b hb
      · have := t1 a ha
        rcases List.mem_append.1 hb with hb | hb
        · rw [hput b hb]; exact this
        · have := hrest b hb; omega
    · rw [lk_append, lk_append, hlk, lk_cons]
      rcases Int.lt_trichotomy k c.key with hlt | rfl | hgt
      · rw [if_neg (by omega), lk_none Ch.key (fun d hd => by have := h1 d hd; omega), lk_none At.key (l := put1 c) (fun d hd => by have := hput d hd; omega), lk_none At.key (l := applyP p (drop1 c.key dw)) (fun d hd => by have := hrest d hd; omega),
          lk_none At.key (l := dw) (fun d hd => by have := t2 d hd; omega)]
        rfl
      · rw [if_pos rfl, lk_none At.key (l := tw) (fun d hd => by have := t1 d hd; omega), lk_none At.key (l := applyP p (drop1 c.key dw)) (fun d hd => by have := hrest d hd; omega)]
        unfold put1 lkApply
        by_cases hg : c.gone = true
        · simp [hg, lk_nil]
        · simp [hg, lk_cons]
      · rw [if_neg (by omega), lk_none At.key (l := tw) (fun d hd => by have := t1 d hd; omega), lk_none At.key (l := put1 c) (fun d hd => by have := hput d hd; omega), i2, d3 k hgt]
        rfl
    · rcases List.mem_append.1 ha with ha | ha
      · exact hm2 a (hmt a ha)
      · rcases List.mem_append.1 ha with ha | ha
        · rw [hput a ha]; exact hm1 c (by simp)
        · have := hrest a ha; have := hm1 c (by simp); omega
    · simp only [List.length_append, List.length_cons]; omega

def lkDiff (x y : Option At) : Option Ch :=
  match x, y with
  | none, none => none
  | some x, none => some (goneC x)
  | none, some y => some (chg y)
  | some x, some y => if x.v = y.v then none else some (chg y)
theorem lk_map_gone (l : List At) (k : Int) : lk Ch.key (l.map goneC) k = (lk At.key l k).map goneC := by
  induction l with
  | nil => rfl
  | cons a l ih =>
    rw [List.map_cons, lk_cons, lk_cons, ih]
    by_cases h : a.key = k <;> simp [h, goneC]
theorem diff_all {b : List At} (hb : Srt At.key b) : ∀ {a : List At}, Srt At.key a →
    Srt Ch.key (diffP a b) ∧ (∀ k, lk Ch.key (diffP a b) k = lkDiff (lk At.key a k) (lk At.key b k)) ∧ (∀ m : Int, (∀ c ∈ a, m < c.key) → (∀ c ∈ b, m < c.key) → ∀ c ∈ diffP a b, m < c.key) ∧ (diffP a b).length ≤ a.length + b.length := by
  induction b with
  | nil =>
    intro a ha
    rw [diffP_nil]
    refine ⟨?_, fun k => ?_, fun m h _ c hc => ?_, by simp⟩
    · exact List.Pairwise.map _ (fun x y h => h) ha
    · rw [lk_map_gone, lk_nil]; cases lk At.key a k <;> rfl
    · obtain ⟨x, hx, rfl⟩ := List.mem_map.1 hc; exact h x hx
  | cons x b ih =>
    intro a ha
    obtain ⟨h1, h2⟩ := (srt_cons At.key).1 hb
    obtain ⟨t1, t2⟩ := cut_lt At.key ha x.key
    have hts := srt_tw At.key ha (fun a => decide (a.key < x.key))
    have hds := srt_dw At.key ha (fun a => decide (a.key < x.key))
    have e : diffP a (x :: b) = (a.takeWhile (fun y => decide (y.key < x.key))).map goneC ++ diffMid (fun r => diffP r b) x (a.dropWhile (fun y => decide (y.key < x.key))) := by rw [diffP_cons]; rfl
    have happ : a.takeWhile (fun a => decide (a.key < x.key)) ++ a.dropWhile (fun a => decide (a.key < x.key)) = a := List.takeWhile_append_dropWhile
    have hlen : (a.takeWhile (fun a => decide (a.key < x.key))).length + (a.dropWhile (fun a => decide (a.key < x.key))).length = a.length := by rw [← List.length_append, happ]
    have hlk : ∀ k, lk At.key a k = (lk At.key (a.takeWhile (fun a => decide (a.key < x.key))) k).or (lk At.key (a.dropWhile (fun a => decide (a.key < x.key))) k) := fun k => by rw [← lk_append, happ]
    have hmt : ∀ c ∈ a.takeWhile (fun a => decide (a.key < x.key)), c ∈ a := fun c hc => (List.takeWhile_sublist _).subset hc
    have hmd : ∀ c ∈ a.dropWhile (fun a => decide (a.key < x.key)), c ∈ a := fun c hc => (List.dropWhile_sublist _).subset hc
    generalize a.takeWhile (fun a => decide (a.key < x.key)) = tw at *
    generalize a.dropWhile (fun a => decide (a.key < x.key)) = dw at *
    -- the middle: a row by rising keys from x on, that looks up as it should
    have hmid : Srt Ch.key (diffMid (fun r => diffP r b) x dw) ∧ (∀ k, x.key ≤ k → lk Ch.key (diffMid (fun r => diffP r b) x dw) k = lkDiff (lk At.key dw k) (lk At.key (x :: b) k)) ∧
        (∀ c ∈ diffMid (fun r => diffP r b) x dw, x.key ≤ c.key) ∧ (diffMid (fun r => diffP r b) x dw).length ≤ dw.length + b.length + 1 := by
      have put : ∀ {r : List At}, Srt At.key r → (∀ c ∈ r, x.key < c.key) → Srt Ch.key (chg x :: diffP r b) ∧ (∀ c ∈ chg x :: diffP r b, x.key ≤ c.key) ∧ (chg x :: diffP r b).length ≤ r.length + b.length + 1 ∧
          (∀ k, x.key < k → lk Ch.key (chg x :: diffP r b) k = lkDiff (lk At.key r k) (lk At.key b k)) ∧ lk Ch.key (chg x :: diffP r b) x.key = some (chg x) := by
        intro r hr hgt
        obtain ⟨j1, j2, j3, j4⟩ := ih h2 hr
        have j5 := j3 x.key hgt h1
        refine ⟨?_, fun c hc => ?_, by simp; omega, fun k hk => ?_, ?_⟩
        · rw [srt_cons]; exact ⟨j5, j1⟩
        · rcases List.mem_cons.1 hc with rfl | hc
          · exact Int.le_refl _
          · have := j5 c hc; omega
        · rw [lk_cons, if_neg (by show ¬ x.key = k; omega), j2]
        · rw [lk_cons, if_pos (by rfl)]
      cases dw with
      | nil =>
        obtain ⟨p1, p2, p3, p4, p5⟩ := put (r := []) (Srt.nil _) (by simp)
        refine ⟨p1, fun k hk => ?_, p2, by show (chg x :: diffP [] b).length ≤ _; simp at p3 ⊢; omega⟩
        rcases Int.lt_or_eq_of_le hk with hlt | rfl
        · show lk Ch.key (chg x :: diffP [] b) k = _
          rw [p4 k hlt, lk_cons At.key x, if_neg (by omega)]
        · show lk Ch.key (chg x :: diffP [] b) x.key = _
          rw [p5, lk_cons, if_pos rfl]; rfl
      | cons y t =>
        obtain ⟨g1, g2⟩ := (srt_cons At.key).1 hds
        by_cases hk : y.key = x.key
        · have hgt : ∀ c ∈ t, x.key < c.key := fun c hc => by have := g1 c hc; omega
          by_cases hv : y.v = x.v
          · have ee : diffMid (fun r => diffP r b) x (y :: t) = diffP t b := by simp [diffMid, hk, hv]
            rw [ee]
            obtain ⟨j1, j2, j3, j4⟩ := ih h2 g2
            have j5 := j3 x.key hgt h1
            refine ⟨j1, fun k hk' => ?_, fun c hc => by have := j5 c hc; omega, by simp; omega⟩
            rcases Int.lt_or_eq_of_le hk' with hlt | rfl
            · rw [j2, lk_cons, if_neg (by omega), lk_cons, if_neg (by omega)]
            · rw [lk_none Ch.key (fun c hc => by have := j5 c hc; omega), lk_cons, if_pos hk, lk_cons, if_pos rfl]
              simp [lkDiff, hv]
          · have ee : diffMid (fun r => diffP r b) x (y :: t) = chg x :: diffP t b := by simp [diffMid, hk, hv]
            rw [ee]
            obtain ⟨p1, p2, p3, p4, p5⟩ := put g2 hgt
            refine ⟨p1, fun k hk' => ?_, p2, by simp at p3 ⊢; omega⟩
            rcases Int.lt_or_eq_of_le hk' with hlt | rfl
            · rw [p4 k hlt, lk_cons, if_neg (by omega), lk_cons, if_neg (by omega)]
            · rw [p5, lk_cons, if_pos hk, lk_cons, if_pos rfl]
              simp [lkDiff, hv]
        · have hgt : ∀ c ∈ y :: t, x.key < c.key := fun c hc => by
            have h0 := t2 y (by simp)
            rcases List.mem_cons.1 hc with rfl | hc
            · omega
            · have := g1 c hc; omega
          have ee : diffMid (fun r => diffP r b) x (y :: t) = chg x :: diffP (y :: t) b := by simp [diffMid, hk]
          rw [ee]
          obtain ⟨p1, p2, p3, p4, p5⟩ := put hds hgt
          refine ⟨p1, fun k hk' => ?_, p2, by simp at p3 ⊢; omega⟩
          rcases Int.lt_or_eq_of_le hk' with hlt | rfl
          · rw [p4 k hlt, lk_cons At.key x, if_neg (by omega)]
          · rw [p5, lk_none At.key (fun c hc => by have := hgt c hc; omega), lk_cons, if_pos rfl]; rfl
    rw [e]
    obtain ⟨m1, m2, m3, m4⟩ := hmid
    have hgo : ∀ c ∈ tw.map goneC, c.key < x.key := fun c hc => by obtain ⟨y, hy, rfl⟩ := List.mem_map.1 hc; exact t1 y hy
    refine ⟨?_, fun k => ?_, fun m hm1 hm2 c hc => ?_, ?_⟩
    · rw [srt_append]
      refine ⟨List.Pairwise.map _ (fun x y h => h) hts, m1, fun c hc d hd => ?_⟩
      have := hgo c hc
      have := m3 d hd
      omega
    · rw [lk_append, lk_map_gone, hlk]
      rcases Int.lt_or_le k x.key with hlt | hge
      · rw [lk_none Ch.key (fun c hc => by have := m3 c hc; omega), lk_none At.key (l := dw) (fun c hc => by have := t2 c hc; omega), lk_none At.key (l := x :: b) (fun c hc => by
          rcases List.mem_cons.1 hc with rfl | hc
          · omega
          · have := h1 c hc; omega)]
        cases lk At.key tw k <;> rfl
      · rw [lk_none At.key (l := tw) (fun c hc => by have := t1 c hc; omega), m2 k hge]
        rfl
    · rcases List.mem_append.1 hc with hc | hc
      · obtain ⟨y, hy, rfl⟩ := List.mem_map.1 hc; exact hm1 y (hmt y hy)
      · have := m3 c hc; have := hm2 x (by simp); omega
    · simp only [List.length_append, List.length_map, List.length_cons]; omega

theorem compose_all {q : List Ch} (hq : Srt Ch.key q) : ∀ {p : List Ch}, Srt Ch.key p →
    Srt Ch.key (composeP p q) ∧ (∀ k, lk Ch.key (composeP p q) k = (lk Ch.key q k).or (lk Ch.key p k)) ∧ (∀ m : Int, (∀ c ∈ p, m < c.key) → (∀ c ∈ q, m < c.key) → ∀ c ∈ composeP p q, m < c.key) ∧ (composeP p q).length ≤ p.length + q.length := by
  induction q with
  | nil => intro p hp; rw [composeP_nil]; exact ⟨hp, fun k => by rw [lk_nil]; rfl, fun m h _ c hc => h c hc, by simp⟩
  | cons x q ih =>
    intro p hp
    obtain ⟨h1, h2⟩ := (srt_cons Ch.key).1 hq
    obtain ⟨t1, t2⟩ := cut_le Ch.key hp x.key
    have hts := srt_tw Ch.key hp (fun a => decide (a.key ≤ x.key))
    have hds := srt_dw Ch.key hp (fun a => decide (a.key ≤ x.key))
    have e : composeP p (x :: q) = (p.takeWhile (fun a => decide (a.key ≤ x.key))).filter (fun a => decide (a.key < x.key)) ++ x :: composeP (p.dropWhile (fun a => decide (a.key ≤ x.key))) q := by rw [composeP_cons]; rfl
    have happ : p.takeWhile (fun a => decide (a.key ≤ x.key)) ++ p.dropWhile (fun a => decide (a.key ≤ x.key)) = p := List.takeWhile_append_dropWhile
    have hlen : (p.takeWhile (fun a => decide (a.key ≤ x.key))).length + (p.dropWhile (fun a => decide (a.key ≤ x.key))).length = p.length := by rw [← List.length_append, happ]
    have hlk : ∀ k, lk Ch.key p k = (lk Ch.key (p.takeWhile (fun a => decide (a.key ≤ x.key))) k).or (lk Ch.key (p.dropWhile (fun a => decide (a.key ≤ x.key))) k) := fun k => by rw [← lk_append, happ]
    have hmt : ∀ c ∈ p.takeWhile (fun a => decide (a.key ≤ x.key)), c ∈ p := fun c hc => (List.takeWhile_sublist _).subset hc
    generalize p.takeWhile (fun a => decide (a.key ≤ x.key)) = tw at *
    generalize p.dropWhile (fun a => decide (a.key ≤ x.key)) = dw at *
    rw [e]
    obtain ⟨j1, j2, j3, j4⟩ := ih h2 hds
    have j5 := j3 x.key t2 h1
    have hf := hts.filter Ch.key (fun a => decide (a.key < x.key))
    have hfl := lk_filter Ch.key hts (fun a => decide (a.key < x.key))
    have hfm : ∀ c ∈ tw.filter (fun a => decide (a.key < x.key)), c ∈ tw ∧ c.key < x.key := fun c hc => by have := List.mem_filter.1 hc; simpa using this
    have hfn : (tw.filter (fun a => decide (a.key < x.key))).length ≤ tw.length := List.length_filter_le _ _
    generalize tw.filter (fun a => decide (a.key < x.key)) = ft at *
    refine ⟨?_, fun k => ?_, fun m hm1 hm2 c hc => ?_, ?_⟩
    · rw [srt_append, srt_cons]
      refine ⟨hf, ⟨j5, j1⟩, fun a ha b hb => ?_⟩
      have := (hfm a ha).2
      rcases List.mem_cons.1 hb with rfl | hb
      · exact this
      · have := j5 b hb; omega
    · rw [lk_append, lk_cons, hfl, hlk, lk_cons Ch.key x]
      rcases Int.lt_trichotomy k x.key with hlt | rfl | hgt
      · rw [if_neg (by omega), if_neg (by omega), lk_none Ch.key (l := composeP dw q) (fun d hd => by have := j5 d hd; omega), lk_none Ch.key (l := q) (fun d hd => by have := h1 d hd; omega), lk_none Ch.key (l := dw) (fun d hd => by have := t2 d hd; omega)]
        cases hl : lk Ch.key tw k with
        | none => rfl
        | some d =>
          have := lk_key Ch.key hl
          have hd : d.key < x.key := by omega
          simp [Option.filter, hd]
      · rw [if_pos rfl, if_pos rfl]
        cases hl : lk Ch.key tw x.key with
        | none => rfl
        | some d =>
          have := lk_key Ch.key hl
          have hd : ¬ d.key < x.key := by omega
          simp [Option.filter, hd]
      · rw [if_neg (by omega), if_neg (by omega), j2, lk_none Ch.key (l := tw) (fun d hd => by have := t1 d hd; omega)]
        rfl
    · rcases List.mem_append.1 hc with hc | hc
      · exact hm1 c (hmt c (hfm c hc).1)
      · rcases List.mem_cons.1 hc with rfl | hc
        · exact hm2 _ (by simp)
        · have := j5 c hc; have := hm2 x (by simp); omega
    · simp only [List.length_append, List.length_cons]; omega

def lkInv (x : Option At) (c : Option Ch) : Option Ch :=
  match c with
  | none => none
  | some c => match x with
    | some a => if c.gone = true ∨ ¬ a.v = c.v then some ⟨c.key, false, a.v⟩ else none
    | none => if c.gone = true then none else some ⟨c.key, true, V.zero⟩
theorem inv1_key {s : List At} {c d : Ch} (h : d ∈ inv1 s c) : d.key = c.key := by
  unfold inv1 at h
  split at h <;> split at h <;> simp at h <;> rw [h]
theorem inv1_lk (s : List At) (c : Ch) : lk Ch.key (inv1 s c) c.key = lkInv (lk At.key s c.key) (some c) := by
  unfold inv1 lkInv
  rw [getA_lk]
  cases lk At.key s c.key with
  | none => by_cases h : c.gone = true <;> simp [h, lk_nil, lk_cons]
  | some a => by_cases h : c.gone = true ∨ ¬ a.v = c.v <;> simp [h, lk_nil, lk_cons]
theorem inv1_srt (s : List At) (c : Ch) : Srt Ch.key (inv1 s c) := by
  unfold inv1
  split <;> split <;> first | exact Srt.nil _ | (rw [srt_cons]; exact ⟨by simp, Srt.nil _⟩)
theorem inv1_len (s : List At) (c : Ch) : (inv1 s c).length ≤ 1 := by
  unfold inv1
  split <;> split <;> simp
theorem invert_all {s : List At} {p : List Ch} (hp : Srt Ch.key p) :
    Srt Ch.key (invertP s p) ∧ (∀ k, lk Ch.key (invertP s p) k = lkInv (lk At.key s k) (lk Ch.key p k)) ∧ (∀ c ∈ invertP s p, ∃ d ∈ p, d.key = c.key) ∧ (invertP s p).length ≤ p.length := by
  induction p with
  | nil => exact ⟨Srt.nil _, fun k => rfl, by simp [invertP], by simp [invertP]⟩
  | cons c p ih =>
    obtain ⟨h1, h2⟩ := (srt_cons Ch.key).1 hp
    obtain ⟨i1, i2, i3, i4⟩ := ih h2
    have e : invertP s (c :: p) = inv1 s c ++ invertP s p := by simp [invertP]
    have hrest : ∀ d ∈ invertP s p, c.key < d.key := fun d hd => by
      obtain ⟨x, hx, hk⟩ := i3 d hd
      have := h1 x hx; omega
    rw [e]
    refine ⟨?_, fun k => ?_, fun d hd => ?_, ?_⟩
    · rw [srt_append]
      exact ⟨inv1_srt s c, i1, fun a ha b hb => by rw [inv1_key ha]; exact hrest b hb⟩
    · rw [lk_append, lk_cons, i2]
      by_cases hk : c.key = k
      · subst hk
        rw [if_pos rfl, inv1_lk, lk_none Ch.key (l := p) (fun d hd => by have := h1 d hd; omega)]
        cases lkInv (lk At.key s c.key) (some c) <;> rfl
      · rw [if_neg hk, lk_none Ch.key (l := inv1 s c) (fun d hd => by have := inv1_key hd; omega)]
        rfl
    · rcases List.mem_append.1 hd with hd | hd
      · exact ⟨c, by simp, (inv1_key hd).symm⟩
      · obtain ⟨x, hx, hk⟩ := i3 d hd
        exact ⟨x, List.mem_cons_of_mem _ hx, hk⟩
    · have := inv1_len s c
      simp only [List.length_append, List.length_cons]; omega

section
variable {a b : List At} {p q r : List Ch}
theorem law_back (ha : riseA a = true) (hp : riseC p = true) : applyP (invertP a p) (applyP p a) = a := by
  rw [riseA_srt] at ha
  rw [riseC_srt] at hp
  obtain ⟨a1, a2, _⟩ := apply_all hp ha
  obtain ⟨i1, i2, _⟩ := invert_all (s := a) hp
  obtain ⟨b1, b2, _⟩ := apply_all i1 a1
  refine lk_ext At.key b1 ha fun k => ?_
  rw [b2, a2, i2]
  cases hx : lk At.key a k with
  | none =>
    cases hc : lk Ch.key p k with
    | none => rfl
    | some c => by_cases hg : c.gone = true <;> simp [lkApply, lkInv, hg]
  | some x =>
    have hxk := lk_key At.key hx
    cases hc : lk Ch.key p k with
    | none => rfl
    | some c =>
      have hck := lk_key Ch.key hc
      obtain ⟨xk, xv⟩ := x
      simp only at hxk
      by_cases hg : c.gone = true
      · simp [lkApply, lkInv, hg, hck, hxk]
      · by_cases hv : xv = c.v
        · simp [lkApply, lkInv, hg, hv, hck, hxk]
        · simp [lkApply, lkInv, hg, hv, hck, hxk]
theorem law_diff (ha : riseA a = true) (hb : riseA b = true) : applyP (diffP a b) a = b := by
  rw [riseA_srt] at ha hb
  obtain ⟨d1, d2, _⟩ := diff_all hb ha
  obtain ⟨b1, b2, _⟩ := apply_all d1 ha
  refine lk_ext At.key b1 hb fun k => ?_
  rw [b2, d2]
  cases hx : lk At.key a k with
  | none => cases hy : lk At.key b k with
    | none => rfl
    | some y => simp [lkApply, lkDiff, chg]
  | some x =>
    have hxk := lk_key At.key hx
    cases hy : lk At.key b k with
    | none => simp [lkApply, lkDiff, goneC]
    | some y =>
      have hyk := lk_key At.key hy
      obtain ⟨xk, xv⟩ := x
      obtain ⟨yk, yv⟩ := y
      simp only at hxk hyk
      by_cases hv : xv = yv <;> simp [lkApply, lkDiff, chg, hv, hxk, hyk]
theorem law_same (ha : riseA a = true) : diffP a a = [] := by
  rw [riseA_srt] at ha
  obtain ⟨d1, d2, _⟩ := diff_all ha ha
  refine lk_ext Ch.key d1 (Srt.nil _) fun k => ?_
  rw [d2, lk_nil]
  cases lk At.key a k <;> simp [lkDiff]
theorem law_invdiff (ha : riseA a = true) (hb : riseA b = true) : invertP a (diffP a b) = diffP b a := by
  rw [riseA_srt] at ha hb
  obtain ⟨d1, d2, _⟩ := diff_all hb ha
  obtain ⟨e1, e2, _⟩ := diff_all ha hb
  obtain ⟨i1, i2, _⟩ := invert_all (s := a) d1
  refine lk_ext Ch.key i1 e1 fun k => ?_
  rw [i2, d2, e2]
  cases hx : lk At.key a k with
  | none => cases hy : lk At.key b k with
    | none => rfl
    | some y => simp [lkInv, lkDiff, chg, goneC]
  | some x =>
    have hxk := lk_key At.key hx
    cases hy : lk At.key b k with
    | none => simp [lkInv, lkDiff, chg, goneC]
    | some y =>
      have hyk := lk_key At.key hy
      obtain ⟨xk, xv⟩ := x
      obtain ⟨yk, yv⟩ := y
      simp only at hxk hyk
      by_cases hv : xv = yv
      · simp [lkInv, lkDiff, chg, hv]
      · have hv' : ¬ yv = xv := fun e => hv e.symm
        simp [lkInv, lkDiff, chg, hv, hv', hxk, hyk]
theorem law_compose (ha : riseA a = true) (hp : riseC p = true) (hq : riseC q = true) : applyP q (applyP p a) = applyP (composeP p q) a := by
  rw [riseA_srt] at ha
  rw [riseC_srt] at hp hq
  obtain ⟨a1, a2, _⟩ := apply_all hp ha
  obtain ⟨b1, b2, _⟩ := apply_all hq a1
  obtain ⟨c1, c2, _⟩ := compose_all hq hp
  obtain ⟨d1, d2, _⟩ := apply_all c1 ha
  refine lk_ext At.key b1 d1 fun k => ?_
  rw [b2, a2, d2, c2]
  cases lk Ch.key q k <;> rfl
theorem law_assoc (hp : riseC p = true) (hq : riseC q = true) (hr : riseC r = true) : composeP (composeP p q) r = composeP p (composeP q r) := by
  rw [riseC_srt] at hp hq hr
  obtain ⟨a1, a2, _⟩ := compose_all hq hp
  obtain ⟨b1, b2, _⟩ := compose_all hr a1
  obtain ⟨c1, c2, _⟩ := compose_all hr hq
  obtain ⟨d1, d2, _⟩ := compose_all c1 hp
  refine lk_ext Ch.key b1 d1 fun k => ?_
  rw [b2, a2, d2, c2]
  cases lk Ch.key r k <;> cases lk Ch.key q k <;> rfl
theorem law_nil_left (hp : riseC p = true) : composeP [] p = p := by
  rw [riseC_srt] at hp
  obtain ⟨a1, a2, _⟩ := compose_all hp (Srt.nil Ch.key)
  refine lk_ext Ch.key a1 hp fun k => ?_
  rw [a2, lk_nil]
  cases lk Ch.key p k <;> rfl
theorem apply_rise (hp : riseC p = true) (ha : riseA a = true) : riseA (applyP p a) = true := by
  rw [riseA_srt] at *
  rw [riseC_srt] at hp
  exact (apply_all hp ha).1
theorem compose_rise (hp : riseC p = true) (hq : riseC q = true) : riseC (composeP p q) = true := by
  rw [riseC_srt] at *
  exact (compose_all hq hp).1
theorem apply_len (hp : riseC p = true) (ha : riseA a = true) : (applyP p a).length ≤ p.length + a.length := by
  rw [riseA_srt] at ha
  rw [riseC_srt] at hp
  exact (apply_all hp ha).2.2.2
theorem diff_len (ha : riseA a = true) (hb : riseA b = true) : (diffP a b).length ≤ a.length + b.length := by
  rw [riseA_srt] at ha hb
  exact (diff_all hb ha).2.2.2
theorem compose_len (hp : riseC p = true) (hq : riseC q = true) : (composeP p q).length ≤ p.length + q.length := by
  rw [riseC_srt] at hp hq
  exact (compose_all hq hp).2.2.2
theorem invert_len (hp : riseC p = true) : (invertP a p).length ≤ p.length := by
  rw [riseC_srt] at hp
  exact (invert_all hp).2.2.2
theorem diff_rise (ha : riseA a = true) (hb : riseA b = true) : riseC (diffP a b) = true := by
  rw [riseA_srt] at ha hb
  rw [riseC_srt]
  exact (diff_all hb ha).1
theorem invert_rise (hp : riseC p = true) : riseC (invertP a p) = true := by
  rw [riseC_srt] at *
  exact (invert_all hp).1
end
end Go.Proofs.Ytfnkjcodcoehcaa
