/- Merged texts: Find, PatchLaw, KeepK, Schema2. -/
import Derived.Test.YtbdkbfoplpociaaGreatDoorK2
import Derived.Test.YtbdkbfoplpociaaGreatDoorK10
import Derived.Test.YtbdkbfoplpociaaGreatDoorK8
namespace Go.Proofs.YtbdkbfoplpociaaGreatDoor
open Go.RowKit
set_option linter.unusedVariables false
set_option linter.unusedSimpArgs false

theorem rise_head {a : Int} {l : List Int} (h : rise (a :: l) = true) : ∀ b ∈ l, a < b := by
  induction l generalizing a with
  | nil => intro b hb; simp at hb
  | cons c l ih =>
    simp only [rise, Bool.and_eq_true, decide_eq_true_eq] at h
    intro b hb
    rcases List.mem_cons.1 hb with rfl | hb
    · exact h.1
    · have := ih h.2 b hb; omega
theorem rise_tail {a : Int} {l : List Int} (h : rise (a :: l) = true) : rise l = true := by
  cases l with
  | nil => rfl
  | cons c l => simp only [rise, Bool.and_eq_true] at h; exact h.2
theorem rise_lt {l : List At} (h : riseA l = true) : ∀ {x y : Nat} {a b : At}, x < y → l[x]? = some a → l[y]? = some b → a.key < b.key := by
  induction l with
  | nil => intro x y a b _ h1; simp at h1
  | cons c l ih =>
    intro x y a b hxy h1 h2
    have ht : riseA l = true := rise_tail (a := c.key) (l := l.map At.key) h
    cases y with
    | zero => omega
    | succ y =>
      cases x with
      | zero =>
        simp at h1 h2
        subst h1
        exact rise_head (a := c.key) (l := l.map At.key) h _ (List.mem_map.2 ⟨b, List.mem_of_getElem? h2, rfl⟩)
      | succ x => exact ih ht (Nat.lt_of_succ_lt_succ hxy) (by rw [List.getElem?_cons_succ] at h1; exact h1) (by rw [List.getElem?_cons_succ] at h2; exact h2)

def cmpI (a b : Int) : Int := if a < b then -1 else if b < a then 1 else 0

/-- what the halving knows: keys ahead of i are less, those from j on are not -/
def BsInv (l : List At) (key : Int) (i j : Nat) : Prop :=
  i ≤ j ∧ j ≤ l.length ∧ (riseA l = true → (∀ x a, x < i → l[x]? = some a → a.key < key) ∧ ∀ x a, j ≤ x → l[x]? = some a → key ≤ a.key)
def FindOut (l : List At) (key : Int) (i : Nat) (b : Bool) : Prop :=
  i ≤ l.length ∧ (b = true ↔ ∃ a, l[i]? = some a ∧ a.key = key) ∧ (riseA l = true → (∀ x a, x < i → l[x]? = some a → a.key < key) ∧ ∀ x a, i ≤ x → l[x]? = some a → key ≤ a.key)
theorem BsInv.up {l : List At} {key : Int} {i j h : Nat} {a : At} (v : BsInv l key i j) (h2 : h < j) (ha : l[h]? = some a) (hk : a.key < key) : BsInv l key (h + 1) j :=
  ⟨h2, v.2.1, fun r => ⟨fun x b hx hb => by
    rcases Nat.lt_or_ge x h with hlt | hge
    · have := rise_lt r hlt hb ha; omega
    · have : x = h := by omega
      subst this
      rw [ha] at hb; injection hb with hb; subst hb; exact hk, (v.2.2 r).2⟩⟩
theorem BsInv.down {l : List At} {key : Int} {i j h : Nat} {a : At} (v : BsInv l key i j) (h1 : i ≤ h) (h2 : h < j) (ha : l[h]? = some a) (hk : ¬ a.key < key) : BsInv l key i h :=
  ⟨h1, by have := v.2.1; omega, fun r => ⟨(v.2.2 r).1, fun x b hx hb => by
    rcases Nat.lt_or_ge h x with hlt | hge
    · have := rise_lt r hlt ha hb; omega
    · have : x = h := by omega
      subst this
      rw [ha] at hb; injection hb with hb; subst hb; omega⟩⟩
theorem BsInv.done {l : List At} {key : Int} {i j : Nat} {b : Bool} (v : BsInv l key i j) (hij : ¬ i < j) (hb : b = true ↔ ∃ a, l[i]? = some a ∧ a.key = key) : FindOut l key i b := by
  obtain ⟨h1, h2, h3⟩ := v
  have : i = j := by omega
  subst this
  exact ⟨h2, hb, h3⟩

set_option maxHeartbeats 400000 in
theorem cmpNaN_any (x : Int) (w : World) : Calls Tryz.prog 171 #[.int .i64 x] w fun e w' => e = .returned (.bool false) ∧ w = w' := by
  go_enter Tryz.func171, Tryz.ntmps171
  go_wp2
  go_ret
  exact ⟨by simp, rfl⟩

set_option maxHeartbeats 400000 in
theorem compare_any (x y : Int) (w : World) : Calls Tryz.prog 94 #[.int .i64 x, .int .i64 y] w fun e w' => e = .returned (.int .i64 (cmpI x y)) ∧ w = w' := by
  have hc : (x < y ∧ cmpI x y = -1) ∨ (¬ x < y ∧ y < x ∧ cmpI x y = 1) ∨ (¬ x < y ∧ ¬ y < x ∧ cmpI x y = 0) := by
    unfold cmpI
    by_cases h1 : x < y
    · simp [h1]
    · by_cases h2 : y < x <;> simp [h1, h2]
  rcases hc with ⟨h1, hc⟩ | ⟨h1, h2, hc⟩ | ⟨h1, h2, hc⟩
  all_goals
    have HC := Lib.hid hc
    clear hc
    go_enter Tryz.func94, Tryz.ntmps94
    go_wp2_with (go_at_call 171; refine (cmpNaN_any _ _).mono ?_; rintro e w' ⟨rfl, rfl⟩)
    go_ret
    exact ⟨ret_int HC.out.symm, rfl⟩

end Go.Proofs.YtbdkbfoplpociaaGreatDoor
namespace Go.Proofs.YtbdkbfoplpociaaGreatDoor
set_option linter.unusedVariables false
set_option linter.unusedSimpArgs false

section
variable {α : Type} (key : α → Int)
def lk (l : List α) (k : Int) : Option α := l.find? (fun a => decide (key a = k))
def Srt (l : List α) : Prop := l.Pairwise (fun a b => key a < key b)

theorem lk_nil (k : Int) : lk key [] k = none := rfl
theorem lk_cons (a : α) (l : List α) (k : Int) : lk key (a :: l) k = if key a = k then some a else lk key l k := by
  unfold lk
  by_cases h : key a = k <;> simp [h]
theorem lk_append (l m : List α) (k : Int) : lk key (l ++ m) k = (lk key l k).or (lk key m k) := by
  unfold lk
  rw [List.find?_append]
theorem lk_none {l : List α} {k : Int} (h : ∀ a ∈ l, key a ≠ k) : lk key l k = none := by
  unfold lk
  rw [List.find?_eq_none]
  intro a ha
  simpa using h a ha
theorem lk_key {l : List α} {k : Int} {a : α} (h : lk key l k = some a) : key a = k := by
  unfold lk at h
  have := List.find?_some h
  simpa using this
theorem lk_mem {l : List α} {k : Int} {a : α} (h : lk key l k = some a) : a ∈ l := by
  unfold lk at h
  exact List.mem_of_find?_eq_some h
theorem lk_of_mem {l : List α} (hs : Srt key l) {a : α} (h : a ∈ l) : lk key l (key a) = some a := by
  induction l with
  | nil => simp at h
  | cons b l ih =>
    rw [lk_cons]
    obtain ⟨h1, h2⟩ := List.pairwise_cons.1 hs
    rcases List.mem_cons.1 h with rfl | h
    · simp
    · have := h1 a h
      rw [if_neg (by omega)]
      exact ih h2 h
theorem lk_ext {l m : List α} (hl : Srt key l) (hm : Srt key m) (h : ∀ k, lk key l k = lk key m k) : l = m := by
  induction l generalizing m with
  | nil =>
    cases m with
    | nil => rfl
    | cons b m => have := h (key b); simp [lk_cons, lk_nil] at this
  | cons a l ih =>
    obtain ⟨h1, h2⟩ := List.pairwise_cons.1 hl
    cases m with
    | nil => have := h (key a); simp [lk_cons, lk_nil] at this
    | cons b m =>
      obtain ⟨h3, h4⟩ := List.pairwise_cons.1 hm
      have hab : key a = key b := by
        rcases Int.lt_trichotomy (key a) (key b) with hlt | he | hgt
        · have := h (key a)
          rw [lk_cons, if_pos rfl, lk_cons, if_neg (by omega), lk_none key (fun c hc => by have := h3 c hc; omega)] at this
          cases this
        · exact he
        · have := h (key b)
          rw [lk_cons, lk_cons, if_pos rfl, if_neg (by omega), lk_none key (fun c hc => by have := h1 c hc; omega)] at this
          cases this
      have e := h (key a)
      rw [lk_cons, if_pos rfl, lk_cons, if_pos hab.symm] at e
      injection e with e
      subst e
      congr 1
      refine ih h2 h4 fun k => ?_
      have := h k
      rw [lk_cons, lk_cons] at this
      by_cases hk : key a = k
      · rw [lk_none key (fun c hc => by have := h1 c hc; omega), lk_none key (fun c hc => by have := h3 c hc; omega)]
      · rw [if_neg hk, if_neg hk] at this; exact this
theorem Srt.nil : Srt key ([] : List α) := List.Pairwise.nil
theorem srt_cons {a : α} {l : List α} : Srt key (a :: l) ↔ (∀ b ∈ l, key a < key b) ∧ Srt key l := List.pairwise_cons
theorem srt_append {l m : List α} : Srt key (l ++ m) ↔ Srt key l ∧ Srt key m ∧ ∀ a ∈ l, ∀ b ∈ m, key a < key b := List.pairwise_append
theorem Srt.filter {l : List α} (h : Srt key l) (p : α → Bool) : Srt key (l.filter p) := List.Pairwise.filter p h
theorem lk_filter {l : List α} (hs : Srt key l) (p : α → Bool) (k : Int) : lk key (l.filter p) k = (lk key l k).filter p := by
  induction l with
  | nil => rfl
  | cons a l ih =>
    obtain ⟨h1, h2⟩ := (srt_cons key).1 hs
    rw [lk_cons]
    by_cases hk : key a = k
    · rw [if_pos hk]
      by_cases hp : p a = true
      · rw [List.filter_cons_of_pos hp, lk_cons, if_pos hk]; simp [Option.filter, hp]
      · rw [List.filter_cons_of_neg hp, lk_none key (fun c hc => by have := h1 c (List.mem_filter.1 hc).1; omega)]; simp [Option.filter, hp]
    · rw [if_neg hk, ← ih h2]
      by_cases hp : p a = true
      · rw [List.filter_cons_of_pos hp, lk_cons, if_neg hk]
      · rw [List.filter_cons_of_neg hp]
end

theorem rise_srt {α : Type} (key : α → Int) (l : List α) : rise (l.map key) = true ↔ Srt key l := by
  induction l with
  | nil => simp [rise, Srt]
  | cons a l ih =>
    rw [srt_cons, ← ih]
    constructor
    · intro h
      refine ⟨fun b hb => rise_head h _ (List.mem_map.2 ⟨b, hb, rfl⟩), rise_tail h⟩
    · rintro ⟨h1, h2⟩
      cases l with
      | nil => rfl
      | cons b l =>
        simp only [List.map_cons, rise, Bool.and_eq_true, decide_eq_true_eq]
        exact ⟨h1 b (by simp), h2⟩
theorem riseA_srt {l : List At} : riseA l = true ↔ Srt At.key l := rise_srt At.key l
theorem riseC_srt {l : List Ch} : riseC l = true ↔ Srt Ch.key l := rise_srt Ch.key l
/-- a list by rising keys, cut at a key -/
theorem cut_lt {α : Type} (key : α → Int) {l : List α} (hs : Srt key l) (c : Int) :
    (∀ a ∈ l.takeWhile (fun a => decide (key a < c)), key a < c) ∧ (∀ a ∈ l.dropWhile (fun a => decide (key a < c)), c ≤ key a) := by
  induction l with
  | nil => simp
  | cons a l ih =>
    obtain ⟨h1, h2⟩ := (srt_cons key).1 hs
    by_cases h : key a < c
    · simp only [List.takeWhile_cons, List.dropWhile_cons, h, decide_true, if_true]
      refine ⟨fun b hb => ?_, (ih h2).2⟩
      rcases List.mem_cons.1 hb with rfl | hb
      · exact h
      · exact (ih h2).1 b hb
    · simp only [List.takeWhile_cons, List.dropWhile_cons, h, decide_false, Bool.false_eq_true, if_false]
      refine ⟨fun b hb => by simp at hb, fun b hb => ?_⟩
      rcases List.mem_cons.1 hb with rfl | hb
      · omega
      · have := h1 b hb; omega
theorem cut_le {α : Type} (key : α → Int) {l : List α} (hs : Srt key l) (c : Int) :
    (∀ a ∈ l.takeWhile (fun a => decide (key a ≤ c)), key a ≤ c) ∧ (∀ a ∈ l.dropWhile (fun a => decide (key a ≤ c)), c < key a) := by
  induction l with
  | nil => simp
  | cons a l ih =>
    obtain ⟨h1, h2⟩ := (srt_cons key).1 hs
    by_cases h : key a ≤ c
    · simp only [List.takeWhile_cons, List.dropWhile_cons, h, decide_true, if_true]
      refine ⟨fun b hb => ?_, (ih h2).2⟩
      rcases List.mem_cons.1 hb with rfl | hb
      · exact h
      · exact (ih h2).1 b hb
    · simp only [List.takeWhile_cons, List.dropWhile_cons, h, decide_false, Bool.false_eq_true, if_false]
      refine ⟨fun b hb => by simp at hb, fun b hb => ?_⟩
      rcases List.mem_cons.1 hb with rfl | hb
      · omega
      · have := h1 b hb; omega
theorem srt_tw {α : Type} (key : α → Int) {l : List α} (hs : Srt key l) (p : α → Bool) : Srt key (l.takeWhile p) := hs.sublist (List.takeWhile_sublist p)
theorem srt_dw {α : Type} (key : α → Int) {l : List α} (hs : Srt key l) (p : α → Bool) : Srt key (l.dropWhile p) := hs.sublist (List.dropWhile_sublist p)
theorem drop1_gt {l : List At} (hs : Srt At.key l) {c : Int} (h : ∀ a ∈ l, c ≤ a.key) : Srt At.key (drop1 c l) ∧ (∀ a ∈ drop1 c l, c < a.key) ∧ ∀ k, c < k → lk At.key (drop1 c l) k = lk At.key l k := by
  cases l with
  | nil => exact ⟨hs, by simp [drop1], fun _ _ => rfl⟩
  | cons a l =>
    obtain ⟨h1, h2⟩ := (srt_cons At.key).1 hs
    have hd : drop1 c (a :: l) = if a.key = c then l else a :: l := rfl
    rw [hd]
    by_cases he : a.key = c
    · rw [if_pos he]
      exact ⟨h2, fun b hb => by have := h1 b hb; omega, fun k hk => by rw [lk_cons, if_neg (by omega)]⟩
    · rw [if_neg he]
      refine ⟨hs, fun b hb => ?_, fun _ _ => rfl⟩
      have ha := h a (by simp)
      rcases List.mem_cons.1 hb with rfl | hb
      · omega
      · have := h1 b hb; omega

/-- what a patch makes of what is looked up -/
def lkApply (c : Option Ch) (x : Option At) : Option At :=
  match c with
  | some c => if c.gone = true then none else some ⟨c.key, c.v⟩
  | none => x
theorem mem_put1 {c : Ch} {a : At} (h : a ∈ put1 c) : a.key = c.key := by
  unfold put1 at h
  split at h
  · simp at h
  · simp at h; rw [h]
theorem apply_all {p : List Ch} (hp : Srt Ch.key p) : ∀ {s : List At}, Srt At.key s →
    Srt At.key (applyP p s) ∧ (∀ k, lk At.key (applyP p s) k = lkApply (lk Ch.key p k) (lk At.key s k)) ∧ (∀ m : Int, (∀ c ∈ p, m < c.key) → (∀ a ∈ s, m < a.key) → ∀ a ∈ applyP p s, m < a.key) ∧ (applyP p s).length ≤ p.length + s.length := by
  induction p with
  | nil => intro s hs; exact ⟨hs, fun k => rfl, fun m _ h a ha => h a ha, by simp [applyP]⟩
  | cons c p ih =>
    intro s hs
    obtain ⟨h1, h2⟩ := (srt_cons Ch.key).1 hp
    obtain ⟨t1, t2⟩ := cut_lt At.key hs c.key
    have hts := srt_tw At.key hs (fun a => decide (a.key < c.key))
    have hds := srt_dw At.key hs (fun a => decide (a.key < c.key))
    have e : applyP (c :: p) s = s.takeWhile (fun a => decide (a.key < c.key)) ++ (put1 c ++ applyP p (drop1 c.key (s.dropWhile (fun a => decide (a.key < c.key))))) := rfl
    have happ : s.takeWhile (fun a => decide (a.key < c.key)) ++ s.dropWhile (fun a => decide (a.key < c.key)) = s := List.takeWhile_append_dropWhile
    have hlen : (s.takeWhile (fun a => decide (a.key < c.key))).length + (s.dropWhile (fun a => decide (a.key < c.key))).length = s.length := by rw [← List.length_append, happ]
    have hlk : ∀ k, lk At.key s k = (lk At.key (s.takeWhile (fun a => decide (a.key < c.key))) k).or (lk At.key (s.dropWhile (fun a => decide (a.key < c.key))) k) := fun k => by rw [← lk_append, happ]
    have hmt : ∀ a ∈ s.takeWhile (fun a => decide (a.key < c.key)), a ∈ s := fun a ha => (List.takeWhile_sublist _).subset ha
    have hmd : ∀ a ∈ s.dropWhile (fun a => decide (a.key < c.key)), a ∈ s := fun a ha => (List.dropWhile_sublist _).subset ha
    generalize s.takeWhile (fun a => decide (a.key < c.key)) = tw at *
    generalize s.dropWhile (fun a => decide (a.key < c.key)) = dw at *
    obtain ⟨d1, d2, d3⟩ := drop1_gt hds t2
    have hdl : (drop1 c.key dw).length ≤ dw.length := by
      unfold drop1; split
      · simp
      · split <;> simp
    have hdm : ∀ a ∈ drop1 c.key dw, a ∈ dw := by
      unfold drop1; split
      · simp
      · intro a ha; split at ha
        · exact List.mem_cons_of_mem _ ha
        · exact ha
    obtain ⟨i1, i2, i3, i4⟩ := ih h2 d1
    rw [e]
    have hput : ∀ a ∈ put1 c, a.key = c.key := fun a ha => mem_put1 ha
    have hpl : (put1 c).length ≤ 1 := by unfold put1; split <;> simp
    have hrest : ∀ a ∈ applyP p (drop1 c.key dw), c.key < a.key := i3 c.key h1 d2
    refine ⟨?_, fun k => ?_, fun m hm1 hm2 a ha => ?_, ?_⟩
    · rw [srt_append, srt_append]
      refine ⟨hts, ⟨?_, i1, fun a ha b hb => ?_⟩, fun a ha b hb => ?_⟩
      · unfold put1; split
        · exact Srt.nil _
        · rw [srt_cons]; exact ⟨by simp, Srt.nil _⟩
      · rw [hput a ha]; exact hrest b hb
      · have := t1 a ha
        rcases List.mem_append.1 hb with hb | hb
        · rw [hput b hb]; exact this
        · have := hrest b hb; omega
    · rw [lk_append, lk_append, hlk, lk_cons]
      rcases Int.lt_trichotomy k c.key with hlt | rfl | hgt
      · rw [if_neg (by omega), lk_none Ch.key (fun d hd => by have := h1 d hd; omega), lk_none At.key (l := put1 c) (fun d hd => by have := hput d hd; omega), lk_none At.key (l := applyP p (drop1 c.key dw)) (fun d hd => by have := hrest d hd; omega),
          lk_none At.key (l := dw) (fun d hd => by have := t2 d hd; omega)]
        rfl
      · rw [if_pos rfl, lk_none At.key (l := tw) (fun d hd => by have := t1 d hd; omega), lk_none At.key (l := applyP p (drop1 c.key dw)) (fun d hd => by have := hrest d hd; omega)]
        unfold put1 lkApply
        by_cases hg : c.gone = true
        · simp [hg, lk_nil]
        · simp [hg, lk_cons]
      · rw [if_neg (by omega), lk_none At.key (l := tw) (fun d hd => by have := t1 d hd; omega), lk_none At.key (l := put1 c) (fun d hd => by have := hput d hd; omega), i2, d3 k hgt]
        rfl
    · rcases List.mem_append.1 ha with ha | ha
      · exact hm2 a (hmt a ha)
      · rcases List.mem_append.1 ha with ha | ha
        · rw [hput a ha]; exact hm1 c (by simp)
        · have := hrest a ha; have := hm1 c (by simp); omega
    · simp only [List.length_append, List.length_cons]; omega

theorem compose_all {q : List Ch} (hq : Srt Ch.key q) : ∀ {p : List Ch}, Srt Ch.key p →
    Srt Ch.key (composeP p q) ∧ (∀ k, lk Ch.key (composeP p q) k = (lk Ch.key q k).or (lk Ch.key p k)) ∧ (∀ m : Int, (∀ c ∈ p, m < c.key) → (∀ c ∈ q, m < c.key) → ∀ c ∈ composeP p q, m < c.key) ∧ (composeP p q).length ≤ p.length + q.length := by
  induction q with
  | nil => intro p hp; rw [composeP_nil]; exact ⟨hp, fun k => by rw [lk_nil]; rfl, fun m h _ c hc => h c hc, by simp⟩
  | cons x q ih =>
    intro p hp
    obtain ⟨h1, h2⟩ := (srt_cons Ch.key).1 hq
    obtain ⟨t1, t2⟩ := cut_le Ch.key hp x.key
    have hts := srt_tw Ch.key hp (fun a => decide (a.key ≤ x.key))
    have hds := srt_dw Ch.key hp (fun a => decide (a.key ≤ x.key))
    have e : composeP p (x :: q) = (p.takeWhile (fun a => decide (a.key ≤ x.key))).filter (fun a => decide (a.key < x.key)) ++ x :: composeP (p.dropWhile (fun a => decide (a.key ≤ x.key))) q := by rw [composeP_cons]; rfl
    have happ : p.takeWhile (fun a => decide (a.key ≤ x.key)) ++ p.dropWhile (fun a => decide (a.key ≤ x.key)) = p := List.takeWhile_append_dropWhile
    have hlen : (p.takeWhile (fun a => decide (a.key ≤ x.key))).length + (p.dropWhile (fun a => decide (a.key ≤ x.key))).length = p.length := by rw [← List.length_append, happ]
    have hlk : ∀ k, lk Ch.key p k = (lk Ch.key (p.takeWhile (fun a => decide (a.key ≤ x.key))) k).or (lk Ch.key (p.dropWhile (fun a => decide (a.key ≤ x.key))) k) := fun k => by rw [← lk_append, happ]
    have hmt : ∀ c ∈ p.takeWhile (fun a => decide (a.key ≤ x.key)), c ∈ p := fun c hc => (List.takeWhile_sublist _).subset hc
    generalize p.takeWhile (fun a => decide (a.key ≤ x.key)) = tw at *
    generalize p.dropWhile (fun a => decide (a.key ≤ x.key)) = dw at *
    rw [e]
    obtain ⟨j1, j2, j3, j4⟩ := ih h2 hds
    have j5 := j3 x.key t2 h1
    have hf := hts.filter Ch.key (fun a => decide (a.key < x.key))
    have hfl := lk_filter Ch.key hts (fun a => decide (a.key < x.key))
    have hfm : ∀ c ∈ tw.filter (fun a => decide (a.key < x.key)), c ∈ tw ∧ c.key < x.key := fun c hc => by have := List.mem_filter.1 hc; simpa using this
    have hfn : (tw.filter (fun a => decide (a.key < x.key))).length ≤ tw.length := List.length_filter_le _ _
    generalize tw.filter (fun a => decide (a.key < x.key)) = ft at *
    refine ⟨?_, fun k => ?_, fun m hm1 hm2 c hc => ?_, ?_⟩
    · rw [srt_append, srt_cons]
      refine ⟨hf, ⟨j5, j1⟩, fun a ha b hb => ?_⟩
      have := (hfm a ha).2
      rcases List.mem_cons.1 hb with rfl | hb
      · exact this
      · have := j5 b hb; omega
    · rw [lk_append, lk_cons, hfl, hlk, lk_cons Ch.key x]
      rcases Int.lt_trichotomy k x.key with hlt | rfl | hgt
      · rw [if_neg (by omega), if_neg (by omega), lk_none Ch.key (l := composeP dw q) (fun d hd => by have := j5 d hd; omega), lk_none Ch.key (l := q) (fun d hd => by have := h1 d hd; omega), lk_none Ch.key (l := dw) (fun d hd => by have := t2 d hd; omega)]
        cases hl : lk Ch.key tw k with
        | none => rfl
        | some d =>
          have := lk_key Ch.key hl
          have hd : d.key < x.key := by omega
          simp [Option.filter, hd]
      · rw [if_pos rfl, if_pos rfl]
        cases hl : lk Ch.key tw x.key with
        | none => rfl
        | some d =>
          have := lk_key Ch.key hl
          have hd : ¬ d.key < x.key := by omega
          simp [Option.filter, hd]
      · rw [if_neg (by omega), if_neg (by omega), j2, lk_none Ch.key (l := tw) (fun d hd => by have := t1 d hd; omega)]
        rfl
    · rcases List.mem_append.1 hc with hc | hc
      · exact hm1 c (hmt c (hfm c hc).1)
      · rcases List.mem_cons.1 hc with rfl | hc
        · exact hm2 _ (by simp)
        · have := j5 c hc; have := hm2 x (by simp); omega
    · simp only [List.length_append, List.length_cons]; omega

section
variable {a b : List At} {p q r : List Ch}
end
end Go.Proofs.YtbdkbfoplpociaaGreatDoor
namespace Go.Proofs.YtbdkbfoplpociaaGreatDoor

/-- is a key there, and of the kind? -/
def keepK (l : List Ky) (b : Bool) (id : Int) : Bool :=
  match findK l id with
  | none => false
  | some k => k.block == b
/-- the changes of block keys, or of inline ones -/
def partP (l : List Ky) (b : Bool) (p : List Ch) : List Ch := p.filter (fun c => keepK l b c.key)
end Go.Proofs.YtbdkbfoplpociaaGreatDoor
namespace Go.Proofs.YtbdkbfoplpociaaGreatDoor
open Go.RowKit
set_option linter.unusedVariables false
set_option linter.unusedSimpArgs false

theorem findK_drop {l : List Ky} {m : Nat} {x : Ky} {id : Int} {R : Option Ky} (hd : l.drop m = x :: l.drop (m + 1)) (h : findK (l.drop m) id = R) (hx : x.id ≠ id) : findK (l.drop (m + 1)) id = R := by
  rw [hd] at h
  rw [← h]
  simp [findK, hx]
theorem findK_hit {l : List Ky} {m : Nat} {x : Ky} {id : Int} {R : Option Ky} (hd : l.drop m = x :: l.drop (m + 1)) (h : findK (l.drop m) id = R) (hx : x.id = id) : R = some x := by
  rw [hd] at h
  rw [← h]
  simp [findK, hx]
theorem findK_end {l : List Ky} {m : Nat} {id : Int} {R : Option Ky} (hm : l.length ≤ m) (h : findK (l.drop m) id = R) : R = none := by
  rw [List.drop_eq_nil_of_le hm] at h
  rw [← h]
  rfl

set_option maxRecDepth 100000 in
set_option maxHeartbeats 800000 in
theorem findR_any (A : Option Addr) (n c : Nat) (l : List Ky) (id : Int) (w : World) (hn : n = l.length) (h : RdKy w w.heap.size A l) (hb : n ≤ 140737488355328) :
    Calls Tryz.prog 168 #[.slice A n c, .int .i64 id] w (FindOutK l id w) := by
  have N := Lib.hid hn
  generalize hR : findK l id = R
  have HR := Lib.hid hR
  clear hn hR
  unfold FindOutK
  rw [HR.out]
  have y0 := ext_alloc w (.cells #[.int .i64 0, .bool false, .int .u8 0, .bool false, .bool false, .int .i64 0] 112)
  have HB := Lib.hid (heap_alloc_new w (.cells #[.int .i64 0, .bool false, .int .u8 0, .bool false, .bool false, .int .i64 0] 112))
  go_enter Tryz.func168, Tryz.ntmps168
  go_wp2_with (fail)
  go_loopg [6] n (fun g iv wr => ∃ m : Nat, m ≤ n ∧ g = n - m ∧ iv = .int .i64 (m : Int) ∧ wr = w.alloc (.cells #[.int .i64 0, .bool false, .int .u8 0, .bool false, .bool false, .int .i64 0] 112) ∧ Hid (findK (l.drop m) id = R))
  case atStart => exact ⟨0, by omega, rfl, rfl, rfl, Lib.hid (by rw [List.drop_zero]; exact HR.out)⟩
  case round =>
    obtain ⟨m, hm, hg, rfl, rfl, HI⟩ := hrel
    have HG := Lib.hid hg
    clear hg HR
    by_cases hlt : m < n
    · have hl1 : m < l.length := by have := N.out; omega
      obtain ⟨ad, x, rfl, had, hd1, _, hc0⟩ := h.el hl1
      have hc1 := hc0.keep (w' := w.alloc (.cells #[.int .i64 0, .bool false, .int .u8 0, .bool false, .bool false, .int .i64 0] 112)) (fun q hq => World.cell?_alloc_lt w _ q (by rw [hq, add_block]; exact had))
      have HD := Lib.hid hd1
      obtain ⟨x1, x2, x3, x4, x5, x6⟩ := x
      obtain ⟨r0, r1, r2, r3, r4, r5⟩ := ky_cells hc1
      clear hc0 hc1 hd1
      have hw2 : IntKind.i64.wrap ((m:Int) + 1) = (m : Int) + 1 := IntWalk.i64_in _ (by omega)
      obtain ⟨b0, b1, b2, b3, b4, b5⟩ := box_ky HB.out
      by_cases hle : x1 = id
      · subst hle
        go_wp2_with (fail)
        refine bodyPost_ret (v := .tuple #[.agg #[.int .i64 x1, .bool x2, .int .u8 x3, .bool x4, .bool x5, .int .i64 x6], .bool true]) (by simp [results, Tryz.results168, go_sem]) rfl ?_
        have hr := findK_hit HD.out HI.out rfl
        exact ⟨x1, x2, x3, x4, x5, x6, true, rfl, by rw [hr]; rfl, by rw [hr]; rfl, by first | exact ext_alloc w _ | trace_state⟩
      · go_wp2_with (fail)
        go_roundg (n - (m + 1))
        case measure => have := HG.out; omega
        case rel => exact ⟨m + 1, by omega, rfl, by go_num, rfl, Lib.hid (findK_drop HD.out HI.out hle)⟩
    · have HE := Lib.hid (findK_end (m := m) (by have := N.out; omega) HI.out)
      go_wp2_with (fail)
      refine bodyPost_ret (v := .tuple #[.agg #[.int .i64 0, .bool false, .int .u8 0, .bool false, .bool false, .int .i64 0], .bool false]) (by simp [results, Tryz.results168, go_sem]) rfl ?_
      exact ⟨0, false, 0, false, false, 0, false, rfl, by rw [HE.out]; rfl, by rw [HE.out]; rfl, by first | exact ext_alloc w _ | trace_state⟩

set_option maxHeartbeats 1600000 in
theorem fitsR_any (A : Option Addr) (nn cc : Nat) (l : List Ky) (id k n f : Int) (t : ByteArray) (w : World) (hn : nn = l.length) (h : RdKy w w.heap.size A l) (hb : nn ≤ 140737488355328) (h0 : 0 ≤ f) (h1 : f < 18446744073709551616) (hsz : t.size ≤ 100000000)
    (hT : Lib.Utf8Tabs 1 2 w) :
    Calls Tryz.prog 167 #[.slice A nn cc, .int .i64 id, .agg #[.int .u8 k, .int .i64 n, .int .u64 f, .string t]] w fun e w' => e = .returned (.bool (fitsK l id ⟨k, n, f, t⟩)) ∧ Below w.heap.size w w' := by
  obtain ⟨R, hR⟩ : ∃ X, fitsK l id ⟨k, n, f, t⟩ = X := ⟨_, rfl⟩
  obtain ⟨m, hm⟩ : ∃ X, mayV ⟨k, n, f, t⟩ = X := ⟨_, rfl⟩
  rw [hR]
  unfold fitsK at hR
  rw [hm] at hR
  have HR := Lib.hid hR
  have HMV := Lib.hid hm
  have HN := Lib.hid hn
  have y0 := ext_alloc w (.cells #[.int .u8 k, .int .i64 n, .int .u64 f, .string t] 43)
  have hv0 := heap_alloc_new w (.cells #[.int .u8 k, .int .i64 n, .int .u64 f, .string t] 43)
  have hs0 := h.ext y0
  have hT0 := Utf8Tabs_below hT y0
  clear hR hm h hn
  go_enter Tryz.func167, Tryz.ntmps167
  go_wp2_with (go_at_call 168; refine Hid.out ?_)
  refine Lib.hid ?_
  have H0 := Lib.hid hv0
  clear hv0
  generalize hw0 : w.alloc _ = w0 at *
  clear hw0
  refine (findR_any A nn cc l id w0 HN.out hs0 hb).mono ?_
  rintro e w1 ⟨i, c, kd, d, g, q, b, rfl, hk, hb, y1⟩
  have hv1 := (y1.block w.heap.size (lt_of_some H0.out)).trans H0.out
  have y1' := ext_trans y0 y1
  have y2 := ext_alloc w1 (.cells #[.int .i64 i, .bool c, .int .u8 kd, .bool d, .bool g, .int .i64 q] 112)
  have hk2 := heap_alloc_new w1 (.cells #[.int .i64 i, .bool c, .int .u8 kd, .bool d, .bool g, .int .i64 q] 112)
  have hv2 := (y2.block w.heap.size (lt_of_some hv1)).trans hv1
  have hT2 := Utf8Tabs_below hT0 (ext_trans y1 y2)
  have yy := ext_trans y1' y2
  obtain ⟨a0, a1, a2, a3⟩ := box_v hv2
  have HV2 := Lib.hid hv2
  have HK2 := Lib.hid hk2
  have HB := Lib.hid hb
  have HK := Lib.hid hk
  clear hv1 hv2 hk2 H0 hb hk hT hT0 hs0
  cases b with
  | false =>
    go_wp2_with (fail)
    go_ret
    refine ⟨ret_bool ?_, yy⟩
    have h := HR.out
    have hb := HB.out
    cases hq : findK l id with
    | none => rw [hq] at h; exact h
    | some k => rw [hq] at hb; simp at hb
  | true =>
    obtain ⟨K, hK⟩ : ∃ K, findK l id = some K := Option.isSome_iff_exists.1 HB.out
    have hR := HR.out
    have hk := HK.out
    rw [hK] at hR hk
    simp only [Option.getD_some] at hk
    subst hk
    simp only at hR
    have HR := Lib.hid hR
    clear hR
    go_wp2_with (go_at_call 166; refine Hid.out ?_)
    refine Lib.hid ?_
    refine (refMayV_any k n f t _ h0 h1 hsz hT2).mono ?_
    rintro e w3 ⟨rfl, y3⟩
    rw [HMV.out]
    have yy3 := below_at yy y3 rfl rfl rfl rfl
    obtain ⟨hv3, hk3⟩ := kept2 HV2.out HK2.out y3 rfl
    obtain ⟨a0, a1, a2, a3⟩ := box_v hv3
    obtain ⟨k0, k1, k2, k3, k4, k5⟩ := box_ky hk3
    clear hv3 hk3 y3
    cases m with
    | false =>
      go_wp2_with (fail)
      go_ret
      refine ⟨ret_bool ?_, yy3⟩
      rw [← HR.out]; simp
    | true =>
      go_wp2_with (fail)
      go_ret
      refine ⟨ret_bool ?_, yy3⟩
      rw [← HR.out, Bool.and_true]
      by_cases hq : kd = k
      · subst hq; simp
      · have hq' : ¬ k = kd := fun e => hq e.symm
        simp [hq, hq']

/-- keys that may be a schema's: behind those seen -/
def okPre (seen : List Ky) : List Ky → Bool
  | [] => true
  | k :: r => mayK k && (findK seen k.id).isNone && okPre (seen ++ [k]) r
def mayKs (l : List Ky) : Bool := decide (l.length ≤ 64) && okPre [] l
end Go.Proofs.YtbdkbfoplpociaaGreatDoor
