/- Merged texts: Find, PatchLaw, KeepK. -/
import Derived.Test.YtfnkjcodcoehcaaGreatDoorP2
import Derived.Test.YtfnkjcodcoehcaaGreatDoorP9
namespace Go.Proofs.YtfnkjcodcoehcaaGreatDoor
open Go.RowKit
set_option linter.unusedVariables false
set_option linter.unusedSimpArgs false

theorem rise_head {a : Int} {l : List Int} (h : rise (a :: l) = true) : ∀ b ∈ l, a < b := by
  induction l generalizing a with
  | nil => intro b hb; simp at hb
  | cons c l ih =>
    simp only [rise, Bool.and_eq_true, decide_eq_true_eq] at h
    intro b hb
    rcases List.mem_cons.1 hb with rfl | hb
    · exact h.1
    · have := ih h.2 b hb; omega
theorem rise_tail {a : Int} {l : List Int} (h : rise (a :: l) = true) : rise l = true := by
  cases l with
  | nil => rfl
  | cons c l => simp only [rise, Bool.and_eq_true] at h; exact h.2
theorem rise_lt {l : List At} (h : riseA l = true) : ∀ {x y : Nat} {a b : At}, x < y → l[x]? = some a → l[y]? = some b → a.key < b.key := by
  induction l with
  | nil => intro x y a b _ h1; simp at h1
  | cons c l ih =>
    intro x y a b hxy h1 h2
    have ht : riseA l = true := rise_tail (a := c.key) (l := l.map At.key) h
    cases y with
    | zero => omega
    | succ y =>
      cases x with
      | zero =>
        simp at h1 h2
        subst h1
        exact rise_head (a := c.key) (l := l.map At.key) h _ (List.mem_map.2 ⟨b, List.mem_of_getElem? h2, rfl⟩)
      | succ x => exact ih ht (Nat.lt_of_succ_lt_succ hxy) (by rw [List.getElem?_cons_succ] at h1; exact h1) (by rw [List.getElem?_cons_succ] at h2; exact h2)

def cmpI (a b : Int) : Int := if a < b then -1 else if b < a then 1 else 0

/-- what the halving knows: keys ahead of i are less, those from j on are not -/
def BsInv (l : List At) (key : Int) (i j : Nat) : Prop :=
  i ≤ j ∧ j ≤ l.length ∧ (riseA l = true → (∀ x a, x < i → l[x]? = some a → a.key < key) ∧ ∀ x a, j ≤ x → l[x]? = some a → key ≤ a.key)
def FindOut (l : List At) (key : Int) (i : Nat) (b : Bool) : Prop :=
  i ≤ l.length ∧ (b = true ↔ ∃ a, l[i]? = some a ∧ a.key = key) ∧ (riseA l = true → (∀ x a, x < i → l[x]? = some a → a.key < key) ∧ ∀ x a, i ≤ x → l[x]? = some a → key ≤ a.key)
theorem BsInv.up {l : List At} {key : Int} {i j h : Nat} {a : At} (v : BsInv l key i j) (h2 : h < j) (ha : l[h]? = some a) (hk : a.key < key) : BsInv l key (h + 1) j :=
  ⟨h2, v.2.1, fun r => ⟨fun x b hx hb => by
    rcases Nat.lt_or_ge x h with hlt | hge
    · have := rise_lt r hlt hb ha; omega
    · have : x = h := by omega
      subst this
      rw [ha] at hb; injection hb with hb; subst hb; exact hk, (v.2.2 r).2⟩⟩
theorem BsInv.down {l : List At} {key : Int} {i j h : Nat} {a : At} (v : BsInv l key i j) (h1 : i ≤ h) (h2 : h < j) (ha : l[h]? = some a) (hk : ¬ a.key < key) : BsInv l key i h :=
  ⟨h1, by have := v.2.1; omega, fun r => ⟨(v.2.2 r).1, fun x b hx hb => by
    rcases Nat.lt_or_ge h x with hlt | hge
    · have := rise_lt r hlt ha hb; omega
    · have : x = h := by omega
      subst this
      rw [ha] at hb; injection hb with hb; subst hb; omega⟩⟩
theorem BsInv.done {l : List At} {key : Int} {i j : Nat} {b : Bool} (v : BsInv l key i j) (hij : ¬ i < j) (hb : b = true ↔ ∃ a, l[i]? = some a ∧ a.key = key) : FindOut l key i b := by
  obtain ⟨h1, h2, h3⟩ := v
  have : i = j := by omega
  subst this
  exact ⟨h2, hb, h3⟩

set_option maxHeartbeats 400000 in
theorem cmpNaN_any (x : Int) (w : World) : Calls Tryz.prog 149 #[.int .i64 x] w fun e w' => e = .returned (.bool false) ∧ w = w' := by
  go_enter Tryz.func149, Tryz.ntmps149
  go_wp2
  go_ret
  exact ⟨by simp, rfl⟩

set_option maxHeartbeats 400000 in
theorem compare_any (x y : Int) (w : World) : Calls Tryz.prog 71 #[.int .i64 x, .int .i64 y] w fun e w' => e = .returned (.int .i64 (cmpI x y)) ∧ w = w' := by
  have hc : (x < y ∧ cmpI x y = -1) ∨ (¬ x < y ∧ y < x ∧ cmpI x y = 1) ∨ (¬ x < y ∧ ¬ y < x ∧ cmpI x y = 0) := by
    unfold cmpI
    by_cases h1 : x < y
    · simp [h1]
    · by_cases h2 : y < x <;> simp [h1, h2]
  rcases hc with ⟨h1, hc⟩ | ⟨h1, h2, hc⟩ | ⟨h1, h2, hc⟩
  all_goals
    have HC := Lib.hid hc
    clear hc
    go_enter Tryz.func71, Tryz.ntmps71
    go_wp2_with (go_at_call 149; refine (cmpNaN_any _ _).mono ?_; rintro e w' ⟨rfl, rfl⟩)
    go_ret
    exact ⟨ret_int HC.out.symm, rfl⟩

end Go.Proofs.YtfnkjcodcoehcaaGreatDoor
namespace Go.Proofs.YtfnkjcodcoehcaaGreatDoor
set_option linter.unusedVariables false
set_option linter.unusedSimpArgs false

section
variable {α : Type} (key : α → Int)
def lk (l : List α) (k : Int) : Option α := l.find? (fun a => decide (key a = k))
def Srt (l : List α) : Prop := l.Pairwise (fun a b => key a < key b)

theorem lk_nil (k : Int) : lk key [] k = none := rfl
theorem lk_cons (a : α) (l : List α) (k : Int) : lk key (a :: l) k = if key a = k then some a else lk key l k := by
  unfold lk
  by_cases h : key a = k <;> simp [h]
theorem lk_append (l m : List α) (k : Int) : lk key (l ++ m) k = (lk key l k).or (lk key m k) := by
  unfold lk
  rw [List.find?_append]
theorem lk_none {l : List α} {k : Int} (h : ∀ a ∈ l, key a ≠ k) : lk key l k = none := by
  unfold lk
  rw [List.find?_eq_none]
  intro a ha
  simpa using h a ha
theorem lk_key {l : List α} {k : Int} {a : α} (h : lk key l k = some a) : key a = k := by
  unfold lk at h
  have := List.find?_some h
  simpa using this
theorem lk_mem {l : List α} {k : Int} {a : α} (h : lk key l k = some a) : a ∈ l := by
  unfold lk at h
  exact List.mem_of_find?_eq_some h
theorem lk_of_mem {l : List α} (hs : Srt key l) {a : α} (h : a ∈ l) : lk key l (key a) = some a := by
  induction l with
  | nil => simp at h
  | cons b l ih =>
    rw [lk_cons]
    obtain ⟨h1, h2⟩ := List.pairwise_cons.1 hs
    rcases List.mem_cons.1 h with rfl | h
    · simp
    · have := h1 a h
      rw [if_neg (by omega)]
      exact ih h2 h
theorem lk_ext {l m : List α} (hl : Srt key l) (hm : Srt key m) (h : ∀ k, lk key l k = lk key m k) : l = m := by
  induction l generalizing m with
  | nil =>
    cases m with
    | nil => rfl
    | cons b m => have := h (key b); simp [lk_cons, lk_nil] at this
  | cons a l ih =>
    obtain ⟨h1, h2⟩ := List.pairwise_cons.1 hl
    cases m with
    | nil => have := h (key a); simp [lk_cons, lk_nil] at this
    | cons b m =>
      obtain ⟨h3, h4⟩ := List.pairwise_cons.1 hm
      have hab : key a = key b := by
        rcases Int.lt_trichotomy (key a) (key b) with hlt | he | hgt
        · have := h (key a)
          rw [lk_cons, if_pos rfl, lk_cons, if_neg (by omega), lk_none key (fun c hc => by have := h3 c hc; omega)] at this
          cases this
        · exact he
        · have := h (key b)
          rw [lk_cons, lk_cons, if_pos rfl, if_neg (by omega), lk_none key (fun c hc => by have := h1 c hc; omega)] at this
          cases this
      have e := h (key a)
      rw [lk_cons, if_pos rfl, lk_cons, if_pos hab.symm] at e
      injection e with e
      subst e
      congr 1
      refine ih h2 h4 fun k => ?_
      have := h k
      rw [lk_cons, lk_cons] at this
      by_cases hk : key a = k
      · rw [lk_none key (fun c hc => by have := h1 c hc; omega), lk_none key (fun c hc => by have := h3 c hc; omega)]
      · rw [if_neg hk, if_neg hk] at this; exact this
theorem Srt.nil : Srt key ([] : List α) := List.Pairwise.nil
theorem srt_cons {a : α} {l : List α} : Srt key (a :: l) ↔ (∀ b ∈ l, key a < key b) ∧ Srt key l := List.pairwise_cons
theorem srt_append {l m : List α} : Srt key (l ++ m) ↔ Srt key l ∧ Srt key m ∧ ∀ a ∈ l, ∀ b ∈ m, key a < key b := List.pairwise_append
theorem Srt.filter {l : List α} (h : Srt key l) (p : α → Bool) : Srt key (l.filter p) := List.Pairwise.filter p h
theorem lk_filter {l : List α} (hs : Srt key l) (p : α → Bool) (k : Int) : lk key (l.filter p) k = (lk key l k).filter p := by
  induction l with
  | nil => rfl
  | cons a l ih =>
    obtain ⟨h1, h2⟩ := (srt_cons key).1 hs
    rw [lk_cons]
    by_cases hk : key a = k
    · rw [if_pos hk]
      by_cases hp : p a = true
      · rw [List.filter_cons_of_pos hp, lk_cons, if_pos hk]; simp [Option.filter, hp]
      · rw [List.filter_cons_of_neg hp, lk_none key (fun c hc => by have := h1 c (List.mem_filter.1 hc).1; omega)]; simp [Option.filter, hp]
    · rw [if_neg hk, ← ih h2]
      by_cases hp : p a = true
      · rw [List.filter_cons_of_pos hp, lk_cons, if_neg hk]
      · rw [List.filter_cons_of_neg hp]
end

theorem rise_srt {α : Type} (key : α → Int) (l : List α) : rise (l.map key) = true ↔ Srt key l := by
  induction l with
  | nil => simp [rise, Srt]
  | cons a l ih =>
    rw [srt_cons, ← ih]
    constructor
    · intro h
      refine ⟨fun b hb => rise_head h _ (List.mem_map.2 ⟨b, hb, rfl⟩), rise_tail h⟩
    · rintro ⟨h1, h2⟩
      cases l with
      | nil => rfl
      | cons b l =>
        simp only [List.map_cons, rise, Bool.and_eq_true, decide_eq_true_eq]
        exact ⟨h1 b (by simp), h2⟩
theorem riseA_srt {l : List At} : riseA l = true ↔ Srt At.key l := rise_srt At.key l
theorem getA_lk (l : List At) (k : Int) : getA l k = (lk At.key l k).map (·.v) := rfl

/-- a list by rising keys, cut at a key -/
theorem cut_lt {α : Type} (key : α → Int) {l : List α} (hs : Srt key l) (c : Int) :
    (∀ a ∈ l.takeWhile (fun a => decide (key a < c)), key a < c) ∧ (∀ a ∈ l.dropWhile (fun a => decide (key a < c)), c ≤ key a) := by
  induction l with
  | nil => simp
  | cons a l ih =>
    obtain ⟨h1, h2⟩ := (srt_cons key).1 hs
    by_cases h : key a < c
    · simp only [List.takeWhile_cons, List.dropWhile_cons, h, decide_true, if_true]
      refine ⟨fun b hb => ?_, (ih h2).2⟩
      rcases List.mem_cons.1 hb with rfl | hb
      · exact h
      · exact (ih h2).1 b hb
    · simp only [List.takeWhile_cons, List.dropWhile_cons, h, decide_false, Bool.false_eq_true, if_false]
      refine ⟨fun b hb => by simp at hb, fun b hb => ?_⟩
      rcases List.mem_cons.1 hb with rfl | hb
      · omega
      · have := h1 b hb; omega
theorem srt_tw {α : Type} (key : α → Int) {l : List α} (hs : Srt key l) (p : α → Bool) : Srt key (l.takeWhile p) := hs.sublist (List.takeWhile_sublist p)
theorem srt_dw {α : Type} (key : α → Int) {l : List α} (hs : Srt key l) (p : α → Bool) : Srt key (l.dropWhile p) := hs.sublist (List.dropWhile_sublist p)
def lkDiff (x y : Option At) : Option Ch :=
  match x, y with
  | none, none => none
  | some x, none => some (goneC x)
  | none, some y => some (chg y)
  | some x, some y => if x.v = y.v then none else some (chg y)
theorem lk_map_gone (l : List At) (k : Int) : lk Ch.key (l.map goneC) k = (lk At.key l k).map goneC := by
  induction l with
  | nil => rfl
  | cons a l ih =>
    rw [List.map_cons, lk_cons, lk_cons, ih]
    by_cases h : a.key = k <;> simp [h, goneC]
theorem diff_all {b : List At} (hb : Srt At.key b) : ∀ {a : List At}, Srt At.key a →
    Srt Ch.key (diffP a b) ∧ (∀ k, lk Ch.key (diffP a b) k = lkDiff (lk At.key a k) (lk At.key b k)) ∧ (∀ m : Int, (∀ c ∈ a, m < c.key) → (∀ c ∈ b, m < c.key) → ∀ c ∈ diffP a b, m < c.key) ∧ (diffP a b).length ≤ a.length + b.length := by
  induction b with
  | nil =>
    intro a ha
    rw [diffP_nil]
    refine ⟨?_, fun k => ?_, fun m h _ c hc => ?_, by simp⟩
    · exact List.Pairwise.map _ (fun x y h => h) ha
    · rw [lk_map_gone, lk_nil]; cases lk At.key a k <;> rfl
    · obtain ⟨x, hx, rfl⟩ := List.mem_map.1 hc; exact h x hx
  | cons x b ih =>
    intro a ha
    obtain ⟨h1, h2⟩ := (srt_cons At.key).1 hb
    obtain ⟨t1, t2⟩ := cut_lt At.key ha x.key
    have hts := srt_tw At.key ha (fun a => decide (a.key < x.key))
    have hds := srt_dw At.key ha (fun a => decide (a.key < x.key))
    have e : diffP a (x :: b) = (a.takeWhile (fun y => decide (y.key < x.key))).map goneC ++ diffMid (fun r => diffP r b) x (a.dropWhile (fun y => decide (y.key < x.key))) := by rw [diffP_cons]; rfl
    have happ : a.takeWhile (fun a => decide (a.key < x.key)) ++ a.dropWhile (fun a => decide (a.key < x.key)) = a := List.takeWhile_append_dropWhile
    have hlen : (a.takeWhile (fun a => decide (a.key < x.key))).length + (a.dropWhile (fun a => decide (a.key < x.key))).length = a.length := by rw [← List.length_append, happ]
    have hlk : ∀ k, lk At.key a k = (lk At.key (a.takeWhile (fun a => decide (a.key < x.key))) k).or (lk At.key (a.dropWhile (fun a => decide (a.key < x.key))) k) := fun k => by rw [← lk_append, happ]
    have hmt : ∀ c ∈ a.takeWhile (fun a => decide (a.key < x.key)), c ∈ a := fun c hc => (List.takeWhile_sublist _).subset hc
    have hmd : ∀ c ∈ a.dropWhile (fun a => decide (a.key < x.key)), c ∈ a := fun c hc => (List.dropWhile_sublist _).subset hc
    generalize a.takeWhile (fun a => decide (a.key < x.key)) = tw at *
    generalize a.dropWhile (fun a => decide (a.key < x.key)) = dw at *
    -- the middle: a row by rising keys from x on, that looks up as it should
    have hmid : Srt Ch.key (diffMid (fun r => diffP r b) x dw) ∧ (∀ k, x.key ≤ k → lk Ch.key (diffMid (fun r => diffP r b) x dw) k = lkDiff (lk At.key dw k) (lk At.key (x :: b) k)) ∧
        (∀ c ∈ diffMid (fun r => diffP r b) x dw, x.key ≤ c.key) ∧ (diffMid (fun r => diffP r b) x dw).length ≤ dw.length + b.length + 1 := by
      have put : ∀ {r : List At}, Srt At.key r → (∀ c ∈ r, x.key < c.key) → Srt Ch.key (chg x :: diffP r b) ∧ (∀ c ∈ chg x :: diffP r b, x.key ≤ c.key) ∧ (chg x :: diffP r b).length ≤ r.length + b.length + 1 ∧
          (∀ k, x.key < k → lk Ch.key (chg x :: diffP r b) k = lkDiff (lk At.key r k) (lk At.key b k)) ∧ lk Ch.key (chg x :: diffP r b) x.key = some (chg x) := by
        intro r hr hgt
        obtain ⟨j1, j2, j3, j4⟩ := ih h2 hr
        have j5 := j3 x.key hgt h1
        refine ⟨?_, fun c hc => ?_, by simp; omega, fun k hk => ?_, ?_⟩
        · rw [srt_cons]; exact ⟨j5, j1⟩
        · rcases List.mem_cons.1 hc with rfl | hc
          · exact Int.le_refl _
          · have := j5 c hc; omega
        · rw [lk_cons, if_neg (by show ¬ x.key = k; omega), j2]
        · rw [lk_cons, if_pos (by rfl)]
      cases dw with
      | nil =>
        obtain ⟨p1, p2, p3, p4, p5⟩ := put (r := []) (Srt.nil _) (by simp)
        refine ⟨p1, fun k hk => ?_, p2, by show (chg x :: diffP [] b).length ≤ _; simp at p3 ⊢; omega⟩
        rcases Int.lt_or_eq_of_le hk with hlt | rfl
        · show lk Ch.key (chg x :: diffP [] b) k = _
          rw [p4 k hlt, lk_cons At.key x, if_neg (by omega)]
        · show lk Ch.key (chg x :: diffP [] b) x.key = _
          rw [p5, lk_cons, if_pos rfl]; rfl
      | cons y t =>
        obtain ⟨g1, g2⟩ := (srt_cons At.key).1 hds
        by_cases hk : y.key = x.key
        · have hgt : ∀ c ∈ t, x.key < c.key := fun c hc => by have := g1 c hc; omega
          by_cases hv : y.v = x.v
          · have ee : diffMid (fun r => diffP r b) x (y :: t) = diffP t b := by simp [diffMid, hk, hv]
            rw [ee]
            obtain ⟨j1, j2, j3, j4⟩ := ih h2 g2
            have j5 := j3 x.key hgt h1
            refine ⟨j1, fun k hk' => ?_, fun c hc => by have := j5 c hc; omega, by simp; omega⟩
            rcases Int.lt_or_eq_of_le hk' with hlt | rfl
            · rw [j2, lk_cons, if_neg (by omega), lk_cons, if_neg (by omega)]
            · rw [lk_none Ch.key (fun c hc => by have := j5 c hc; omega), lk_cons, if_pos hk, lk_cons, if_pos rfl]
              simp [lkDiff, hv]
          · have ee : diffMid (fun r => diffP r b) x (y :: t) = chg x :: diffP t b := by simp [diffMid, hk, hv]
            rw [ee]
            obtain ⟨p1, p2, p3, p4, p5⟩ := put g2 hgt
            refine ⟨p1, fun k hk' => ?_, p2, by simp at p3 ⊢; omega⟩
            rcases Int.lt_or_eq_of_le hk' with hlt | rfl
            · rw [p4 k hlt, lk_cons, if_neg (by omega), lk_cons, if_neg (by omega)]
            · rw [p5, lk_cons, if_pos hk, lk_cons, if_pos rfl]
              simp [lkDiff, hv]
        · have hgt : ∀ c ∈ y :: t, x.key < c.key := fun c hc => by
            have h0 := t2 y (by simp)
            rcases List.mem_cons.1 hc with rfl | hc
            · omega
            · have := g1 c hc; omega
          have ee : diffMid (fun r => diffP r b) x (y :: t) = chg x :: diffP (y :: t) b := by simp [diffMid, hk]
          rw [ee]
          obtain ⟨p1, p2, p3, p4, p5⟩ := put hds hgt
          refine ⟨p1, fun k hk' => ?_, p2, by simp at p3 ⊢; omega⟩
          rcases Int.lt_or_eq_of_le hk' with hlt | rfl
          · rw [p4 k hlt, lk_cons At.key x, if_neg (by omega)]
          · rw [p5, lk_none At.key (fun c hc => by have := hgt c hc; omega), lk_cons, if_pos rfl]; rfl
    rw [e]
    obtain ⟨m1, m2, m3, m4⟩ := hmid
    have hgo : ∀ c ∈ tw.map goneC, c.key < x.key := fun c hc => by obtain ⟨y, hy, rfl⟩ := List.mem_map.1 hc; exact t1 y hy
    refine ⟨?_, fun k => ?_, fun m hm1 hm2 c hc => ?_, ?_⟩
    · rw [srt_append]
      refine ⟨List.Pairwise.map _ (fun x y h => h) hts, m1, fun c hc d hd => ?_⟩
      have := hgo c hc
      have := m3 d hd
      omega
    · rw [lk_append, lk_map_gone, hlk]
      rcases Int.lt_or_le k x.key with hlt | hge
      · rw [lk_none Ch.key (fun c hc => by have := m3 c hc; omega), lk_none At.key (l := dw) (fun c hc => by have := t2 c hc; omega), lk_none At.key (l := x :: b) (fun c hc => by
          rcases List.mem_cons.1 hc with rfl | hc
          · omega
          · have := h1 c hc; omega)]
        cases lk At.key tw k <;> rfl
      · rw [lk_none At.key (l := tw) (fun c hc => by have := t1 c hc; omega), m2 k hge]
        rfl
    · rcases List.mem_append.1 hc with hc | hc
      · obtain ⟨y, hy, rfl⟩ := List.mem_map.1 hc; exact hm1 y (hmt y hy)
      · have := m3 c hc; have := hm2 x (by simp); omega
    · simp only [List.length_append, List.length_map, List.length_cons]; omega

section
variable {a b : List At} {p q r : List Ch}
theorem diff_len (ha : riseA a = true) (hb : riseA b = true) : (diffP a b).length ≤ a.length + b.length := by
  rw [riseA_srt] at ha hb
  exact (diff_all hb ha).2.2.2
end
end Go.Proofs.YtfnkjcodcoehcaaGreatDoor
namespace Go.Proofs.YtfnkjcodcoehcaaGreatDoor

/-- is a key there, and of the kind? -/
def keepK (l : List Ky) (b : Bool) (id : Int) : Bool :=
  match findK l id with
  | none => false
  | some k => k.block == b
/-- the changes of block keys, or of inline ones -/
def partP (l : List Ky) (b : Bool) (p : List Ch) : List Ch := p.filter (fun c => keepK l b c.key)
end Go.Proofs.YtfnkjcodcoehcaaGreatDoor
