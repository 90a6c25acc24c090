/- Merged texts: Find, PatchLaw. -/
import Derived.Test.YtipoeidmblnbbaaGreatDoorPk2
import Derived.Test.YtipoeidmblnbbaaGreatDoorPk7
/- The search of a key by halves: cmp.Compare, slices.BinarySearchFunc, attrs.find, attrs.Get. -/
namespace Go.Proofs.YtipoeidmblnbbaaGreatDoor
open Go.RowKit
set_option linter.unusedVariables false
set_option linter.unusedSimpArgs false

theorem rise_head {a : Int} {l : List Int} (h : rise (a :: l) = true) : ∀ b ∈ l, a < b := by
  induction l generalizing a with
  | nil => intro b hb; simp at hb
  | cons c l ih =>
    simp only [rise, Bool.and_eq_true, decide_eq_true_eq] at h
    intro b hb
    rcases List.mem_cons.1 hb with rfl | hb
    · exact h.1
    · have := ih h.2 b hb; omega
theorem rise_tail {a : Int} {l : List Int} (h : rise (a :: l) = true) : rise l = true := by
  cases l with
  | nil => rfl
  | cons c l => simp only [rise, Bool.and_eq_true] at h; exact h.2
theorem rise_lt {l : List At} (h : riseA l = true) : ∀ {x y : Nat} {a b : At}, x < y → l[x]? = some a → l[y]? = some b → a.key < b.key := by
  induction l with
  | nil => intro x y a b _ h1; simp at h1
  | cons c l ih =>
    intro x y a b hxy h1 h2
    have ht : riseA l = true := rise_tail (a := c.key) (l := l.map At.key) h
    cases y with
    | zero => omega
    | succ y =>
      cases x with
      | zero =>
        simp at h1 h2
        subst h1
        exact rise_head (a := c.key) (l := l.map At.key) h _ (List.mem_map.2 ⟨b, List.mem_of_getElem? h2, rfl⟩)
      | succ x => exact ih ht (Nat.lt_of_succ_lt_succ hxy) (by rw [List.getElem?_cons_succ] at h1; exact h1) (by rw [List.getElem?_cons_succ] at h2; exact h2)

def cmpI (a b : Int) : Int := if a < b then -1 else if b < a then 1 else 0

/-- what the halving knows: keys ahead of i are less, those from j on are not -/
def BsInv (l : List At) (key : Int) (i j : Nat) : Prop :=
  i ≤ j ∧ j ≤ l.length ∧ (riseA l = true → (∀ x a, x < i → l[x]? = some a → a.key < key) ∧ ∀ x a, j ≤ x → l[x]? = some a → key ≤ a.key)
def FindOut (l : List At) (key : Int) (i : Nat) (b : Bool) : Prop :=
  i ≤ l.length ∧ (b = true ↔ ∃ a, l[i]? = some a ∧ a.key = key) ∧ (riseA l = true → (∀ x a, x < i → l[x]? = some a → a.key < key) ∧ ∀ x a, i ≤ x → l[x]? = some a → key ≤ a.key)
theorem BsInv.start (l : List At) (key : Int) : BsInv l key 0 l.length :=
  ⟨Nat.zero_le _, Nat.le_refl _, fun _ => ⟨fun x a h => by omega, fun x a h h1 => by rw [List.getElem?_eq_none h] at h1; cases h1⟩⟩
theorem BsInv.up {l : List At} {key : Int} {i j h : Nat} {a : At} (v : BsInv l key i j) (h2 : h < j) (ha : l[h]? = some a) (hk : a.key < key) : BsInv l key (h + 1) j :=
  ⟨h2, v.2.1, fun r => ⟨fun x b hx hb => by
    rcases Nat.lt_or_ge x h with hlt | hge
    · have := rise_lt r hlt hb ha; omega
    · have : x = h := by omega
      subst this
      rw [ha] at hb; injection hb with hb; subst hb; exact hk, (v.2.2 r).2⟩⟩
theorem BsInv.down {l : List At} {key : Int} {i j h : Nat} {a : At} (v : BsInv l key i j) (h1 : i ≤ h) (h2 : h < j) (ha : l[h]? = some a) (hk : ¬ a.key < key) : BsInv l key i h :=
  ⟨h1, by have := v.2.1; omega, fun r => ⟨(v.2.2 r).1, fun x b hx hb => by
    rcases Nat.lt_or_ge h x with hlt | hge
    · have := rise_lt r hlt ha hb; omega
    · have : x = h := by omega
      subst this
      rw [ha] at hb; injection hb with hb; subst hb; omega⟩⟩
theorem BsInv.done {l : List At} {key : Int} {i j : Nat} {b : Bool} (v : BsInv l key i j) (hij : ¬ i < j) (hb : b = true ↔ ∃ a, l[i]? = some a ∧ a.key = key) : FindOut l key i b := by
  obtain ⟨h1, h2, h3⟩ := v
  have : i = j := by omega
  subst this
  exact ⟨h2, hb, h3⟩

set_option maxHeartbeats 400000 in
theorem cmpNaN_any (x : Int) (w : World) : Calls Tryz.prog 78 #[.int .i64 x] w fun e w' => e = .returned (.bool false) ∧ w = w' := by
  go_enter Tryz.func78, Tryz.ntmps78
  go_wp2
  go_ret
  exact ⟨by simp, rfl⟩

set_option maxHeartbeats 400000 in
theorem compare_any (x y : Int) (w : World) : Calls Tryz.prog 39 #[.int .i64 x, .int .i64 y] w fun e w' => e = .returned (.int .i64 (cmpI x y)) ∧ w = w' := by
  have hc : (x < y ∧ cmpI x y = -1) ∨ (¬ x < y ∧ y < x ∧ cmpI x y = 1) ∨ (¬ x < y ∧ ¬ y < x ∧ cmpI x y = 0) := by
    unfold cmpI
    by_cases h1 : x < y
    · simp [h1]
    · by_cases h2 : y < x <;> simp [h1, h2]
  rcases hc with ⟨h1, hc⟩ | ⟨h1, h2, hc⟩ | ⟨h1, h2, hc⟩
  all_goals
    have HC := Lib.hid hc
    clear hc
    go_enter Tryz.func39, Tryz.ntmps39
    go_wp2_with (go_at_call 78; refine (cmpNaN_any _ _).mono ?_; rintro e w' ⟨rfl, rfl⟩)
    go_ret
    exact ⟨ret_int HC.out.symm, rfl⟩

set_option maxHeartbeats 400000 in
theorem findCmp_any (k a n f key : Int) (s : ByteArray) (w : World) :
    Calls Tryz.prog 150 #[.agg #[.int .i64 k, .int .u8 a, .int .i64 n, .int .u64 f, .string s], .int .i64 key] w fun e w' => e = .returned (.int .i64 (cmpI k key)) ∧ Below w.heap.size w w' := by
  go_enter Tryz.func150, Tryz.ntmps150
  go_wp2_with (go_at_call 39; refine (compare_any _ _ _).mono ?_; rintro e w' ⟨rfl, rfl⟩)
  go_ret
  exact ⟨rfl, (Below.refl _ _).alloc (Nat.le_refl _) _⟩

set_option maxRecDepth 100000 in
set_option maxHeartbeats 400000 in
theorem bsearch_any (A : Option Addr) (n c : Nat) (l : List At) (key : Int) (w : World) (hn : n = l.length) (h : RdAt w w.heap.size A l) (hb : n ≤ 140737488355328) :
    Calls Tryz.prog 149 #[.slice A n c, .int .i64 key, .func (.func 150) #[] #[]] w fun e w' =>
      ∃ (i : Nat) (b : Bool), e = .returned (.tuple #[.int .i64 (i : Int), .bool b]) ∧ FindOut l key i b ∧ Below w.heap.size w w' := by
  have N := Lib.hid hn
  clear hn
  go_enter Tryz.func149, Tryz.ntmps149
  go_wp2_with (fail)
  go_loopg [9, 10] n (fun g iv jv wr => ∃ i j : Nat, g = j - i ∧ iv = .int .i64 (i : Int) ∧ jv = .int .i64 (j : Int) ∧ BsInv l key i j ∧ Below w.heap.size w wr)
  case atStart => exact ⟨0, n, rfl, rfl, rfl, by rw [N.out]; exact BsInv.start l key, Below.refl _ _⟩
  case round =>
    obtain ⟨i, j, hg, rfl, rfl, hinv, hbw⟩ := hrel
    have HG := Lib.hid hg
    clear hg
    have hij : i ≤ j := hinv.1
    have hjn : j ≤ n := by have := hinv.2.1; rw [N.out]; exact this
    by_cases hlt : i < j
    · have hm1 : i ≤ (i + j) / 2 := by omega
      have hm2 : (i + j) / 2 < j := by omega
      obtain ⟨ad, x, rfl, _, _, hx, hc1⟩ := (h.below hbw (Nat.le_refl _)).el (i := (i + j) / 2) (by have := N.out; omega)
      obtain ⟨x1, x2, x3, x4, x5⟩ := x
      obtain ⟨r0, r1, r2, r3, r4⟩ := at_cells hc1
      have HX := Lib.hid hx
      clear hx hc1
      by_cases hk : x1 < key
      · have hcmp : cmpI x1 key = -1 := by simp [cmpI, hk]
        go_wp2_with (go_at_call 150; refine (findCmp_any _ _ _ _ _ _ _).mono ?_; rintro e w' ⟨rfl, hb'⟩)
        have hbw' := hbw.trans (hb'.mono hbw.size)
        go_roundg (j - ((i + j) / 2 + 1))
        case measure => have := HG.out; omega
        case rel => exact ⟨(i + j) / 2 + 1, j, rfl, by go_num, rfl, hinv.up hm2 HX.out hk, hbw'⟩
      · have hcmp : cmpI x1 key = 0 ∨ cmpI x1 key = 1 := by unfold cmpI; by_cases h2 : key < x1 <;> simp [hk, h2]
        have hcmp' : (decide (cmpI x1 key < 0)) = false := by rcases hcmp with h | h <;> simp [h]
        go_wp2_with (go_at_call 150; refine (findCmp_any _ _ _ _ _ _ _).mono ?_; rintro e w' ⟨rfl, hb'⟩)
        have hbw' := hbw.trans (hb'.mono hbw.size)
        go_roundg ((i + j) / 2 - i)
        case measure => have := HG.out; omega
        case rel => exact ⟨i, (i + j) / 2, rfl, rfl, by go_num, hinv.down hm1 hm2 HX.out (by show ¬ x1 < key; omega), hbw'⟩
    · by_cases hin : i < n
      · obtain ⟨ad, x, rfl, _, _, hx, hc1⟩ := (h.below hbw (Nat.le_refl _)).el (i := i) (by have := N.out; omega)
        obtain ⟨x1, x2, x3, x4, x5⟩ := x
        obtain ⟨r0, r1, r2, r3, r4⟩ := at_cells hc1
        have HX := Lib.hid hx
        clear hx hc1
        by_cases hk : x1 = key
        · have hcmp : (cmpI x1 key == 0) = true := by simp [cmpI, hk]
          have HK := Lib.hid hk
          clear hk
          go_wp2_with (go_at_call 150; refine (findCmp_any _ _ _ _ _ _ _).mono ?_; rintro e w' ⟨rfl, hb'⟩)
          go_ret2
          exact ⟨i, true, rfl, hinv.done hlt (by simpa using ⟨_, HX.out, HK.out⟩), hbw.trans (hb'.mono hbw.size)⟩
        · have hcmp : (cmpI x1 key == 0) = false := by
            unfold cmpI
            by_cases h1 : x1 < key <;> by_cases h2 : key < x1 <;> simp [h1, h2]
            omega
          go_wp2_with (go_at_call 150; refine (findCmp_any _ _ _ _ _ _ _).mono ?_; rintro e w' ⟨rfl, hb'⟩)
          go_ret2
          exact ⟨i, false, rfl, hinv.done hlt (by simp [HX.out, hk]), hbw.trans (hb'.mono hbw.size)⟩
      · go_wp2_with (fail)
        go_ret2
        have hl : l[i]? = none := List.getElem?_eq_none (by have := N.out; omega)
        exact ⟨i, false, rfl, hinv.done hlt (by simp [hl]), hbw⟩

set_option maxHeartbeats 400000 in
theorem find_any (A : Option Addr) (n c : Nat) (l : List At) (key : Int) (w : World) (hn : n = l.length) (h : RdAt w w.heap.size A l) (hb : n ≤ 140737488355328) :
    Calls Tryz.prog 136 #[.slice A n c, .int .i64 key] w fun e w' =>
      ∃ (i : Nat) (b : Bool), e = .returned (.tuple #[.int .i64 (i : Int), .bool b]) ∧ FindOut l key i b ∧ Below w.heap.size w w' := by
  have N := Lib.hid hn
  clear hn
  go_enter Tryz.func136, Tryz.ntmps136
  go_wp2_with (go_at_call 149; refine (bsearch_any A n c l key _ N.out h hb).mono ?_; rintro e w' ⟨i, b, rfl, hf, hb'⟩)
  go_ret2
  exact ⟨i, b, rfl, hf, hb'⟩

theorem getA_hit {l : List At} (hr : riseA l = true) {i : Nat} {a : At} (h : l[i]? = some a) : getA l a.key = some a.v := by
  unfold getA
  have : l.find? (fun b => decide (b.key = a.key)) = some a := by
    induction l generalizing i with
    | nil => simp at h
    | cons c l ih =>
      cases i with
      | zero => simp at h; subst h; simp
      | succ i =>
        have hlt : c.key < a.key := rise_lt hr (x := 0) (y := i + 1) (by omega) rfl h
        rw [List.find?_cons_of_neg (by simp; omega)]
        exact ih (rise_tail (a := c.key) (l := l.map At.key) hr) (by rw [List.getElem?_cons_succ] at h; exact h)
  rw [this]; rfl
theorem getA_miss {l : List At} {key : Int} (h : ∀ a ∈ l, a.key ≠ key) : getA l key = none := by
  unfold getA
  rw [List.find?_eq_none.2 (by intro a ha; simpa using h a ha)]; rfl

/-- what attrs.Get answers -/
def GetOut (l : List At) (key : Int) (v : V) (b : Bool) : Prop :=
  (b = true → ∃ a ∈ l, a.key = key ∧ a.v = v) ∧ (b = false → v = V.zero) ∧ (riseA l = true → getA l key = if b then some v else none)

set_option maxHeartbeats 400000 in
theorem get_any (A : Option Addr) (n c : Nat) (l : List At) (key : Int) (w : World) (hn : n = l.length) (h : RdAt w w.heap.size A l) (hb : n ≤ 140737488355328) :
    Calls Tryz.prog 106 #[.slice A n c, .int .i64 key] w fun e w' =>
      ∃ (v : V) (b : Bool), e = .returned (.tuple #[.agg #[.int .u8 v.k, .int .i64 v.n, .int .u64 v.f, .string v.s], .bool b]) ∧ GetOut l key v b ∧ Below w.heap.size w w' := by
  have N := Lib.hid hn
  clear hn
  go_enter Tryz.func106, Tryz.ntmps106
  go_wp2_with (fail)
  refine (find_any A n c l key _ N.out ((h.alloc (Nat.le_refl _) _).more (by simp)) hb).mono ?_
  rintro e w1 ⟨i, b, rfl, hf, hb1⟩
  have hbx := (hb1.block w.heap.size (by simp)).trans (heap_alloc_new w _)
  have hbw : Below w.heap.size w w1 := ((Below.refl _ _).alloc (Nat.le_refl _) _).trans (hb1.mono (by simp))
  have hlt1 : w.heap.size < w1.heap.size := by have := hb1.size; simp at this; omega
  obtain ⟨b0, b1, b2, b3⟩ := box_v hbx
  have hfr := box_free hbx
  obtain ⟨f0, f1, f2, f3⟩ : w1.frozen? ⟨w.heap.size, 0, none⟩ = false ∧ w1.frozen? ⟨w.heap.size, 1, none⟩ = false ∧ w1.frozen? ⟨w.heap.size, 2, none⟩ = false ∧ w1.frozen? ⟨w.heap.size, 3, none⟩ = false := ⟨hfr 0, hfr 1, hfr 2, hfr 3⟩
  clear hfr hbx
  cases b with
  | false =>
    go_wp2_with (fail)
    refine bodyPost_ret (v := .tuple #[.agg #[.int .u8 0, .int .i64 0, .int .u64 0, .string ⟨#[]⟩], .bool false]) (by simp [results, Tryz.results106, go_sem, b0, b1, b2, b3]) rfl ⟨V.zero, false, rfl, ⟨by simp, fun _ => rfl, fun hr => ?_⟩, ?_⟩
    · refine getA_miss fun a ha e => ?_
      obtain ⟨j, hj⟩ := List.getElem?_of_mem ha
      obtain ⟨_, h2, h3⟩ := hf
      have h4 := (h3 hr).1 j a
      have h5 := (h3 hr).2 j a
      rcases Nat.lt_or_ge j i with hlt | hge
      · have := h4 hlt hj; omega
      · rcases Nat.eq_or_lt_of_le hge with he | hgt
        · subst he
          have := h2.2 ⟨a, hj, e⟩
          cases this
        · have hi : i < l.length := by have := (List.getElem?_eq_some_iff.1 hj).1; omega
          have h6 := (h3 hr).2 i _ (Nat.le_refl _) (List.getElem?_eq_getElem hi)
          have h7 := rise_lt hr hgt (List.getElem?_eq_getElem hi) hj
          omega
    · exact (((hbw.setCell (by simp) _).setCell (by simp) _).setCell (by simp) _).setCell (by simp) _
  | true =>
    obtain ⟨x, hx, hxk⟩ := hf.2.1.1 rfl
    have hil : i < l.length := (List.getElem?_eq_some_iff.1 hx).1
    obtain ⟨ad, y, rfl, _, _, hy, hc1⟩ := (h.below hbw (Nat.le_refl _)).el hil
    rw [hx] at hy
    injection hy with hy
    subst hy
    have hin : i < n := by have := N.out; omega
    have HX := Lib.hid hx
    have HXK := Lib.hid hxk
    clear hx hxk hf
    obtain ⟨x1, x2, x3, x4, x5⟩ := x
    obtain ⟨r0, r1, r2, r3, r4⟩ := at_cells hc1
    go_wp2_with (fail)
    refine bodyPost_ret (v := .tuple #[.agg #[.int .u8 x2, .int .i64 x3, .int .u64 x4, .string x5], .bool true]) (by simp [results, Tryz.results106, go_sem, b0, b1, b2, b3]) rfl ⟨⟨x2, x3, x4, x5⟩, true, rfl, ⟨fun _ => ⟨_, List.mem_of_getElem? HX.out, HXK.out, rfl⟩, by simp, fun hr => ?_⟩, ?_⟩
    · rw [← HXK.out]; exact getA_hit hr HX.out
    · exact (((hbw.setCell (by simp) _).setCell (by simp) _).setCell (by simp) _).setCell (by simp) _
end Go.Proofs.YtipoeidmblnbbaaGreatDoor
/- The laws of sets and patches as plain mathematics: a list by rising keys is what one looks up in it. -/
namespace Go.Proofs.YtipoeidmblnbbaaGreatDoor
set_option linter.unusedVariables false
set_option linter.unusedSimpArgs false

section
variable {α : Type} (key : α → Int)
def lk (l : List α) (k : Int) : Option α := l.find? (fun a => decide (key a = k))
def Srt (l : List α) : Prop := l.Pairwise (fun a b => key a < key b)

theorem lk_nil (k : Int) : lk key [] k = none := rfl
theorem lk_cons (a : α) (l : List α) (k : Int) : lk key (a :: l) k = if key a = k then some a else lk key l k := by
  unfold lk
  by_cases h : key a = k <;> simp [h]
theorem lk_append (l m : List α) (k : Int) : lk key (l ++ m) k = (lk key l k).or (lk key m k) := by
  unfold lk
  rw [List.find?_append]
theorem lk_none {l : List α} {k : Int} (h : ∀ a ∈ l, key a ≠ k) : lk key l k = none := by
  unfold lk
  rw [List.find?_eq_none]
  intro a ha
  simpa using h a ha
theorem lk_key {l : List α} {k : Int} {a : α} (h : lk key l k = some a) : key a = k := by
  unfold lk at h
  have := List.find?_some h
  simpa using this
theorem lk_mem {l : List α} {k : Int} {a : α} (h : lk key l k = some a) : a ∈ l := by
  unfold lk at h
  exact List.mem_of_find?_eq_some h
theorem lk_of_mem {l : List α} (hs : Srt key l) {a : α} (h : a ∈ l) : lk key l (key a) = some a := by
  induction l with
  | nil => simp at h
  | cons b l ih =>
    rw [lk_cons]
    obtain ⟨h1, h2⟩ := List.pairwise_cons.1 hs
    rcases List.mem_cons.1 h with rfl | h
    · simp
    · have := h1 a h
      rw [if_neg (by omega)]
      exact ih h2 h
theorem lk_isSome {l : List α} {k : Int} : (lk key l k).isSome = true ↔ ∃ a ∈ l, key a = k := by
  constructor
  · intro h
    obtain ⟨a, ha⟩ := Option.isSome_iff_exists.1 h
    exact ⟨a, lk_mem key ha, lk_key key ha⟩
  · rintro ⟨a, ha, hk⟩
    cases hl : lk key l k with
    | some _ => rfl
    | none =>
      unfold lk at hl
      rw [List.find?_eq_none] at hl
      exact absurd hk (by simpa using hl a ha)
theorem lk_ext {l m : List α} (hl : Srt key l) (hm : Srt key m) (h : ∀ k, lk key l k = lk key m k) : l = m := by
  induction l generalizing m with
  | nil =>
    cases m with
    | nil => rfl
    | cons b m => have := h (key b); simp [lk_cons, lk_nil] at this
  | cons a l ih =>
    obtain ⟨h1, h2⟩ := List.pairwise_cons.1 hl
    cases m with
    | nil => have := h (key a); simp [lk_cons, lk_nil] at this
    | cons b m =>
      obtain ⟨h3, h4⟩ := List.pairwise_cons.1 hm
      have hab : key a = key b := by
        rcases Int.lt_trichotomy (key a) (key b) with hlt | he | hgt
        · have := h (key a)
          rw [lk_cons, if_pos rfl, lk_cons, if_neg (by omega), lk_none key (fun c hc => by have := h3 c hc; omega)] at this
          cases this
        · exact he
        · have := h (key b)
          rw [lk_cons, lk_cons, if_pos rfl, if_neg (by omega), lk_none key (fun c hc => by have := h1 c hc; omega)] at this
          cases this
      have e := h (key a)
      rw [lk_cons, if_pos rfl, lk_cons, if_pos hab.symm] at e
      injection e with e
      subst e
      congr 1
      refine ih h2 h4 fun k => ?_
      have := h k
      rw [lk_cons, lk_cons] at this
      by_cases hk : key a = k
      · rw [lk_none key (fun c hc => by have := h1 c hc; omega), lk_none key (fun c hc => by have := h3 c hc; omega)]
      · rw [if_neg hk, if_neg hk] at this; exact this
theorem Srt.nil : Srt key ([] : List α) := List.Pairwise.nil
theorem srt_cons {a : α} {l : List α} : Srt key (a :: l) ↔ (∀ b ∈ l, key a < key b) ∧ Srt key l := List.pairwise_cons
theorem srt_append {l m : List α} : Srt key (l ++ m) ↔ Srt key l ∧ Srt key m ∧ ∀ a ∈ l, ∀ b ∈ m, key a < key b := List.pairwise_append
theorem Srt.filter {l : List α} (h : Srt key l) (p : α → Bool) : Srt key (l.filter p) := List.Pairwise.filter p h
theorem lk_filter {l : List α} (hs : Srt key l) (p : α → Bool) (k : Int) : lk key (l.filter p) k = (lk key l k).filter p := by
  induction l with
  | nil => rfl
  | cons a l ih =>
    obtain ⟨h1, h2⟩ := (srt_cons key).1 hs
    rw [lk_cons]
    by_cases hk : key a = k
    · rw [if_pos hk]
      by_cases hp : p a = true
      · rw [List.filter_cons_of_pos hp, lk_cons, if_pos hk]; simp [Option.filter, hp]
      · rw [List.filter_cons_of_neg hp, lk_none key (fun c hc => by have := h1 c (List.mem_filter.1 hc).1; omega)]; simp [Option.filter, hp]
    · rw [if_neg hk, ← ih h2]
      by_cases hp : p a = true
      · rw [List.filter_cons_of_pos hp, lk_cons, if_neg hk]
      · rw [List.filter_cons_of_neg hp]
end

theorem rise_srt {α : Type} (key : α → Int) (l : List α) : rise (l.map key) = true ↔ Srt key l := by
  induction l with
  | nil => simp [rise, Srt]
  | cons a l ih =>
    rw [srt_cons, ← ih]
    constructor
    · intro h
      refine ⟨fun b hb => rise_head h _ (List.mem_map.2 ⟨b, hb, rfl⟩), rise_tail h⟩
    · rintro ⟨h1, h2⟩
      cases l with
      | nil => rfl
      | cons b l =>
        simp only [List.map_cons, rise, Bool.and_eq_true, decide_eq_true_eq]
        exact ⟨h1 b (by simp), h2⟩
theorem riseA_srt {l : List At} : riseA l = true ↔ Srt At.key l := rise_srt At.key l
theorem riseC_srt {l : List Ch} : riseC l = true ↔ Srt Ch.key l := rise_srt Ch.key l
theorem getA_lk (l : List At) (k : Int) : getA l k = (lk At.key l k).map (·.v) := rfl

/-- a list by rising keys, cut at a key -/
theorem cut_lt {α : Type} (key : α → Int) {l : List α} (hs : Srt key l) (c : Int) :
    (∀ a ∈ l.takeWhile (fun a => decide (key a < c)), key a < c) ∧ (∀ a ∈ l.dropWhile (fun a => decide (key a < c)), c ≤ key a) := by
  induction l with
  | nil => simp
  | cons a l ih =>
    obtain ⟨h1, h2⟩ := (srt_cons key).1 hs
    by_cases h : key a < c
    · simp only [List.takeWhile_cons, List.dropWhile_cons, h, decide_true, if_true]
      refine ⟨fun b hb => ?_, (ih h2).2⟩
      rcases List.mem_cons.1 hb with rfl | hb
      · exact h
      · exact (ih h2).1 b hb
    · simp only [List.takeWhile_cons, List.dropWhile_cons, h, decide_false, Bool.false_eq_true, if_false]
      refine ⟨fun b hb => by simp at hb, fun b hb => ?_⟩
      rcases List.mem_cons.1 hb with rfl | hb
      · omega
      · have := h1 b hb; omega
theorem cut_le {α : Type} (key : α → Int) {l : List α} (hs : Srt key l) (c : Int) :
    (∀ a ∈ l.takeWhile (fun a => decide (key a ≤ c)), key a ≤ c) ∧ (∀ a ∈ l.dropWhile (fun a => decide (key a ≤ c)), c < key a) := by
  induction l with
  | nil => simp
  | cons a l ih =>
    obtain ⟨h1, h2⟩ := (srt_cons key).1 hs
    by_cases h : key a ≤ c
    · simp only [List.takeWhile_cons, List.dropWhile_cons, h, decide_true, if_true]
      refine ⟨fun b hb => ?_, (ih h2).2⟩
      rcases List.mem_cons.1 hb with rfl | hb
      · exact h
      · exact (ih h2).1 b hb
    · simp only [List.takeWhile_cons, List.dropWhile_cons, h, decide_false, Bool.false_eq_true, if_false]
      refine ⟨fun b hb => by simp at hb, fun b hb => ?_⟩
      rcases List.mem_cons.1 hb with rfl | hb
      · omega
      · have := h1 b hb; omega
theorem srt_tw {α : Type} (key : α → Int) {l : List α} (hs : Srt key l) (p : α → Bool) : Srt key (l.takeWhile p) := hs.sublist (List.takeWhile_sublist p)
theorem srt_dw {α : Type} (key : α → Int) {l : List α} (hs : Srt key l) (p : α → Bool) : Srt key (l.dropWhile p) := hs.sublist (List.dropWhile_sublist p)
theorem drop1_gt {l : List At} (hs : Srt At.key l) {c : Int} (h : ∀ a ∈ l, c ≤ a.key) : Srt At.key (drop1 c l) ∧ (∀ a ∈ drop1 c l, c < a.key) ∧ ∀ k, c < k → lk At.key (drop1 c l) k = lk At.key l k := by
  cases l with
  | nil => exact ⟨hs, by simp [drop1], fun _ _ => rfl⟩
  | cons a l =>
    obtain ⟨h1, h2⟩ := (srt_cons At.key).1 hs
    have hd : drop1 c (a :: l) = if a.key = c then l else a :: l := rfl
    rw [hd]
    by_cases he : a.key = c
    · rw [if_pos he]
      exact ⟨h2, fun b hb => by have := h1 b hb; omega, fun k hk => by rw [lk_cons, if_neg (by omega)]⟩
    · rw [if_neg he]
      refine ⟨hs, fun b hb => ?_, fun _ _ => rfl⟩
      have ha := h a (by simp)
      rcases List.mem_cons.1 hb with rfl | hb
      · omega
      · have := h1 b hb; omega

/-- what a patch makes of what is looked up -/
def lkApply (c : Option Ch) (x : Option At) : Option At :=
  match c with
  | some c => if c.gone = true then none else some ⟨c.key, c.v⟩
  | none => x
theorem mem_put1 {c : Ch} {a : At} (h : a ∈ put1 c) : a.key = c.key := by
  unfold put1 at h
  split at h
  · simp at h
  · simp at h; rw [h]
theorem apply_all {p : List Ch} (hp : Srt Ch.key p) : ∀ {s : List At}, Srt At.key s →
    Srt At.key (applyP p s) ∧ (∀ k, lk At.key (applyP p s) k = lkApply (lk Ch.key p k) (lk At.key s k)) ∧ (∀ m : Int, (∀ c ∈ p, m < c.key) → (∀ a ∈ s, m < a.key) → ∀ a ∈ applyP p s, m < a.key) ∧ (applyP p s).length ≤ p.length + s.length := by
  induction p with
  | nil => intro s hs; exact ⟨hs, fun k => rfl, fun m _ h a ha => h a ha, by simp [applyP]⟩
  | cons c p ih =>
    intro s hs
    obtain ⟨h1, h2⟩ := (srt_cons Ch.key).1 hp
    obtain ⟨t1, t2⟩ := cut_lt At.key hs c.key
    have hts := srt_tw At.key hs (fun a => decide (a.key < c.key))
    have hds := srt_dw At.key hs (fun a => decide (a.key < c.key))
    have e : applyP (c :: p) s = s.takeWhile (fun a => decide (a.key < c.key)) ++ (put1 c ++ applyP p (drop1 c.key (s.dropWhile (fun a => decide (a.key < c.key))))) := rfl
    have happ : s.takeWhile (fun a => decide (a.key < c.key)) ++ s.dropWhile (fun a => decide (a.key < c.key)) = s := List.takeWhile_append_dropWhile
    have hlen : (s.takeWhile (fun a => decide (a.key < c.key))).length + (s.dropWhile (fun a => decide (a.key < c.key))).length = s.length := by rw [← List.length_append, happ]
    have hlk : ∀ k, lk At.key s k = (lk At.key (s.takeWhile (fun a => decide (a.key < c.key))) k).or (lk At.key (s.dropWhile (fun a => decide (a.key < c.key))) k) := fun k => by rw [← lk_append, happ]
    have hmt : ∀ a ∈ s.takeWhile (fun a => decide (a.key < c.key)), a ∈ s := fun a ha => (List.takeWhile_sublist _).subset ha
    have hmd : ∀ a ∈ s.dropWhile (fun a => decide (a.key < c.key)), a ∈ s := fun a ha => (List.dropWhile_sublist _).subset ha
    generalize s.takeWhile (fun a => decide (a.key < c.key)) = tw at *
    generalize s.dropWhile (fun a => decide (a.key < c.key)) = dw at *
    obtain ⟨d1, d2, d3⟩ := drop1_gt hds t2
    have hdl : (drop1 c.key dw).length ≤ dw.length := by
      unfold drop1; split
      · simp
      · split <;> simp
    have hdm : ∀ a ∈ drop1 c.key dw, a ∈ dw := by
      unfold drop1; split
      · simp
      · intro a ha; split at ha
        · exact List.mem_cons_of_mem _ ha
        · exact ha
    obtain ⟨i1, i2, i3, i4⟩ := ih h2 d1
    rw [e]
    have hput : ∀ a ∈ put1 c, a.key = c.key := fun a ha => mem_put1 ha
    have hpl : (put1 c).length ≤ 1 := by unfold put1; split <;> simp
    have hrest : ∀ a ∈ applyP p (drop1 c.key dw), c.key < a.key := i3 c.key h1 d2
    refine ⟨?_, fun k => ?_, fun m hm1 hm2 a ha => ?_, ?_⟩
    · rw [srt_append, srt_append]
      refine ⟨hts, ⟨?_, i1, fun a ha b hb => ?_⟩, fun a ha b hb => ?_⟩
      · unfold put1; split
        · exact Srt.nil _
        · rw [srt_cons]; exact ⟨by simp, Srt.nil _⟩
      · rw [hput a ha]; exact hrest b hb
      · have := t1 a ha
        rcases List.mem_append.1 hb with hb | hb
        · rw [hput b hb]; exact this
        · have := hrest b hb; omega
    · rw [lk_append, lk_append, hlk, lk_cons]
      rcases Int.lt_trichotomy k c.key with hlt | rfl | hgt
      · rw [if_neg (by omega), lk_none Ch.key (fun d hd => by have := h1 d hd; omega), lk_none At.key (l := put1 c) (fun d hd => by have := hput d hd; omega), lk_none At.key (l := applyP p (drop1 c.key dw)) (fun d hd => by have := hrest d hd; omega),
          lk_none At.key (l := dw) (fun d hd => by have := t2 d hd; omega)]
        rfl
      · rw [if_pos rfl, lk_none At.key (l := tw) (fun d hd => by have := t1 d hd; omega), lk_none At.key (l := applyP p (drop1 c.key dw)) (fun d hd => by have := hrest d hd; omega)]
        unfold put1 lkApply
        by_cases hg : c.gone = true
        · simp [hg, lk_nil]
        · simp [hg, lk_cons]
      · rw [if_neg (by omega), lk_none At.key (l := tw) (fun d hd => by have := t1 d hd; omega), lk_none At.key (l := put1 c) (fun d hd => by have := hput d hd; omega), i2, d3 k hgt]
        rfl
    · rcases List.mem_append.1 ha with ha | ha
      · exact hm2 a (hmt a ha)
      · rcases List.mem_append.1 ha with ha | ha
        · rw [hput a ha]; exact hm1 c (by simp)
        · have := hrest a ha; have := hm1 c (by simp); omega
    · simp only [List.length_append, List.length_cons]; omega

def lkDiff (x y : Option At) : Option Ch :=
  match x, y with
  | none, none => none
  | some x, none => some (goneC x)
  | none, some y => some (chg y)
  | some x, some y => if x.v = y.v then none else some (chg y)
theorem lk_map_gone (l : List At) (k : Int) : lk Ch.key (l.map goneC) k = (lk At.key l k).map goneC := by
  induction l with
  | nil => rfl
  | cons a l ih =>
    rw [List.map_cons, lk_cons, lk_cons, ih]
    by_cases h : a.key = k <;> simp [h, goneC]
theorem diff_all {b : List At} (hb : Srt At.key b) : ∀ {a : List At}, Srt At.key a →
    Srt Ch.key (diffP a b) ∧ (∀ k, lk Ch.key (diffP a b) k = lkDiff (lk At.key a k) (lk At.key b k)) ∧ (∀ m : Int, (∀ c ∈ a, m < c.key) → (∀ c ∈ b, m < c.key) → ∀ c ∈ diffP a b, m < c.key) ∧ (diffP a b).length ≤ a.length + b.length := by
  induction b with
  | nil =>
    intro a ha
    rw [diffP_nil]
    refine ⟨?_, fun k => ?_, fun m h _ c hc => ?_, by simp⟩
    · exact List.Pairwise.map _ (fun x y h => h) ha
    · rw [lk_map_gone, lk_nil]; cases lk At.key a k <;> rfl
    · obtain ⟨x, hx, rfl⟩ := List.mem_map.1 hc; exact h x hx
  | cons x b ih =>
    intro a ha
    obtain ⟨h1, h2⟩ := (srt_cons At.key).1 hb
    obtain ⟨t1, t2⟩ := cut_lt At.key ha x.key
    have hts := srt_tw At.key ha (fun a => decide (a.key < x.key))
    have hds := srt_dw At.key ha (fun a => decide (a.key < x.key))
    have e : diffP a (x :: b) = (a.takeWhile (fun y => decide (y.key < x.key))).map goneC ++ diffMid (fun r => diffP r b) x (a.dropWhile (fun y => decide (y.key < x.key))) := by rw [diffP_cons]; rfl
    have happ : a.takeWhile (fun a => decide (a.key < x.key)) ++ a.dropWhile (fun a => decide (a.key < x.key)) = a := List.takeWhile_append_dropWhile
    have hlen : (a.takeWhile (fun a => decide (a.key < x.key))).length + (a.dropWhile (fun a => decide (a.key < x.key))).length = a.length := by rw [← List.length_append, happ]
    have hlk : ∀ k, lk At.key a k = (lk At.key (a.takeWhile (fun a => decide (a.key < x.key))) k).or (lk At.key (a.dropWhile (fun a => decide (a.key < x.key))) k) := fun k => by rw [← lk_append, happ]
    have hmt : ∀ c ∈ a.takeWhile (fun a => decide (a.key < x.key)), c ∈ a := fun c hc => (List.takeWhile_sublist _).subset hc
    have hmd : ∀ c ∈ a.dropWhile (fun a => decide (a.key < x.key)), c ∈ a := fun c hc => (List.dropWhile_sublist _).subset hc
    generalize a.takeWhile (fun a => decide (a.key < x.key)) = tw at *
    generalize a.dropWhile (fun a => decide (a.key < x.key)) = dw at *
    -- the middle: a row by rising keys from x on, that looks up as it should
    have hmid : Srt Ch.key (diffMid (fun r => diffP r b) x dw) ∧ (∀ k, x.key ≤ k → lk Ch.key (diffMid (fun r => diffP r b) x dw) k = lkDiff (lk At.key dw k) (lk At.key (x :: b) k)) ∧
        (∀ c ∈ diffMid (fun r => diffP r b) x dw, x.key ≤ c.key) ∧ (diffMid (fun r => diffP r b) x dw).length ≤ dw.length + b.length + 1 := by
      have put : ∀ {r : List At}, Srt At.key r → (∀ c ∈ r, x.key < c.key) → Srt Ch.key (chg x :: diffP r b) ∧ (∀ c ∈ chg x :: diffP r b, x.key ≤ c.key) ∧ (chg x :: diffP r b).length ≤ r.length + b.length + 1 ∧
          (∀ k, x.key < k → lk Ch.key (chg x :: diffP r b) k = lkDiff (lk At.key r k) (lk At.key b k)) ∧ lk Ch.key (chg x :: diffP r b) x.key = some (chg x) := by
        intro r hr hgt
        obtain ⟨j1, j2, j3, j4⟩ := ih h2 hr
        have j5 := j3 x.key hgt h1
        refine ⟨?_, fun c hc => ?_, by simp; omega, fun k hk => ?_, ?_⟩
        · rw [srt_cons]; exact ⟨j5, j1⟩
        · rcases List.mem_cons.1 hc with rfl | hc
          · exact Int.le_refl _
          · have := j5 c hc; omega
        · rw [lk_cons, if_neg (by show ¬ x.key = k; omega), j2]
        · rw [lk_cons, if_pos (by rfl)]
      cases dw with
      | nil =>
        obtain ⟨p1, p2, p3, p4, p5⟩ := put (r := []) (Srt.nil _) (by simp)
        refine ⟨p1, fun k hk => ?_, p2, by show (chg x :: diffP [] b).length ≤ _; simp at p3 ⊢; omega⟩
        rcases Int.lt_or_eq_of_le hk with hlt | rfl
        · show lk Ch.key (chg x :: diffP [] b) k = _
          rw [p4 k hlt, lk_cons At.key x, if_neg (by omega)]
        · show lk Ch.key (chg x :: diffP [] b) x.key = _
          rw [p5, lk_cons, if_pos rfl]; rfl
      | cons y t =>
        obtain ⟨g1, g2⟩ := (srt_cons At.key).1 hds
        by_cases hk : y.key = x.key
        · have hgt : ∀ c ∈ t, x.key < c.key := fun c hc => by have := g1 c hc; omega
          by_cases hv : y.v = x.v
          · have ee : diffMid (fun r => diffP r b) x (y :: t) = diffP t b := by simp [diffMid, hk, hv]
            rw [ee]
            obtain ⟨j1, j2, j3, j4⟩ := ih h2 g2
            have j5 := j3 x.key hgt h1
            refine ⟨j1, fun k hk' => ?_, fun c hc => by have := j5 c hc; omega, by simp; omega⟩
            rcases Int.lt_or_eq_of_le hk' with hlt | rfl
            · rw [j2, lk_cons, if_neg (by omega), lk_cons, if_neg (by omega)]
            · rw [lk_none Ch.key (fun c hc => by have := j5 c hc; omega), lk_cons, if_pos hk, lk_cons, if_pos rfl]
              simp [lkDiff, hv]
          · have ee : diffMid (fun r => diffP r b) x (y :: t) = chg x :: diffP t b := by simp [diffMid, hk, hv]
            rw [ee]
            obtain ⟨p1, p2, p3, p4, p5⟩ := put g2 hgt
            refine ⟨p1, fun k hk' => ?_, p2, by simp at p3 ⊢; omega⟩
            rcases Int.lt_or_eq_of_le hk' with hlt | rfl
            · rw [p4 k hlt, lk_cons, if_neg (by omega), lk_cons, if_neg (by omega)]
            · rw [p5, lk_cons, if_pos hk, lk_cons, if_pos rfl]
              simp [lkDiff, hv]
        · have hgt : ∀ c ∈ y :: t, x.key < c.key := fun c hc => by
            have h0 := t2 y (by simp)
            rcases List.mem_cons.1 hc with rfl | hc
            · omega
            · have := g1 c hc; omega
          have ee : diffMid (fun r => diffP r b) x (y :: t) = chg x :: diffP (y :: t) b := by simp [diffMid, hk]
          rw [ee]
          obtain ⟨p1, p2, p3, p4, p5⟩ := put hds hgt
          refine ⟨p1, fun k hk' => ?_, p2, by simp at p3 ⊢; omega⟩
          rcases Int.lt_or_eq_of_le hk' with hlt | rfl
          · rw [p4 k hlt, lk_cons At.key x, if_neg (by omega)]
          · rw [p5, lk_none At.key (fun c hc => by have := hgt c hc; omega), lk_cons, if_pos rfl]; rfl
    rw [e]
    obtain ⟨m1, m2, m3, m4⟩ := hmid
    have hgo : ∀ c ∈ tw.map goneC, c.key < x.key := fun c hc => by obtain ⟨y, hy, rfl⟩ := List.mem_map.1 hc; exact t1 y hy
    refine ⟨?_, fun k => ?_, fun m hm1 hm2 c hc => ?_, ?_⟩
    · rw [srt_append]
      refine ⟨List.Pairwise.map _ (fun x y h => h) hts, m1, fun c hc d hd => ?_⟩
      have := hgo c hc
      have := m3 d hd
      omega
    · rw [lk_append, lk_map_gone, hlk]
      rcases Int.lt_or_le k x.key with hlt | hge
      · rw [lk_none Ch.key (fun c hc => by have := m3 c hc; omega), lk_none At.key (l := dw) (fun c hc => by have := t2 c hc; omega), lk_none At.key (l := x :: b) (fun c hc => by
          rcases List.mem_cons.1 hc with rfl | hc
          · omega
          · have := h1 c hc; omega)]
        cases lk At.key tw k <;> rfl
      · rw [lk_none At.key (l := tw) (fun c hc => by have := t1 c hc; omega), m2 k hge]
        rfl
    · rcases List.mem_append.1 hc with hc | hc
      · obtain ⟨y, hy, rfl⟩ := List.mem_map.1 hc; exact hm1 y (hmt y hy)
      · have := m3 c hc; have := hm2 x (by simp); omega
    · simp only [List.length_append, List.length_map, List.length_cons]; omega

theorem compose_all {q : List Ch} (hq : Srt Ch.key q) : ∀ {p : List Ch}, Srt Ch.key p →
    Srt Ch.key (composeP p q) ∧ (∀ k, lk Ch.key (composeP p q) k = (lk Ch.key q k).or (lk Ch.key p k)) ∧ (∀ m : Int, (∀ c ∈ p, m < c.key) → (∀ c ∈ q, m < c.key) → ∀ c ∈ composeP p q, m < c.key) ∧ (composeP p q).length ≤ p.length + q.length := by
  induction q with
  | nil => intro p hp; rw [composeP_nil]; exact ⟨hp, fun k => by rw [lk_nil]; rfl, fun m h _ c hc => h c hc, by simp⟩
  | cons x q ih =>
    intro p hp
    obtain ⟨h1, h2⟩ := (srt_cons Ch.key).1 hq
    obtain ⟨t1, t2⟩ := cut_le Ch.key hp x.key
    have hts := srt_tw Ch.key hp (fun a => decide (a.key ≤ x.key))
    have hds := srt_dw Ch.key hp (fun a => decide (a.key ≤ x.key))
    have e : composeP p (x :: q) = (p.takeWhile (fun a => decide (a.key ≤ x.key))).filter (fun a => decide (a.key < x.key)) ++ x :: composeP (p.dropWhile (fun a => decide (a.key ≤ x.key))) q := by rw [composeP_cons]; rfl
    have happ : p.takeWhile (fun a => decide (a.key ≤ x.key)) ++ p.dropWhile (fun a => decide (a.key ≤ x.key)) = p := List.takeWhile_append_dropWhile
    have hlen : (p.takeWhile (fun a => decide (a.key ≤ x.key))).length + (p.dropWhile (fun a => decide (a.key ≤ x.key))).length = p.length := by rw [← List.length_append, happ]
    have hlk : ∀ k, lk Ch.key p k = (lk Ch.key (p.takeWhile (fun a => decide (a.key ≤ x.key))) k).or (lk Ch.key (p.dropWhile (fun a => decide (a.key ≤ x.key))) k) := fun k => by rw [← lk_append, happ]
    have hmt : ∀ c ∈ p.takeWhile (fun a => decide (a.key ≤ x.key)), c ∈ p := fun c hc => (List.takeWhile_sublist _).subset hc
    generalize p.takeWhile (fun a => decide (a.key ≤ x.key)) = tw at *
    generalize p.dropWhile (fun a => decide (a.key ≤ x.key)) = dw at *
    rw [e]
    obtain ⟨j1, j2, j3, j4⟩ := ih h2 hds
    have j5 := j3 x.key t2 h1
    have hf := hts.filter Ch.key (fun a => decide (a.key < x.key))
    have hfl := lk_filter Ch.key hts (fun a => decide (a.key < x.key))
    have hfm : ∀ c ∈ tw.filter (fun a => decide (a.key < x.key)), c ∈ tw ∧ c.key < x.key := fun c hc => by have := List.mem_filter.1 hc; simpa using this
    have hfn : (tw.filter (fun a => decide (a.key < x.key))).length ≤ tw.length := List.length_filter_le _ _
    generalize tw.filter (fun a => decide (a.key < x.key)) = ft at *
    refine ⟨?_, fun k => ?_, fun m hm1 hm2 c hc => ?_, ?_⟩
    · rw [srt_append, srt_cons]
      refine ⟨hf, ⟨j5, j1⟩, fun a ha b hb => ?_⟩
      have := (hfm a ha).2
      rcases List.mem_cons.1 hb with rfl | hb
      · exact this
      · have := j5 b hb; omega
    · rw [lk_append, lk_cons, hfl, hlk, lk_cons Ch.key x]
      rcases Int.lt_trichotomy k x.key with hlt | rfl | hgt
      · rw [if_neg (by omega), if_neg (by omega), lk_none Ch.key (l := composeP dw q) (fun d hd => by have := j5 d hd; omega), lk_none Ch.key (l := q) (fun d hd => by have := h1 d hd; omega), lk_none Ch.key (l := dw) (fun d hd => by have := t2 d hd; omega)]
        cases hl : lk Ch.key tw k with
        | none => rfl
        | some d =>
          have := lk_key Ch.key hl
          have hd : d.key < x.key := by omega
          simp [Option.filter, hd]
      · rw [if_pos rfl, if_pos rfl]
        cases hl : lk Ch.key tw x.key with
        | none => rfl
        | some d =>
          have := lk_key Ch.key hl
          have hd : ¬ d.key < x.key := by omega
          simp [Option.filter, hd]
      · rw [if_neg (by omega), if_neg (by omega), j2, lk_none Ch.key (l := tw) (fun d hd => by have := t1 d hd; omega)]
        rfl
    · rcases List.mem_append.1 hc with hc | hc
      · exact hm1 c (hmt c (hfm c hc).1)
      · rcases List.mem_cons.1 hc with rfl | hc
        · exact hm2 _ (by simp)
        · have := j5 c hc; have := hm2 x (by simp); omega
    · simp only [List.length_append, List.length_cons]; omega

def lkInv (x : Option At) (c : Option Ch) : Option Ch :=
  match c with
  | none => none
  | some c => match x with
    | some a => if c.gone = true ∨ ¬ a.v = c.v then some ⟨c.key, false, a.v⟩ else none
    | none => if c.gone = true then none else some ⟨c.key, true, V.zero⟩
theorem inv1_key {s : List At} {c d : Ch} (h : d ∈ inv1 s c) : d.key = c.key := by
  unfold inv1 at h
  split at h <;> split at h <;> simp at h <;> rw [h]
theorem inv1_lk (s : List At) (c : Ch) : lk Ch.key (inv1 s c) c.key = lkInv (lk At.key s c.key) (some c) := by
  unfold inv1 lkInv
  rw [getA_lk]
  cases lk At.key s c.key with
  | none => by_cases h : c.gone = true <;> simp [h, lk_nil, lk_cons]
  | some a => by_cases h : c.gone = true ∨ ¬ a.v = c.v <;> simp [h, lk_nil, lk_cons]
theorem inv1_srt (s : List At) (c : Ch) : Srt Ch.key (inv1 s c) := by
  unfold inv1
  split <;> split <;> first | exact Srt.nil _ | (rw [srt_cons]; exact ⟨by simp, Srt.nil _⟩)
theorem inv1_len (s : List At) (c : Ch) : (inv1 s c).length ≤ 1 := by
  unfold inv1
  split <;> split <;> simp
theorem invert_all {s : List At} {p : List Ch} (hp : Srt Ch.key p) :
    Srt Ch.key (invertP s p) ∧ (∀ k, lk Ch.key (invertP s p) k = lkInv (lk At.key s k) (lk Ch.key p k)) ∧ (∀ c ∈ invertP s p, ∃ d ∈ p, d.key = c.key) ∧ (invertP s p).length ≤ p.length := by
  induction p with
  | nil => exact ⟨Srt.nil _, fun k => rfl, by simp [invertP], by simp [invertP]⟩
  | cons c p ih =>
    obtain ⟨h1, h2⟩ := (srt_cons Ch.key).1 hp
    obtain ⟨i1, i2, i3, i4⟩ := ih h2
    have e : invertP s (c :: p) = inv1 s c ++ invertP s p := by simp [invertP]
    have hrest : ∀ d ∈ invertP s p, c.key < d.key := fun d hd => by
      obtain ⟨x, hx, hk⟩ := i3 d hd
      have := h1 x hx; omega
    rw [e]
    refine ⟨?_, fun k => ?_, fun d hd => ?_, ?_⟩
    · rw [srt_append]
      exact ⟨inv1_srt s c, i1, fun a ha b hb => by rw [inv1_key ha]; exact hrest b hb⟩
    · rw [lk_append, lk_cons, i2]
      by_cases hk : c.key = k
      · subst hk
        rw [if_pos rfl, inv1_lk, lk_none Ch.key (l := p) (fun d hd => by have := h1 d hd; omega)]
        cases lkInv (lk At.key s c.key) (some c) <;> rfl
      · rw [if_neg hk, lk_none Ch.key (l := inv1 s c) (fun d hd => by have := inv1_key hd; omega)]
        rfl
    · rcases List.mem_append.1 hd with hd | hd
      · exact ⟨c, by simp, (inv1_key hd).symm⟩
      · obtain ⟨x, hx, hk⟩ := i3 d hd
        exact ⟨x, List.mem_cons_of_mem _ hx, hk⟩
    · have := inv1_len s c
      simp only [List.length_append, List.length_cons]; omega

section
variable {a b : List At} {p q r : List Ch}
theorem law_back (ha : riseA a = true) (hp : riseC p = true) : applyP (invertP a p) (applyP p a) = a := by
  rw [riseA_srt] at ha
  rw [riseC_srt] at hp
  obtain ⟨a1, a2, _⟩ := apply_all hp ha
  obtain ⟨i1, i2, _⟩ := invert_all (s := a) hp
  obtain ⟨b1, b2, _⟩ := apply_all i1 a1
  refine lk_ext At.key b1 ha fun k => ?_
  rw [b2, a2, i2]
  cases hx : lk At.key a k with
  | none =>
    cases hc : lk Ch.key p k with
    | none => rfl
    | some c => by_cases hg : c.gone = true <;> simp [lkApply, lkInv, hg]
  | some x =>
    have hxk := lk_key At.key hx
    cases hc : lk Ch.key p k with
    | none => rfl
    | some c =>
      have hck := lk_key Ch.key hc
      obtain ⟨xk, xv⟩ := x
      simp only at hxk
      by_cases hg : c.gone = true
      · simp [lkApply, lkInv, hg, hck, hxk]
      · by_cases hv : xv = c.v
        · simp [lkApply, lkInv, hg, hv, hck, hxk]
        · simp [lkApply, lkInv, hg, hv, hck, hxk]
theorem law_diff (ha : riseA a = true) (hb : riseA b = true) : applyP (diffP a b) a = b := by
  rw [riseA_srt] at ha hb
  obtain ⟨d1, d2, _⟩ := diff_all hb ha
  obtain ⟨b1, b2, _⟩ := apply_all d1 ha
  refine lk_ext At.key b1 hb fun k => ?_
  rw [b2, d2]
  cases hx : lk At.key a k with
  | none => cases hy : lk At.key b k with
    | none => rfl
    | some y => simp [lkApply, lkDiff, chg]
  | some x =>
    have hxk := lk_key At.key hx
    cases hy : lk At.key b k with
    | none => simp [lkApply, lkDiff, goneC]
    | some y =>
      have hyk := lk_key At.key hy
      obtain ⟨xk, xv⟩ := x
      obtain ⟨yk, yv⟩ := y
      simp only at hxk hyk
      by_cases hv : xv = yv <;> simp [lkApply, lkDiff, chg, hv, hxk, hyk]
theorem law_same (ha : riseA a = true) : diffP a a = [] := by
  rw [riseA_srt] at ha
  obtain ⟨d1, d2, _⟩ := diff_all ha ha
  refine lk_ext Ch.key d1 (Srt.nil _) fun k => ?_
  rw [d2, lk_nil]
  cases lk At.key a k <;> simp [lkDiff]
theorem law_invdiff (ha : riseA a = true) (hb : riseA b = true) : invertP a (diffP a b) = diffP b a := by
  rw [riseA_srt] at ha hb
  obtain ⟨d1, d2, _⟩ := diff_all hb ha
  obtain ⟨e1, e2, _⟩ := diff_all ha hb
  obtain ⟨i1, i2, _⟩ := invert_all (s := a) d1
  refine lk_ext Ch.key i1 e1 fun k => ?_
  rw [i2, d2, e2]
  cases hx : lk At.key a k with
  | none => cases hy : lk At.key b k with
    | none => rfl
    | some y => simp [lkInv, lkDiff, chg, goneC]
  | some x =>
    have hxk := lk_key At.key hx
    cases hy : lk At.key b k with
    | none => simp [lkInv, lkDiff, chg, goneC]
    | some y =>
      have hyk := lk_key At.key hy
      obtain ⟨xk, xv⟩ := x
      obtain ⟨yk, yv⟩ := y
      simp only at hxk hyk
      by_cases hv : xv = yv
      · simp [lkInv, lkDiff, chg, hv]
      · have hv' : ¬ yv = xv := fun e => hv e.symm
        simp [lkInv, lkDiff, chg, hv, hv', hxk, hyk]
theorem law_compose (ha : riseA a = true) (hp : riseC p = true) (hq : riseC q = true) : applyP q (applyP p a) = applyP (composeP p q) a := by
  rw [riseA_srt] at ha
  rw [riseC_srt] at hp hq
  obtain ⟨a1, a2, _⟩ := apply_all hp ha
  obtain ⟨b1, b2, _⟩ := apply_all hq a1
  obtain ⟨c1, c2, _⟩ := compose_all hq hp
  obtain ⟨d1, d2, _⟩ := apply_all c1 ha
  refine lk_ext At.key b1 d1 fun k => ?_
  rw [b2, a2, d2, c2]
  cases lk Ch.key q k <;> rfl
theorem law_assoc (hp : riseC p = true) (hq : riseC q = true) (hr : riseC r = true) : composeP (composeP p q) r = composeP p (composeP q r) := by
  rw [riseC_srt] at hp hq hr
  obtain ⟨a1, a2, _⟩ := compose_all hq hp
  obtain ⟨b1, b2, _⟩ := compose_all hr a1
  obtain ⟨c1, c2, _⟩ := compose_all hr hq
  obtain ⟨d1, d2, _⟩ := compose_all c1 hp
  refine lk_ext Ch.key b1 d1 fun k => ?_
  rw [b2, a2, d2, c2]
  cases lk Ch.key r k <;> cases lk Ch.key q k <;> rfl
theorem law_nil_left (hp : riseC p = true) : composeP [] p = p := by
  rw [riseC_srt] at hp
  obtain ⟨a1, a2, _⟩ := compose_all hp (Srt.nil Ch.key)
  refine lk_ext Ch.key a1 hp fun k => ?_
  rw [a2, lk_nil]
  cases lk Ch.key p k <;> rfl
theorem apply_rise (hp : riseC p = true) (ha : riseA a = true) : riseA (applyP p a) = true := by
  rw [riseA_srt] at *
  rw [riseC_srt] at hp
  exact (apply_all hp ha).1
theorem compose_rise (hp : riseC p = true) (hq : riseC q = true) : riseC (composeP p q) = true := by
  rw [riseC_srt] at *
  exact (compose_all hq hp).1
theorem apply_len (hp : riseC p = true) (ha : riseA a = true) : (applyP p a).length ≤ p.length + a.length := by
  rw [riseA_srt] at ha
  rw [riseC_srt] at hp
  exact (apply_all hp ha).2.2.2
theorem diff_len (ha : riseA a = true) (hb : riseA b = true) : (diffP a b).length ≤ a.length + b.length := by
  rw [riseA_srt] at ha hb
  exact (diff_all hb ha).2.2.2
theorem compose_len (hp : riseC p = true) (hq : riseC q = true) : (composeP p q).length ≤ p.length + q.length := by
  rw [riseC_srt] at hp hq
  exact (compose_all hq hp).2.2.2
theorem invert_len (hp : riseC p = true) : (invertP a p).length ≤ p.length := by
  rw [riseC_srt] at hp
  exact (invert_all hp).2.2.2
theorem diff_rise (ha : riseA a = true) (hb : riseA b = true) : riseC (diffP a b) = true := by
  rw [riseA_srt] at ha hb
  rw [riseC_srt]
  exact (diff_all hb ha).1
theorem invert_rise (hp : riseC p = true) : riseC (invertP a p) = true := by
  rw [riseC_srt] at *
  exact (invert_all hp).1
end
end Go.Proofs.YtipoeidmblnbbaaGreatDoor
