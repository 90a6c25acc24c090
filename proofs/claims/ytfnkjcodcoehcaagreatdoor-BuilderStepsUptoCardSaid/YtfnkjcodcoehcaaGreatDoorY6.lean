/- Merged texts: Find, PatchLaw, KeepK, Schema2, SortKy, Base2. -/
import Derived.Test.YtfnkjcodcoehcaaGreatDoorY1
import Derived.Test.YtfnkjcodcoehcaaGreatDoorY5
import Derived.Test.YtfnkjcodcoehcaaGreatDoorY2
import Derived.Test.YtfnkjcodcoehcaaGreatDoorY4
import Derived.Shelf.SlSortCmp.NoneTotal
namespace Go.Proofs.YtfnkjcodcoehcaaGreatDoor
open Go.RowKit
set_option linter.unusedVariables false
set_option linter.unusedSimpArgs false

theorem rise_head {a : Int} {l : List Int} (h : rise (a :: l) = true) : ∀ b ∈ l, a < b := by
  induction l generalizing a with
  | nil => intro b hb; simp at hb
  | cons c l ih =>
    simp only [rise, Bool.and_eq_true, decide_eq_true_eq] at h
    intro b hb
    rcases List.mem_cons.1 hb with rfl | hb
    · exact h.1
    · have := ih h.2 b hb; omega
theorem rise_tail {a : Int} {l : List Int} (h : rise (a :: l) = true) : rise l = true := by
  cases l with
  | nil => rfl
  | cons c l => simp only [rise, Bool.and_eq_true] at h; exact h.2
theorem rise_lt {l : List At} (h : riseA l = true) : ∀ {x y : Nat} {a b : At}, x < y → l[x]? = some a → l[y]? = some b → a.key < b.key := by
  induction l with
  | nil => intro x y a b _ h1; simp at h1
  | cons c l ih =>
    intro x y a b hxy h1 h2
    have ht : riseA l = true := rise_tail (a := c.key) (l := l.map At.key) h
    cases y with
    | zero => omega
    | succ y =>
      cases x with
      | zero =>
        simp at h1 h2
        subst h1
        exact rise_head (a := c.key) (l := l.map At.key) h _ (List.mem_map.2 ⟨b, List.mem_of_getElem? h2, rfl⟩)
      | succ x => exact ih ht (Nat.lt_of_succ_lt_succ hxy) (by rw [List.getElem?_cons_succ] at h1; exact h1) (by rw [List.getElem?_cons_succ] at h2; exact h2)

def cmpI (a b : Int) : Int := if a < b then -1 else if b < a then 1 else 0

def BsInv (l : List At) (key : Int) (i j : Nat) : Prop :=
  i ≤ j ∧ j ≤ l.length ∧ (riseA l = true → (∀ x a, x < i → l[x]? = some a → a.key < key) ∧ ∀ x a, j ≤ x → l[x]? = some a → key ≤ a.key)
def FindOut (l : List At) (key : Int) (i : Nat) (b : Bool) : Prop :=
  i ≤ l.length ∧ (b = true ↔ ∃ a, l[i]? = some a ∧ a.key = key) ∧ (riseA l = true → (∀ x a, x < i → l[x]? = some a → a.key < key) ∧ ∀ x a, i ≤ x → l[x]? = some a → key ≤ a.key)
theorem BsInv.start (l : List At) (key : Int) : BsInv l key 0 l.length :=
  ⟨Nat.zero_le _, Nat.le_refl _, fun _ => ⟨fun x a h => by omega, fun x a h h1 => by rw [List.getElem?_eq_none h] at h1; cases h1⟩⟩
theorem BsInv.up {l : List At} {key : Int} {i j h : Nat} {a : At} (v : BsInv l key i j) (h2 : h < j) (ha : l[h]? = some a) (hk : a.key < key) : BsInv l key (h + 1) j :=
  ⟨h2, v.2.1, fun r => ⟨fun x b hx hb => by
    rcases Nat.lt_or_ge x h with hlt | hge
    · have := rise_lt r hlt hb ha; omega
    · have : x = h := by omega
      subst this
      rw [ha] at hb; injection hb with hb; subst hb; exact hk, (v.2.2 r).2⟩⟩
theorem BsInv.down {l : List At} {key : Int} {i j h : Nat} {a : At} (v : BsInv l key i j) (h1 : i ≤ h) (h2 : h < j) (ha : l[h]? = some a) (hk : ¬ a.key < key) : BsInv l key i h :=
  ⟨h1, by have := v.2.1; omega, fun r => ⟨(v.2.2 r).1, fun x b hx hb => by
    rcases Nat.lt_or_ge h x with hlt | hge
    · have := rise_lt r hlt ha hb; omega
    · have : x = h := by omega
      subst this
      rw [ha] at hb; injection hb with hb; subst hb; omega⟩⟩
theorem BsInv.done {l : List At} {key : Int} {i j : Nat} {b : Bool} (v : BsInv l key i j) (hij : ¬ i < j) (hb : b = true ↔ ∃ a, l[i]? = some a ∧ a.key = key) : FindOut l key i b := by
  obtain ⟨h1, h2, h3⟩ := v
  have : i = j := by omega
  subst this
  exact ⟨h2, hb, h3⟩

set_option maxHeartbeats 400000 in
theorem cmpNaN_any (x : Int) (w : World) : Calls Tryz.prog 149 #[.int .i64 x] w fun e w' => e = .returned (.bool false) ∧ w = w' := by
  go_enter Tryz.func149, Tryz.ntmps149
  go_wp2
  go_ret
  exact ⟨by simp, rfl⟩

set_option maxHeartbeats 400000 in
theorem compare_any (x y : Int) (w : World) : Calls Tryz.prog 71 #[.int .i64 x, .int .i64 y] w fun e w' => e = .returned (.int .i64 (cmpI x y)) ∧ w = w' := by
  have hc : (x < y ∧ cmpI x y = -1) ∨ (¬ x < y ∧ y < x ∧ cmpI x y = 1) ∨ (¬ x < y ∧ ¬ y < x ∧ cmpI x y = 0) := by
    unfold cmpI
    by_cases h1 : x < y
    · simp [h1]
    · by_cases h2 : y < x <;> simp [h1, h2]
  rcases hc with ⟨h1, hc⟩ | ⟨h1, h2, hc⟩ | ⟨h1, h2, hc⟩
  all_goals
    have HC := Lib.hid hc
    clear hc
    go_enter Tryz.func71, Tryz.ntmps71
    go_wp2_with (go_at_call 149; refine (cmpNaN_any _ _).mono ?_; rintro e w' ⟨rfl, rfl⟩)
    go_ret
    exact ⟨ret_int HC.out.symm, rfl⟩

set_option maxHeartbeats 400000 in
theorem findCmp_any (k a n f key : Int) (s : ByteArray) (w : World) :
    Calls Tryz.prog 238 #[.agg #[.int .i64 k, .int .u8 a, .int .i64 n, .int .u64 f, .string s], .int .i64 key] w fun e w' => e = .returned (.int .i64 (cmpI k key)) ∧ Below w.heap.size w w' := by
  go_enter Tryz.func238, Tryz.ntmps238
  go_wp2_with (go_at_call 71; refine (compare_any _ _ _).mono ?_; rintro e w' ⟨rfl, rfl⟩)
  go_ret
  exact ⟨rfl, (Below.refl _ _).alloc (Nat.le_refl _) _⟩

set_option maxRecDepth 100000 in
set_option maxHeartbeats 400000 in
theorem bsearch_any (A : Option Addr) (n c : Nat) (l : List At) (key : Int) (w : World) (hn : n = l.length) (h : RdAt w w.heap.size A l) (hb : n ≤ 140737488355328) :
    Calls Tryz.prog 237 #[.slice A n c, .int .i64 key, .func (.func 238) #[] #[]] w fun e w' =>
      ∃ (i : Nat) (b : Bool), e = .returned (.tuple #[.int .i64 (i : Int), .bool b]) ∧ FindOut l key i b ∧ Below w.heap.size w w' := by
  have N := Lib.hid hn
  clear hn
  go_enter Tryz.func237, Tryz.ntmps237
  go_wp2_with (fail)
  go_loopg [9, 10] n (fun g iv jv wr => ∃ i j : Nat, g = j - i ∧ iv = .int .i64 (i : Int) ∧ jv = .int .i64 (j : Int) ∧ BsInv l key i j ∧ Below w.heap.size w wr)
  case atStart => exact ⟨0, n, rfl, rfl, rfl, by rw [N.out]; exact BsInv.start l key, Below.refl _ _⟩
  case round =>
    obtain ⟨i, j, hg, rfl, rfl, hinv, hbw⟩ := hrel
    have HG := Lib.hid hg
    clear hg
    have hij : i ≤ j := hinv.1
    have hjn : j ≤ n := by have := hinv.2.1; rw [N.out]; exact this
    by_cases hlt : i < j
    · have hm1 : i ≤ (i + j) / 2 := by omega
      have hm2 : (i + j) / 2 < j := by omega
      obtain ⟨ad, x, rfl, _, _, hx, hc1⟩ := (h.below hbw (Nat.le_refl _)).el (i := (i + j) / 2) (by have := N.out; omega)
      obtain ⟨x1, x2, x3, x4, x5⟩ := x
      obtain ⟨r0, r1, r2, r3, r4⟩ := at_cells hc1
      have HX := Lib.hid hx
      clear hx hc1
      by_cases hk : x1 < key
      · have hcmp : cmpI x1 key = -1 := by simp [cmpI, hk]
        go_wp2_with (go_at_call 238; refine (findCmp_any _ _ _ _ _ _ _).mono ?_; rintro e w' ⟨rfl, hb'⟩)
        have hbw' := hbw.trans (hb'.mono hbw.size)
        go_roundg (j - ((i + j) / 2 + 1))
        case measure => have := HG.out; omega
        case rel => exact ⟨(i + j) / 2 + 1, j, rfl, by go_num, rfl, hinv.up hm2 HX.out hk, hbw'⟩
      · have hcmp : cmpI x1 key = 0 ∨ cmpI x1 key = 1 := by unfold cmpI; by_cases h2 : key < x1 <;> simp [hk, h2]
        have hcmp' : (decide (cmpI x1 key < 0)) = false := by rcases hcmp with h | h <;> simp [h]
        go_wp2_with (go_at_call 238; refine (findCmp_any _ _ _ _ _ _ _).mono ?_; rintro e w' ⟨rfl, hb'⟩)
        have hbw' := hbw.trans (hb'.mono hbw.size)
        go_roundg ((i + j) / 2 - i)
        case measure => have := HG.out; omega
        case rel => exact ⟨i, (i + j) / 2, rfl, rfl, by go_num, hinv.down hm1 hm2 HX.out (by show ¬ x1 < key; omega), hbw'⟩
    · by_cases hin : i < n
      · obtain ⟨ad, x, rfl, _, _, hx, hc1⟩ := (h.below hbw (Nat.le_refl _)).el (i := i) (by have := N.out; omega)
        obtain ⟨x1, x2, x3, x4, x5⟩ := x
        obtain ⟨r0, r1, r2, r3, r4⟩ := at_cells hc1
        have HX := Lib.hid hx
        clear hx hc1
        by_cases hk : x1 = key
        · have hcmp : (cmpI x1 key == 0) = true := by simp [cmpI, hk]
          have HK := Lib.hid hk
          clear hk
          go_wp2_with (go_at_call 238; refine (findCmp_any _ _ _ _ _ _ _).mono ?_; rintro e w' ⟨rfl, hb'⟩)
          go_ret2
          exact ⟨i, true, rfl, hinv.done hlt (by simpa using ⟨_, HX.out, HK.out⟩), hbw.trans (hb'.mono hbw.size)⟩
        · have hcmp : (cmpI x1 key == 0) = false := by
            unfold cmpI
            by_cases h1 : x1 < key <;> by_cases h2 : key < x1 <;> simp [h1, h2]
            omega
          go_wp2_with (go_at_call 238; refine (findCmp_any _ _ _ _ _ _ _).mono ?_; rintro e w' ⟨rfl, hb'⟩)
          go_ret2
          exact ⟨i, false, rfl, hinv.done hlt (by simp [HX.out, hk]), hbw.trans (hb'.mono hbw.size)⟩
      · go_wp2_with (fail)
        go_ret2
        have hl : l[i]? = none := List.getElem?_eq_none (by have := N.out; omega)
        exact ⟨i, false, rfl, hinv.done hlt (by simp [hl]), hbw⟩

set_option maxHeartbeats 400000 in
theorem find_any (A : Option Addr) (n c : Nat) (l : List At) (key : Int) (w : World) (hn : n = l.length) (h : RdAt w w.heap.size A l) (hb : n ≤ 140737488355328) :
    Calls Tryz.prog 224 #[.slice A n c, .int .i64 key] w fun e w' =>
      ∃ (i : Nat) (b : Bool), e = .returned (.tuple #[.int .i64 (i : Int), .bool b]) ∧ FindOut l key i b ∧ Below w.heap.size w w' := by
  have N := Lib.hid hn
  clear hn
  go_enter Tryz.func224, Tryz.ntmps224
  go_wp2_with (go_at_call 237; refine (bsearch_any A n c l key _ N.out h hb).mono ?_; rintro e w' ⟨i, b, rfl, hf, hb'⟩)
  go_ret2
  exact ⟨i, b, rfl, hf, hb'⟩

theorem getA_hit {l : List At} (hr : riseA l = true) {i : Nat} {a : At} (h : l[i]? = some a) : getA l a.key = some a.v := by
  unfold getA
  have : l.find? (fun b => decide (b.key = a.key)) = some a := by
    induction l generalizing i with
    | nil => simp at h
    | cons c l ih =>
      cases i with
      | zero => simp at h; subst h; simp
      | succ i =>
        have hlt : c.key < a.key := rise_lt hr (x := 0) (y := i + 1) (by omega) rfl h
        rw [List.find?_cons_of_neg (by simp; omega)]
        exact ih (rise_tail (a := c.key) (l := l.map At.key) hr) (by rw [List.getElem?_cons_succ] at h; exact h)
  rw [this]; rfl
theorem getA_miss {l : List At} {key : Int} (h : ∀ a ∈ l, a.key ≠ key) : getA l key = none := by
  unfold getA
  rw [List.find?_eq_none.2 (by intro a ha; simpa using h a ha)]; rfl

def GetOut (l : List At) (key : Int) (v : V) (b : Bool) : Prop :=
  (b = true → ∃ a ∈ l, a.key = key ∧ a.v = v) ∧ (b = false → v = V.zero) ∧ (riseA l = true → getA l key = if b then some v else none)

set_option maxHeartbeats 400000 in
theorem get_any (A : Option Addr) (n c : Nat) (l : List At) (key : Int) (w : World) (hn : n = l.length) (h : RdAt w w.heap.size A l) (hb : n ≤ 140737488355328) :
    Calls Tryz.prog 193 #[.slice A n c, .int .i64 key] w fun e w' =>
      ∃ (v : V) (b : Bool), e = .returned (.tuple #[.agg #[.int .u8 v.k, .int .i64 v.n, .int .u64 v.f, .string v.s], .bool b]) ∧ GetOut l key v b ∧ Below w.heap.size w w' := by
  have N := Lib.hid hn
  clear hn
  go_enter Tryz.func193, Tryz.ntmps193
  go_wp2_with (fail)
  refine (find_any A n c l key _ N.out ((h.alloc (Nat.le_refl _) _).more (by simp)) hb).mono ?_
  rintro e w1 ⟨i, b, rfl, hf, hb1⟩
  have hbx := (hb1.block w.heap.size (by simp)).trans (heap_alloc_new w _)
  have hbw : Below w.heap.size w w1 := ((Below.refl _ _).alloc (Nat.le_refl _) _).trans (hb1.mono (by simp))
  have hlt1 : w.heap.size < w1.heap.size := by have := hb1.size; simp at this; omega
  obtain ⟨b0, b1, b2, b3⟩ := box_v hbx
  have hfr := box_free hbx
  obtain ⟨f0, f1, f2, f3⟩ : w1.frozen? ⟨w.heap.size, 0, none⟩ = false ∧ w1.frozen? ⟨w.heap.size, 1, none⟩ = false ∧ w1.frozen? ⟨w.heap.size, 2, none⟩ = false ∧ w1.frozen? ⟨w.heap.size, 3, none⟩ = false := ⟨hfr 0, hfr 1, hfr 2, hfr 3⟩
  clear hfr hbx
  cases b with
  | false =>
    go_wp2_with (fail)
    refine bodyPost_ret (v := .tuple #[.agg #[.int .u8 0, .int .i64 0, .int .u64 0, .string ⟨#[]⟩], .bool false]) (by simp [results, Tryz.results193, go_sem, b0, b1, b2, b3]) rfl ⟨V.zero, false, rfl, ⟨by simp, fun _ => rfl, fun hr => ?_⟩, ?_⟩
    · refine getA_miss fun a ha e => ?_
      obtain ⟨j, hj⟩ := List.getElem?_of_mem ha
      obtain ⟨_, h2, h3⟩ := hf
      have h4 := (h3 hr).1 j a
      have h5 := (h3 hr).2 j a
      rcases Nat.lt_or_ge j i with hlt | hge
      · have := h4 hlt hj; omega
      · rcases Nat.eq_or_lt_of_le hge with he | hgt
        · subst he
          have := h2.2 ⟨a, hj, e⟩
          cases this
        · have hi : i < l.length := by have := (List.getElem?_eq_some_iff.1 hj).1; omega
          have h6 := (h3 hr).2 i _ (Nat.le_refl _) (List.getElem?_eq_getElem hi)
          have h7 := rise_lt hr hgt (List.getElem?_eq_getElem hi) hj
          omega
    · exact (((hbw.setCell (by simp) _).setCell (by simp) _).setCell (by simp) _).setCell (by simp) _
  | true =>
    obtain ⟨x, hx, hxk⟩ := hf.2.1.1 rfl
    have hil : i < l.length := (List.getElem?_eq_some_iff.1 hx).1
    obtain ⟨ad, y, rfl, _, _, hy, hc1⟩ := (h.below hbw (Nat.le_refl _)).el hil
    rw [hx] at hy
    injection hy with hy
    subst hy
    have hin : i < n := by have := N.out; omega
    have HX := Lib.hid hx
    have HXK := Lib.hid hxk
    clear hx hxk hf
    obtain ⟨x1, x2, x3, x4, x5⟩ := x
    obtain ⟨r0, r1, r2, r3, r4⟩ := at_cells hc1
    go_wp2_with (fail)
    refine bodyPost_ret (v := .tuple #[.agg #[.int .u8 x2, .int .i64 x3, .int .u64 x4, .string x5], .bool true]) (by simp [results, Tryz.results193, go_sem, b0, b1, b2, b3]) rfl ⟨⟨x2, x3, x4, x5⟩, true, rfl, ⟨fun _ => ⟨_, List.mem_of_getElem? HX.out, HXK.out, rfl⟩, by simp, fun hr => ?_⟩, ?_⟩
    · rw [← HXK.out]; exact getA_hit hr HX.out
    · exact (((hbw.setCell (by simp) _).setCell (by simp) _).setCell (by simp) _).setCell (by simp) _

section
variable {α : Type} (key : α → Int)
def lk (l : List α) (k : Int) : Option α := l.find? (fun a => decide (key a = k))
def Srt (l : List α) : Prop := l.Pairwise (fun a b => key a < key b)

theorem lk_nil (k : Int) : lk key [] k = none := rfl
theorem lk_cons (a : α) (l : List α) (k : Int) : lk key (a :: l) k = if key a = k then some a else lk key l k := by
  unfold lk
  by_cases h : key a = k <;> simp [h]
theorem lk_append (l m : List α) (k : Int) : lk key (l ++ m) k = (lk key l k).or (lk key m k) := by
  unfold lk
  rw [List.find?_append]
theorem lk_none {l : List α} {k : Int} (h : ∀ a ∈ l, key a ≠ k) : lk key l k = none := by
  unfold lk
  rw [List.find?_eq_none]
  intro a ha
  simpa using h a ha
theorem lk_key {l : List α} {k : Int} {a : α} (h : lk key l k = some a) : key a = k := by
  unfold lk at h
  have := List.find?_some h
  simpa using this
theorem lk_mem {l : List α} {k : Int} {a : α} (h : lk key l k = some a) : a ∈ l := by
  unfold lk at h
  exact List.mem_of_find?_eq_some h
theorem lk_of_mem {l : List α} (hs : Srt key l) {a : α} (h : a ∈ l) : lk key l (key a) = some a := by
  induction l with
  | nil => simp at h
  | cons b l ih =>
    rw [lk_cons]
    obtain ⟨h1, h2⟩ := List.pairwise_cons.1 hs
    rcases List.mem_cons.1 h with rfl | h
    · simp
    · have := h1 a h
      rw [if_neg (by omega)]
      exact ih h2 h
theorem lk_ext {l m : List α} (hl : Srt key l) (hm : Srt key m) (h : ∀ k, lk key l k = lk key m k) : l = m := by
  induction l generalizing m with
  | nil =>
    cases m with
    | nil => rfl
    | cons b m => have := h (key b); simp [lk_cons, lk_nil] at this
  | cons a l ih =>
    obtain ⟨h1, h2⟩ := List.pairwise_cons.1 hl
    cases m with
    | nil => have := h (key a); simp [lk_cons, lk_nil] at this
    | cons b m =>
      obtain ⟨h3, h4⟩ := List.pairwise_cons.1 hm
      have hab : key a = key b := by
        rcases Int.lt_trichotomy (key a) (key b) with hlt | he | hgt
        · have := h (key a)
          rw [lk_cons, if_pos rfl, lk_cons, if_neg (by omega), lk_none key (fun c hc => by have := h3 c hc; omega)] at this
          cases this
        · exact he
        · have := h (key b)
          rw [lk_cons, lk_cons, if_pos rfl, if_neg (by omega), lk_none key (fun c hc => by have := h1 c hc; omega)] at this
          cases this
      have e := h (key a)
      rw [lk_cons, if_pos rfl, lk_cons, if_pos hab.symm] at e
      injection e with e
      subst e
      congr 1
      refine ih h2 h4 fun k => ?_
      have := h k
      rw [lk_cons, lk_cons] at this
      by_cases hk : key a = k
      · rw [lk_none key (fun c hc => by have := h1 c hc; omega), lk_none key (fun c hc => by have := h3 c hc; omega)]
      · rw [if_neg hk, if_neg hk] at this; exact this
theorem Srt.nil : Srt key ([] : List α) := List.Pairwise.nil
theorem srt_cons {a : α} {l : List α} : Srt key (a :: l) ↔ (∀ b ∈ l, key a < key b) ∧ Srt key l := List.pairwise_cons
theorem srt_append {l m : List α} : Srt key (l ++ m) ↔ Srt key l ∧ Srt key m ∧ ∀ a ∈ l, ∀ b ∈ m, key a < key b := List.pairwise_append
theorem Srt.filter {l : List α} (h : Srt key l) (p : α → Bool) : Srt key (l.filter p) := List.Pairwise.filter p h
theorem lk_filter {l : List α} (hs : Srt key l) (p : α → Bool) (k : Int) : lk key (l.filter p) k = (lk key l k).filter p := by
  induction l with
  | nil => rfl
  | cons a l ih =>
    obtain ⟨h1, h2⟩ := (srt_cons key).1 hs
    rw [lk_cons]
    by_cases hk : key a = k
    · rw [if_pos hk]
      by_cases hp : p a = true
      · rw [List.filter_cons_of_pos hp, lk_cons, if_pos hk]; simp [Option.filter, hp]
      · rw [List.filter_cons_of_neg hp, lk_none key (fun c hc => by have := h1 c (List.mem_filter.1 hc).1; omega)]; simp [Option.filter, hp]
    · rw [if_neg hk, ← ih h2]
      by_cases hp : p a = true
      · rw [List.filter_cons_of_pos hp, lk_cons, if_neg hk]
      · rw [List.filter_cons_of_neg hp]
end

theorem rise_srt {α : Type} (key : α → Int) (l : List α) : rise (l.map key) = true ↔ Srt key l := by
  induction l with
  | nil => simp [rise, Srt]
  | cons a l ih =>
    rw [srt_cons, ← ih]
    constructor
    · intro h
      refine ⟨fun b hb => rise_head h _ (List.mem_map.2 ⟨b, hb, rfl⟩), rise_tail h⟩
    · rintro ⟨h1, h2⟩
      cases l with
      | nil => rfl
      | cons b l =>
        simp only [List.map_cons, rise, Bool.and_eq_true, decide_eq_true_eq]
        exact ⟨h1 b (by simp), h2⟩
theorem riseA_srt {l : List At} : riseA l = true ↔ Srt At.key l := rise_srt At.key l
theorem riseC_srt {l : List Ch} : riseC l = true ↔ Srt Ch.key l := rise_srt Ch.key l
theorem getA_lk (l : List At) (k : Int) : getA l k = (lk At.key l k).map (·.v) := rfl

theorem cut_lt {α : Type} (key : α → Int) {l : List α} (hs : Srt key l) (c : Int) :
    (∀ a ∈ l.takeWhile (fun a => decide (key a < c)), key a < c) ∧ (∀ a ∈ l.dropWhile (fun a => decide (key a < c)), c ≤ key a) := by
  induction l with
  | nil => simp
  | cons a l ih =>
    obtain ⟨h1, h2⟩ := (srt_cons key).1 hs
    by_cases h : key a < c
    · simp only [List.takeWhile_cons, List.dropWhile_cons, h, decide_true, if_true]
      refine ⟨fun b hb => ?_, (ih h2).2⟩
      rcases List.mem_cons.1 hb with rfl | hb
      · exact h
      · exact (ih h2).1 b hb
    · simp only [List.takeWhile_cons, List.dropWhile_cons, h, decide_false, Bool.false_eq_true, if_false]
      refine ⟨fun b hb => by simp at hb, fun b hb => ?_⟩
      rcases List.mem_cons.1 hb with rfl | hb
      · omega
      · have := h1 b hb; omega
theorem cut_le {α : Type} (key : α → Int) {l : List α} (hs : Srt key l) (c : Int) :
    (∀ a ∈ l.takeWhile (fun a => decide (key a ≤ c)), key a ≤ c) ∧ (∀ a ∈ l.dropWhile (fun a => decide (key a ≤ c)), c < key a) := by
  induction l with
  | nil => simp
  | cons a l ih =>
    obtain ⟨h1, h2⟩ := (srt_cons key).1 hs
    by_cases h : key a ≤ c
    · simp only [List.takeWhile_cons, List.dropWhile_cons, h, decide_true, if_true]
      refine ⟨fun b hb => ?_, (ih h2).2⟩
      rcases List.mem_cons.1 hb with rfl | hb
      · exact h
      · exact (ih h2).1 b hb
    · simp only [List.takeWhile_cons, List.dropWhile_cons, h, decide_false, Bool.false_eq_true, if_false]
      refine ⟨fun b hb => by simp at hb, fun b hb => ?_⟩
      rcases List.mem_cons.1 hb with rfl | hb
      · omega
      · have := h1 b hb; omega
theorem srt_tw {α : Type} (key : α → Int) {l : List α} (hs : Srt key l) (p : α → Bool) : Srt key (l.takeWhile p) := hs.sublist (List.takeWhile_sublist p)
theorem srt_dw {α : Type} (key : α → Int) {l : List α} (hs : Srt key l) (p : α → Bool) : Srt key (l.dropWhile p) := hs.sublist (List.dropWhile_sublist p)
theorem drop1_gt {l : List At} (hs : Srt At.key l) {c : Int} (h : ∀ a ∈ l, c ≤ a.key) : Srt At.key (drop1 c l) ∧ (∀ a ∈ drop1 c l, c < a.key) ∧ ∀ k, c < k → lk At.key (drop1 c l) k = lk At.key l k := by
  cases l with
  | nil => exact ⟨hs, by simp [drop1], fun _ _ => rfl⟩
  | cons a l =>
    obtain ⟨h1, h2⟩ := (srt_cons At.key).1 hs
    have hd : drop1 c (a :: l) = if a.key = c then l else a :: l := rfl
    rw [hd]
    by_cases he : a.key = c
    · rw [if_pos he]
      exact ⟨h2, fun b hb => by have := h1 b hb; omega, fun k hk => by rw [lk_cons, if_neg (by omega)]⟩
    · rw [if_neg he]
      refine ⟨hs, fun b hb => ?_, fun _ _ => rfl⟩
      have ha := h a (by simp)
      rcases List.mem_cons.1 hb with rfl | hb
      · omega
      · have := h1 b hb; omega

def lkApply (c : Option Ch) (x : Option At) : Option At :=
  match c with
  | some c => if c.gone = true then none else some ⟨c.key, c.v⟩
  | none => x
theorem mem_put1 {c : Ch} {a : At} (h : a ∈ put1 c) : a.key = c.key := by
  unfold put1 at h
  split at h
  · simp at h
  · simp at h; rw [h]
theorem apply_all {p : List Ch} (hp : Srt Ch.key p) : ∀ {s : List At}, Srt At.key s →
    Srt At.key (applyP p s) ∧ (∀ k, lk At.key (applyP p s) k = lkApply (lk Ch.key p k) (lk At.key s k)) ∧ (∀ m : Int, (∀ c ∈ p, m < c.key) → (∀ a ∈ s, m < a.key) → ∀ a ∈ applyP p s, m < a.key) ∧ (applyP p s).length ≤ p.length + s.length := by
  induction p with
  | nil => intro s hs; exact ⟨hs, fun k => rfl, fun m _ h a ha => h a ha, by simp [applyP]⟩
  | cons c p ih =>
    intro s hs
    obtain ⟨h1, h2⟩ := (srt_cons Ch.key).1 hp
    obtain ⟨t1, t2⟩ := cut_lt At.key hs c.key
    have hts := srt_tw At.key hs (fun a => decide (a.key < c.key))
    have hds := srt_dw At.key hs (fun a => decide (a.key < c.key))
    have e : applyP (c :: p) s = s.takeWhile (fun a => decide (a.key < c.key)) ++ (put1 c ++ applyP p (drop1 c.key (s.dropWhile (fun a => decide (a.key < c.key))))) := rfl
    have happ : s.takeWhile (fun a => decide (a.key < c.key)) ++ s.dropWhile (fun a => decide (a.key < c.key)) = s := List.takeWhile_append_dropWhile
    have hlen : (s.takeWhile (fun a => decide (a.key < c.key))).length + (s.dropWhile (fun a => decide (a.key < c.key))).length = s.length := by rw [← List.length_append, happ]
    have hlk : ∀ k, lk At.key s k = (lk At.key (s.takeWhile (fun a => decide (a.key < c.key))) k).or (lk At.key (s.dropWhile (fun a => decide (a.key < c.key))) k) := fun k => by rw [← lk_append, happ]
    have hmt : ∀ a ∈ s.takeWhile (fun a => decide (a.key < c.key)), a ∈ s := fun a ha => (List.takeWhile_sublist _).subset ha
    have hmd : ∀ a ∈ s.dropWhile (fun a => decide (a.key < c.key)), a ∈ s := fun a ha => (List.dropWhile_sublist _).subset ha
    generalize s.takeWhile (fun a => decide (a.key < c.key)) = tw at *
    generalize s.dropWhile (fun a => decide (a.key < c.key)) = dw at *
    obtain ⟨d1, d2, d3⟩ := drop1_gt hds t2
    have hdl : (drop1 c.key dw).length ≤ dw.length := by
      unfold drop1; split
      · simp
      · split <;> simp
    have hdm : ∀ a ∈ drop1 c.key dw, a ∈ dw := by
      unfold drop1; split
      · simp
      · intro a ha; split at ha
        · exact List.mem_cons_of_mem _ ha
        · exact ha
    obtain ⟨i1, i2, i3, i4⟩ := ih h2 d1
    rw [e]
    have hput : ∀ a ∈ put1 c, a.key = c.key := fun a ha => mem_put1 ha
    have hpl : (put1 c).length ≤ 1 := by unfold put1; split <;> simp
    have hrest : ∀ a ∈ applyP p (drop1 c.key dw), c.key < a.key := i3 c.key h1 d2
    refine ⟨?_, fun k => ?_, fun m hm1 hm2 a ha => ?_, ?_⟩
    · rw [srt_append, srt_append]
      refine ⟨hts, ⟨?_, i1, fun a ha b hb => ?_⟩, fun a ha b hb => ?_⟩
      · unfold put1; split
        · exact Srt.nil _
        · rw [srt_cons]; exact ⟨by simp, Srt.nil _⟩
      · rw [hput a ha]; exact hrest b hb
      · have := t1 a ha
        rcases List.mem_append.1 hb with hb | hb
        · rw [hput b hb]; exact this
        · have := hrest b hb; omega
    · rw [lk_append, lk_append, hlk, lk_cons]
      rcases Int.lt_trichotomy k c.key with hlt | rfl | hgt
      · rw [if_neg (by omega), lk_none Ch.key (fun d hd => by have := h1 d hd; omega), lk_none At.key (l := put1 c) (fun d hd => by have := hput d hd; omega), lk_none At.key (l := applyP p (drop1 c.key dw)) (fun d hd => by have := hrest d hd; omega),
          lk_none At.key (l := dw) (fun d hd => by have := t2 d hd; omega)]
        rfl
      · rw [if_pos rfl, lk_none At.key (l := tw) (fun d hd => by have := t1 d hd; omega), lk_none At.key (l := applyP p (drop1 c.key dw)) (fun d hd => by have := hrest d hd; omega)]
        unfold put1 lkApply
        by_cases hg : c.gone = true
        · simp [hg, lk_nil]
        · simp [hg, lk_cons]
      · rw [if_neg (by omega), lk_none At.key (l := tw) (fun d hd => by have := t1 d hd; omega), lk_none At.key (l := put1 c) (fun d hd => by have := hput d hd; omega), i2, d3 k hgt]
        rfl
    · rcases List.mem_append.1 ha with ha | ha
      · exact hm2 a (hmt a ha)
      · rcases List.mem_append.1 ha with ha | ha
        · rw [hput a ha]; exact hm1 c (by simp)
        · have := hrest a ha; have := hm1 c (by simp); omega
    · simp only [List.length_append, List.length_cons]; omega

theorem compose_all {q : List Ch} (hq : Srt Ch.key q) : ∀ {p : List Ch}, Srt Ch.key p →
    Srt Ch.key (composeP p q) ∧ (∀ k, lk Ch.key (composeP p q) k = (lk Ch.key q k).or (lk Ch.key p k)) ∧ (∀ m : Int, (∀ c ∈ p, m < c.key) → (∀ c ∈ q, m < c.key) → ∀ c ∈ composeP p q, m < c.key) ∧ (composeP p q).length ≤ p.length + q.length := by
  induction q with
  | nil => intro p hp; rw [composeP_nil]; exact ⟨hp, fun k => by rw [lk_nil]; rfl, fun m h _ c hc => h c hc, by simp⟩
  | cons x q ih =>
    intro p hp
    obtain ⟨h1, h2⟩ := (srt_cons Ch.key).1 hq
    obtain ⟨t1, t2⟩ := cut_le Ch.key hp x.key
    have hts := srt_tw Ch.key hp (fun a => decide (a.key ≤ x.key))
    have hds := srt_dw Ch.key hp (fun a => decide (a.key ≤ x.key))
    have e : composeP p (x :: q) = (p.takeWhile (fun a => decide (a.key ≤ x.key))).filter (fun a => decide (a.key < x.key)) ++ x :: composeP (p.dropWhile (fun a => decide (a.key ≤ x.key))) q := by rw [composeP_cons]; rfl
    have happ : p.takeWhile (fun a => decide (a.key ≤ x.key)) ++ p.dropWhile (fun a => decide (a.key ≤ x.key)) = p := List.takeWhile_append_dropWhile
    have hlen : (p.takeWhile (fun a => decide (a.key ≤ x.key))).length + (p.dropWhile (fun a => decide (a.key ≤ x.key))).length = p.length := by rw [← List.length_append, happ]
    have hlk : ∀ k, lk Ch.key p k = (lk Ch.key (p.takeWhile (fun a => decide (a.key ≤ x.key))) k).or (lk Ch.key (p.dropWhile (fun a => decide (a.key ≤ x.key))) k) := fun k => by rw [← lk_append, happ]
    have hmt : ∀ c ∈ p.takeWhile (fun a => decide (a.key ≤ x.key)), c ∈ p := fun c hc => (List.takeWhile_sublist _).subset hc
    generalize p.takeWhile (fun a => decide (a.key ≤ x.key)) = tw at *
    generalize p.dropWhile (fun a => decide (a.key ≤ x.key)) = dw at *
    rw [e]
    obtain ⟨j1, j2, j3, j4⟩ := ih h2 hds
    have j5 := j3 x.key t2 h1
    have hf := hts.filter Ch.key (fun a => decide (a.key < x.key))
    have hfl := lk_filter Ch.key hts (fun a => decide (a.key < x.key))
    have hfm : ∀ c ∈ tw.filter (fun a => decide (a.key < x.key)), c ∈ tw ∧ c.key < x.key := fun c hc => by have := List.mem_filter.1 hc; simpa using this
    have hfn : (tw.filter (fun a => decide (a.key < x.key))).length ≤ tw.length := List.length_filter_le _ _
    generalize tw.filter (fun a => decide (a.key < x.key)) = ft at *
    refine ⟨?_, fun k => ?_, fun m hm1 hm2 c hc => ?_, ?_⟩
    · rw [srt_append, srt_cons]
      refine ⟨hf, ⟨j5, j1⟩, fun a ha b hb => ?_⟩
      have := (hfm a ha).2
      rcases List.mem_cons.1 hb with rfl | hb
      · exact this
      · have := j5 b hb; omega
    · rw [lk_append, lk_cons, hfl, hlk, lk_cons Ch.key x]
      rcases Int.lt_trichotomy k x.key with hlt | rfl | hgt
      · rw [if_neg (by omega), if_neg (by omega), lk_none Ch.key (l := composeP dw q) (fun d hd => by have := j5 d hd; omega), lk_none Ch.key (l := q) (fun d hd => by have := h1 d hd; omega), lk_none Ch.key (l := dw) (fun d hd => by have := t2 d hd; omega)]
        cases hl : lk Ch.key tw k with
        | none => rfl
        | some d =>
          have := lk_key Ch.key hl
          have hd : d.key < x.key := by omega
          simp [Option.filter, hd]
      · rw [if_pos rfl, if_pos rfl]
        cases hl : lk Ch.key tw x.key with
        | none => rfl
        | some d =>
          have := lk_key Ch.key hl
          have hd : ¬ d.key < x.key := by omega
          simp [Option.filter, hd]
      · rw [if_neg (by omega), if_neg (by omega), j2, lk_none Ch.key (l := tw) (fun d hd => by have := t1 d hd; omega)]
        rfl
    · rcases List.mem_append.1 hc with hc | hc
      · exact hm1 c (hmt c (hfm c hc).1)
      · rcases List.mem_cons.1 hc with rfl | hc
        · exact hm2 _ (by simp)
        · have := j5 c hc; have := hm2 x (by simp); omega
    · simp only [List.length_append, List.length_cons]; omega

section
variable {a b : List At} {p q r : List Ch}
theorem apply_len (hp : riseC p = true) (ha : riseA a = true) : (applyP p a).length ≤ p.length + a.length := by
  rw [riseA_srt] at ha
  rw [riseC_srt] at hp
  exact (apply_all hp ha).2.2.2
end

def keepK (l : List Ky) (b : Bool) (id : Int) : Bool :=
  match findK l id with
  | none => false
  | some k => k.block == b
def partP (l : List Ky) (b : Bool) (p : List Ch) : List Ch := p.filter (fun c => keepK l b c.key)
open Go.RowKit
set_option linter.unusedVariables false
set_option linter.unusedSimpArgs false

def okPre (seen : List Ky) : List Ky → Bool
  | [] => true
  | k :: r => mayK k && (findK seen k.id).isNone && okPre (seen ++ [k]) r
def mayKs (l : List Ky) : Bool := decide (l.length ≤ 64) && okPre [] l
open Go.RowKit Go.Shelf Go.Lib Go.Sort

def Tryz.sortKy_ren : Go.Shelf.Ren := ⟨fun | 6 => 69 | 15 => 148 | 14 => 147 | 28 => 203 | 29 => 204 | 20 => 195 | 21 => 196 | 22 => 197 | 23 => 198 | 24 => 199 | 25 => 200 | 26 => 201 | 27 => 202 | 46 => 225 | 47 => 226 | 48 => 227 | 49 => 228 | 50 => 229 | 57 => 239 | n => n, fun | 22 => 22 | 24 => 97 | 25 => 113 | 3 => 3 | 39 => 185 | 0 => 0 | 53 => 224 | 55 => 39 | 4 => 4 | 46 => 218 | 45 => 217 | 50 => 212 | 5 => 5 | 9 => 9 | 66 => 245 | 70 => 249 | 76 => 258 | 77 => 51 | n => n, fun | n => n⟩
theorem Tryz.sortKy : Go.Proofs.SlLaysF0.n6 Tryz.prog Tryz.sortKy_ren := {
  mixed := by kernel_rfl
  f6 := ⟨Tryz.f69.name, by decide, Tryz.func69.trans (congrArg some (by kernel_rfl))⟩
  f14 := ⟨Tryz.f147.name, by decide, Tryz.func147.trans (congrArg some (by kernel_rfl))⟩
  f15 := Tryz.func148.trans (congrArg some (by kernel_rfl))
  f20 := ⟨Tryz.f195.name, by decide, Tryz.func195.trans (congrArg some (by kernel_rfl))⟩
  f21 := ⟨Tryz.f196.name, by decide, Tryz.func196.trans (congrArg some (by kernel_rfl))⟩
  f22 := ⟨Tryz.f197.name, by decide, Tryz.func197.trans (congrArg some (by kernel_rfl))⟩
  f23 := ⟨Tryz.f198.name, by decide, Tryz.func198.trans (congrArg some (by kernel_rfl))⟩
  f24 := ⟨Tryz.f199.name, by decide, Tryz.func199.trans (congrArg some (by kernel_rfl))⟩
  f25 := ⟨Tryz.f200.name, by decide, Tryz.func200.trans (congrArg some (by kernel_rfl))⟩
  f26 := ⟨Tryz.f201.name, by decide, Tryz.func201.trans (congrArg some (by kernel_rfl))⟩
  f27 := ⟨Tryz.f202.name, by decide, Tryz.func202.trans (congrArg some (by kernel_rfl))⟩
  f28 := Tryz.func203.trans (congrArg some (by kernel_rfl))
  f29 := Tryz.func204.trans (congrArg some (by kernel_rfl))
  f46 := ⟨Tryz.f225.name, by decide, Tryz.func225.trans (congrArg some (by kernel_rfl))⟩
  f47 := Tryz.func226.trans (congrArg some (by kernel_rfl))
  f48 := Tryz.func227.trans (congrArg some (by kernel_rfl))
  f49 := ⟨Tryz.f228.name, by decide, Tryz.func228.trans (congrArg some (by kernel_rfl))⟩
  f50 := ⟨Tryz.f229.name, by decide, Tryz.func229.trans (congrArg some (by kernel_rfl))⟩
  f57 := ⟨Tryz.f239.name, by decide, Tryz.func239.trans (congrArg some (by kernel_rfl))⟩
  t0 := Tryz.underlying0
  a0 := Tryz.isAgg0
  z0 := Tryz.sizeOf0
  v0 := Tryz.zeroValue0
  t3 := Tryz.underlying3
  a3 := Tryz.isAgg3
  z3 := Tryz.sizeOf3
  v3 := Tryz.zeroValue3
  t4 := Tryz.underlying4
  a4 := Tryz.isAgg4
  z4 := Tryz.sizeOf4
  v4 := Tryz.zeroValue4
  t5 := Tryz.underlying5
  a5 := Tryz.isAgg5
  z5 := Tryz.sizeOf5
  v5 := Tryz.zeroValue5
  t9 := Tryz.underlying9
  a9 := Tryz.isAgg9
  z9 := Tryz.sizeOf9
  v9 := Tryz.zeroValue9
  t22 := Tryz.underlying22
  a22 := Tryz.isAgg22
  z22 := Tryz.sizeOf22
  v22 := Tryz.zeroValue22
  t25 := Tryz.underlying113
  a25 := Tryz.isAgg113
  z25 := Tryz.sizeOf113
  v25 := Tryz.zeroValue113
  t39 := Tryz.underlying185
  a39 := Tryz.isAgg185
  z39 := Tryz.sizeOf185
  v39 := Tryz.zeroValue185
  t45 := Tryz.underlying217
  a45 := Tryz.isAgg217
  z45 := Tryz.sizeOf217
  v45 := Tryz.zeroValue217
  t46 := Tryz.underlying218
  a46 := Tryz.isAgg218
  z46 := Tryz.sizeOf218
  v46 := Tryz.zeroValue218
  t50 := Tryz.underlying212
  a50 := Tryz.isAgg212
  z50 := Tryz.sizeOf212
  v50 := Tryz.zeroValue212
  t53 := Tryz.underlying224
  a53 := Tryz.isAgg224
  z53 := Tryz.sizeOf224
  v53 := Tryz.zeroValue224
  t55 := Tryz.underlying39
  a55 := Tryz.isAgg39
  z55 := Tryz.sizeOf39
  v55 := Tryz.zeroValue39
  t66 := Tryz.underlying245
  a66 := Tryz.isAgg245
  z66 := Tryz.sizeOf245
  v66 := Tryz.zeroValue245
  t70 := Tryz.underlying249
  a70 := Tryz.isAgg249
  z70 := Tryz.sizeOf249
  v70 := Tryz.zeroValue249
  t76 := Tryz.underlying258
  a76 := Tryz.isAgg258
  z76 := Tryz.sizeOf258
  v76 := Tryz.zeroValue258
  t77 := Tryz.underlying51
  a77 := Tryz.isAgg51
  z77 := Tryz.sizeOf51
  v77 := Tryz.zeroValue51 }

def cmpKy (x y : Ky) : Int := cmpI x.id y.id
theorem ltKy (x y : Ky) : ltOf cmpKy x y = decide (x.id < y.id) := by
  unfold ltOf cmpKy cmpI
  by_cases h1 : x.id < y.id
  · simp [h1]
  · by_cases h2 : y.id < x.id <;> simp [h1, h2]
theorem swoKy : SWO (ltOf cmpKy) where
  irrefl x := by rw [ltKy]; simp
  trans x y z h1 h2 := by rw [ltKy] at *; simp at *; omega
  ntrans x y z h1 h2 := by rw [ltKy] at *; simp at *; omega
instance : Inhabited Ky := ⟨Ky.zero⟩

set_option maxHeartbeats 1000000 in
theorem cmpNew_any (x y : Ky) (W : World) : Calls Tryz.prog 70 #[.agg #[.int .i64 x.id, .bool x.block, .int .u8 x.kind, .bool x.after, .bool x.before, .int .i64 x.group], .agg #[.int .i64 y.id, .bool y.block, .int .u8 y.kind, .bool y.after, .bool y.before, .int .i64 y.group]] W
    fun e w' => e = .returned (.int .i64 (cmpKy x y)) ∧ ∃ q os', w' = grow (W.drewN q) os' := by
  unfold cmpKy
  have hcon := fun W' => compare_any x.id y.id W'
  generalize cmpI x.id y.id = r at hcon ⊢
  go_enter Tryz.func70, Tryz.ntmps70
  go_wp2_with (go_at_call 71; refine (hcon _).mono ?_; rintro e w' ⟨rfl, rfl⟩)
  go_ret
  exact ⟨rfl, 0, _, by rw [alloc_eq_grow, alloc_eq_grow, grow_grow]; rfl⟩
theorem cmpLaysKy (blk off size : Nat) (w : World) : CmpLays Tryz.prog 70 #[] Ky.enc 6 cmpKy blk off size w :=
  fun _ _ _ _ x y => cmpNew_any x y _

def SortOut (A : Option Addr) (n c : Nat) (l : List Ky) (w : World) (base : Nat) (e : Ending) (w' : World) : Prop :=
  e = .returned (.tuple #[]) ∧ ∃ l' : List Ky, l'.Perm l ∧ l'.Pairwise (fun a b => a.id ≤ b.id) ∧ RdKy w' w'.heap.size A l' ∧ Below base w w' ∧ ∀ j, j < w.heap.size → (∀ k, wb (.slice A n c) = some k → k ≠ j) → w'.heap[j]? = w.heap[j]?

theorem heap_putRowK (w : World) (blk off : Nat) (d : Array Ky) (j : Nat) (h : j ≠ blk) : (putRowK Ky.enc 6 w blk off d).heap[j]? = w.heap[j]? := by
  simp only [putRowK, putRow, mapBlock]
  rw [Array.getElem?_modify, if_neg (fun e => h e.symm)]
theorem size_putRowK (w : World) (blk off : Nat) (d : Array Ky) : (putRowK Ky.enc 6 w blk off d).heap.size = w.heap.size := by
  simp only [putRowK, putRow, mapBlock, Array.size_modify]

theorem perm_of {d d' : Array Ky} (h : PermIn 0 d.size d d') : d'.toList.Perm d.toList := by
  have h1 := h.1
  have h2 := h.2.2
  have e1 : d'.extract 0 d.size = d' := by rw [← h1]; simp
  have e2 : d.extract 0 d.size = d := by simp
  rw [e1, e2] at h2
  exact h2
theorem sorted_of {d : Array Ky} {n : Nat} (hn : d.size = n) (h : SortedIn (ltOf cmpKy) 0 n d) : d.toList.Pairwise (fun a b => a.id ≤ b.id) := by
  rw [List.pairwise_iff_getElem]
  intro i j hi hj hij
  have h2 := h i j (Nat.zero_le _) hij (by rw [← hn]; simpa using hj)
  rw [ltKy] at h2
  have hi' : i < d.size := by simpa using hi
  have hj' : j < d.size := by simpa using hj
  rw [getElem!_pos d i hi', getElem!_pos d j hj'] at h2
  simp at h2
  simpa using h2

set_option maxHeartbeats 1000000 in
theorem sortKy_any (A : Option Addr) (n c base : Nat) (l : List Ky) (w : World) (hown : OwKy w base (.slice A n c) l) (hb : n ≤ 100000000) :
    Calls Tryz.prog 69 #[.slice A n c, .func (.func 70) #[] #[]] w (SortOut A n c l w base) := by
  have eg : ∀ args w, (callFunc 70 args).run Tryz.prog w = .ok (.enter 70 args) w := enters_of Tryz.func70 (by kernel_rfl) rfl
  have none_case : l = [] → n = 0 → Calls Tryz.prog 69 #[.slice A n c, .func (.func 70) #[] #[]] w (SortOut A n c l w base) := by
    intro h1 h2
    subst h1 h2
    have hcon := AnyF.slices_SortFunc_none Tryz.sortKy A c (.func (.func 70) #[] #[]) w
    change Calls Tryz.prog 69 _ _ _ at hcon
    refine hcon.mono ?_
    rintro e w' ⟨rfl, rfl⟩
    exact ⟨rfl, [], List.Perm.refl _, List.Pairwise.nil, Rd.nil, Below.refl _ _, fun _ _ _ => rfl⟩
  rcases hown with ⟨h1, A', h2⟩ | ⟨hx, ⟨h1, h2⟩ | ⟨g, cap, cur, h1, hg, hblk, hn1, hn2, hsz, htk⟩⟩
  · injection h2 with _ h2 _
    exact none_case h1 h2
  · injection h1 with _ h1 _
    exact none_case (List.eq_nil_of_length_eq_zero h2) h1
  · injection h1 with hA hnl hc
    subst hA hnl hc
    by_cases hl0 : l.length = 0
    · exact none_case (List.eq_nil_of_length_eq_zero hl0) hl0
    have hwb : ∀ j, (∀ k, wb (.slice (some ⟨g, 0, none⟩) l.length c) = some k → k ≠ j) → j ≠ g := by
      intro j hk e
      cases c with
      | zero => omega
      | succ c => exact hk g rfl e.symm
    have hlt : g < w.heap.size := (Array.getElem?_eq_some_iff.1 hblk).1
    have hcell : ∀ j u, (l.flatMap Ky.enc)[j]? = some u → w.cell? ⟨g, j, none⟩ = some u := by
      intro j u hu
      rw [← htk] at hu
      have hj := (List.getElem?_eq_some_iff.1 hu).1
      rw [List.getElem?_take_of_lt (by rw [List.length_take] at hj; omega)] at hu
      simp only [World.cell?, hblk]
      simpa using hu
    have hH : HoldsK Ky.enc 6 w g 0 l.toArray := by
      intro j hj
      rw [size_flatK] at hj
      have hj' : j < l.length * 6 := by simpa using hj
      have hq : j / 6 < l.length := by omega
      refine ⟨?_, by simp [World.frozen?, hblk]⟩
      rw [get_flatK _ _ _ _ hj]
      simp only [id]
      have e1 : l.toArray[j / 6]! = l[j / 6] := by rw [getElem!_pos _ _ (by simpa using hq)]; simp
      rw [e1, Nat.zero_add]
      have hm : j % 6 < (Ky.enc l[j / 6]).length := by rw [Ky.enc_len]; omega
      rw [getElem!_pos (Ky.enc l[j / 6]) (j % 6) hm]
      have hf := flat_get (size := 6) Ky.enc_len l (j / 6) (j % 6) _ hq (List.getElem?_eq_getElem hm)
      rw [Nat.div_add_mod'] at hf
      exact hcell j _ hf
    have hcon := AnyQ.slices_SortFunc Tryz.sortKy 6 Tryz.isAgg97 Tryz.sizeOf97 Ky.enc Ky.enc_len Ky.enc_one cmpKy swoKy 70 #[] g 0 c l.toArray w eg (cmpLaysKy g 0 _ w) hH hlt (by simp; omega)
    change Calls Tryz.prog 69 _ _ _ at hcon
    rw [List.size_toArray] at hcon
    refine hcon.mono ?_
    rintro e w' ⟨rfl, d', q, os, hp, hs, rfl⟩
    have hsize : d'.size = l.length := by simpa using hp.1
    have hH' : HoldsK Ky.enc 6 (sortWorldK Ky.enc 6 w g 0 q d' os) g 0 d' :=
      holdsK_grow Ky.enc 6 _ os g 0 d' (by rw [size_putRowK]; exact hlt) (holdsK_putRowK Ky.enc 6 (Sort.ahead w q) g 0 l.toArray d' hH (by simpa using hsize))
    have hheap : ∀ j, j < w.heap.size → j ≠ g → (sortWorldK Ky.enc 6 w g 0 q d' os).heap[j]? = w.heap[j]? := by
      intro j hj hne
      unfold sortWorldK
      rw [heap_grow_old _ _ (by rw [size_putRowK]; exact hj), heap_putRowK _ _ _ _ _ hne]
      rfl
    have hsz2 : w.heap.size ≤ (sortWorldK Ky.enc 6 w g 0 q d' os).heap.size := by
      have : (sortWorldK Ky.enc 6 w g 0 q d' os).heap.size = (putRowK Ky.enc 6 (Sort.ahead w q) g 0 d').heap.size + os.size := by simp [sortWorldK, grow]
      rw [this, size_putRowK]
      exact Nat.le_add_right _ _
    refine ⟨rfl, d'.toList, by simpa using perm_of (d := l.toArray) (by simpa using hp), sorted_of hsize hs, ?_, ⟨rfl, rfl, rfl, hsz2, fun j hj => hheap j (by omega) (by omega)⟩, fun j hj hne => hheap j hj (hwb j hne)⟩
    intro hl
    refine ⟨_, rfl, Nat.lt_of_lt_of_le hlt hsz2, fun i hi => ?_⟩
    intro j u hu
    have hi' : i < d'.size := by simpa using hi
    have hj6 : j < 6 := by have := (List.getElem?_eq_some_iff.1 hu).1; rw [Ky.enc_len] at this; exact this
    have h3 := (HoldsK.cell hH' hi' hj6).1
    have e3 : (Ky.enc d'[i]!)[j]! = u := by
      rw [getElem!_pos d' i hi', getElem!_pos (Ky.enc d'[i]) j (by rw [Ky.enc_len]; exact hj6)]
      have h4 := List.getElem?_eq_some_iff.1 hu
      obtain ⟨_, h4⟩ := h4
      simpa using h4
    rw [e3, Nat.zero_add] at h3
    rw [add_add']
    have ea : (⟨g, 0, none⟩ : Addr).add (i * 6 + j) = ⟨g, i * 6 + j, none⟩ := by
      unfold Addr.add
      split
      · rename_i h0; rw [h0]
      · simp
    rw [ea]
    exact h3

section
variable {α : Type} {enc : α → List Value} {size : Nat} {e : TypeId} {w : World} {base n c : Nat} {A : Option Addr} {l : List α}
theorem Ow.cap (h : Ow enc size e w base (.slice A n c) l) : l.length ≤ c ∧ c ≤ maxLen := by
  obtain ⟨_, _, ev, hle, hcm⟩ := h.form
  injection ev with _ _ ev
  exact ⟨by omega, by omega⟩
end
end Go.Proofs.YtfnkjcodcoehcaaGreatDoor
