/- Merged texts: PatchLaw, KeepK, Schema2. -/
import Derived.Test.YtfnkjcodcoehcaaGreatDoorR9
import Derived.Test.YtfnkjcodcoehcaaGreatDoorR2
import Derived.Test.YtfnkjcodcoehcaaGreatDoorR7
namespace Go.Proofs.YtfnkjcodcoehcaaGreatDoor
set_option linter.unusedVariables false
set_option linter.unusedSimpArgs false

section
variable {α : Type} (key : α → Int)
def lk (l : List α) (k : Int) : Option α := l.find? (fun a => decide (key a = k))
def Srt (l : List α) : Prop := l.Pairwise (fun a b => key a < key b)

theorem lk_nil (k : Int) : lk key [] k = none := rfl
theorem lk_cons (a : α) (l : List α) (k : Int) : lk key (a :: l) k = if key a = k then some a else lk key l k := by
  unfold lk
  by_cases h : key a = k <;> simp [h]
theorem lk_append (l m : List α) (k : Int) : lk key (l ++ m) k = (lk key l k).or (lk key m k) := by
  unfold lk
  rw [List.find?_append]
theorem lk_none {l : List α} {k : Int} (h : ∀ a ∈ l, key a ≠ k) : lk key l k = none := by
  unfold lk
  rw [List.find?_eq_none]
  intro a ha
  simpa using h a ha
theorem lk_key {l : List α} {k : Int} {a : α} (h : lk key l k = some a) : key a = k := by
  unfold lk at h
  have := List.find?_some h
  simpa using this
theorem lk_mem {l : List α} {k : Int} {a : α} (h : lk key l k = some a) : a ∈ l := by
  unfold lk at h
  exact List.mem_of_find?_eq_some h
theorem lk_of_mem {l : List α} (hs : Srt key l) {a : α} (h : a ∈ l) : lk key l (key a) = some a := by
  induction l with
  | nil => simp at h
  | cons b l ih =>
    rw [lk_cons]
    obtain ⟨h1, h2⟩ := List.pairwise_cons.1 hs
    rcases List.mem_cons.1 h with rfl | h
    · simp
    · have := h1 a h
      rw [if_neg (by omega)]
      exact ih h2 h
theorem lk_ext {l m : List α} (hl : Srt key l) (hm : Srt key m) (h : ∀ k, lk key l k = lk key m k) : l = m := by
  induction l generalizing m with
  | nil =>
    cases m with
    | nil => rfl
    | cons b m => have := h (key b); simp [lk_cons, lk_nil] at this
  | cons a l ih =>
    obtain ⟨h1, h2⟩ := List.pairwise_cons.1 hl
    cases m with
    | nil => have := h (key a); simp [lk_cons, lk_nil] at this
    | cons b m =>
      obtain ⟨h3, h4⟩ := List.pairwise_cons.1 hm
      have hab : key a = key b := by
        rcases Int.lt_trichotomy (key a) (key b) with hlt | he | hgt
        · have := h (key a)
          rw [lk_cons, if_pos rfl, lk_cons, if_neg (by omega), lk_none key (fun c hc => by have := h3 c hc; omega)] at this
          cases this
        · exact he
        · have := h (key b)
          rw [lk_cons, lk_cons, if_pos rfl, if_neg (by omega), lk_none key (fun c hc => by have := h1 c hc; omega)] at this
          cases this
      have e := h (key a)
      rw [lk_cons, if_pos rfl, lk_cons, if_pos hab.symm] at e
      injection e with e
      subst e
      congr 1
      refine ih h2 h4 fun k => ?_
      have := h k
      rw [lk_cons, lk_cons] at this
      by_cases hk : key a = k
      · rw [lk_none key (fun c hc => by have := h1 c hc; omega), lk_none key (fun c hc => by have := h3 c hc; omega)]
      · rw [if_neg hk, if_neg hk] at this; exact this
theorem Srt.nil : Srt key ([] : List α) := List.Pairwise.nil
theorem srt_cons {a : α} {l : List α} : Srt key (a :: l) ↔ (∀ b ∈ l, key a < key b) ∧ Srt key l := List.pairwise_cons
theorem srt_append {l m : List α} : Srt key (l ++ m) ↔ Srt key l ∧ Srt key m ∧ ∀ a ∈ l, ∀ b ∈ m, key a < key b := List.pairwise_append
theorem Srt.filter {l : List α} (h : Srt key l) (p : α → Bool) : Srt key (l.filter p) := List.Pairwise.filter p h
theorem lk_filter {l : List α} (hs : Srt key l) (p : α → Bool) (k : Int) : lk key (l.filter p) k = (lk key l k).filter p := by
  induction l with
  | nil => rfl
  | cons a l ih =>
    obtain ⟨h1, h2⟩ := (srt_cons key).1 hs
    rw [lk_cons]
    by_cases hk : key a = k
    · rw [if_pos hk]
      by_cases hp : p a = true
      · rw [List.filter_cons_of_pos hp, lk_cons, if_pos hk]; simp [Option.filter, hp]
      · rw [List.filter_cons_of_neg hp, lk_none key (fun c hc => by have := h1 c (List.mem_filter.1 hc).1; omega)]; simp [Option.filter, hp]
    · rw [if_neg hk, ← ih h2]
      by_cases hp : p a = true
      · rw [List.filter_cons_of_pos hp, lk_cons, if_neg hk]
      · rw [List.filter_cons_of_neg hp]
end

theorem rise_srt {α : Type} (key : α → Int) (l : List α) : rise (l.map key) = true ↔ Srt key l := by
  induction l with
  | nil => simp [rise, Srt]
  | cons a l ih =>
    rw [srt_cons, ← ih]
    constructor
    · intro h
      refine ⟨fun b hb => rise_head h _ (List.mem_map.2 ⟨b, hb, rfl⟩), rise_tail h⟩
    · rintro ⟨h1, h2⟩
      cases l with
      | nil => rfl
      | cons b l =>
        simp only [List.map_cons, rise, Bool.and_eq_true, decide_eq_true_eq]
        exact ⟨h1 b (by simp), h2⟩
theorem riseA_srt {l : List At} : riseA l = true ↔ Srt At.key l := rise_srt At.key l
theorem riseC_srt {l : List Ch} : riseC l = true ↔ Srt Ch.key l := rise_srt Ch.key l
/-- a list by rising keys, cut at a key -/
theorem cut_lt {α : Type} (key : α → Int) {l : List α} (hs : Srt key l) (c : Int) :
    (∀ a ∈ l.takeWhile (fun a => decide (key a < c)), key a < c) ∧ (∀ a ∈ l.dropWhile (fun a => decide (key a < c)), c ≤ key a) := by
  induction l with
  | nil => simp
  | cons a l ih =>
    obtain ⟨h1, h2⟩ := (srt_cons key).1 hs
    by_cases h : key a < c
    · simp only [List.takeWhile_cons, List.dropWhile_cons, h, decide_true, if_true]
      refine ⟨fun b hb => ?_, (ih h2).2⟩
      rcases List.mem_cons.1 hb with rfl | hb
      · exact h
      · exact (ih h2).1 b hb
    · simp only [List.takeWhile_cons, List.dropWhile_cons, h, decide_false, Bool.false_eq_true, if_false]
      refine ⟨fun b hb => by simp at hb, fun b hb => ?_⟩
      rcases List.mem_cons.1 hb with rfl | hb
      · omega
      · have := h1 b hb; omega
theorem srt_tw {α : Type} (key : α → Int) {l : List α} (hs : Srt key l) (p : α → Bool) : Srt key (l.takeWhile p) := hs.sublist (List.takeWhile_sublist p)
theorem srt_dw {α : Type} (key : α → Int) {l : List α} (hs : Srt key l) (p : α → Bool) : Srt key (l.dropWhile p) := hs.sublist (List.dropWhile_sublist p)
theorem drop1_gt {l : List At} (hs : Srt At.key l) {c : Int} (h : ∀ a ∈ l, c ≤ a.key) : Srt At.key (drop1 c l) ∧ (∀ a ∈ drop1 c l, c < a.key) ∧ ∀ k, c < k → lk At.key (drop1 c l) k = lk At.key l k := by
  cases l with
  | nil => exact ⟨hs, by simp [drop1], fun _ _ => rfl⟩
  | cons a l =>
    obtain ⟨h1, h2⟩ := (srt_cons At.key).1 hs
    have hd : drop1 c (a :: l) = if a.key = c then l else a :: l := rfl
    rw [hd]
    by_cases he : a.key = c
    · rw [if_pos he]
      exact ⟨h2, fun b hb => by have := h1 b hb; omega, fun k hk => by rw [lk_cons, if_neg (by omega)]⟩
    · rw [if_neg he]
      refine ⟨hs, fun b hb => ?_, fun _ _ => rfl⟩
      have ha := h a (by simp)
      rcases List.mem_cons.1 hb with rfl | hb
      · omega
      · have := h1 b hb; omega

/-- what a patch makes of what is looked up -/
def lkApply (c : Option Ch) (x : Option At) : Option At :=
  match c with
  | some c => if c.gone = true then none else some ⟨c.key, c.v⟩
  | none => x
theorem mem_put1 {c : Ch} {a : At} (h : a ∈ put1 c) : a.key = c.key := by
  unfold put1 at h
  split at h
  · simp at h
  · simp at h; rw [h]
theorem apply_all {p : List Ch} (hp : Srt Ch.key p) : ∀ {s : List At}, Srt At.key s →
    Srt At.key (applyP p s) ∧ (∀ k, lk At.key (applyP p s) k = lkApply (lk Ch.key p k) (lk At.key s k)) ∧ (∀ m : Int, (∀ c ∈ p, m < c.key) → (∀ a ∈ s, m < a.key) → ∀ a ∈ applyP p s, m < a.key) ∧ (applyP p s).length ≤ p.length + s.length := by
  induction p with
  | nil => intro s hs; exact ⟨hs, fun k => rfl, fun m _ h a ha => h a ha, by simp [applyP]⟩
  | cons c p ih =>
    intro s hs
    obtain ⟨h1, h2⟩ := (srt_cons Ch.key).1 hp
    obtain ⟨t1, t2⟩ := cut_lt At.key hs c.key
    have hts := srt_tw At.key hs (fun a => decide (a.key < c.key))
    have hds := srt_dw At.key hs (fun a => decide (a.key < c.key))
    have e : applyP (c :: p) s = s.takeWhile (fun a => decide (a.key < c.key)) ++ (put1 c ++ applyP p (drop1 c.key (s.dropWhile (fun a => decide (a.key < c.key))))) := rfl
    have happ : s.takeWhile (fun a => decide (a.key < c.key)) ++ s.dropWhile (fun a => decide (a.key < c.key)) = s := List.takeWhile_append_dropWhile
    have hlen : (s.takeWhile (fun a => decide (a.key < c.key))).length + (s.dropWhile (fun a => decide (a.key < c.key))).length = s.length := by rw [← List.length_append, happ]
    have hlk : ∀ k, lk At.key s k = (lk At.key (s.takeWhile (fun a => decide (a.key < c.key))) k).or (lk At.key (s.dropWhile (fun a => decide (a.key < c.key))) k) := fun k => by rw [← lk_append, happ]
    have hmt : ∀ a ∈ s.takeWhile (fun a => decide (a.key < c.key)), a ∈ s := fun a ha => (List.takeWhile_sublist _).subset ha
    have hmd : ∀ a ∈ s.dropWhile (fun a => decide (a.key < c.key)), a ∈ s := fun a ha => (List.dropWhile_sublist _).subset ha
    generalize s.takeWhile (fun a => decide (a.key < c.key)) = tw at *
    generalize s.dropWhile (fun a => decide (a.key < c.key)) = dw at *
    obtain ⟨d1, d2, d3⟩ := drop1_gt hds t2
    have hdl : (drop1 c.key dw).length ≤ dw.length := by
      unfold drop1; split
      · simp
      · split <;> simp
    have hdm : ∀ a ∈ drop1 c.key dw, a ∈ dw := by
      unfold drop1; split
      · simp
      · intro a ha; split at ha
        · exact List.mem_cons_of_mem _ ha
        · exact ha
    obtain ⟨i1, i2, i3, i4⟩ := ih h2 d1
    rw [e]
    have hput : ∀ a ∈ put1 c, a.key = c.key := fun a ha => mem_put1 ha
    have hpl : (put1 c).length ≤ 1 := by unfold put1; split <;> simp
    have hrest : ∀ a ∈ applyP p (drop1 c.key dw), c.key < a.key := i3 c.key h1 d2
    refine ⟨?_, fun k => ?_, fun m hm1 hm2 a ha => ?_, ?_⟩
    · rw [srt_append, srt_append]
      refine ⟨hts, ⟨?_, i1, fun a ha b hb => ?_⟩, fun a ha b hb => ?_⟩
      · unfold put1; split
        · exact Srt.nil _
        · rw [srt_cons]; exact ⟨by simp, Srt.nil _⟩
      · rw [hput a ha]; exact hrest b hb
      · have := t1 a ha
        rcases List.mem_append.1 hb with hb | hb
        · rw [hput b hb]; exact this
        · have := hrest b hb; omega
    · rw [lk_append, lk_append, hlk, lk_cons]
      rcases Int.lt_trichotomy k c.key with hlt | rfl | hgt
      · rw [if_neg (by omega), lk_none Ch.key (fun d hd => by have := h1 d hd; omega), lk_none At.key (l := put1 c) (fun d hd => by have := hput d hd; omega), lk_none At.key (l := applyP p (drop1 c.key dw)) (fun d hd => by have := hrest d hd; omega),
          lk_none At.key (l := dw) (fun d hd => by have := t2 d hd; omega)]
        rfl
      · rw [if_pos rfl, lk_none At.key (l := tw) (fun d hd => by have := t1 d hd; omega), lk_none At.key (l := applyP p (drop1 c.key dw)) (fun d hd => by have := hrest d hd; omega)]
        unfold put1 lkApply
        by_cases hg : c.gone = true
        · simp [hg, lk_nil]
        · simp [hg, lk_cons]
      · rw [if_neg (by omega), lk_none At.key (l := tw) (fun d hd => by have := t1 d hd; omega), lk_none At.key (l := put1 c) (fun d hd => by have := hput d hd; omega), i2, d3 k hgt]
        rfl
    · rcases List.mem_append.1 ha with ha | ha
      · exact hm2 a (hmt a ha)
      · rcases List.mem_append.1 ha with ha | ha
        · rw [hput a ha]; exact hm1 c (by simp)
        · have := hrest a ha; have := hm1 c (by simp); omega
    · simp only [List.length_append, List.length_cons]; omega

section
variable {a b : List At} {p q r : List Ch}
end
end Go.Proofs.YtfnkjcodcoehcaaGreatDoor
namespace Go.Proofs.YtfnkjcodcoehcaaGreatDoor

/-- is a key there, and of the kind? -/
def keepK (l : List Ky) (b : Bool) (id : Int) : Bool :=
  match findK l id with
  | none => false
  | some k => k.block == b
/-- the changes of block keys, or of inline ones -/
def partP (l : List Ky) (b : Bool) (p : List Ch) : List Ch := p.filter (fun c => keepK l b c.key)
end Go.Proofs.YtfnkjcodcoehcaaGreatDoor
namespace Go.Proofs.YtfnkjcodcoehcaaGreatDoor
open Go.RowKit
set_option linter.unusedVariables false
set_option linter.unusedSimpArgs false

theorem findK_drop {l : List Ky} {m : Nat} {x : Ky} {id : Int} {R : Option Ky} (hd : l.drop m = x :: l.drop (m + 1)) (h : findK (l.drop m) id = R) (hx : x.id ≠ id) : findK (l.drop (m + 1)) id = R := by
  rw [hd] at h
  rw [← h]
  simp [findK, hx]
theorem findK_hit {l : List Ky} {m : Nat} {x : Ky} {id : Int} {R : Option Ky} (hd : l.drop m = x :: l.drop (m + 1)) (h : findK (l.drop m) id = R) (hx : x.id = id) : R = some x := by
  rw [hd] at h
  rw [← h]
  simp [findK, hx]
theorem findK_end {l : List Ky} {m : Nat} {id : Int} {R : Option Ky} (hm : l.length ≤ m) (h : findK (l.drop m) id = R) : R = none := by
  rw [List.drop_eq_nil_of_le hm] at h
  rw [← h]
  rfl

set_option maxRecDepth 100000 in
set_option maxHeartbeats 800000 in
theorem findR_any (A : Option Addr) (n c : Nat) (l : List Ky) (id : Int) (w : World) (hn : n = l.length) (h : RdKy w w.heap.size A l) (hb : n ≤ 140737488355328) :
    Calls Tryz.prog 151 #[.slice A n c, .int .i64 id] w (FindOutK l id w) := by
  have N := Lib.hid hn
  generalize hR : findK l id = R
  have HR := Lib.hid hR
  clear hn hR
  unfold FindOutK
  rw [HR.out]
  have y0 := ext_alloc w (.cells #[.int .i64 0, .bool false, .int .u8 0, .bool false, .bool false, .int .i64 0] 97)
  have HB := Lib.hid (heap_alloc_new w (.cells #[.int .i64 0, .bool false, .int .u8 0, .bool false, .bool false, .int .i64 0] 97))
  go_enter Tryz.func151, Tryz.ntmps151
  go_wp2_with (fail)
  go_loopg [6] n (fun g iv wr => ∃ m : Nat, m ≤ n ∧ g = n - m ∧ iv = .int .i64 (m : Int) ∧ wr = w.alloc (.cells #[.int .i64 0, .bool false, .int .u8 0, .bool false, .bool false, .int .i64 0] 97) ∧ Hid (findK (l.drop m) id = R))
  case atStart => exact ⟨0, by omega, rfl, rfl, rfl, Lib.hid (by rw [List.drop_zero]; exact HR.out)⟩
  case round =>
    obtain ⟨m, hm, hg, rfl, rfl, HI⟩ := hrel
    have HG := Lib.hid hg
    clear hg HR
    by_cases hlt : m < n
    · have hl1 : m < l.length := by have := N.out; omega
      obtain ⟨ad, x, rfl, had, hd1, _, hc0⟩ := h.el hl1
      have hc1 := hc0.keep (w' := w.alloc (.cells #[.int .i64 0, .bool false, .int .u8 0, .bool false, .bool false, .int .i64 0] 97)) (fun q hq => World.cell?_alloc_lt w _ q (by rw [hq, add_block]; exact had))
      have HD := Lib.hid hd1
      obtain ⟨x1, x2, x3, x4, x5, x6⟩ := x
      obtain ⟨r0, r1, r2, r3, r4, r5⟩ := ky_cells hc1
      clear hc0 hc1 hd1
      have hw2 : IntKind.i64.wrap ((m:Int) + 1) = (m : Int) + 1 := IntWalk.i64_in _ (by omega)
      obtain ⟨b0, b1, b2, b3, b4, b5⟩ := box_ky HB.out
      by_cases hle : x1 = id
      · subst hle
        go_wp2_with (fail)
        refine bodyPost_ret (v := .tuple #[.agg #[.int .i64 x1, .bool x2, .int .u8 x3, .bool x4, .bool x5, .int .i64 x6], .bool true]) (by simp [results, Tryz.results151, go_sem]) rfl ?_
        have hr := findK_hit HD.out HI.out rfl
        exact ⟨x1, x2, x3, x4, x5, x6, true, rfl, by rw [hr]; rfl, by rw [hr]; rfl, by first | exact ext_alloc w _ | trace_state⟩
      · go_wp2_with (fail)
        go_roundg (n - (m + 1))
        case measure => have := HG.out; omega
        case rel => exact ⟨m + 1, by omega, rfl, by go_num, rfl, Lib.hid (findK_drop HD.out HI.out hle)⟩
    · have HE := Lib.hid (findK_end (m := m) (by have := N.out; omega) HI.out)
      go_wp2_with (fail)
      refine bodyPost_ret (v := .tuple #[.agg #[.int .i64 0, .bool false, .int .u8 0, .bool false, .bool false, .int .i64 0], .bool false]) (by simp [results, Tryz.results151, go_sem]) rfl ?_
      exact ⟨0, false, 0, false, false, 0, false, rfl, by rw [HE.out]; rfl, by rw [HE.out]; rfl, by first | exact ext_alloc w _ | trace_state⟩

set_option maxHeartbeats 1600000 in
theorem fitsR_any (A : Option Addr) (nn cc : Nat) (l : List Ky) (id k n f : Int) (t : ByteArray) (w : World) (hn : nn = l.length) (h : RdKy w w.heap.size A l) (hb : nn ≤ 140737488355328) (h0 : 0 ≤ f) (h1 : f < 18446744073709551616) (hsz : t.size ≤ 100000000)
    (hT : Lib.Utf8Tabs 1 2 w) :
    Calls Tryz.prog 175 #[.slice A nn cc, .int .i64 id, .agg #[.int .u8 k, .int .i64 n, .int .u64 f, .string t]] w fun e w' => e = .returned (.bool (fitsK l id ⟨k, n, f, t⟩)) ∧ Below w.heap.size w w' := by
  obtain ⟨R, hR⟩ : ∃ X, fitsK l id ⟨k, n, f, t⟩ = X := ⟨_, rfl⟩
  obtain ⟨m, hm⟩ : ∃ X, mayV ⟨k, n, f, t⟩ = X := ⟨_, rfl⟩
  rw [hR]
  unfold fitsK at hR
  rw [hm] at hR
  have HR := Lib.hid hR
  have HMV := Lib.hid hm
  have HN := Lib.hid hn
  have y0 := ext_alloc w (.cells #[.int .u8 k, .int .i64 n, .int .u64 f, .string t] 41)
  have hv0 := heap_alloc_new w (.cells #[.int .u8 k, .int .i64 n, .int .u64 f, .string t] 41)
  have hs0 := h.ext y0
  have hT0 := Utf8Tabs_below hT y0
  clear hR hm h hn
  go_enter Tryz.func175, Tryz.ntmps175
  go_wp2_with (go_at_call 151; refine Hid.out ?_)
  refine Lib.hid ?_
  have H0 := Lib.hid hv0
  clear hv0
  generalize hw0 : w.alloc _ = w0 at *
  clear hw0
  refine (findR_any A nn cc l id w0 HN.out hs0 hb).mono ?_
  rintro e w1 ⟨i, c, kd, d, g, q, b, rfl, hk, hb, y1⟩
  have hv1 := (y1.block w.heap.size (lt_of_some H0.out)).trans H0.out
  have y1' := ext_trans y0 y1
  have y2 := ext_alloc w1 (.cells #[.int .i64 i, .bool c, .int .u8 kd, .bool d, .bool g, .int .i64 q] 97)
  have hk2 := heap_alloc_new w1 (.cells #[.int .i64 i, .bool c, .int .u8 kd, .bool d, .bool g, .int .i64 q] 97)
  have hv2 := (y2.block w.heap.size (lt_of_some hv1)).trans hv1
  have hT2 := Utf8Tabs_below hT0 (ext_trans y1 y2)
  have yy := ext_trans y1' y2
  obtain ⟨a0, a1, a2, a3⟩ := box_v hv2
  have HV2 := Lib.hid hv2
  have HK2 := Lib.hid hk2
  have HB := Lib.hid hb
  have HK := Lib.hid hk
  clear hv1 hv2 hk2 H0 hb hk hT hT0 hs0
  cases b with
  | false =>
    go_wp2_with (fail)
    go_ret
    refine ⟨ret_bool ?_, yy⟩
    have h := HR.out
    have hb := HB.out
    cases hq : findK l id with
    | none => rw [hq] at h; exact h
    | some k => rw [hq] at hb; simp at hb
  | true =>
    obtain ⟨K, hK⟩ : ∃ K, findK l id = some K := Option.isSome_iff_exists.1 HB.out
    have hR := HR.out
    have hk := HK.out
    rw [hK] at hR hk
    simp only [Option.getD_some] at hk
    subst hk
    simp only at hR
    have HR := Lib.hid hR
    clear hR
    go_wp2_with (go_at_call 174; refine Hid.out ?_)
    refine Lib.hid ?_
    refine (refMayV_any k n f t _ h0 h1 hsz hT2).mono ?_
    rintro e w3 ⟨rfl, y3⟩
    rw [HMV.out]
    have yy3 := below_at yy y3 rfl rfl rfl rfl
    obtain ⟨hv3, hk3⟩ := kept2 HV2.out HK2.out y3 rfl
    obtain ⟨a0, a1, a2, a3⟩ := box_v hv3
    obtain ⟨k0, k1, k2, k3, k4, k5⟩ := box_ky hk3
    clear hv3 hk3 y3
    cases m with
    | false =>
      go_wp2_with (fail)
      go_ret
      refine ⟨ret_bool ?_, yy3⟩
      rw [← HR.out]; simp
    | true =>
      go_wp2_with (fail)
      go_ret
      refine ⟨ret_bool ?_, yy3⟩
      rw [← HR.out, Bool.and_true]
      by_cases hq : kd = k
      · subst hq; simp
      · have hq' : ¬ k = kd := fun e => hq e.symm
        simp [hq, hq']

/-- keys that may be a schema's: behind those seen -/
def okPre (seen : List Ky) : List Ky → Bool
  | [] => true
  | k :: r => mayK k && (findK seen k.id).isNone && okPre (seen ++ [k]) r
def mayKs (l : List Ky) : Bool := decide (l.length ≤ 64) && okPre [] l
/-- is an ID among the keys from j on, of the first m? -/
theorem findK_take_none {l : List Ky} {m j : Nat} {x : Ky} {id : Int} (hd : l.drop j = x :: l.drop (j + 1)) (hj : j < m) : findK ((l.take m).drop j) id = if x.id = id then some x else findK ((l.take m).drop (j + 1)) id := by
  have hl : j < l.length := by rcases Nat.lt_or_ge j l.length with h | h; · exact h
                               · rw [List.drop_eq_nil_of_le h] at hd; simp at hd
  have hx : l[j] = x := by rw [List.drop_eq_getElem_cons hl] at hd; exact (List.cons.inj hd).1
  have hl2 : j < (l.take m).length := by rw [List.length_take]; omega
  rw [List.drop_eq_getElem_cons hl2, List.getElem_take, hx]
  simp only [findK, List.find?_cons]
  by_cases h : x.id = id <;> simp [h]

set_option maxRecDepth 100000 in
set_option maxHeartbeats 3200000 in
theorem mayR4_any (A : Option Addr) (n c : Nat) (l : List Ky) (w : World) (hn : n = l.length) (h : RdKy w w.heap.size A l) (hb : n ≤ 140737488355328) :
    Calls Tryz.prog 14 #[.slice A n c] w fun e w' => e = .returned (.bool (mayKs l)) ∧ Below w.heap.size w w' := by
  have N := Lib.hid hn
  generalize hR : mayKs l = R
  have HR := Lib.hid hR
  clear hn hR
  by_cases h64 : (64 : Int) < (n : Int)
  · go_enter Tryz.func14, Tryz.ntmps14
    go_wp2_with (fail)
    go_ret
    refine ⟨ret_bool ?_, Below.refl _ _⟩
    rw [← HR.out]
    have := N.out
    simp [mayKs]; omega
  have HP : Hid (okPre [] l = R) := Lib.hid (by rw [← HR.out]; have := N.out; simp [mayKs]; intro h; omega)
  go_enter Tryz.func14, Tryz.ntmps14
  go_wp2_with (fail)
  go_loopg [3] n (fun g iv wr => ∃ m : Nat, m ≤ n ∧ g = n - m ∧ iv = .int .i64 (m : Int) ∧ Below w.heap.size w wr ∧ Hid (okPre (l.take m) (l.drop m) = R))
  case atStart => exact ⟨0, by omega, rfl, rfl, Below.refl _ _, Lib.hid (by rw [List.drop_zero, List.take_zero]; exact HP.out)⟩
  case round =>
    obtain ⟨m, hm, hg, rfl, y, HI⟩ := hrel
    have HG := Lib.hid hg
    clear hg HR HP
    by_cases hlt : m < n
    · have hl1 : m < l.length := by have := N.out; omega
      obtain ⟨ad, x, rfl, had, hd1, hx1, hc0⟩ := (h.below y (Nat.le_refl _)).el hl1
      have hh := h.below y (Nat.le_refl _)
      obtain ⟨x1, x2, x3, x4, x5, x6⟩ := x
      obtain ⟨r0, r1, r2, r3, r4, r5⟩ := ky_cells hc0
      have HI2 : Hid ((mayK ⟨x1, x2, x3, x4, x5, x6⟩ && (findK (l.take m) x1).isNone && okPre (l.take (m + 1)) (l.drop (m + 1))) = R) := Lib.hid (by
        rw [← HI.out, hd1]
        simp only [okPre]
        rw [List.take_add_one, hx1]; rfl)
      have HD := Lib.hid hd1
      have yb := ext_alloc wr (.cells #[.int .i64 x1, .bool x2, .int .u8 x3, .bool x4, .bool x5, .int .i64 x6] 97)
      have HBX := Lib.hid (heap_alloc_new wr (.cells #[.int .i64 x1, .bool x2, .int .u8 x3, .bool x4, .bool x5, .int .i64 x6] 97))
      clear hc0 hd1 hx1 HI
      have hw2 : IntKind.i64.wrap ((m:Int) + 1) = (m : Int) + 1 := IntWalk.i64_in _ (by omega)
      by_cases h1 : x1 < 1
      · skip
        go_wp2_with (fail)
        go_ret
        exact ⟨ret_bool (by rw [← HI2.out, show mayK ⟨x1, x2, x3, x4, x5, x6⟩ = false by unfold mayK; simp; omega]; simp), ext_trans y yb⟩
      by_cases h2 : 1000 < x1
      · skip
        go_wp2_with (fail)
        go_ret
        exact ⟨ret_bool (by rw [← HI2.out, show mayK ⟨x1, x2, x3, x4, x5, x6⟩ = false by unfold mayK; simp; omega]; simp), ext_trans y yb⟩
      by_cases h3 : x3 < 1
      · skip
        go_wp2_with (fail)
        go_ret
        exact ⟨ret_bool (by rw [← HI2.out, show mayK ⟨x1, x2, x3, x4, x5, x6⟩ = false by unfold mayK; simp; omega]; simp), ext_trans y yb⟩
      by_cases h4 : 4 < x3
      · skip
        go_wp2_with (fail)
        go_ret
        exact ⟨ret_bool (by rw [← HI2.out, show mayK ⟨x1, x2, x3, x4, x5, x6⟩ = false by unfold mayK; simp; omega]; simp), ext_trans y yb⟩
      by_cases h5 : x6 < 0
      · skip
        go_wp2_with (fail)
        go_ret
        exact ⟨ret_bool (by rw [← HI2.out, show mayK ⟨x1, x2, x3, x4, x5, x6⟩ = false by unfold mayK; simp; intros; cases x2 <;> simp <;> omega]; simp), ext_trans y yb⟩
      by_cases h6 : 8 < x6
      · skip
        go_wp2_with (fail)
        go_ret
        exact ⟨ret_bool (by rw [← HI2.out, show mayK ⟨x1, x2, x3, x4, x5, x6⟩ = false by unfold mayK; simp; intros; cases x2 <;> simp <;> omega]; simp), ext_trans y yb⟩
      have hgo : (x2 = true ∧ x5 = true) ∨ (x2 = false ∧ ¬ x6 = 0) ∨ mayK ⟨x1, x2, x3, x4, x5, x6⟩ = true := by
        unfold mayK
        cases x2 <;> cases x5 <;> simp <;> omega
      rcases hgo with ⟨rfl, rfl⟩ | ⟨rfl, h7⟩ | hgo
      · go_wp2_with (fail)
        go_ret
        exact ⟨ret_bool (by rw [← HI2.out, show mayK ⟨x1, true, x3, x4, true, x6⟩ = false by unfold mayK; simp]; simp), ext_trans y yb⟩
      · go_wp2_with (fail)
        go_ret
        exact ⟨ret_bool (by rw [← HI2.out, show mayK ⟨x1, false, x3, x4, x5, x6⟩ = false by unfold mayK; simp [h7]]; simp), ext_trans y yb⟩
      have HGO := Lib.hid hgo
      clear hgo
      cases x2 with
      | true =>
        have hx5 : x5 = false := by
          have h := HGO.out
          cases x5 with
          | false => rfl
          | true => simp [mayK] at h
        subst hx5
        go_wp2_with (fail)
        obtain ⟨R2, hR2⟩ : ∃ X, findK (l.take m) x1 = X := ⟨_, rfl⟩
        have HR2 := Lib.hid hR2
        clear hR2
        go_loopg [5] m (fun g2 jv wi => ∃ j : Nat, j ≤ m ∧ g2 = m - j ∧ jv = .int .i64 (j : Int) ∧ (∃ d, wi = (wr.alloc (.cells #[.int .i64 x1, .bool true, .int .u8 x3, .bool x4, .bool false, .int .i64 x6] 97)).drewN d) ∧ Hid (findK ((l.take m).drop j) x1 = R2))
        case atStart => exact ⟨0, by omega, rfl, rfl, ⟨0, rfl⟩, Lib.hid (by rw [List.drop_zero]; exact HR2.out)⟩
        case round =>
          obtain ⟨j, hj, hg2, rfl, ⟨d, rfl⟩, HJ⟩ := hrel
          have HG2 := Lib.hid hg2
          clear hg2
          by_cases hjm : j < m
          · have hl2 : j < l.length := by omega
            obtain ⟨ad', z, e, had2, hd2, _, hz0⟩ := hh.el hl2
            injection e with e; subst e
            have hz1 := hz0.keep (w' := wr.alloc (.cells #[.int .i64 x1, .bool true, .int .u8 x3, .bool x4, .bool false, .int .i64 x6] 97)) (fun q hq => World.cell?_alloc_lt wr _ q (by rw [hq, add_block]; exact Nat.lt_of_lt_of_le had2 y.size))
            obtain ⟨z1, z2, z3, z4, z5, z6⟩ := z
            obtain ⟨s0, -⟩ := ky_cells hz1
            have hbx : (wr.alloc (.cells #[.int .i64 x1, .bool true, .int .u8 x3, .bool x4, .bool false, .int .i64 x6] 97)).heap[wr.heap.size]? = some (.cells #[.int .i64 x1, .bool true, .int .u8 x3, .bool x4, .bool false, .int .i64 x6] 97 (0, 0)) := HBX.out
            obtain ⟨b0, -⟩ := box_ky hbx
            have HT := Lib.hid (findK_take_none (m := m) (id := x1) hd2 hjm)
            clear hz0 hz1 hd2 hbx
            have hjn : j < n := by omega
            have hw3 : IntKind.i64.wrap ((j:Int) + 1) = (j : Int) + 1 := IntWalk.i64_in _ (by omega)
            by_cases hzx : z1 = x1
            · subst hzx
              go_wp2_with (go_quiet (fail))
              go_ret
              have h2 := HJ.out
              rw [HT.out, if_pos (by simp)] at h2
              have h3 := HR2.out
              exact ⟨ret_bool (by rw [← HI2.out, h3, ← h2]; simp), ext_trans y (ext_trans yb (ext_drew _ _))⟩
            · go_wp2_with (go_quiet (fail))
              go_roundg (m - (j + 1))
              case measure => have := HG2.out; omega
              case rel => exact ⟨j + 1, by omega, rfl, by go_num, ⟨_, rfl⟩, Lib.hid (by rw [← HJ.out, HT.out, if_neg hzx])⟩
          · have hR2 : R2 = none := by rw [← HJ.out, List.drop_eq_nil_of_le (by rw [List.length_take]; omega)]; rfl
            have HF := Lib.hid (HR2.out.trans hR2)
            clear hR2
            go_wp2_with (fail)
            go_roundg (n - (m + 1))
            case measure => have := HG.out; omega
            case rel => exact ⟨m + 1, by omega, rfl, by go_num, ext_trans y (ext_trans yb (ext_drew _ _)), Lib.hid (by rw [← HI2.out, HGO.out, HF.out]; simp)⟩
      | false =>
        have hx6 : x6 = 0 := by
          have h := HGO.out
          simp [mayK] at h
          exact h.2
        subst hx6
        go_wp2_with (fail)
        obtain ⟨R2, hR2⟩ : ∃ X, findK (l.take m) x1 = X := ⟨_, rfl⟩
        have HR2 := Lib.hid hR2
        clear hR2
        go_loopg [5] m (fun g2 jv wi => ∃ j : Nat, j ≤ m ∧ g2 = m - j ∧ jv = .int .i64 (j : Int) ∧ (∃ d, wi = (wr.alloc (.cells #[.int .i64 x1, .bool false, .int .u8 x3, .bool x4, .bool x5, .int .i64 0] 97)).drewN d) ∧ Hid (findK ((l.take m).drop j) x1 = R2))
        case atStart => exact ⟨0, by omega, rfl, rfl, ⟨0, rfl⟩, Lib.hid (by rw [List.drop_zero]; exact HR2.out)⟩
        case round =>
          obtain ⟨j, hj, hg2, rfl, ⟨d, rfl⟩, HJ⟩ := hrel
          have HG2 := Lib.hid hg2
          clear hg2
          by_cases hjm : j < m
          · have hl2 : j < l.length := by omega
            obtain ⟨ad', z, e, had2, hd2, _, hz0⟩ := hh.el hl2
            injection e with e; subst e
            have hz1 := hz0.keep (w' := wr.alloc (.cells #[.int .i64 x1, .bool false, .int .u8 x3, .bool x4, .bool x5, .int .i64 0] 97)) (fun q hq => World.cell?_alloc_lt wr _ q (by rw [hq, add_block]; exact Nat.lt_of_lt_of_le had2 y.size))
            obtain ⟨z1, z2, z3, z4, z5, z6⟩ := z
            obtain ⟨s0, -⟩ := ky_cells hz1
            have hbx : (wr.alloc (.cells #[.int .i64 x1, .bool false, .int .u8 x3, .bool x4, .bool x5, .int .i64 0] 97)).heap[wr.heap.size]? = some (.cells #[.int .i64 x1, .bool false, .int .u8 x3, .bool x4, .bool x5, .int .i64 0] 97 (0, 0)) := HBX.out
            obtain ⟨b0, -⟩ := box_ky hbx
            have HT := Lib.hid (findK_take_none (m := m) (id := x1) hd2 hjm)
            clear hz0 hz1 hd2 hbx
            have hjn : j < n := by omega
            have hw3 : IntKind.i64.wrap ((j:Int) + 1) = (j : Int) + 1 := IntWalk.i64_in _ (by omega)
            by_cases hzx : z1 = x1
            · subst hzx
              go_wp2_with (go_quiet (fail))
              go_ret
              have h2 := HJ.out
              rw [HT.out, if_pos (by simp)] at h2
              have h3 := HR2.out
              exact ⟨ret_bool (by rw [← HI2.out, h3, ← h2]; simp), ext_trans y (ext_trans yb (ext_drew _ _))⟩
            · go_wp2_with (go_quiet (fail))
              go_roundg (m - (j + 1))
              case measure => have := HG2.out; omega
              case rel => exact ⟨j + 1, by omega, rfl, by go_num, ⟨_, rfl⟩, Lib.hid (by rw [← HJ.out, HT.out, if_neg hzx])⟩
          · have hR2 : R2 = none := by rw [← HJ.out, List.drop_eq_nil_of_le (by rw [List.length_take]; omega)]; rfl
            have HF := Lib.hid (HR2.out.trans hR2)
            clear hR2
            go_wp2_with (fail)
            go_roundg (n - (m + 1))
            case measure => have := HG.out; omega
            case rel => exact ⟨m + 1, by omega, rfl, by go_num, ext_trans y (ext_trans yb (ext_drew _ _)), Lib.hid (by rw [← HI2.out, HGO.out, HF.out]; simp)⟩
    · go_wp2_with (fail)
      go_ret
      refine ⟨ret_bool ?_, y⟩
      rw [← HI.out, List.drop_eq_nil_of_le (by have := N.out; omega)]; rfl
end Go.Proofs.YtfnkjcodcoehcaaGreatDoor
