/- Merged texts: Clone, PatchLaw, InsOps, Insert. -/
import Derived.Test.YthhjjaoppacnmaaDoorA10
import Derived.Test.YthhjjaoppacnmaaDoorA9
import Derived.Test.YthhjjaoppacnmaaDoorA8
import Derived.Lib.Overlaps
import Derived.Lib.AppendZeros
import Derived.Deep.RegionLaw
import Derived.Laws.CopyOwn
namespace Go.Proofs.YthhjjaoppacnmaaDoor
open Go.RowKit
set_option linter.unusedVariables false
set_option linter.unusedSimpArgs false

set_option maxRecDepth 100000 in
set_option maxHeartbeats 400000 in
theorem cloneAt_any (A : Option Addr) (n c : Nat) (l : List At) (w : World) (hn : n = l.length) (h : RdAt w w.heap.size A l) (hb : n ≤ 100000000) :
    Calls Tryd.prog 40 #[.slice A n c] w (NewAt l w) := by
  cases A with
  | none =>
    have hl : l = [] := by
      cases l with
      | nil => rfl
      | cons a l => obtain ⟨ad, e, _⟩ := h (by simp); cases e
    subst hl
    have hn0 : n = 0 := by simpa using hn
    subst hn0
    clear hn
    have hq := fun (w : World) => Lib.run_eql_slice_nil (P := Tryd.prog) w 23 28 none 0 c 0 0 Tryd.slAt
    go_enter Tryd.func40, Tryd.ntmps40
    go_wp2_with (fail)
    go_ret
    exact ⟨none, 0, rfl, Ow.nil _ _, Below.refl _ _⟩
  | some ad =>
    have N := Lib.hid hn
    clear hn
    have hq := fun (w : World) => Lib.run_eql_slice_nil (P := Tryd.prog) w 23 28 (some ad) n c 0 0 Tryd.slAt
    go_enter Tryd.func40, Tryd.ntmps40
    go_wp2_with (first
      | (at_builtin; refine app_at (m := l) rfl (.tmp 5) (.tmp 6) rfl rfl (by exact Ow.empty _ w.heap.size _) _ _ _ _ rfl N.out (by exact h.ext (ext_alloc w _)) (by have := N.out; simp only [List.length_nil]; omega) (by simp) ?_; intro v' w' hown' hgr hv'))
    rw [List.nil_append] at hown'
    obtain ⟨A', c', rfl, _, _⟩ := hown'.form
    go_ret
    exact ⟨A', c', rfl, hown', (ext_alloc w _).grown hgr (by simp) (fun k hk => by cases hk)⟩

end Go.Proofs.YthhjjaoppacnmaaDoor
namespace Go.Proofs.YthhjjaoppacnmaaDoor
set_option linter.unusedVariables false
set_option linter.unusedSimpArgs false

section
variable {α : Type} (key : α → Int)
def lk (l : List α) (k : Int) : Option α := l.find? (fun a => decide (key a = k))
def Srt (l : List α) : Prop := l.Pairwise (fun a b => key a < key b)

theorem lk_nil (k : Int) : lk key [] k = none := rfl
theorem lk_cons (a : α) (l : List α) (k : Int) : lk key (a :: l) k = if key a = k then some a else lk key l k := by
  unfold lk
  by_cases h : key a = k <;> simp [h]
theorem lk_append (l m : List α) (k : Int) : lk key (l ++ m) k = (lk key l k).or (lk key m k) := by
  unfold lk
  rw [List.find?_append]
theorem lk_none {l : List α} {k : Int} (h : ∀ a ∈ l, key a ≠ k) : lk key l k = none := by
  unfold lk
  rw [List.find?_eq_none]
  intro a ha
  simpa using h a ha
theorem lk_key {l : List α} {k : Int} {a : α} (h : lk key l k = some a) : key a = k := by
  unfold lk at h
  have := List.find?_some h
  simpa using this
theorem lk_ext {l m : List α} (hl : Srt key l) (hm : Srt key m) (h : ∀ k, lk key l k = lk key m k) : l = m := by
  induction l generalizing m with
  | nil =>
    cases m with
    | nil => rfl
    | cons b m => have := h (key b); simp [lk_cons, lk_nil] at this
  | cons a l ih =>
    obtain ⟨h1, h2⟩ := List.pairwise_cons.1 hl
    cases m with
    | nil => have := h (key a); simp [lk_cons, lk_nil] at this
    | cons b m =>
      obtain ⟨h3, h4⟩ := List.pairwise_cons.1 hm
      have hab : key a = key b := by
        rcases Int.lt_trichotomy (key a) (key b) with hlt | he | hgt
        · have := h (key a)
          rw [lk_cons, if_pos rfl, lk_cons, if_neg (by omega), lk_none key (fun c hc => by have := h3 c hc; omega)] at this
          cases this
        · exact he
        · have := h (key b)
          rw [lk_cons, lk_cons, if_pos rfl, if_neg (by omega), lk_none key (fun c hc => by have := h1 c hc; omega)] at this
          cases this
      have e := h (key a)
      rw [lk_cons, if_pos rfl, lk_cons, if_pos hab.symm] at e
      injection e with e
      subst e
      congr 1
      refine ih h2 h4 fun k => ?_
      have := h k
      rw [lk_cons, lk_cons] at this
      by_cases hk : key a = k
      · rw [lk_none key (fun c hc => by have := h1 c hc; omega), lk_none key (fun c hc => by have := h3 c hc; omega)]
      · rw [if_neg hk, if_neg hk] at this; exact this
theorem Srt.nil : Srt key ([] : List α) := List.Pairwise.nil
theorem srt_cons {a : α} {l : List α} : Srt key (a :: l) ↔ (∀ b ∈ l, key a < key b) ∧ Srt key l := List.pairwise_cons
theorem srt_append {l m : List α} : Srt key (l ++ m) ↔ Srt key l ∧ Srt key m ∧ ∀ a ∈ l, ∀ b ∈ m, key a < key b := List.pairwise_append
theorem Srt.filter {l : List α} (h : Srt key l) (p : α → Bool) : Srt key (l.filter p) := List.Pairwise.filter p h
theorem lk_filter {l : List α} (hs : Srt key l) (p : α → Bool) (k : Int) : lk key (l.filter p) k = (lk key l k).filter p := by
  induction l with
  | nil => rfl
  | cons a l ih =>
    obtain ⟨h1, h2⟩ := (srt_cons key).1 hs
    rw [lk_cons]
    by_cases hk : key a = k
    · rw [if_pos hk]
      by_cases hp : p a = true
      · rw [List.filter_cons_of_pos hp, lk_cons, if_pos hk]; simp [Option.filter, hp]
      · rw [List.filter_cons_of_neg hp, lk_none key (fun c hc => by have := h1 c (List.mem_filter.1 hc).1; omega)]; simp [Option.filter, hp]
    · rw [if_neg hk, ← ih h2]
      by_cases hp : p a = true
      · rw [List.filter_cons_of_pos hp, lk_cons, if_neg hk]
      · rw [List.filter_cons_of_neg hp]
end

theorem rise_srt {α : Type} (key : α → Int) (l : List α) : rise (l.map key) = true ↔ Srt key l := by
  induction l with
  | nil => simp [rise, Srt]
  | cons a l ih =>
    rw [srt_cons, ← ih]
    constructor
    · intro h
      refine ⟨fun b hb => rise_head h _ (List.mem_map.2 ⟨b, hb, rfl⟩), rise_tail h⟩
    · rintro ⟨h1, h2⟩
      cases l with
      | nil => rfl
      | cons b l =>
        simp only [List.map_cons, rise, Bool.and_eq_true, decide_eq_true_eq]
        exact ⟨h1 b (by simp), h2⟩
theorem riseA_srt {l : List At} : riseA l = true ↔ Srt At.key l := rise_srt At.key l
/-- a list by rising keys, cut at a key -/
theorem cut_lt {α : Type} (key : α → Int) {l : List α} (hs : Srt key l) (c : Int) :
    (∀ a ∈ l.takeWhile (fun a => decide (key a < c)), key a < c) ∧ (∀ a ∈ l.dropWhile (fun a => decide (key a < c)), c ≤ key a) := by
  induction l with
  | nil => simp
  | cons a l ih =>
    obtain ⟨h1, h2⟩ := (srt_cons key).1 hs
    by_cases h : key a < c
    · simp only [List.takeWhile_cons, List.dropWhile_cons, h, decide_true, if_true]
      refine ⟨fun b hb => ?_, (ih h2).2⟩
      rcases List.mem_cons.1 hb with rfl | hb
      · exact h
      · exact (ih h2).1 b hb
    · simp only [List.takeWhile_cons, List.dropWhile_cons, h, decide_false, Bool.false_eq_true, if_false]
      refine ⟨fun b hb => by simp at hb, fun b hb => ?_⟩
      rcases List.mem_cons.1 hb with rfl | hb
      · omega
      · have := h1 b hb; omega
theorem srt_tw {α : Type} (key : α → Int) {l : List α} (hs : Srt key l) (p : α → Bool) : Srt key (l.takeWhile p) := hs.sublist (List.takeWhile_sublist p)
theorem srt_dw {α : Type} (key : α → Int) {l : List α} (hs : Srt key l) (p : α → Bool) : Srt key (l.dropWhile p) := hs.sublist (List.dropWhile_sublist p)
theorem drop1_gt {l : List At} (hs : Srt At.key l) {c : Int} (h : ∀ a ∈ l, c ≤ a.key) : Srt At.key (drop1 c l) ∧ (∀ a ∈ drop1 c l, c < a.key) ∧ ∀ k, c < k → lk At.key (drop1 c l) k = lk At.key l k := by
  cases l with
  | nil => exact ⟨hs, by simp [drop1], fun _ _ => rfl⟩
  | cons a l =>
    obtain ⟨h1, h2⟩ := (srt_cons At.key).1 hs
    have hd : drop1 c (a :: l) = if a.key = c then l else a :: l := rfl
    rw [hd]
    by_cases he : a.key = c
    · rw [if_pos he]
      exact ⟨h2, fun b hb => by have := h1 b hb; omega, fun k hk => by rw [lk_cons, if_neg (by omega)]⟩
    · rw [if_neg he]
      refine ⟨hs, fun b hb => ?_, fun _ _ => rfl⟩
      have ha := h a (by simp)
      rcases List.mem_cons.1 hb with rfl | hb
      · omega
      · have := h1 b hb; omega

/-- what a patch makes of what is looked up -/
def lkApply (c : Option Ch) (x : Option At) : Option At :=
  match c with
  | some c => if c.gone = true then none else some ⟨c.key, c.v⟩
  | none => x
theorem mem_put1 {c : Ch} {a : At} (h : a ∈ put1 c) : a.key = c.key := by
  unfold put1 at h
  split at h
  · simp at h
  · simp at h; rw [h]
theorem apply_all {p : List Ch} (hp : Srt Ch.key p) : ∀ {s : List At}, Srt At.key s →
    Srt At.key (applyP p s) ∧ (∀ k, lk At.key (applyP p s) k = lkApply (lk Ch.key p k) (lk At.key s k)) ∧ (∀ m : Int, (∀ c ∈ p, m < c.key) → (∀ a ∈ s, m < a.key) → ∀ a ∈ applyP p s, m < a.key) ∧ (applyP p s).length ≤ p.length + s.length := by
  induction p with
  | nil => intro s hs; exact ⟨hs, fun k => rfl, fun m _ h a ha => h a ha, by simp [applyP]⟩
  | cons c p ih =>
    intro s hs
    obtain ⟨h1, h2⟩ := (srt_cons Ch.key).1 hp
    obtain ⟨t1, t2⟩ := cut_lt At.key hs c.key
    have hts := srt_tw At.key hs (fun a => decide (a.key < c.key))
    have hds := srt_dw At.key hs (fun a => decide (a.key < c.key))
    have e : applyP (c :: p) s = s.takeWhile (fun a => decide (a.key < c.key)) ++ (put1 c ++ applyP p (drop1 c.key (s.dropWhile (fun a => decide (a.key < c.key))))) := rfl
    have happ : s.takeWhile (fun a => decide (a.key < c.key)) ++ s.dropWhile (fun a => decide (a.key < c.key)) = s := List.takeWhile_append_dropWhile
    have hlen : (s.takeWhile (fun a => decide (a.key < c.key))).length + (s.dropWhile (fun a => decide (a.key < c.key))).length = s.length := by rw [← List.length_append, happ]
    have hlk : ∀ k, lk At.key s k = (lk At.key (s.takeWhile (fun a => decide (a.key < c.key))) k).or (lk At.key (s.dropWhile (fun a => decide (a.key < c.key))) k) := fun k => by rw [← lk_append, happ]
    have hmt : ∀ a ∈ s.takeWhile (fun a => decide (a.key < c.key)), a ∈ s := fun a ha => (List.takeWhile_sublist _).subset ha
    have hmd : ∀ a ∈ s.dropWhile (fun a => decide (a.key < c.key)), a ∈ s := fun a ha => (List.dropWhile_sublist _).subset ha
    generalize s.takeWhile (fun a => decide (a.key < c.key)) = tw at *
    generalize s.dropWhile (fun a => decide (a.key < c.key)) = dw at *
    obtain ⟨d1, d2, d3⟩ := drop1_gt hds t2
    have hdl : (drop1 c.key dw).length ≤ dw.length := by
      unfold drop1; split
      · simp
      · split <;> simp
    have hdm : ∀ a ∈ drop1 c.key dw, a ∈ dw := by
      unfold drop1; split
      · simp
      · intro a ha; split at ha
        · exact List.mem_cons_of_mem _ ha
        · exact ha
    obtain ⟨i1, i2, i3, i4⟩ := ih h2 d1
    rw [e]
    have hput : ∀ a ∈ put1 c, a.key = c.key := fun a ha => mem_put1 ha
    have hpl : (put1 c).length ≤ 1 := by unfold put1; split <;> simp
    have hrest : ∀ a ∈ applyP p (drop1 c.key dw), c.key < a.key := i3 c.key h1 d2
    refine ⟨?_, fun k => ?_, fun m hm1 hm2 a ha => ?_, ?_⟩
    · rw [srt_append, srt_append]
      refine ⟨hts, ⟨?_, i1, fun a ha b hb => ?_⟩, fun a ha b hb => ?_⟩
      · unfold put1; split
        · exact Srt.nil _
        · rw [srt_cons]; exact ⟨by simp, Srt.nil _⟩
      · rw [hput a ha]; exact hrest b hb
      · have := t1 a ha
        rcases List.mem_append.1 hb with hb | hb
        · rw [hput b hb]; exact this
        · have := hrest b hb; omega
    · rw [lk_append, lk_append, hlk, lk_cons]
      rcases Int.lt_trichotomy k c.key with hlt | rfl | hgt
      · rw [if_neg (by omega), lk_none Ch.key (fun d hd => by have := h1 d hd; omega), lk_none At.key (l := put1 c) (fun d hd => by have := hput d hd; omega), lk_none At.key (l := applyP p (drop1 c.key dw)) (fun d hd => by have := hrest d hd; omega),
          lk_none At.key (l := dw) (fun d hd => by have := t2 d hd; omega)]
        rfl
      · rw [if_pos rfl, lk_none At.key (l := tw) (fun d hd => by have := t1 d hd; omega), lk_none At.key (l := applyP p (drop1 c.key dw)) (fun d hd => by have := hrest d hd; omega)]
        unfold put1 lkApply
        by_cases hg : c.gone = true
        · simp [hg, lk_nil]
        · simp [hg, lk_cons]
      · rw [if_neg (by omega), lk_none At.key (l := tw) (fun d hd => by have := t1 d hd; omega), lk_none At.key (l := put1 c) (fun d hd => by have := hput d hd; omega), i2, d3 k hgt]
        rfl
    · rcases List.mem_append.1 ha with ha | ha
      · exact hm2 a (hmt a ha)
      · rcases List.mem_append.1 ha with ha | ha
        · rw [hput a ha]; exact hm1 c (by simp)
        · have := hrest a ha; have := hm1 c (by simp); omega
    · simp only [List.length_append, List.length_cons]; omega

section
variable {a b : List At} {p q r : List Ch}
end
end Go.Proofs.YthhjjaoppacnmaaDoor
namespace Go.Proofs.YthhjjaoppacnmaaDoor
open Go.RowKit
set_option linter.unusedVariables false

section
variable {P : Program} (w : World)

/-- copy onto a row of cells -/
theorem run_copy_onto (dT sT ty elem : TypeId) (i0 : TypeInfo) (size : Nat) (hu : P.underlying dT = some (.slice elem)) (hi : P.info? elem = some i0) (hsz : i0.size = size)
    (g o dLen dCap : Nat) (a : Addr) (sLen sCap : Nat) (cur : Array Value) (t : TypeId) (cs : List Value)
    (hg : w.heap[g]? = some (.cells cur t (0, 0))) (hn : cs.length = (Nat.min sLen dLen) * size)
    (hsrc : ∀ j v, cs[j]? = some v → w.cell? (a.add j) = some v) (hfit : o + cs.length ≤ cur.size) (h1 : ∀ v ∈ cs, v.oneCell' = true) :
    (Builtin.copy_ #[dT, sT] ty #[.slice (some ⟨g, o, none⟩) dLen dCap, .slice (some a) sLen sCap]).run P w =
      .ok (goInt (Nat.min sLen dLen)) (w.setRow g (cur.toList.take o ++ cs ++ cur.toList.drop (o + cs.length)).toArray) := by
  have hl := run_loadCells_list (P := P) w a cs hsrc
  have hst := run_storeCells_at P g o t cs 0 cur w hg (by simpa using hfit) h1
  simp [Builtin.copy_, run_underlying hu, Builtin.lenOf, Builtin.firstCells, sizeOf, typeInfo, hi, hsz, ← hn, hl, hst]

/-- append of zeros where a new row is wanted -/
theorem run_append_zeros_grow (t tn ty e : TypeId) (i : TypeInfo) (z : Value) (k kn : IntKind) (ht : P.underlying t = some (.slice e)) (htn : P.underlying tn = some (.int kn)) (hi : P.info? e = some i) (hz : i.zero = some z)
    (b : Addr) (sLen sCap n : Nat) (olds : List Value) (hlo : olds.length = sLen * i.size) (holds : ∀ j v, olds[j]? = some v → w.cell? (b.add j) = some v)
    (hg : sCap < sLen + n) (h0 : 0 < n) (hs : 0 < i.size) (hb1 : sLen + n ≤ 1000000000) (hb2 : i.bytes ≤ 1000)  :
    (Builtin.append_ #[t, tn] ty #[.slice (some b) sLen sCap, .int k n]).run P w =
      .ok (.slice (some ⟨w.heap.size, 0, none⟩) (sLen + n) (grownCap w (sLen + n) sCap e))
        (w.drew.alloc (.cells (olds.toArray ++ Builtin.zeroCells z.cells n ++ Builtin.zeroCells z.cells (grownCap w (sLen + n) sCap e - (sLen + n))) e)) := by
  have hmul : (sLen + n) * i.bytes ≤ 1000000000 * 1000 := Nat.mul_le_mul hb1 hb2
  have hmul2 : n * i.bytes ≤ 1000000000 * 1000 := Nat.mul_le_mul (by omega) hb2
  have hfit : Builtin.nextslicecap (sLen + n) sCap * i.bytes ≤ 281474976710656 := growslice_fits hg (by omega)
  have hn : ¬ (sLen + n ≤ sCap) := by omega
  have h63' : ¬ (9223372036854775807 < ((sLen : Int) + (n : Int))) := by omega
  have h48' : ¬ (281474976710656 < Builtin.nextslicecap (sLen + n) sCap * i.bytes) := by omega
  have hw : IntKind.i64.wrap (n : Int) = n := by rw [IntKind.wrap_i64]; omega
  have h48i : ¬ (281474976710656 < (n : Int) * (i.bytes : Int)) := by
    rw [← Int.natCast_mul]
    omega
  have hneg : ¬ ((n : Int) < 0) := by omega
  have hns : ¬ (n * i.size = 0) := Nat.mul_ne_zero (by omega) (by omega)
  have hfo := run_firstCells_some (P := P) w.drew i.size sLen b sLen sCap olds hlo (by simpa using holds)
  simp [Builtin.append_, run_underlying ht, run_underlying htn, sizeOf, typeInfo, zeroValue, hi, hz, asInt, asIntOf, hw, hn, hneg, hns, h63', h48', h48i, Question.forced, hfo, newRow, grownCap]
end

section
variable {P : Program} {w : World} {ops : Array Oper} {rest : List Oper} {o : Oper} {a : Act} {Q : Exit → Act → World → Prop} {K : Act → World → Prop} {E : Prop}
theorem wp_copy_run (d s : Operand) (dT sT : TypeId) (ho : o.op = .call { callee := .builtin .copy, args := #[d, s], argTypes := #[dT, sT] })
    (vd vs : Value) (hd : a.eval d = vd) (hs : a.eval s = vs) (v : Value) (w' : World) (hr : (Builtin.copy_ #[dT, sT] o.type #[vd, vs]).run P w = .ok v w') (h : K (a.put o.dst v) w') : o.wp P a w K Q := by
  unfold Oper.wp execOp
  simp only [ho, resolve, invoke, builtin, Sem.run_bind, Sem.run_pure, Result.andThen_ok, List.map_toArray, List.map_cons, List.map_nil, hd, hs, hr]
  exact h
theorem wpList_copy_run (hgd : o.guard = none) (d s : Operand) (dT sT : TypeId) (ho : o.op = .call { callee := .builtin .copy, args := #[d, s], argTypes := #[dT, sT] })
    (vd vs : Value) (hd : a.eval d = vd) (hs : a.eval s = vs) (v : Value) (w' : World) (hr : (Builtin.copy_ #[dT, sT] o.type #[vd, vs]).run P w = .ok v w') (h : wpList P ops Q rest (a.put o.dst v) w') : wpList P ops Q (o :: rest) a w :=
  wpList_plain hgd fun _ hK => wp_copy_run d s dT sT ho vd vs hd hs v w' hr (hK _ _ h)
theorem step_copy_run (hgd : o.guard = none) (d s : Operand) (dT sT : TypeId) (ho : o.op = .call { callee := .builtin .copy, args := #[d, s], argTypes := #[dT, sT] })
    (vd vs : Value) (hd : a.eval d = vd) (hs : a.eval s = vs) (v : Value) (w' : World) (hr : (Builtin.copy_ #[dT, sT] o.type #[vd, vs]).run P w = .ok v w') (h : K (a.put o.dst v) w') :
    if Region.wanted o (yielded ops a.tmps) = true then Oper.wp P o a w K Q else E := by
  have hw : Region.wanted o (yielded ops a.tmps) = true := by simp [Region.wanted, hgd]
  rw [if_pos hw]
  exact wp_copy_run d s dT sT ho vd vs hd hs v w' hr h
end
end Go.Proofs.YthhjjaoppacnmaaDoor
namespace Go.Proofs.YthhjjaoppacnmaaDoor
open Go.RowKit
set_option linter.unusedVariables false
set_option linter.unusedSimpArgs false

theorem Tryd.undInt' : Tryd.prog.underlying 3 = some (.int .i64) := by kernel_rfl
theorem take_app2 {α : Type} (A B R : List α) (n : Nat) (h : n = A.length + B.length) : (A ++ B ++ R).take n = A ++ B := by
  subst h
  rw [← List.length_append, List.take_left]
def insP (l : List At) (i : Nat) (a : At) : List At := l.take i ++ a :: l.drop i
theorem insP_len (l : List At) (i : Nat) (a : At) (h : i ≤ l.length) : (insP l i a).length = l.length + 1 := by
  simp [insP]; omega
theorem insP_flat (l : List At) (i : Nat) (a : At) : (insP l i a).flatMap At.enc = (l.take i).flatMap At.enc ++ (a.enc ++ (l.drop i).flatMap At.enc) := by
  simp [insP, List.flatMap_append, List.flatMap_cons]

/-- at the end -/
theorem insert_end (A : Option Addr) (n c base gv : Nat) (l : List At) (x1 x2 x3 x4 : Int) (x5 : ByteArray) (w : World) (hown : OwAt w base (.slice A n c) l) (hn : n = l.length) (hb : n ≤ 100000000) (hbase : base ≤ w.heap.size)
    (hv : w.heap[gv]? = some (.cells #[.int .i64 x1, .int .u8 x2, .int .i64 x3, .int .u64 x4, .string x5] 28 (0, 0))) :
    Calls Tryd.prog 42 #[.slice A n c, .int .i64 (n : Int), .slice (some ⟨gv, 0, none⟩) 1 1] w fun e w' =>
      ∃ A' c', e = .returned (.slice A' (n + 1) c') ∧ OwAt w' base (.slice A' (n + 1) c') (insP l n ⟨x1, ⟨x2, x3, x4, x5⟩⟩) ∧ Below base w w' := by
  have N := Lib.hid hn
  have hcap := hown.cap
  have hlc : n ≤ c := by rw [hn]; exact hcap.1
  have hcm : c ≤ 2 ^ 63 - 1 := hcap.2
  clear hn hcap
  have hrd : RdAt w w.heap.size (some ⟨gv, 0, none⟩) [⟨x1, ⟨x2, x3, x4, x5⟩⟩] := by
    intro _
    refine ⟨_, rfl, blk_lt hv, fun i hi j u hu => ?_⟩
    have hi0 : i = 0 := by simpa using hi
    subst hi0
    rw [Nat.zero_mul, add_zero', add_row]
    simp only [World.cell?, hv]
    simpa [At.enc] using hu
  have hz : ((1 : Int) == 0) = false := rfl
  rcases Nat.lt_or_ge n c with hnc | hnc
  · have hne : ¬ c = n := by omega
    go_enter Tryd.func42, Tryd.ntmps42
    go_wp2_with (at_builtin; refine app_at (m := [⟨x1, ⟨x2, x3, x4, x5⟩⟩]) rfl (.tmp 23) (.tmp 24) rfl rfl (by exact hown) _ _ 1 1 rfl rfl (by exact hrd) (by have := N.out; simp only [List.length_singleton]; omega) hbase ?_; intro v' w' hown' hgr hv')
    obtain ⟨A', c', hvv, _, _⟩ := hown'.form
    subst hvv
    have e : l ++ [⟨x1, ⟨x2, x3, x4, x5⟩⟩] = insP l n ⟨x1, ⟨x2, x3, x4, x5⟩⟩ := by
      rw [N.out]; simp [insP]
    have el : (l ++ [(⟨x1, ⟨x2, x3, x4, x5⟩⟩ : At)]).length = n + 1 := by rw [N.out]; simp
    rw [el] at hown' ⊢
    rw [e] at hown'
    go_ret
    exact ⟨A', c', rfl, hown', (Below.refl _ _).grown hgr hbase (fun k hk => (hown.wb_lt k hk).1)⟩
  · have hce : c = n := by omega
    subst hce
    go_enter Tryd.func42, Tryd.ntmps42
    go_wp2_with (at_builtin; refine app_at (m := [⟨x1, ⟨x2, x3, x4, x5⟩⟩]) rfl (.tmp 23) (.tmp 24) rfl rfl (by exact hown) _ _ 1 1 rfl rfl (by exact hrd) (by have := N.out; simp only [List.length_singleton]; omega) hbase ?_; intro v' w' hown' hgr hv')
    obtain ⟨A', c', hvv, _, _⟩ := hown'.form
    subst hvv
    have e : l ++ [⟨x1, ⟨x2, x3, x4, x5⟩⟩] = insP l c ⟨x1, ⟨x2, x3, x4, x5⟩⟩ := by
      rw [N.out]; simp [insP]
    have el : (l ++ [(⟨x1, ⟨x2, x3, x4, x5⟩⟩ : At)]).length = c + 1 := by rw [N.out]; simp
    rw [el] at hown' ⊢
    rw [e] at hown'
    go_ret
    exact ⟨A', c', rfl, hown', (Below.refl _ _).grown hgr hbase (fun k hk => (hown.wb_lt k hk).1)⟩

set_option maxRecDepth 100000 in
set_option maxHeartbeats 1000000 in
/-- within, where a new row is wanted -/
theorem insert_grow (A : Option Addr) (n c base gv i : Nat) (l : List At) (x1 x2 x3 x4 : Int) (x5 : ByteArray) (w : World) (hown : OwAt w base (.slice A n c) l) (hn : n = l.length) (hb : n ≤ 100000000) (hbase : base ≤ w.heap.size)
    (hv : w.heap[gv]? = some (.cells #[.int .i64 x1, .int .u8 x2, .int .i64 x3, .int .u64 x4, .string x5] 28 (0, 0))) (hi : i < n) (hc : c < n + 1) :
    Calls Tryd.prog 42 #[.slice A n c, .int .i64 (i : Int), .slice (some ⟨gv, 0, none⟩) 1 1] w fun e w' =>
      ∃ A' c', e = .returned (.slice A' (n + 1) c') ∧ OwAt w' base (.slice A' (n + 1) c') (insP l i ⟨x1, ⟨x2, x3, x4, x5⟩⟩) ∧ Below base w w' := by
  have N := Lib.hid hn
  obtain ⟨g, cur, rfl, -, hbg, hg, hlc, hcm, hcur, htake⟩ := hown.row (by omega)
  obtain rfl : c = n := by omega
  obtain ⟨i0, hi0, hz0, hz1, hz2⟩ := info_parts Tryd.infoAt
  have hgl := blk_lt hg
  have hvl := blk_lt hv
  have hflat := flat_len At.enc_len l
  have hsrc : ∀ j u, (l.flatMap At.enc)[j]? = some u → w.cell? ⟨g, j, none⟩ = some u := by
    intro j u hu
    rw [← htake, List.getElem?_take] at hu
    split at hu
    · simp only [World.cell?, hg]; simpa using hu
    · cases hu
  obtain ⟨m, hm⟩ : ∃ m, m = c + 1 - i := ⟨_, rfl⟩
  have hrun := run_append_zeros_grow (P := Tryd.prog) w 23 3 23 28 i0 _ .i64 .i64 Tryd.slAt Tryd.undInt' hi0 hz0 ⟨g, 0, none⟩ i c m ((l.take i).flatMap At.enc) (by rw [flat_len At.enc_len, List.length_take, hz1]; congr 1; omega)
    (fun j u hu => by rw [add_row]; exact hsrc j u (by rw [← flat_take At.enc_len] at hu; rw [List.getElem?_take] at hu; split at hu; exact hu; cases hu)) (by omega) (by omega) (by omega) (by omega) (by omega)
  have him : i + m = c + 1 := by omega
  rw [him] at hrun
  have hge := grownCap_ge w (c + 1) c 28
  have hcm1 : grownCap w (c + 1) c 28 ≤ maxLen := grownCap_le_maxLen w (c + 1) c _ (by simp only [maxLen]; omega)
  generalize grownCap w (c + 1) c 28 = k1 at *
  have hzc : (Builtin.zeroCells (At.val ⟨0, V.zero⟩).cells m).size = m * 5 := size_zeroCells _ _
  have hzc2 : (Builtin.zeroCells (At.val ⟨0, V.zero⟩).cells (k1 - (c + 1))).size = (k1 - (c + 1)) * 5 := size_zeroCells _ _
  generalize Builtin.zeroCells (At.val ⟨0, V.zero⟩).cells m = Z1 at *
  generalize Builtin.zeroCells (At.val ⟨0, V.zero⟩).cells (k1 - (c + 1)) = Z2 at *
  have hT : ((l.take i).flatMap At.enc).length = i * 5 := by rw [flat_len At.enc_len, List.length_take]; congr 1; omega
  have hD : ((l.drop i).flatMap At.enc).length = (c - i) * 5 := by rw [flat_len At.enc_len, List.length_drop]; congr 1; omega
  obtain ⟨C1, hC1⟩ : ∃ C1, C1 = ((l.take i).flatMap At.enc).toArray ++ Z1 ++ Z2 := ⟨_, rfl⟩
  rw [← hC1] at hrun
  have hC1l : C1.toList = (l.take i).flatMap At.enc ++ (Z1.toList ++ Z2.toList) := by rw [hC1]; simp
  have hC1s : C1.size = k1 * 5 := by rw [← Array.length_toList, hC1l]; simp only [List.length_append, hT, Array.length_toList, hzc, hzc2]; omega
  obtain ⟨w1, hw1⟩ : ∃ w1, w1 = w.drew.alloc (.cells C1 28) := ⟨_, rfl⟩
  rw [← hw1] at hrun
  have hb1 : Below w.heap.size w w1 := by rw [hw1]; exact (Below.refl _ _).drew.alloc (Nat.le_refl _) _
  have hg1 : w1.heap[w.heap.size]? = some (.cells C1 28 (0, 0)) := by rw [hw1]; exact heap_alloc_new w.drew _
  have hgo : w1.heap[g]? = some (.cells cur 28 (0, 0)) := (hb1.block g hgl).trans hg
  have hvo := (hb1.block gv hvl).trans hv
  clear hw1 hC1
  -- the first copy
  have hmin1 : Nat.min 1 (c + 1 - i) = 1 := by simp only [Nat.min_def]; split <;> omega
  have hcp1 := run_copy_onto (P := Tryd.prog) w1 23 23 3 28 i0 5 Tryd.slAt hi0 hz1 w.heap.size (i * 5) (c + 1 - i) (k1 - i) ⟨gv, 0, none⟩ 1 1 C1 _ (At.enc ⟨x1, ⟨x2, x3, x4, x5⟩⟩) hg1 (by rw [hmin1]; rfl)
    (fun j u hu => by rw [add_row]; simp only [World.cell?, hvo]; simpa [At.enc] using hu) (by rw [hC1s, At.enc_len]; omega) (At.enc_one _)
  have hne1 : ¬ c = i := by omega
  have hne2 : ¬ k1 = i := by omega
  have hmi : (c : Int) + 1 - (i : Int) = (m : Int) := by omega
  have hcp1' : ∃ w2 C2, (Builtin.copy_ #[23, 23] 3 #[.slice (some ⟨w.heap.size, i * 5, none⟩) (c + 1 - i) (k1 - i), .slice (some ⟨gv, 0, none⟩) 1 1]).run Tryd.prog w1 = .ok (goInt 1) w2 ∧
      w2.heap[w.heap.size]? = some (.cells C2 28 (0, 0)) ∧ Below w.heap.size w1 w2 ∧ C2.size = k1 * 5 ∧ C2.toList.take ((i + 1) * 5) = (l.take i).flatMap At.enc ++ At.enc ⟨x1, ⟨x2, x3, x4, x5⟩⟩ := by
    rw [hmin1] at hcp1
    refine ⟨_, _, hcp1, setRow_heap w1 _ C1 _ _ _ hg1, below_setRow (Below.refl _ _) (Nat.le_refl _) _, ?_, ?_⟩
    · simp only [List.size_toArray, List.length_append, List.length_take, List.length_drop, Array.length_toList, At.enc_len, hC1s]
      omega
    · have e1 : C1.toList.take (i * 5) = (l.take i).flatMap At.enc := by rw [hC1l, ← hT, List.take_left]
      rw [e1, take_app2 _ _ _ _ (by rw [hT, At.enc_len]; omega)]
  obtain ⟨w2, C2, hr2, hg2, hb2, hs2, ht2⟩ := hcp1'
  have hgo2 : w2.heap[g]? = some (.cells cur 28 (0, 0)) := (hb2.block g hgl).trans hgo
  have hmin2 : Nat.min (c - i) (c + 1 - (i + 1)) = c - i := by simp only [Nat.min_def]; split <;> omega
  have hcp2 := run_copy_onto (P := Tryd.prog) w2.drew 23 23 3 28 i0 5 Tryd.slAt hi0 hz1 w.heap.size ((i + 1) * 5) (c + 1 - (i + 1)) (k1 - (i + 1)) ⟨g, i * 5, none⟩ (c - i) (c - i) C2 _ ((l.drop i).flatMap At.enc) hg2 (by rw [hmin2]; exact hD)
    (fun j u hu => by
      rw [← flat_drop At.enc_len, List.getElem?_drop] at hu
      have hu' := hu
      rw [← htake, List.getElem?_take] at hu'
      split at hu'
      · simp only [Addr.add]
        split
        · rename_i h0; rw [h0, Nat.add_zero] at hu'
          simp only [World.cell?]
          rw [show w2.drew.heap[g]? = _ from hgo2]; simpa using hu'
        · simp only [World.cell?]
          rw [show w2.drew.heap[g]? = _ from hgo2]; simpa using hu'
      · cases hu') (by rw [hD, hs2]; omega) (fun u hu => by obtain ⟨y, _, hy⟩ := List.mem_flatMap.1 hu; exact At.enc_one y u hy)
  have hcp2' : ∃ w3 C3, (Builtin.copy_ #[23, 23] 3 #[.slice (some ⟨w.heap.size, (i + 1) * 5, none⟩) (c + 1 - (i + 1)) (k1 - (i + 1)), .slice (some ⟨g, i * 5, none⟩) (c - i) (c - i)]).run Tryd.prog w2.drew = .ok (goInt ((c - i : Nat) : Int)) w3 ∧
      w3.heap[w.heap.size]? = some (.cells C3 28 (0, 0)) ∧ Below w.heap.size w2 w3 ∧ C3.size = k1 * 5 ∧ C3.toList.take ((c + 1) * 5) = (insP l i ⟨x1, ⟨x2, x3, x4, x5⟩⟩).flatMap At.enc := by
    rw [hmin2] at hcp2
    refine ⟨_, _, hcp2, setRow_heap w2.drew _ C2 _ _ _ hg2, below_setRow (Below.refl _ _).drew (Nat.le_refl _) _, ?_, ?_⟩
    · simp only [List.size_toArray, List.length_append, List.length_take, List.length_drop, Array.length_toList, hD, hs2]
      omega
    · rw [ht2, insP_flat]
      rw [take_app2 _ _ _ _ (by rw [List.length_append, hT, hD, At.enc_len]; omega), List.append_assoc]
  obtain ⟨w3, C3, hr3, hg3, hb3, hs3, ht3⟩ := hcp2'
  have H1 := Lib.hid hrun
  have H2 := Lib.hid hr2
  have H3 := Lib.hid hr3
  have HG3 := Lib.hid hg3
  have HT3 := Lib.hid ht3
  have HS3 := Lib.hid hs3
  have HGE := Lib.hid hge
  have hicf : ((i : Int) == (c : Int)) = false := beq_eq_false_iff_ne.2 (by omega)
  have hwi : IntKind.i64.wrap ((i : Int) + 1) = (i : Int) + 1 := IntWalk.i64_in _ (by simp only [maxLen] at hcm; omega)
  have hti : ((i : Int) + 1).toNat = i + 1 := by omega
  have hpi : (0 : Int) ≤ (i : Int) + 1 := by omega
  have hne3 : ¬ k1 = i + 1 := by omega
  have hic1 : i + 1 ≤ c + 1 := by omega
  have hic2 : i ≤ c := by omega
  have hic3 : i < c + 1 := by omega
  have hcm' : c ≤ 2 ^ 63 - 1 := hcm
  have hkm' : k1 ≤ 2 ^ 63 - 1 := hcm1
  clear hrun hcp1 hcp2 hr2 hr3 hm htake hflat hsrc hn hg3 ht3 hs3 hmin1 hmin2 hT hD hC1l hC1s hzc hzc2 hge hcm hcm1 him hlc hcur ht2 hs2 hg2 hgo2 hg1 hgo hvo hg hv
  go_enter Tryd.func42, Tryd.ntmps42
  go_wp2_with (first
    | (at_builtin; refine Lib.wpList_append_run _ rfl (.tmp 34) (.tmp 39) _ _ rfl _ _ rfl rfl _ _ H1.out ?_)
    | (refine wpList_copy_run rfl (.tmp 43) (.tmp 44) _ _ rfl _ _ rfl rfl _ _ H2.out ?_))
  go_region_law (refine step_copy_run rfl (.tmp 50) (.tmp 53) _ _ rfl _ _ (by simp [Act.eval, Act.put]) (by simp [Act.eval, Act.put]) _ _ H3.out ?_)
  all_goals go_wp2_with (fail)
  all_goals
    go_ret
    have e : c + 1 = (insP l i ⟨x1, ⟨x2, x3, x4, x5⟩⟩).length := by rw [insP_len _ _ _ (by rw [← N.out]; omega), N.out]
    refine ⟨some ⟨w.heap.size, 0, none⟩, k1, rfl, ?_, ((hb1.trans hb2).trans hb3).mono hbase⟩
    refine .inr ⟨flat_len At.enc_len _, .inr ⟨w.heap.size, k1, C3, by rw [e], hbase, HG3.out, by rw [← e]; exact HGE.out, hkm', HS3.out, by rw [← e]; exact HT3.out⟩⟩

set_option maxRecDepth 100000 in
set_option maxHeartbeats 1000000 in
/-- within, where there is room -/
theorem insert_room (A : Option Addr) (n c base gv i : Nat) (l : List At) (x1 x2 x3 x4 : Int) (x5 : ByteArray) (w : World) (hown : OwAt w base (.slice A n c) l) (hn : n = l.length) (hb : n ≤ 100000000) (hbase : base ≤ w.heap.size)
    (hv : w.heap[gv]? = some (.cells #[.int .i64 x1, .int .u8 x2, .int .i64 x3, .int .u64 x4, .string x5] 28 (0, 0))) (hi : i < n) (hc : n + 1 ≤ c) (hne : wb (.slice A n c) ≠ some gv) :
    Calls Tryd.prog 42 #[.slice A n c, .int .i64 (i : Int), .slice (some ⟨gv, 0, none⟩) 1 1] w fun e w' =>
      ∃ A' c', e = .returned (.slice A' (n + 1) c') ∧ OwAt w' base (.slice A' (n + 1) c') (insP l i ⟨x1, ⟨x2, x3, x4, x5⟩⟩) ∧ Below base w w' := by
  have N := Lib.hid hn
  obtain ⟨g, cur, rfl, -, hbg, hg, hlc, hcm, hcur, htake⟩ := hown.row (by omega)
  obtain ⟨i0, hi0, hz0, hz1, hz2⟩ := info_parts Tryd.infoAt
  have hgl := blk_lt hg
  have hvl := blk_lt hv
  have hgv : gv ≠ g := by
    intro e
    subst e
    cases c with
    | zero => omega
    | succ c => exact hne rfl
  have hT : ((l.take i).flatMap At.enc).length = i * 5 := by rw [flat_len At.enc_len, List.length_take]; congr 1; omega
  have hD : ((l.drop i).flatMap At.enc).length = (n - i) * 5 := by rw [flat_len At.enc_len, List.length_drop]; congr 1; omega
  have hz : ∀ w, (sizeOf 28).run Tryd.prog w = .ok 5 w := fun w => by simp [sizeOf, typeInfo, hi0, hz1]
  have hov : ∀ W lb cb, W.heap[g]? = some (.cells cur 28 (0, 0)) → W.heap[gv]? = some (.cells #[.int .i64 x1, .int .u8 x2, .int .i64 x3, .int .u64 x4, .string x5] 28 (0, 0)) →
      (callFunc 64 #[.slice (some ⟨gv, 0, none⟩) 1 1, .slice (some ⟨g, (i + 1) * 5, none⟩) lb cb]).run Tryd.prog W = .ok (.value (.bool false)) W := fun W lb cb hWg hWv => by
    rw [run_callFunc_extern Tryd.func64 (by kernel_rfl) (by kernel_rfl) (by kernel_rfl) (e := Extern.SlicesOverlaps.overlaps #[23, 23] #[4]) (by kernel_rfl),
      Lib.run_overlaps_apart W 23 4 28 Tryd.slAt 5 hz ⟨gv, 0, none⟩ ⟨g, (i + 1) * 5, none⟩ 1 1 lb cb hgv 28 28 5 (c * 5) (by simp [World.shape?, hWv]) (by simp [World.shape?, hWg, hcur]) (by omega) (by simp [World.frozen?, hWv]) (by simp [World.frozen?, hWv])]
    rfl
  have hmin1 : Nat.min (n + 1 - i) (n + 1 - (i + 1)) = n - i := by simp only [Nat.min_def]; split <;> omega
  have hmin2 : Nat.min 1 (n + 1 - i) = 1 := by simp only [Nat.min_def]; split <;> omega
  have hcp1 := run_copy_onto (P := Tryd.prog) w.drew 23 23 3 28 i0 5 Tryd.slAt hi0 hz1 g ((i + 1) * 5) (n + 1 - (i + 1)) (c - (i + 1)) ⟨g, i * 5, none⟩ (n + 1 - i) (c - i) cur _ ((l.drop i).flatMap At.enc) hg (by rw [hmin1]; exact hD)
    (fun j u hu => by
      rw [← flat_drop At.enc_len, List.getElem?_drop] at hu
      have hu' := hu
      rw [← htake, List.getElem?_take] at hu'
      split at hu'
      · simp only [Addr.add]
        split
        · rename_i h0; rw [h0, Nat.add_zero] at hu'
          simp only [World.cell?]
          rw [show w.drew.heap[g]? = _ from hg]; simpa using hu'
        · simp only [World.cell?]
          rw [show w.drew.heap[g]? = _ from hg]; simpa using hu'
      · cases hu') (by rw [hD, hcur]; omega) (fun u hu => by obtain ⟨y, _, hy⟩ := List.mem_flatMap.1 hu; exact At.enc_one y u hy)
  have hTc : cur.toList.take (i * 5) = (l.take i).flatMap At.enc := by rw [← flat_take At.enc_len, ← htake, List.take_take, Nat.min_eq_left (by omega)]
  have hcp1' : ∃ w2 C2, (Builtin.copy_ #[23, 23] 3 #[.slice (some ⟨g, (i + 1) * 5, none⟩) (n + 1 - (i + 1)) (c - (i + 1)), .slice (some ⟨g, i * 5, none⟩) (n + 1 - i) (c - i)]).run Tryd.prog w.drew = .ok (goInt ((n - i : Nat) : Int)) w2 ∧
      w2.heap[g]? = some (.cells C2 28 (0, 0)) ∧ Below base w w2 ∧ w2.heap[gv]? = w.heap[gv]? ∧ C2.size = c * 5 ∧ C2.toList.take (i * 5) = (l.take i).flatMap At.enc ∧ (C2.toList.drop ((i + 1) * 5)).take ((n - i) * 5) = (l.drop i).flatMap At.enc := by
    rw [hmin1] at hcp1
    refine ⟨_, _, hcp1, setRow_heap w.drew _ cur _ _ _ hg, below_setRow (Below.refl _ _).drew hbg _, setRow_other w.drew g gv _ hgv, ?_, ?_, ?_⟩
    · simp only [List.size_toArray, List.length_append, List.length_take, List.length_drop, Array.length_toList, hD, hcur]
      omega
    · have hlt : (cur.toList.take ((i + 1) * 5)).length = (i + 1) * 5 := by rw [List.length_take, Array.length_toList, hcur]; omega
      simp only [List.append_assoc]
      rw [List.take_append, hlt, List.take_take, Nat.min_eq_left (by omega), hTc, Nat.sub_eq_zero_of_le (by omega), List.take_zero, List.append_nil]
    · have hlt : (cur.toList.take ((i + 1) * 5)).length = (i + 1) * 5 := by rw [List.length_take, Array.length_toList, hcur]; omega
      simp only [List.append_assoc]
      rw [List.drop_append, hlt, Nat.sub_self, List.drop_zero, List.drop_of_length_le (by omega), List.nil_append, ← hD, List.take_left]
  obtain ⟨w2, C2, hr2, hg2, hb2, hvk, hs2, ht2, hd2⟩ := hcp1'
  have hv2 := hvk.trans hv
  have hcp2 := run_copy_onto (P := Tryd.prog) w2 23 23 3 28 i0 5 Tryd.slAt hi0 hz1 g (i * 5) (n + 1 - i) (c - i) ⟨gv, 0, none⟩ 1 1 C2 _ (At.enc ⟨x1, ⟨x2, x3, x4, x5⟩⟩) hg2 (by rw [hmin2]; rfl)
    (fun j u hu => by rw [add_row]; simp only [World.cell?, hv2]; simpa [At.enc] using hu) (by rw [hs2, At.enc_len]; omega) (At.enc_one _)
  have hcp2' : ∃ w3 C3, (Builtin.copy_ #[23, 23] 3 #[.slice (some ⟨g, i * 5, none⟩) (n + 1 - i) (c - i), .slice (some ⟨gv, 0, none⟩) 1 1]).run Tryd.prog w2 = .ok (goInt 1) w3 ∧
      w3.heap[g]? = some (.cells C3 28 (0, 0)) ∧ Below base w2 w3 ∧ C3.size = c * 5 ∧ C3.toList.take ((n + 1) * 5) = (insP l i ⟨x1, ⟨x2, x3, x4, x5⟩⟩).flatMap At.enc := by
    rw [hmin2] at hcp2
    refine ⟨_, _, hcp2, setRow_heap w2 _ C2 _ _ _ hg2, below_setRow (Below.refl _ _) hbg _, ?_, ?_⟩
    · simp only [List.size_toArray, List.length_append, List.length_take, List.length_drop, Array.length_toList, At.enc_len, hs2]
      omega
    · rw [ht2, insP_flat, List.take_append, List.take_of_length_le (by rw [List.length_append, hT, At.enc_len]; omega), List.length_append, hT, At.enc_len]
      have e1 : (n + 1) * 5 - (i * 5 + 5) = (n - i) * 5 := by omega
      have e2 : i * 5 + 5 = (i + 1) * 5 := by omega
      rw [e1, e2, hd2, List.append_assoc]
  obtain ⟨w3, C3, hr3, hg3, hb3, hs3, ht3⟩ := hcp2'
  have HOV := Lib.hid (hov w)
  have hov' : ∀ lb cb, (callFunc 64 #[.slice (some ⟨gv, 0, none⟩) 1 1, .slice (some ⟨g, (i + 1) * 5, none⟩) lb cb]).run Tryd.prog w = .ok (.value (.bool false)) w := fun lb cb => hov w lb cb hg hv
  have H2 := Lib.hid hr2
  have H3 := Lib.hid hr3
  have HG3 := Lib.hid hg3
  have HT3 := Lib.hid ht3
  have HS3 := Lib.hid hs3
  have hicf : ((i : Int) == (n : Int)) = false := beq_eq_false_iff_ne.2 (by omega)
  have hcm' : c ≤ 2 ^ 63 - 1 := hcm
  have hwi : IntKind.i64.wrap ((i : Int) + 1) = (i : Int) + 1 := IntWalk.i64_in _ (by simp only [maxLen] at hcm; omega)
  have hti : ((i : Int) + 1).toNat = i + 1 := by omega
  have hpi : (0 : Int) ≤ (i : Int) + 1 := by omega
  have hne1 : ¬ c = i := by omega
  have hne3 : ¬ c = i + 1 := by omega
  have hic2 : i ≤ n := by omega
  have hic3 : i < n + 1 := by omega
  have hic1 : i + 1 ≤ n + 1 := by omega
  have hge : ¬ ((c : Int) < (n : Int) + 1) := by omega
  have hin1 : (i : Int) ≤ (n : Int) + 1 := by omega
  clear hcp1 hcp2 hr2 hr3 htake hn hg3 ht3 hs3 hmin1 hmin2 hT hD hcm hlc hcur ht2 hs2 hg2 hd2 hvk hv2 hg hv hov hz hne hTc
  go_enter Tryd.func42, Tryd.ntmps42
  go_wp2_with (simp only [hov'])
  go_region_law (refine step_copy_run rfl (.tmp 73) (.tmp 76) _ _ rfl _ _ (by simp [Act.eval, Act.put]) (by simp [Act.eval, Act.put]) _ _ H2.out ?_)
  all_goals go_wp2_with (refine wpList_copy_run rfl (.tmp 80) (.tmp 81) _ _ rfl _ _ rfl rfl _ _ H3.out ?_)
  all_goals
    go_ret
    have e : n + 1 = (insP l i ⟨x1, ⟨x2, x3, x4, x5⟩⟩).length := by rw [insP_len _ _ _ (by rw [← N.out]; omega), N.out]
    refine ⟨some ⟨g, 0, none⟩, c, rfl, ?_, hb2.trans hb3⟩
    refine .inr ⟨flat_len At.enc_len _, .inr ⟨g, c, C3, by rw [e], hbg, HG3.out, by rw [← e]; exact hc, hcm', HS3.out, by rw [← e]; exact HT3.out⟩⟩
end Go.Proofs.YthhjjaoppacnmaaDoor
