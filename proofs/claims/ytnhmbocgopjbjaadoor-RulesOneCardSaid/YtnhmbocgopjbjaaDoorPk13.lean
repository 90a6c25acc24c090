/- Merged texts: AttrsOps, AttrsLaw, KeepK, PartALaw, PartA, Great05, Known05, Shut. -/
import Derived.Test.YtnhmbocgopjbjaaDoorPk12
import Derived.Test.YtnhmbocgopjbjaaDoorPk2
import Derived.Test.YtnhmbocgopjbjaaDoorPk11
import Derived.Test.YtnhmbocgopjbjaaDoorPk1
import Derived.Test.YtnhmbocgopjbjaaDoorPk10
import Derived.Test.YtnhmbocgopjbjaaDoorPk8
import Derived.Test.YtnhmbocgopjbjaaDoorCards
import Derived.Test.YtnhmbocgopjbjaaDoorTie
import Derived.Test.YtnhmbocgopjbjaaDoorPk6
import Derived.ProofKit
import Derived.Deep.Slices
import Derived.JoinedCond
import Derived.OpenShut
import Derived.Deep.DeepHandedRow
import Derived.Lib.LaidTab
/- The walks of attrs.Same, attrs.Copy and attrs.Without. -/
namespace Go.Proofs.YtnhmbocgopjbjaaDoor
open Go.RowKit
set_option linter.unusedVariables false
set_option linter.unusedSimpArgs false

set_option maxRecDepth 100000 in
set_option maxHeartbeats 400000 in
theorem equalA_any (A B : Option Addr) (n m c d : Nat) (l k : List At) (w : World) (hn : n = l.length) (hm : m = k.length) (h1 : RdAt w w.heap.size A l) (h2 : RdAt w w.heap.size B k) (hb : n ≤ 140737488355328) (hb2 : m ≤ 140737488355328) :
    Calls Tryd.prog 63 #[.slice A n c, .slice B m d] w (Quiet (.bool (decide (l = k))) w) := by
  have N := Lib.hid hn
  have M := Lib.hid hm
  generalize hR : decide (l = k) = R
  have HR := Lib.hid hR
  clear hn hR hm
  by_cases hnm : (n : Int) = m
  · have hnm' : n = m := by omega
    subst hnm'
    clear hnm
    go_enter Tryd.func63, Tryd.ntmps63
    go_wp2_with (fail)
    go_loopg [13] n (fun g iv wr => ∃ i : Nat, i ≤ n ∧ g = n - i ∧ iv = .int .i64 (i : Int) ∧ (∃ d, wr = w.drewN d) ∧ Hid (decide (l.drop i = k.drop i) = R))
    case atStart => exact ⟨0, by omega, rfl, rfl, ⟨0, rfl⟩, Lib.hid (by rw [List.drop_zero, List.drop_zero]; exact HR.out)⟩
    case round =>
      obtain ⟨i, hi, hg, rfl, ⟨q, rfl⟩, HI⟩ := hrel
      have HG := Lib.hid hg
      clear hg HR
      by_cases hlt : i < n
      · have hl1 : i < l.length := by have := N.out; omega
        have hl2 : i < k.length := by have := M.out; omega
        obtain ⟨ad, x, rfl, _, hd1, _, hc1⟩ := h1.el hl1
        obtain ⟨ad2, y, rfl, _, hd2, _, hc2⟩ := h2.el hl2
        have HI' : Hid (decide (x :: l.drop (i + 1) = y :: k.drop (i + 1)) = R) := Lib.hid (by rw [← HI.out, hd1, hd2])
        clear HI hd1 hd2
        obtain ⟨x1, x2, x3, x4, x5⟩ := x
        obtain ⟨y1, y2, y3, y4, y5⟩ := y
        obtain ⟨r0, r1, r2, r3, r4⟩ := at_cells hc1
        obtain ⟨s0, s1, s2, s3, s4⟩ := at_cells hc2
        by_cases hxy : (⟨x1, ⟨x2, x3, x4, x5⟩⟩ : At) = ⟨y1, ⟨y2, y3, y4, y5⟩⟩
        · have hq := beqAt_eq hxy
          have HXY := Lib.hid hxy
          clear hxy
          go_wp2_with (go_quiet (fail))
          go_roundg (n - (i + 1))
          case measure => have := HG.out; omega
          case rel => exact ⟨i + 1, by omega, rfl, by go_num, ⟨_, rfl⟩, Lib.hid (by rw [← HI'.out]; simp only [List.cons.injEq, HXY.out, true_and])⟩
        · have hq := beqAt_ne hxy
          have HXY := Lib.hid hxy
          clear hxy
          go_wp2_with (go_quiet (fail))
          go_ret
          exact ⟨ret_bool (by rw [← HI'.out]; exact (decide_eq_false fun e => HXY.out (List.cons.inj e).1).symm), _, World.drewN_drewN _ _ _⟩
      · go_wp2_with (fail)
        go_ret
        exact ⟨ret_bool (by rw [← HI.out, List.drop_eq_nil_of_le (by have := N.out; omega), List.drop_eq_nil_of_le (by have := M.out; omega)]; rfl), _, rfl⟩
  · have hne : ((n : Int) == m) = false := beq_eq_false_iff_ne.2 hnm
    go_enter Tryd.func63, Tryd.ntmps63
    go_wp2_with (fail)
    go_ret
    refine ⟨ret_bool ?_, 0, rfl⟩
    rw [← HR.out]
    refine (decide_eq_false fun e => ?_).symm
    have h3 := N.out
    have h4 := M.out
    rw [e] at h3
    omega

set_option maxHeartbeats 400000 in
theorem attrsSame_any (A B : Option Addr) (n m c d : Nat) (l k : List At) (w : World) (hn : n = l.length) (hm : m = k.length) (h1 : RdAt w w.heap.size A l) (h2 : RdAt w w.heap.size B k) (hb : n ≤ 140737488355328) (hb2 : m ≤ 140737488355328) :
    Calls Tryd.prog 27 #[.slice A n c, .slice B m d] w (Quiet (.bool (decide (l = k))) w) := by
  have N := Lib.hid hn
  have M := Lib.hid hm
  clear hn hm
  go_enter Tryd.func27, Tryd.ntmps27
  go_wp2_with (go_at_call 63; refine (equalA_any A B n m c d l k _ N.out M.out h1 h2 hb hb2).mono ?_; rintro e w' ⟨rfl, q, rfl⟩)
  go_ret
  exact ⟨rfl, _, rfl⟩

set_option maxHeartbeats 400000 in
theorem copy_any (A : Option Addr) (n c : Nat) (l : List At) (w : World) (hn : n = l.length) (h : RdAt w w.heap.size A l) (hb : n ≤ 100000000) :
    Calls Tryd.prog 29 #[.slice A n c] w (NewAt l w) := by
  have N := Lib.hid hn
  clear hn
  go_enter Tryd.func29, Tryd.ntmps29
  go_wp2_with (go_at_call 56; refine Hid.out ?_)
  refine Lib.hid ?_
  refine (cloneAt_any A n c l w N.out h hb).mono ?_
  rintro e w2 ⟨A2, c2, rfl, ho, hb2⟩
  generalize hq : l.length = q at *
  go_wp2_with (fail)
  go_ret
  exact ⟨A2, c2, by rw [hq]; rfl, by rw [hq]; exact ho, hb2⟩

set_option maxHeartbeats 400000 in
theorem without_cl (b : Nat) (ck k a n f : Int) (s : ByteArray) (w : World) (hc : w.cell? ⟨b, 0, none⟩ = some (.int .i64 ck)) (hbl : b < w.heap.size) :
    Calls Tryd.prog 59 #[.agg #[.int .i64 k, .int .u8 a, .int .i64 n, .int .u64 f, .string s], .pointer (some ⟨b, 0, none⟩)] w fun e w' => e = .returned (.bool (k == ck)) ∧ Below w.heap.size w w' := by
  have hne : ¬ b = w.heap.size := by omega
  go_enter Tryd.func59, Tryd.ntmps59
  go_wp2_with (fail)
  go_ret
  exact ⟨rfl, ext_alloc w _⟩

def withoutP (l : List At) (k : Int) : List At := l.filter (fun x => !(x.key == k))

set_option maxHeartbeats 400000 in
theorem without_any (A : Option Addr) (n c : Nat) (l : List At) (k : Int) (w : World) (hn : n = l.length) (h : RdAt w w.heap.size A l) (hb : n ≤ 100000000) :
    Calls Tryd.prog 23 #[.slice A n c, .int .i64 k] w (NewAt (withoutP l k) w) := by
  have N := Lib.hid hn
  clear hn
  go_enter Tryd.func23, Tryd.ntmps23
  go_wp2_with (go_at_call 56; refine Hid.out ?_)
  refine Lib.hid ?_
  have hbx := heap_alloc_new w (.cells #[.int .i64 k] 3)
  have y := ext_alloc w (.cells #[.int .i64 k] 3)
  have hsz := size_alloc' w (.cells #[.int .i64 k] 3)
  refine (cloneAt_any A n c l _ N.out (h.ext y) hb).mono ?_
  rintro e w1 ⟨A1, c1, rfl, ho, hb1⟩
  rw [← N.out] at ho ⊢
  have hbx1 := (hb1.block w.heap.size (by omega)).trans hbx
  have hbw := ext_trans y hb1
  have HBX := Lib.hid hbx1
  have hszb : w.heap.size < w1.heap.size := blk_lt hbx1
  have hsz1 : (w.alloc (.cells #[.int .i64 k] 3)).heap.size ≤ w1.heap.size := hb1.size
  have HSZ := Lib.hid hsz
  have HSZ1 := Lib.hid hsz1
  clear hbx hbx1 hb1 y hsz hsz1
  go_wp2_with (go_at_call 58; refine Hid.out ?_)
  refine Lib.hid ?_
  refine (deleteWithout_any w.heap.size (fun x => x.key == k) A1 n c1 _ l w1 ho HSZ1.out hb N.out ?_).mono ?_
  · intro x1 x2 x3 x4 x5 w' hb'
    have hbx' := (hb'.block w.heap.size (by rw [← HSZ.out]; omega)).trans HBX.out
    exact without_cl w.heap.size k x1 x2 x3 x4 x5 w' (cell_of_one hbx') (blk_lt hbx')
  · rintro e w2 ⟨A', c', rfl, ho2, hb2⟩
    have hbase : w.heap.size ≤ (w.alloc (.cells #[.int .i64 k] 3)).heap.size := by rw [← HSZ.out]; omega
    have ho3 := ho2.base_le hbase
    have hbw2 := hbw.trans (hb2.mono hbase)
    have e : l.filter (fun x => !(x.key == k)) = withoutP l k := rfl
    rw [e] at ho3 ⊢
    generalize withoutP l k = R at *
    go_wp2_with (fail)
    go_ret
    exact ⟨A', c', rfl, ho3, hbw2⟩
end Go.Proofs.YtnhmbocgopjbjaaDoor
/- The laws of sets (With, Without, Same) as plain mathematics. -/
namespace Go.Proofs.YtnhmbocgopjbjaaDoor
set_option linter.unusedVariables false
set_option linter.unusedSimpArgs false

theorem with_all {l : List At} (h : riseA l = true) (a : At) :
    riseA (withP l a) = true ∧ (∀ k, lk At.key (withP l a) k = if a.key = k then some a else lk At.key l k) ∧ (withP l a).length ≤ l.length + 1 := by
  have hs := riseA_srt.1 h
  have hp : Srt Ch.key [(⟨a.key, false, a.v⟩ : Ch)] := (srt_cons Ch.key).2 ⟨by simp, Srt.nil Ch.key⟩
  obtain ⟨h1, h2, _, h4⟩ := apply_all hp hs
  refine ⟨riseA_srt.2 h1, fun k => ?_, by unfold withP; simp at h4; omega⟩
  unfold withP
  rw [h2 k, lk_cons, lk_nil]
  simp only
  split <;> simp [lkApply]

theorem without_all {l : List At} (h : riseA l = true) (c : Int) :
    riseA (withoutP l c) = true ∧ (∀ k, lk At.key (withoutP l c) k = if c = k then none else lk At.key l k) ∧ (withoutP l c).length + (if (getA l c).isSome = true then 1 else 0) = l.length := by
  have hs := riseA_srt.1 h
  refine ⟨riseA_srt.2 (hs.filter At.key _), fun k => ?_, ?_⟩
  · unfold withoutP
    rw [lk_filter At.key hs]
    cases hl : lk At.key l k with
    | none => simp
    | some a =>
      have := lk_key At.key hl
      by_cases hc : c = k
      · simp [hc, this]
      · have : ¬ a.key = c := by omega
        simp [hc, Option.filter, this]
  · rw [getA_lk, Option.isSome_map]
    clear h
    induction l with
    | nil => simp [withoutP, lk_nil]
    | cons a l ih =>
      obtain ⟨h1, h2⟩ := (srt_cons At.key).1 hs
      by_cases hc : a.key = c
      · have : withoutP l c = l := by
          unfold withoutP
          rw [List.filter_eq_self]
          intro b hb
          have := h1 b hb
          have : ¬ b.key = c := by omega
          simp [this]
        rw [lk_cons, if_pos hc]
        have e : withoutP (a :: l) c = withoutP l c := by simp [withoutP, hc]
        rw [e, this]
        simp
      · have e : withoutP (a :: l) c = a :: withoutP l c := by simp [withoutP, hc]
        rw [lk_cons, if_neg hc, e]
        have := ih h2
        simp only [List.length_cons]
        omega
/-- put in from the first on -/
def aP (l : List At) : List At := l.foldl withP []
/-- put in where the key is not yet there -/
def stepB (b : List At) (x : At) : List At := if (getA b x.key).isSome = true then b else withP b x
def bP (l : List At) : List At := l.foldl stepB []

theorem riseA_nil : riseA [] = true := rfl
theorem foldl_with (l : List At) : ∀ {s : List At}, riseA s = true →
    riseA (l.foldl withP s) = true ∧ (∀ k, lk At.key (l.foldl withP s) k = (lk At.key l.reverse k).or (lk At.key s k)) ∧ (l.foldl withP s).length ≤ s.length + l.length := by
  induction l with
  | nil => intro s hs; exact ⟨hs, fun k => rfl, Nat.le_refl _⟩
  | cons a l ih =>
    intro s hs
    obtain ⟨h1, h2, h3⟩ := with_all hs a
    obtain ⟨g1, g2, g3⟩ := ih h1
    refine ⟨g1, fun k => ?_, by simp only [List.foldl_cons, List.length_cons]; omega⟩
    rw [List.foldl_cons, g2 k, h2 k, List.reverse_cons, lk_append, lk_cons, lk_nil]
    cases lk At.key l.reverse k with
    | some _ => rfl
    | none => split <;> simp
theorem step_all {s : List At} (hs : riseA s = true) (x : At) :
    riseA (stepB s x) = true ∧ (∀ k, lk At.key (stepB s x) k = (lk At.key s k).or (if x.key = k then some x else none)) ∧ (stepB s x).length ≤ s.length + 1 := by
  unfold stepB
  obtain ⟨h1, h2, h3⟩ := with_all hs x
  have e : getA s x.key = (lk At.key s x.key).map (·.v) := rfl
  rw [e, Option.isSome_map]
  split
  · rename_i h
    refine ⟨hs, fun k => ?_, by omega⟩
    by_cases hk : x.key = k
    · subst hk
      obtain ⟨y, hy⟩ := Option.isSome_iff_exists.1 h
      rw [hy]; rfl
    · rw [if_neg hk, Option.or_none]
  · rename_i h
    refine ⟨h1, fun k => ?_, h3⟩
    rw [h2 k]
    by_cases hk : x.key = k
    · subst hk
      have : lk At.key s x.key = none := by simpa using h
      rw [if_pos rfl, if_pos rfl, this]; rfl
    · rw [if_neg hk, if_neg hk, Option.or_none]
theorem foldl_step (l : List At) : ∀ {s : List At}, riseA s = true →
    riseA (l.foldl stepB s) = true ∧ (∀ k, lk At.key (l.foldl stepB s) k = (lk At.key s k).or (lk At.key l k)) ∧ (l.foldl stepB s).length ≤ s.length + l.length := by
  induction l with
  | nil => intro s hs; exact ⟨hs, fun k => by simp [lk_nil], Nat.le_refl _⟩
  | cons a l ih =>
    intro s hs
    obtain ⟨h1, h2, h3⟩ := step_all hs a
    obtain ⟨g1, g2, g3⟩ := ih h1
    refine ⟨g1, fun k => ?_, by simp only [List.foldl_cons, List.length_cons]; omega⟩
    rw [List.foldl_cons, g2 k, h2 k, lk_cons, Option.or_assoc]
    split <;> simp
theorem law_order (l : List At) : aP l = bP l.reverse := by
  obtain ⟨h1, h2, _⟩ := foldl_with l riseA_nil
  obtain ⟨g1, g2, _⟩ := foldl_step l.reverse riseA_nil
  refine lk_ext At.key (riseA_srt.1 h1) (riseA_srt.1 g1) fun k => ?_
  show lk At.key (l.foldl withP []) k = lk At.key (l.reverse.foldl stepB []) k
  rw [h2 k, g2 k, lk_nil]
  simp
theorem aP_rise (l : List At) : riseA (aP l) = true := (foldl_with l riseA_nil).1
theorem aP_len (l : List At) : (aP l).length ≤ l.length := by have := (foldl_with l riseA_nil).2.2; simpa [aP] using this
theorem bP_rise (l : List At) : riseA (bP l) = true := (foldl_step l riseA_nil).1
theorem bP_len (l : List At) : (bP l).length ≤ l.length := by have := (foldl_step l riseA_nil).2.2; simpa [bP] using this
theorem aP_snoc (l : List At) (a : At) : aP (l ++ [a]) = withP (aP l) a := by simp [aP]
theorem bP_snoc (l : List At) (a : At) : bP (l ++ [a]) = stepB (bP l) a := by simp [bP]
theorem take_snoc {α : Type} {l : List α} {i : Nat} {a : α} (h : l[i]? = some a) : l.take (i + 1) = l.take i ++ [a] := by
  obtain ⟨hi, he⟩ := List.getElem?_eq_some_iff.1 h
  rw [List.take_succ_eq_append_getElem hi, he]
theorem rev_at {α : Type} {l : List α} {i j : Nat} {a : α} (h : l[j]? = some a) (hij : i + j + 1 = l.length) : l.reverse[i]? = some a := by
  rw [List.getElem?_reverse (by omega)]
  have : l.length - 1 - i = j := by omega
  rw [this, h]
theorem get_at {l : List At} (h : riseA l = true) {i : Nat} {a : At} (ha : l[i]? = some a) : getA l a.key = some a.v := by
  rw [getA_lk, lk_of_mem At.key (riseA_srt.1 h) (List.mem_of_getElem? ha)]
  rfl
end Go.Proofs.YtnhmbocgopjbjaaDoor
/- Is a key of a schema there, and of a kind? -/
namespace Go.Proofs.YtnhmbocgopjbjaaDoor

/-- is a key there, and of the kind? -/
def keepK (l : List Ky) (b : Bool) (id : Int) : Bool :=
  match findK l id with
  | none => false
  | some k => k.block == b
end Go.Proofs.YtnhmbocgopjbjaaDoor
/- The plain laws of a set's parts, and of what is put into a set of a schema and taken out. -/
namespace Go.Proofs.YtnhmbocgopjbjaaDoor
set_option linter.unusedVariables false
set_option linter.unusedSimpArgs false

/-- the attributes of block keys, or of inline ones -/
def partS (l : List Ky) (b : Bool) (p : List At) : List At := p.filter (fun c => keepK l b c.key)
theorem keep_one' {l : List Ky} {id : Int} (h : (findK l id).isSome = true) : keepK l true id = !keepK l false id := by
  unfold keepK
  cases hq : findK l id with
  | none => rw [hq] at h; cases h
  | some k => simp only; cases k.block <;> rfl
theorem partS_len {l : List Ky} {p : List At} (ht : ∀ a ∈ p, thereA l a = true) : (partS l false p).length + (partS l true p).length = p.length := by
  induction p with
  | nil => rfl
  | cons c p ih =>
    have h1 := ih (fun a ha => ht a (List.mem_cons_of_mem _ ha))
    have h3 := keep_one' (fits_some (ht c (by simp)))
    unfold partS at *
    rw [List.filter_cons, List.filter_cons]
    cases h4 : keepK l false c.key <;> rw [h4] at h3 <;> simp [h3] <;> omega
theorem partS_part {l : List Ky} {p : List At} (b : Bool) : partS l (!b) (partS l b p) = [] := by
  unfold partS
  rw [List.filter_filter]
  refine List.filter_eq_nil_iff.2 fun a ha => ?_
  unfold keepK
  cases findK l a.key with
  | none => simp
  | some k => cases b <;> cases k.block <;> simp
theorem lk_partS {l : List Ky} {b : Bool} {p : List At} (hp : Srt At.key p) (k : Int) : lk At.key (partS l b p) k = if keepK l b k = true then lk At.key p k else none := by
  unfold partS
  rw [lk_filter At.key hp]
  cases hq : lk At.key p k with
  | none => by_cases h : keepK l b k = true <;> simp [h]
  | some c =>
    have hc : c.key = k := lk_key At.key hq
    by_cases h : keepK l b k = true
    · simp [Option.filter, hc, h]
    · simp [Option.filter, hc, h]
theorem lk_reverse {l : List At} (hs : Srt At.key l) (k : Int) : lk At.key l.reverse k = lk At.key l k := by
  cases hq : lk At.key l.reverse k with
  | none =>
    cases hr : lk At.key l k with
    | none => rfl
    | some a =>
      have h1 : (lk At.key l.reverse k).isSome = true := (lk_isSome At.key).2 ⟨a, List.mem_reverse.2 (lk_mem At.key hr), lk_key At.key hr⟩
      rw [hq] at h1; cases h1
  | some a =>
    have h1 := lk_of_mem At.key hs (List.mem_reverse.1 (lk_mem At.key hq))
    have h2 : a.key = k := lk_key At.key hq
    rw [h2] at h1
    exact h1.symm
/-- both parts together are the set -/
theorem both_parts {l : List Ky} {p : List At} (hs : riseA p = true) (ht : ∀ a ∈ p, thereA l a = true) : (partS l true p).foldl withP (partS l false p) = p := by
  have hp := riseA_srt.1 hs
  have h1 := foldl_with (partS l true p) (s := partS l false p) (riseA_srt.2 (hp.filter At.key _))
  refine lk_ext At.key (riseA_srt.1 h1.1) hp fun k => ?_
  rw [h1.2.1, lk_reverse (l := partS l true p) (hp.filter At.key _), lk_partS hp, lk_partS hp]
  cases hq : lk At.key p k with
  | none => by_cases h1 : keepK l true k = true <;> by_cases h2 : keepK l false k = true <;> simp [h1, h2]
  | some c =>
    have hk : c.key = k := lk_key At.key hq
    have h3 := keep_one' (fits_some (ht c (lk_mem At.key hq)))
    rw [hk] at h3
    cases h4 : keepK l false k <;> rw [h4] at h3 <;> simp [h3]
theorem partS_may {l : List Ky} {p : List At} {b : Bool} (h : mayS l p = 0) : mayS l (partS l b p) = 0 := by
  obtain ⟨h0, h1, h2, h3⟩ := mayS_zero h
  have hs := (riseA_srt.1 h1).filter At.key (fun c => keepK l b c.key)
  have hl : (partS l b p).length ≤ p.length := List.length_filter_le _ _
  unfold mayS
  rw [if_neg (by omega), if_pos ⟨riseA_srt.2 hs, List.all_eq_true.2 fun a ha => h2 a (List.mem_filter.1 ha).1⟩, if_pos (show (partS l b p).all (thereA l) = true from List.all_eq_true.2 fun a ha => h3 a (List.mem_filter.1 ha).1)]
theorem without_may {l : List Ky} {p : List At} {c : Int} (h : mayS l p = 0) : mayS l (withoutP p c) = 0 := by
  obtain ⟨h0, h1, h2, h3⟩ := mayS_zero h
  have hs := (without_all h1 c).1
  have hl : (withoutP p c).length ≤ p.length := List.length_filter_le _ _
  unfold mayS
  rw [if_neg (by omega), if_pos ⟨hs, List.all_eq_true.2 fun a ha => h2 a (List.mem_filter.1 ha).1⟩, if_pos (show (withoutP p c).all (thereA l) = true from List.all_eq_true.2 fun a ha => h3 a (List.mem_filter.1 ha).1)]
theorem mem_with {p : List At} (h : riseA p = true) {a x : At} (hx : x ∈ withP p a) : x = a ∨ x ∈ p := by
  obtain ⟨h1, h2, _⟩ := with_all h a
  have h3 := lk_of_mem At.key (riseA_srt.1 h1) hx
  rw [h2] at h3
  by_cases e : a.key = x.key
  · rw [if_pos e] at h3
    exact .inl (Option.some.inj h3).symm
  · rw [if_neg e] at h3
    exact .inr (lk_mem At.key h3)
theorem in_with {p : List At} (h : riseA p = true) (a : At) : a ∈ withP p a := by
  obtain ⟨h1, h2, _⟩ := with_all h a
  have h3 := h2 a.key
  rw [if_pos rfl] at h3
  exact lk_mem At.key h3
/-- with an attribute it may be just if the attribute fits -/
theorem with_may {l : List Ky} {p : List At} {a : At} (hl : l.length ≤ 64) (h : mayS l p = 0) : (mayS l (withP p a) = 0) ↔ fitsK l a.key a.v = true := by
  obtain ⟨h0, h1, h2, h3⟩ := mayS_zero h
  constructor
  · intro hw
    obtain ⟨_, _, _, w3⟩ := mayS_zero hw
    exact w3 a (in_with h1 a)
  · intro hf
    refine stayA hl (riseA_srt.1 (with_all h1 a).1) fun c hc => ?_
    rcases mem_with h1 hc with rfl | hm
    · refine ⟨?_, hf⟩
      unfold fitsK at hf
      cases hq : findK l c.key with
      | none => rw [hq] at hf; cases hf
      | some k => rw [hq] at hf; exact (Bool.and_eq_true_iff.1 hf).2
    · exact ⟨h2 c hm, h3 c hm⟩
end Go.Proofs.YtnhmbocgopjbjaaDoor
/- The walks of attrs.Part and of the document's Part of a set. -/
namespace Go.Proofs.YtnhmbocgopjbjaaDoor
open Go.RowKit
set_option linter.unusedVariables false
set_option linter.unusedSimpArgs false

set_option maxHeartbeats 1600000 in
theorem partClA_any (s b1 b2 : Nat) (l : List Ky) (b : Bool) (x1 x2 x3 x4 : Int) (x5 : ByteArray) (w : World) (hS : Sch w s l)
    (h1 : w.heap[b1]? = some (.cells #[.pointer (some ⟨s, 0, none⟩)] 26 (0, 0))) (h2 : w.heap[b2]? = some (.cells #[.bool b] 4 (0, 0))) :
    Calls Tryd.prog 60 #[.agg #[.int .i64 x1, .int .u8 x2, .int .i64 x3, .int .u64 x4, .string x5], .pointer (some ⟨b1, 0, none⟩), .pointer (some ⟨b2, 0, none⟩)] w fun e w' => e = .returned (.bool (!keepK l b x1)) ∧ Below w.heap.size w w' := by
  have y0 := ext_alloc w (.cells #[.int .i64 x1, .int .u8 x2, .int .i64 x3, .int .u64 x4, .string x5] 45)
  have c1 := box_1 ((y0.block b1 (lt_of_some h1)).trans h1)
  have g2 := (y0.block b2 (lt_of_some h2)).trans h2
  have HS := Lib.hid (hS.ext y0)
  have G2 := Lib.hid g2
  clear g2 hS
  go_enter Tryd.func60, Tryd.ntmps60
  go_wp2_with (go_at_call 54; refine Hid.out ?_)
  refine Lib.hid ?_
  generalize hw0 : w.alloc _ = w0 at *
  clear hw0
  refine (findS_any s l x1 w0 HS.out).mono ?_
  rintro e w1 ⟨i, c, kd, d, g, q, ok, rfl, hk, hb, y1⟩
  have y2 := ext_alloc w1 (.cells #[.int .i64 i, .bool c, .int .u8 kd, .bool d, .bool g, .int .i64 q] 76)
  have g3 := (y1.block b2 (lt_of_some G2.out)).trans G2.out
  have c2 := box_1 ((y2.block b2 (lt_of_some g3)).trans g3)
  have yy := ext_trans y0 (ext_trans y1 y2)
  have HB := Lib.hid hb
  have HK := Lib.hid hk
  clear g3 hk hb
  cases ok with
  | false =>
    have HE : Hid (keepK l b x1 = false) := Lib.hid (by
      have h := HB.out
      unfold keepK
      cases hq : findK l x1 with
      | none => rfl
      | some k => rw [hq] at h; cases h)
    go_wp2_with (fail)
    go_ret
    exact ⟨ret_bool (by rw [HE.out]; rfl), yy⟩
  | true =>
    have HE : Hid (keepK l b x1 = (c == b)) := Lib.hid (by
      have h := HB.out
      have h2 := HK.out
      unfold keepK
      cases hq : findK l x1 with
      | none => rw [hq] at h; cases h
      | some k => rw [hq] at h2; simp at h2; subst h2; rfl)
    go_wp2_with (fail)
    go_ret
    exact ⟨ret_bool (by rw [HE.out] <;> (cases c <;> cases b <;> rfl)), yy⟩

set_option maxRecDepth 100000 in
set_option maxHeartbeats 1600000 in
theorem partA_any (s : Nat) (l : List Ky) (b : Bool) (A : Option Addr) (n c : Nat) (p : List At) (w : World) (hn : n = p.length) (h : RdAt w w.heap.size A p) (hb : n ≤ 100000000) (hS : Sch w s l) :
    Calls Tryd.prog 24 #[.pointer (some ⟨s, 0, none⟩), .slice A n c, .bool b] w (NewAt (partS l b p) w) := by
  have N := Lib.hid hn
  have ya := ext_alloc w (.cells #[.pointer (some ⟨s, 0, none⟩)] 26)
  have yb := ext_alloc (w.alloc (.cells #[.pointer (some ⟨s, 0, none⟩)] 26)) (.cells #[.bool b] 4)
  have g1 := heap_alloc_new w (.cells #[.pointer (some ⟨s, 0, none⟩)] 26)
  have g2 := heap_alloc_new (w.alloc (.cells #[.pointer (some ⟨s, 0, none⟩)] 26)) (.cells #[.bool b] 4)
  have G1 := Lib.hid ((yb.block w.heap.size (by simp)).trans g1)
  rw [World.size_alloc] at g2
  have G2 := Lib.hid g2
  have y := ext_trans ya yb
  have hh := h.ext y
  have HS := Lib.hid (hS.ext y)
  clear hn g1 g2 ya yb h hS
  go_enter Tryd.func24, Tryd.ntmps24
  go_wp2_with (go_at_call 56; refine Hid.out ?_)
  refine Lib.hid ?_
  refine (cloneAt_any A n c p _ N.out hh hb).mono ?_
  rintro e w1 ⟨A', c', rfl, hown, y1⟩
  have HOW := Lib.hid hown
  have hsz2 : ((w.alloc (.cells #[.pointer (some ⟨s, 0, none⟩)] 26)).alloc (.cells #[.bool b] 4)).heap.size = w.heap.size + 2 := by simp
  have G1' := Lib.hid ((y1.block w.heap.size (by rw [hsz2]; omega)).trans G1.out)
  have G2' := Lib.hid ((y1.block (w.heap.size + 1) (by rw [hsz2]; omega)).trans G2.out)
  have hb1 : w.heap.size + 2 ≤ w1.heap.size := by have := y1.size; omega
  have HSZ := Lib.hid hsz2
  clear hown hsz2
  go_wp2_with (go_at_call 58; refine Hid.out ?_)
  refine Lib.hid ?_
  refine (deletePartA_any w.heap.size (w.heap.size + 1) (fun c => !keepK l b c.key) A' p.length c' _ p w1 HOW.out (by rw [HSZ.out]; exact hb1) (by have := N.out; omega) rfl ?cl).mono ?_
  case cl =>
    intro x1 x2 x3 x4 x5 w' hb'
    refine partClA_any s _ _ l b x1 x2 x3 x4 x5 w' (HS.out.ext (y1.trans hb')) ?_ ?_
    · exact (hb'.block _ (by rw [HSZ.out]; omega)).trans G1'.out
    · exact (hb'.block _ (by rw [HSZ.out]; omega)).trans G2'.out
  rintro e w2 ⟨A2, c2, rfl, hown2, y2⟩
  have yy : Below w.heap.size w w2 := ext_trans y (y1.trans y2)
  have hf : p.filter (fun x => !!keepK l b x.key) = partS l b p := by simp [partS]
  rw [hf] at hown2 ⊢
  have HO2 := Lib.hid (hown2.base_le (B := w.heap.size) (by rw [HSZ.out]; omega))
  clear hown2 hf
  go_wp2_with (fail)
  go_ret
  exact ⟨A2, c2, rfl, HO2.out, yy⟩
end Go.Proofs.YtnhmbocgopjbjaaDoor
/- The walk of the bound of the statements of layer 5: it changes nothing; false bounds the list. -/
namespace Go.Proofs.YtnhmbocgopjbjaaDoor
open Go.RowKit
set_option linter.unusedVariables false
set_option linter.unusedSimpArgs false

set_option maxRecDepth 100000 in
set_option maxHeartbeats 800000 in
theorem great05_any (A : Option Addr) (n c : Nat) (l : List At) (w : World) (hn : n = l.length) (h : RdAt w w.heap.size A l) (hb : n ≤ 9223372036854775807) :
    Calls Tryd.prog 18 #[.slice A n c] w fun e w' => ∃ b : Bool, e = .returned (.bool b) ∧ (b = false → n ≤ 100) ∧ w = w' := by
  have N := Lib.hid hn
  clear hn
  go_enter Tryd.func18, Tryd.ntmps18
  go_wp2_with (fail)
  go_loopg [6] n (fun g iv wr => ∃ (i : Nat), i ≤ n ∧ g = n - i ∧ iv = .int .i64 i ∧ w = wr)
  case atStart => exact ⟨0, by omega, rfl, rfl, rfl⟩
  case round =>
    obtain ⟨i, hi, hg, rfl, rfl⟩ := hrel
    have HG := Lib.hid hg
    clear hg
    by_cases hlt : i < n
    · obtain ⟨ad, a, rfl, _, _, _, hc1⟩ := h.el (i := i) (by have := N.out; omega)
      obtain ⟨x1, x2, x3, x4, x5⟩ := a
      obtain ⟨r0, r1, r2, r3, r4⟩ := at_cells hc1
      have HC := Lib.hid hc1
      clear hc1
      by_cases hs : (200 : Int) < x5.size
      · go_wp2_with (fail)
        go_ret
        exact ⟨true, rfl, fun h => (by cases h), rfl⟩
      · go_wp2_with (fail)
        go_roundg (n - (i + 1))
        case measure => have := HG.out; omega
        case rel => exact ⟨i + 1, by omega, rfl, by go_num, rfl⟩
    · go_wp2_with (fail)
      go_ret
      exact ⟨_, rfl, fun h => (by simp at h; omega), rfl⟩
end Go.Proofs.YtnhmbocgopjbjaaDoor
/- The walk of the known case of layer 5: it answers true. -/
namespace Go.Proofs.YtnhmbocgopjbjaaDoor
open Go.RowKit
set_option linter.unusedVariables false
set_option linter.unusedSimpArgs false

def v1 : V := ⟨2, 1, 0, ⟨#[]⟩⟩
def kI : List At := [⟨1, v1⟩, ⟨5, v1⟩]
def kL : List At := [⟨1, v1⟩, ⟨3, v1⟩, ⟨5, v1⟩]
theorem kL1 : withP kI ⟨3, v1⟩ = kL := by decide +kernel
theorem kL2 : riseA kI = true := by decide +kernel
theorem kL3 : riseA kL = true := by decide +kernel
theorem kL4 : getA kL 3 = some v1 := by decide +kernel
theorem kL5 : decide (withoutP kL 1 = kL.drop 1) = true := by decide +kernel

theorem up_any {a b c : World} (h : Below a.heap.size a b) (h' : Below b.heap.size b c) : Below a.heap.size a c := ext_trans h h'
theorem cell_keep {w w' : World} {b j : Nat} (h : w'.heap[b]? = w.heap[b]?) : w'.cell? ⟨b, j, none⟩ = w.cell? ⟨b, j, none⟩ := by simp [World.cell?, h]

set_option maxRecDepth 100000 in
set_option maxHeartbeats 1000000 in
theorem known05_any (w : World) : Calls Tryd.prog 19 #[] w fun e w' => e = .returned (.bool true) ∧ Below w.heap.size w w' := by
  go_enter Tryd.func19, Tryd.ntmps19
  go_wp2_with (go_at_call 22; refine Hid.out ?_)
  refine Lib.hid ?_
  have hb0 := heap_alloc_new w (.cells #[.int .u8 2, .int .i64 1, .int .u64 0, .string ⟨#[]⟩] 43)
  have hx0 := ext_alloc w (.cells #[.int .u8 2, .int .i64 1, .int .u64 0, .string ⟨#[]⟩] 43)
  have hz0 := size_alloc' w (.cells #[.int .u8 2, .int .i64 1, .int .u64 0, .string ⟨#[]⟩] 43)
  generalize World.alloc w _ = w0 at *
  generalize hW : World.alloc _ _ = w1
  have y : Below w0.heap.size w0 w1 := by rw [← hW]; exact ext_alloc _ _
  have hx := ext_trans hx0 y
  have hb := (y.block w.heap.size (by omega)).trans hb0
  have hs := blk_lt hb
  have ri : RdAt w1 w1.heap.size (some ⟨w.heap.size + 1, 0, none⟩) kI := by
    rw [← hW]
    exact Rd.new At.enc_len _ _ kI rfl hz0
  clear hb0 hx0 hz0 y
  clear hW
  refine (with_any _ 2 2 kI 3 2 1 0 ⟨#[]⟩ w1 rfl ri (by omega)).mono ?_
  rintro e w2 ⟨r, hr, hrl, A2, c2, rfl, ho, y⟩
  have e : r = kL := (hr kL2).trans kL1
  clear hr hrl ri
  subst e
  have e3 : kL.length = 3 := rfl
  rw [e3] at ho ⊢
  have hcap := ho.cap
  rw [e3] at hcap
  have r2 := ho.rd At.enc_len
  clear ho e3
  replace hx := ext_trans hx y
  replace hb := (y.block _ hs).trans hb
  replace hs := Nat.lt_of_lt_of_le hs y.size
  clear y
  go_wp2_with (go_at_call 31; refine Hid.out ?_)
  refine Lib.hid ?_
  refine (get_any A2 3 c2 kL 3 w2 rfl r2 (by omega)).mono ?_
  rintro e w3 ⟨v, b, rfl, ⟨-, -, hg⟩, y⟩
  replace hg := hg kL3
  rw [kL4] at hg
  cases b with
  | false => cases hg
  | true =>
  injection hg with hg
  obtain ⟨vk, vn, vf, vs⟩ := v
  have hg' : (⟨2, 1, 0, ⟨#[]⟩⟩ : V) = ⟨vk, vn, vf, vs⟩ := hg
  injection hg' with g1 g2 g3 g4
  subst g1 g2 g3 g4
  clear hg
  replace hx := ext_trans hx y
  replace hb := (y.block _ hs).trans hb
  replace hs := Nat.lt_of_lt_of_le hs y.size
  replace r2 := r2.ext y
  clear y
  go_wp2_with (fail)
  have q0 := heap_alloc_new w3 (.cells #[.int .u8 2, .int .i64 1, .int .u64 0, .string ⟨#[]⟩] 43)
  have y := ext_alloc w3 (.cells #[.int .u8 2, .int .i64 1, .int .u64 0, .string ⟨#[]⟩] 43)
  have hs3 := size_alloc' w3 (.cells #[.int .u8 2, .int .i64 1, .int .u64 0, .string ⟨#[]⟩] 43)
  generalize World.alloc w3 _ = w4 at *
  replace hx := ext_trans hx y
  replace hb := (y.block _ hs).trans hb
  replace hs := Nat.lt_of_lt_of_le hs y.size
  replace r2 := r2.ext y
  have hs4 : w3.heap.size < w4.heap.size := by omega
  clear y hs3
  obtain ⟨ad, a, rfl, had, _, hl1, hc1⟩ := r2.el (i := 1) (by decide)
  have e : a = ⟨3, v1⟩ := by injection hl1 with h; exact h.symm
  subst e
  obtain ⟨k0', -⟩ := at_cells hc1
  have k0 : w4.cell? ⟨ad.block, ad.off + 5, none⟩ = some (.int .i64 3) := k0'
  clear k0'
  obtain ⟨p0, p1, p2, p3⟩ := box_v hb
  obtain ⟨o0, o1, o2, o3⟩ := box_v q0
  have HB := Lib.hid hb
  have HQ := Lib.hid q0
  clear hb q0 hl1 hc1
  have hm := hcap.2
  unfold maxLen at hm
  have h3 := hcap.1
  have e2 : (withoutP kL 1).length = 2 := by decide +kernel
  have E2 := Lib.hid e2
  have r5 : RdAt w4 w4.heap.size (some ⟨ad.block, ad.off + 5, none⟩) (kL.drop 1) := by
    have t := r2.cut (k := 1) (cap := c2) (by decide) hcap.1
    rw [if_neg (by omega)] at t
    exact t
  clear e2 hcap
  go_region_held3 (fun w' => w'.cell? ⟨ad.block, ad.off + 5, none⟩ = some (.int .i64 3) ∧ w'.cell? ⟨w.heap.size, 0, none⟩ = some (.int .u8 2) ∧ w'.cell? ⟨w.heap.size, 1, none⟩ = some (.int .i64 1) ∧ w'.cell? ⟨w.heap.size, 2, none⟩ = some (.int .u64 0) ∧ w'.cell? ⟨w.heap.size, 3, none⟩ = some (.string ⟨#[]⟩) ∧ w'.cell? ⟨w3.heap.size, 0, none⟩ = some (.int .u8 2) ∧ w'.cell? ⟨w3.heap.size, 1, none⟩ = some (.int .i64 1) ∧ w'.cell? ⟨w3.heap.size, 2, none⟩ = some (.int .u64 0) ∧ w'.cell? ⟨w3.heap.size, 3, none⟩ = some (.string ⟨#[]⟩))
    (go_keep) (first
      | (go_at_call 23
         refine (without_any (some ad) 3 c2 kL 1 w4.drew rfl (r2.ext (up_drew (Below.refl _ _))) (by omega)).mono ?_
         rintro e w5 ⟨A5, c5, rfl, ho5, y5⟩
         rw [E2.out] at ho5 ⊢
         have k5 : w5.cell? ⟨ad.block, ad.off + 5, none⟩ = some (.int .i64 3) := (cell_keep (y5.block _ had)).trans k0
         obtain ⟨u0, u1, u2, u3⟩ := box_v ((y5.block _ hs).trans HB.out)
         obtain ⟨t0, t1, t2, t3⟩ := box_v ((y5.block _ hs4).trans HQ.out))
      | (go_at_call 27
         refine (attrsSame_any _ _ 2 2 _ _ (withoutP kL 1) (kL.drop 1) w5 E2.out.symm rfl (ho5.rd At.enc_len) (r5.ext (up_any (up_drew (Below.refl _ _)) y5)) (by omega) (by omega)).mono ?_
         rintro e w6 ⟨rfl, d, rfl⟩
         rw [kL5]))
  go_wp2_with (fail)
  go_ret
  exact ⟨rfl, (ext_trans hx (up_any (up_drew (Below.refl _ _)) y5)).trans (below_drewN (Below.refl _ _) _)⟩
end Go.Proofs.YtnhmbocgopjbjaaDoor
/- What closes each statement of a seat whose rows list the tables of utf8: arguments opened, the post, the tables out of the row, the witness's world. -/
namespace Go.Proofs.YtnhmbocgopjbjaaDoor
open Go.ChangeShapes Go.WideShapes Go.ChangeAt Go.RowKit Go.Deep
set_option linter.unusedVariables false
set_option linter.constructorNameAsVariable false
set_option maxRecDepth 20000

theorem Tryd.own : ownKnob Tryd.prog.godebug = none := by kernel_rfl
theorem Tryd.laidOut : laidOutB Tryd.prog = true := by kernel_rfl
theorem Tryd.undBool : Tryd.prog.underlying 4 = some .bool := by kernel_rfl
theorem Tryd.uI32 : Tryd.prog.underlying 21 = some (.int .i32) := by kernel_rfl
theorem Tryd.clU8 : Tryd.prog.cellsOf 5 = 1 := by kernel_rfl
theorem Tryd.clI32 : Tryd.prog.cellsOf 21 = 1 := by kernel_rfl
theorem Tryd.uTab : Tryd.prog.underlying 158 = some (.array 256 5) := by kernel_rfl
theorem Tryd.clTab : Tryd.prog.cellsOf 158 = 256 := by kernel_rfl
theorem Tryd.uAcc : Tryd.prog.underlying 161 = some (.array 16 160) := by kernel_rfl
theorem Tryd.uAccR : Tryd.prog.underlying 160 = some (.struct (Tryd.prog.fieldsOf 160)) := by kernel_rfl
theorem Tryd.clAccR : Tryd.prog.cellsOf 160 = 2 := by kernel_rfl
theorem Tryd.fdAccR : (Tryd.prog.fieldsOf 160).toList.map (fun f => (f.type, f.offset)) = [(5, 0), (5, 1)] := by kernel_rfl
theorem Tryd.gFirst : Tryd.prog.globalNamed "unicode/utf8.first" = some 1 := by kernel_rfl
theorem Tryd.gAcc : Tryd.prog.globalNamed "unicode/utf8.acceptRanges" = some 2 := by kernel_rfl
theorem Tryd.gtFirst : (Tryd.prog.globals[1]?).map (·.type) = some 158 := by kernel_rfl
theorem Tryd.gtAcc : (Tryd.prog.globals[2]?).map (·.type) = some 161 := by kernel_rfl

/-- the list that the rows bear -/
def laidRows : List (String × DataW Unit) := [("unicode/utf8.acceptRanges", Rows.laid_unicode_utf8_acceptRanges), ("unicode/utf8.first", Rows.laid_unicode_utf8_first)]
set_option maxRecDepth 100000 in
theorem firstEq : Rows.laid_unicode_utf8_first = Lib.firstData := by kernel_rfl
theorem accEq : (Rows.laid_unicode_utf8_acceptRanges : DataW Unit) = Lib.acceptData := by kernel_rfl
theorem field2 {fs : Array Field} {l : List (TypeId × Nat)} (h : fs.toList.map (fun f => (f.type, f.offset)) = l) {i : Nat} {f : Field} (hf : fs[i]? = some f) : l[i]? = some (f.type, f.offset) := by
  rw [← h, List.getElem?_map, Array.getElem?_toList, hf]
  rfl
theorem tabs {W : World} (h : laidMetH Tryd.prog laidRows W) : Lib.Utf8Tabs 1 2 W := by
  have h' : laidMet Tryd.prog laidRows W := by
    unfold laidMetH at h
    rw [show (laidRows.filter fun x => x.2.handleName?.isSome) = [] from by kernel_rfl] at h
    exact h
  have r1 := Lib.laidMet.reads h' (n := "unicode/utf8.first") (d := Rows.laid_unicode_utf8_first) (by simp [laidRows])
  have r2 := Lib.laidMet.reads h' (n := "unicode/utf8.acceptRanges") (d := Rows.laid_unicode_utf8_acceptRanges) (by simp [laidRows])
  rw [firstEq] at r1
  rw [accEq] at r2
  refine ⟨fun c hc => ?_, fun i hi => ?_⟩
  · obtain ⟨g, t, cs, fuel, p, hg, hty, hvar, hd⟩ := r1
    obtain rfl := Option.some.inj (Tryd.gFirst.symm.trans hg)
    obtain rfl := Option.some.inj (Tryd.gtFirst.symm.trans hty)
    have hcs := Lib.cells_of_tab Tryd.uTab Tryd.uU8 Tryd.clU8 Tryd.clTab hd
    rw [World.var?_cell hg hvar c, ← Array.getElem?_toList, hcs]
    simp [Lib.firstTab, hc]
  · obtain ⟨g, t, cs, fuel, p, hg, hty, hvar, hd⟩ := r2
    obtain rfl := Option.some.inj (Tryd.gAcc.symm.trans hg)
    obtain rfl := Option.some.inj (Tryd.gtAcc.symm.trans hty)
    obtain ⟨fuel', d, q, hdi, he⟩ := Lib.array_elem Tryd.uAcc hd i hi
    simp only [List.getElem?_map, List.getElem?_range hi, Option.map_some, Option.some.injEq] at hdi
    subst hdi
    rw [Tryd.clAccR] at he
    have hcs := Lib.ints_of_struct Tryd.uAccR (fun j f hj => by
      have h2 := field2 Tryd.fdAccR hj
      match j, h2 with
      | 0, h2 => injection h2 with h2; injection h2 with h2 h3; rw [← h2, ← h3]; exact ⟨Tryd.uU8, rfl, Tryd.clU8⟩
      | 1, h2 => injection h2 with h2; injection h2 with h2 h3; rw [← h2, ← h3]; exact ⟨Tryd.uU8, rfl, Tryd.clU8⟩
      | j + 2, h2 => simp at h2) (by rw [Tryd.clAccR]; kernel_rfl) he
    have e0 := congrArg (·[0]?) hcs
    have e1 := congrArg (·[1]?) hcs
    simp only [List.getElem?_take, List.getElem?_drop] at e0 e1
    constructor
    · rw [World.var?_cell hg hvar (2 * i), ← Array.getElem?_toList]
      simpa [Nat.mul_comm] using e0
    · rw [World.var?_cell hg hvar (2 * i + 1), ← Array.getElem?_toList]
      simpa [Nat.mul_comm] using e1

def relay (cs : Array Value) : Obj → Obj
  | .cells _ t frozen => .cells cs t frozen
  | o => o
/-- A world for the witness: the settled one, both tables as their initialisers lay them. -/
noncomputable def laidWorld (os : Os) : World :=
  { World.holding Tryd.prog os ⟨#[], #[], []⟩ with heap := ((World.holding Tryd.prog os ⟨#[], #[], []⟩).heap.modify 1 (relay (Lib.firstTab.map (Value.int .u8)).toArray)).modify 2 (relay ((List.range 16).flatMap fun i => [Value.int .u8 (Lib.accLo i), Value.int .u8 (Lib.accHi i)]).toArray) }

section
variable {H : Type} {enc : TypeId × Value → H} {P : Program} {W W' : World}
theorem trodAll_later (hl : laidOutB P = true) (hb : Below W.heap.size W W') : ∀ (ts : List TypeId) (vs : List Value) (ds : List (DataW H)) (ps : List MemPlace), (∀ t ∈ ts, P.readableRec t = true ∧ t < P.types.size) →
    DataW.TrodAll enc P W 0 (fun _ => true) true ts vs ds ps → (∀ x ∈ ps, x.block < W.heap.size) → DataW.TrodAll enc P W' 0 (fun b => decide (b < W.heap.size)) true ts vs ds ps
  | [], vs, ds, ps, _, h, _ => by
    obtain ⟨rfl, rfl, rfl⟩ := trodAll_nil h
    exact trodAll_mk0
  | t :: ts, vs, ds, ps, ht, h, hp => by
    obtain ⟨v, vs', d, ds', p, q, rfl, rfl, rfl, h0, r⟩ := trodAll_cons h
    have h1 := ht t (by simp)
    exact trodAll_cons_mk (Below.trod hl h1.1 h1.2 h0 hb (fun x hx => hp x (List.mem_append_left _ hx)))
      (trodAll_later hl hb ts vs' ds' q (fun u hu => ht u (List.mem_cons_of_mem _ hu)) r (fun x hx => hp x (List.mem_append_right _ hx)))

theorem post_law {f : Func} {s : ChangeSpec} {args : Array Value} {ds gs : List (DataW H)} {before : List MemPlace} {tb : TypeId}
    (hW : DataW.Whole enc P f.params.toList s.vars false W args.toList ds gs before) (hv : s.vars = []) (hr : f.resultTypes = #[tb]) (hu : P.underlying tb = some .bool)
    (hspec : s.fn H ds = { results := [.lit (.bool true)], args := ds }) (hl : laidOutB P = true) (hrr : f.params.toList.all (fun t => P.readableRec t && decide (t < P.types.size)) = true) (hb : Below W.heap.size W W') :
    s.post enc P f false true false false W args (.bool true) W' := by
  have hW0 := hW
  obtain ⟨p, q, hA, hV, rfl, _, _⟩ := hW
  rw [hv] at hV
  obtain ⟨rfl, rfl⟩ := trodVars_none hV
  have hlt : ∀ x ∈ p ++ [], x.block < W.heap.size := fun x hx => hW0.lt x hx
  rw [List.append_nil] at hlt
  refine ⟨ds, [], p ++ [], [], p, [], hW0, ?_, ?_, ?_, World.keptBut_mono (fun x hx => ⟨by simpa using hx, by simpa using hx⟩) (hb.frame (· ∈ p)), fun h => by cases h⟩
  · rw [hr, List.append_nil, hspec]
    exact trodAll_mk1 (shut_bool hu true)
  · rw [List.append_nil, hspec]
    exact trodAll_later hl hb _ _ _ _ (fun t ht => by have := List.all_eq_true.1 hrr t ht; simpa using this) hA hlt
  · rw [hv, List.append_nil, hspec]
    rfl
end

/-- a slice as a list, whatever the reader of one element -/
theorem open_list {α : Type} {enc' : α → List Value} {size : Nat} {H : Type} {enc : TypeId × Value → H} {W : World} {base : Nat} {spare : Nat → Bool} {held : Bool} {t e : TypeId} {v : Value} {d : DataW H} {ps : List MemPlace} {r : Reach} {b0 : Nat}
    (ht : Tryd.prog.underlying t = some (.slice e)) (hC : Tryd.prog.cellsOf e = size) (hz : ∀ a, (enc' a).length = size) (hpos : 0 < size)
    (hread : ∀ {fuel : Nat} {cs : List Value} {x : DataW H × List MemPlace}, DataW.trod enc Tryd.prog W base spare held fuel e cs = some x → ∃ a : α, cs = enc' a)
    (hv : Value.okWide Tryd.prog W r b0 t v) (h : DataW.Trod enc Tryd.prog W base spare held t v d ps) :
    ∃ (A : Option Addr) (n c : Nat) (l : List α), v = .slice A n c ∧ n = l.length ∧ n ≤ c ∧ c ≤ maxLen ∧ Rd enc' size W W.heap.size A l ∧ ((d = .nil ∧ n = 0) ∨ ∃ es sp, d = .slice es sp ∧ es.length = n) := by
  obtain ⟨a0, len, cap, rfl⟩ := okWide_slice ht hv
  obtain ⟨fuel, hf⟩ := h
  rcases open_slice ht hf with ⟨hcs, hx⟩ | ⟨a, len', cap', m, k, D, Pl, hcs, _, hl, hm, hmm, hx, hi⟩
  · simp [Value.cells] at hcs
    obtain ⟨rfl, rfl, rfl⟩ := hcs
    refine ⟨none, 0, 0, [], rfl, rfl, Nat.le_refl _, Nat.zero_le _, Rd.nil, .inl ⟨?_, rfl⟩⟩
    have := congrArg Prod.fst hx
    simpa using this
  · simp [Value.cells] at hcs
    obtain ⟨rfl, rfl, rfl⟩ := hcs
    have hlm : len ≤ m := by rw [hmm]; split <;> omega
    have hall : ∀ i, i < len → ∃ y : α, CellsAt W (a.add (i * size)) (enc' y) := by
      intro i hil
      obtain ⟨cs', hc, htr⟩ := hi i (by omega)
      obtain ⟨y, rfl⟩ := hread htr
      refine ⟨y, fun j u hu => ?_⟩
      rw [hC] at hc
      obtain ⟨_, hcl, hat⟩ := World.cells?_some hc
      have hj : j < size := by rw [← hz y]; exact (List.getElem?_eq_some_iff.1 hu).1
      rw [hat j hj]; exact hu
    have hl : ∀ k, k ≤ len → ∃ l : List α, l.length = k ∧ ∀ i (h : i < l.length), CellsAt W (a.add (i * size)) (enc' l[i]) := by
      intro k
      induction k with
      | zero => intro _; exact ⟨[], rfl, fun i h => by simp at h⟩
      | succ k ih =>
        intro hk
        obtain ⟨l, hll, hlc⟩ := ih (by omega)
        obtain ⟨y, hy⟩ := hall k (by omega)
        refine ⟨l ++ [y], by simp [hll], fun i h => ?_⟩
        rw [List.getElem_append]
        split
        · exact hlc i _
        · have hik : i = k := by simp at h; omega
          subst hik
          simpa [hll] using hy
    obtain ⟨l, hll, hlc⟩ := hl len (Nat.le_refl _)
    refine ⟨some a, len, cap, l, rfl, hll.symm, by assumption, by assumption, fun hpl => ⟨a, rfl, ?_, hlc⟩, .inr ⟨_, _, congrArg Prod.fst hx, by simp⟩⟩
    have hc0 := hlc 0 hpl
    have hlen0 : 0 < (enc' l[0]).length := by rw [hz]; exact hpos
    have hcell := hc0 0 _ (List.getElem?_eq_getElem hlen0)
    rw [add_zero', Nat.zero_mul, add_zero'] at hcell
    unfold World.cell? at hcell
    cases hb : W.heap[a.block]? with
    | none => rw [hb] at hcell; simp at hcell
    | some o => exact blk_lt hb

section
variable {H : Type} {enc : TypeId × Value → H} {w : World} {base : Nat} {spare : Nat → Bool} {held : Bool} {fuel : Nat} {cs : List Value} {x : DataW H × List MemPlace}
theorem read_u8 (h : DataW.trod enc Tryd.prog w base spare held fuel 5 cs = some x) : ∃ u : UInt8, cs = encB u := by
  obtain ⟨z, hz, _, hw⟩ := DataW.trod_int Tryd.uU8 h
  have hr : 0 ≤ z ∧ z ≤ 255 := by
    have := hw
    simp [Lit.wf] at this
    have h1 : IntKind.u8.min = 0 := by decide
    have h2 : IntKind.u8.max = 255 := by decide
    rw [h1, h2] at this
    exact this
  refine ⟨UInt8.ofNat z.toNat, ?_⟩
  rw [hz]
  unfold encB
  rw [UInt8.toNat_ofNat']
  congr 2
  omega
theorem read_i32 (h : DataW.trod enc Tryd.prog w base spare held fuel 21 cs = some x) : ∃ u : Int, cs = encI32 u := by
  obtain ⟨z, hz, _, hw⟩ := DataW.trod_int Tryd.uI32 h
  exact ⟨z, hz⟩
end
end Go.Proofs.YtnhmbocgopjbjaaDoor
