/- The walk of attrs.With. -/
import Derived.Test.YtfnkjcodcoehcaaInsert
import Derived.Test.YtfnkjcodcoehcaaApply
import Derived.Test.YtfnkjcodcoehcaaOwnOps
import Derived.Test.YtfnkjcodcoehcaaClone
import Derived.Test.YtfnkjcodcoehcaaFind
import Derived.Deep.RegionHeld3
namespace Go.Proofs.Ytfnkjcodcoehcaa
open Go.RowKit
set_option linter.unusedVariables false
set_option linter.unusedSimpArgs false

theorem insert_any (A : Option Addr) (n c base gv i : Nat) (l : List At) (x1 x2 x3 x4 : Int) (x5 : ByteArray) (w : World) (hown : OwAt w base (.slice A n c) l) (hn : n = l.length) (hb : n ≤ 100000000) (hbase : base ≤ w.heap.size)
    (hv : w.heap[gv]? = some (.cells #[.int .i64 x1, .int .u8 x2, .int .i64 x3, .int .u64 x4, .string x5] 55 (0, 0))) (hi : i ≤ n) (hne : wb (.slice A n c) ≠ some gv) :
    Calls Try.prog 56 #[.slice A n c, .int .i64 (i : Int), .slice (some ⟨gv, 0, none⟩) 1 1] w fun e w' =>
      ∃ A' c', e = .returned (.slice A' (n + 1) c') ∧ OwAt w' base (.slice A' (n + 1) c') (insP l i ⟨x1, ⟨x2, x3, x4, x5⟩⟩) ∧ Below base w w' := by
  rcases Nat.eq_or_lt_of_le hi with rfl | hlt
  · exact insert_end A i c base gv l x1 x2 x3 x4 x5 w hown hn hb hbase hv
  · rcases Nat.lt_or_ge c (n + 1) with h | h
    · exact insert_grow A n c base gv i l x1 x2 x3 x4 x5 w hown hn hb hbase hv hlt h
    · exact insert_room A n c base gv i l x1 x2 x3 x4 x5 w hown hn hb hbase hv hlt h hne

def withP (l : List At) (a : At) : List At := applyP [⟨a.key, false, a.v⟩] l
theorem tw_take (p : At → Bool) (l : List At) (i : Nat) (h1 : ∀ x a, x < i → l[x]? = some a → p a = true) (h2 : ∀ a, l[i]? = some a → p a = false) : l.takeWhile p = l.take i ∧ l.dropWhile p = l.drop i := by
  induction l generalizing i with
  | nil => simp
  | cons a l ih =>
    cases i with
    | zero => have := h2 a rfl; simp [List.takeWhile_cons, List.dropWhile_cons, this]
    | succ i =>
      have ha := h1 0 a (by omega) rfl
      obtain ⟨e1, e2⟩ := ih i (fun x b hx hb => h1 (x + 1) b (by omega) (by rw [List.getElem?_cons_succ]; exact hb)) (fun b hb => h2 b (by rw [List.getElem?_cons_succ]; exact hb))
      simp [List.takeWhile_cons, List.dropWhile_cons, ha, e1, e2]
theorem withP_at {l : List At} {a : At} {i : Nat} {b : Bool} (h : FindOut l a.key i b) (hr : riseA l = true) : withP l a = if b = true then l.set i a else insP l i a := by
  obtain ⟨h1, h2, h3⟩ := h
  obtain ⟨h4, h5⟩ := h3 hr
  obtain ⟨e1, e2⟩ := tw_take (fun x => decide (x.key < a.key)) l i (fun x y hx hy => by simpa using h4 x y hx hy) (fun y hy => by have := h5 i y (Nat.le_refl _) hy; simp; omega)
  have e : withP l a = l.takeWhile (fun x => decide (x.key < a.key)) ++ ([a] ++ drop1 a.key (l.dropWhile (fun x => decide (x.key < a.key)))) := by
    simp [withP, applyP, put1]
  rw [e, e1, e2]
  cases b with
  | true =>
    obtain ⟨y, hy, hk⟩ := h2.1 rfl
    have hi : i < l.length := (List.getElem?_eq_some_iff.1 hy).1
    have hd : l.drop i = y :: l.drop (i + 1) := by
      rw [List.drop_eq_getElem_cons hi]
      have := (List.getElem?_eq_some_iff.1 hy).2
      rw [this]
    rw [if_pos rfl, List.set_eq_take_append_cons_drop, if_pos hi, hd]
    simp [drop1, hk]
  | false =>
    rw [if_neg (by simp)]
    have hd : drop1 a.key (l.drop i) = l.drop i := by
      cases hl : l.drop i with
      | nil => rfl
      | cons y t =>
        have hy : l[i]? = some y := by
          have := congrArg (fun t => t[0]?) hl
          simpa [List.getElem?_drop] using this
        have : ¬ y.key = a.key := fun hk => by have := h2.2 ⟨y, hy, hk⟩; cases this
        simp [drop1, this]
    rw [hd]
    rfl

theorem up_drew {B : Nat} {a b : World} (h : Below B a b) : Below B a b.drew := ⟨h.1, h.2, h.3, h.4, h.5⟩
theorem up_alloc {a b : World} (h : Below a.heap.size a b) (o : Obj) : Below a.heap.size a (b.alloc o) := ext_trans h (ext_alloc b o)
theorem clone_n (A : Option Addr) (n c : Nat) (l : List At) (w0 w : World) (hn : n = l.length) (h : RdAt w0 w0.heap.size A l) (hb : n ≤ 10000000) (hw : Below w0.heap.size w0 w) :
    Calls Try.prog 55 #[.slice A n c] w fun e w' => ∃ A' c', e = .returned (.slice A' n c') ∧ OwAt w' w.heap.size (.slice A' n c') l ∧ Below w0.heap.size w0 w' ∧ Below w.heap.size w w' := by
  subst hn
  refine (cloneAt_any A l.length c l w rfl (h.ext hw) (by omega)).mono ?_
  rintro e w2 ⟨A2, c2, rfl, ho, hb2⟩
  exact ⟨A2, c2, rfl, ho, ext_trans hw hb2, hb2⟩

theorem insert_n (A : Option Addr) (n c base gv i : Nat) (l : List At) (x1 x2 x3 x4 : Int) (x5 : ByteArray) (w0 w1 w : World) (hown : OwAt w base (.slice A n c) l) (hn : n = l.length) (hb : n ≤ 10000000) (hlo : w1.heap.size ≤ base) (hbase : base ≤ w.heap.size)
    (hv : w.heap[gv]? = some (.cells #[.int .i64 x1, .int .u8 x2, .int .i64 x3, .int .u64 x4, .string x5] 55 (0, 0))) (hi : i ≤ n) (hne : wb (.slice A n c) ≠ some gv) (h0 : Below w0.heap.size w0 w1) (h1 : Below w1.heap.size w1 w) :
    Calls Try.prog 56 #[.slice A n c, .int .i64 (i : Int), .slice (some ⟨gv, 0, none⟩) 1 1] w fun e w' =>
      ∃ A' c', e = .returned (.slice A' (n + 1) c') ∧ OwAt w' w0.heap.size (.slice A' (n + 1) c') (insP l i ⟨x1, ⟨x2, x3, x4, x5⟩⟩) ∧ Below w0.heap.size w0 w' ∧ Below w1.heap.size w1 w' := by
  refine (insert_any A n c base gv i l x1 x2 x3 x4 x5 w hown hn (by omega) hbase hv hi hne).mono ?_
  rintro e w3 ⟨A3, c3, rfl, ho3, hb3⟩
  exact ⟨A3, c3, rfl, ho3.base_le (Nat.le_trans h0.size hlo), ext_trans h0 (h1.trans (hb3.mono hlo)), h1.trans (hb3.mono hlo)⟩

/-- what attrs.With answers -/
def WithOut (l : List At) (a : At) (w : World) (e : Ending) (w' : World) : Prop :=
  ∃ r, (riseA l = true → r = withP l a) ∧ r.length ≤ l.length + 1 ∧ NewAt r w e w'

set_option maxRecDepth 100000 in
set_option maxHeartbeats 1000000 in
theorem with_any (A : Option Addr) (n c : Nat) (l : List At) (x1 x2 x3 x4 : Int) (x5 : ByteArray) (w : World) (hn : n = l.length) (h : RdAt w w.heap.size A l) (hb : n ≤ 10000000) :
    Calls Try.prog 34 #[.slice A n c, .agg #[.int .i64 x1, .int .u8 x2, .int .i64 x3, .int .u64 x4, .string x5]] w (WithOut l ⟨x1, ⟨x2, x3, x4, x5⟩⟩ w) := by
  have N := Lib.hid hn
  clear hn
  go_enter Try.func34, Try.ntmps34
  go_wp2_with (go_at_call 54; refine Hid.out ?_)
  refine Lib.hid ?_
  have y := ext_alloc w (.cells #[.int .i64 x1, .int .u8 x2, .int .i64 x3, .int .u64 x4, .string x5] 55)
  have hbx0 := heap_alloc_new w (.cells #[.int .i64 x1, .int .u8 x2, .int .i64 x3, .int .u64 x4, .string x5] 55)
  refine (find_any A n c l x1 _ N.out (h.ext y) (by omega)).mono ?_
  rintro e w1 ⟨i, b, rfl, hf, hb1⟩
  have hbx1 := (hb1.block w.heap.size (blk_lt hbx0)).trans hbx0
  have hbw := ext_trans y hb1
  have r1 := h.ext hbw
  have hlt := blk_lt hbx1
  obtain ⟨b0, b1, b2, b3, b4⟩ := box_at hbx1
  have HBX := Lib.hid hbx1
  clear y hbx0 hb1 hbx1
  have hin : i ≤ n := by rw [N.out]; exact hf.1
  have hw := withP_at (l := l) (a := ⟨x1, ⟨x2, x3, x4, x5⟩⟩) hf
  have HW := Lib.hid hw
  have HF := Lib.hid hf
  clear hw hf
  cases b with
  | true =>
    have hil : i < n := by
      obtain ⟨z, hz, _⟩ := HF.out.2.1.1 rfl
      have := (List.getElem?_eq_some_iff.1 hz).1
      rw [N.out]; exact this
    go_wp2_with (go_at_call 55; refine Hid.out ?_)
    refine Lib.hid ?_
    refine (cloneAt_any A n c l w1 N.out r1 (by omega)).mono ?_
    rintro e w2 ⟨A2, c2, rfl, ho, hb2⟩
    rw [← N.out] at ho ⊢
    have hbx2 := (hb2.block w.heap.size hlt).trans HBX.out
    obtain ⟨g, cur, hA2, -⟩ := ho.row (by rw [← N.out]; omega)
    subst hA2
    obtain ⟨d0, d1, d2, d3, d4⟩ := box_at hbx2
    obtain ⟨i1, hi1, hz1, hz2, hz3⟩ := info_parts Try.infoAt
    have I1 := Lib.hid hi1
    have Z2 := Lib.hid hz2
    have hil' : i < l.length := by have := N.out; omega
    clear hi1 hz1 hz2 hz3 b0 b1 b2 b3 b4 hbx2
    go_wp2_with (refine wpList_set_own rfl 55 (.tmp 20) (.tmp 19) rfl rfl i1 I1.out Z2.out At.enc_len At.enc_one ho hil' ⟨x1, ⟨x2, x3, x4, x5⟩⟩ (cs := #[.int .i64 x1, .int .u8 x2, .int .i64 x3, .int .u64 x4, .string x5]) rfl (p := (⟨g, 0, none⟩ : Addr).add (i * 5)) rfl (by first | rfl | (rw [add_row]; rfl)) rfl ?_; intro w3 ho3 hg3)
    have hbw2 := ext_trans hbw hb2
    have hbw3 : Below w.heap.size w w3 := hbw2.grown hg3 hbw2.size (fun k hk => Nat.le_trans hbw.size (ho.wb_lt k hk).1)
    have e : n = (l.set i ⟨x1, ⟨x2, x3, x4, x5⟩⟩).length := by rw [List.length_set]; exact N.out
    go_ret
    refine ⟨l.set i ⟨x1, ⟨x2, x3, x4, x5⟩⟩, fun hr => (HW.out hr).symm, by rw [List.length_set]; omega, some ⟨g, 0, none⟩, c2, by rw [← e]; rfl, by rw [← e]; exact ho3.base_le hbw.size, hbw3⟩
  | false =>
    have hil' : i ≤ l.length := by have := N.out; omega
    go_wp2_with (fail)
    go_region_held3 (fun w' => w'.cell? ⟨w.heap.size, 0, none⟩ = some (.int .i64 x1) ∧ w'.cell? ⟨w.heap.size, 1, none⟩ = some (.int .u8 x2) ∧ w'.cell? ⟨w.heap.size, 2, none⟩ = some (.int .i64 x3) ∧ w'.cell? ⟨w.heap.size, 3, none⟩ = some (.int .u64 x4) ∧ w'.cell? ⟨w.heap.size, 4, none⟩ = some (.string x5))
      (go_keep) (first
        | (go_at_call 55
           refine (clone_n A n c l w1 w1.drew N.out r1 (by omega) (up_drew (Below.refl _ _))).mono ?_
           rintro e w2 ⟨A2, c2, rfl, ho, hb2, hb3⟩
           obtain ⟨f0, f1, f2, f3, f4⟩ := box_at ((hb2.block w.heap.size hlt).trans HBX.out))
        | (go_at_call 55
           refine (clone_n A n c l w1 _ N.out r1 (by omega) (up_alloc (up_drew (Below.refl _ _)) _)).mono ?_
           rintro e w2 ⟨A2, c2, rfl, ho, hb2, hb3⟩
           obtain ⟨f0, f1, f2, f3, f4⟩ := box_at ((hb2.block w.heap.size hlt).trans HBX.out))
        | (go_at_call 56
           have q := insert_n A2 n c2 w1.drew.heap.size w2.heap.size i l x1 x2 x3 x4 x5 w w1 (w2.alloc (.cells #[.int .i64 x1, .int .u8 x2, .int .i64 x3, .int .u64 x4, .string x5] 55)) (ho.alloc (.cells #[.int .i64 x1, .int .u8 x2, .int .i64 x3, .int .u64 x4, .string x5] 55)) N.out hb (Nat.le_refl _) (by rw [World.size_alloc]; exact Nat.le_succ_of_le hb3.size) (heap_alloc_new w2 (.cells #[.int .i64 x1, .int .u8 x2, .int .i64 x3, .int .u64 x4, .string x5] 55)) hin (fun h => absurd (ho.wb_lt _ h).2 (Nat.lt_irrefl _)) hbw (up_alloc hb2 (.cells #[.int .i64 x1, .int .u8 x2, .int .i64 x3, .int .u64 x4, .string x5] 55))
           refine q.mono ?_
           clear q
           rintro e w3 ⟨A3, c3, rfl, ho3, hbw3, hb3⟩
           obtain ⟨g0, g1, g2, g3, g4⟩ := box_at ((hb3.block w.heap.size hlt).trans HBX.out))
        | (go_at_call 56
           have q := insert_n A2 n c2 (w1.drew.alloc (.cells #[.int .i64 x1, .int .u8 x2, .int .i64 x3, .int .u64 x4, .string x5] 55)).heap.size w1.drew.heap.size i l x1 x2 x3 x4 x5 w w1 w2 ho N.out hb (ext_alloc w1.drew (.cells #[.int .i64 x1, .int .u8 x2, .int .i64 x3, .int .u64 x4, .string x5] 55)).size hb3.size ((hb3.block w1.drew.heap.size (by rw [World.size_alloc]; exact Nat.lt_succ_self _)).trans (heap_alloc_new w1.drew (.cells #[.int .i64 x1, .int .u8 x2, .int .i64 x3, .int .u64 x4, .string x5] 55))) hin (fun h => absurd (ho.wb_lt _ h).1 (by rw [World.size_alloc]; exact Nat.not_succ_le_self _)) hbw hb2
           refine q.mono ?_
           clear q
           rintro e w3 ⟨A3, c3, rfl, ho3, hbw3, hb4⟩
           obtain ⟨g0, g1, g2, g3, g4⟩ := box_at ((hb4.block w.heap.size hlt).trans HBX.out)))
    all_goals go_wp2_with (fail)
    all_goals go_ret
    all_goals exact ⟨insP l i ⟨x1, ⟨x2, x3, x4, x5⟩⟩, fun hr => (HW.out hr).symm, by rw [insP_len _ _ _ hil']; exact Nat.le_refl _, A3, c3, by rw [insP_len _ _ _ hil', ← N.out]; rfl, by rw [insP_len _ _ _ hil', ← N.out]; exact ho3, hbw3⟩
end Go.Proofs.Ytfnkjcodcoehcaa
