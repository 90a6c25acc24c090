/- The walks of attrs.Same, attrs.Copy and attrs.Without. -/
import Derived.Test.YtclfplpggmefjaaWith
import Derived.Test.YtclfplpggmefjaaDelWithout
import Derived.Test.YtclfplpggmefjaaReads
namespace Go.Proofs.Ytclfplpggmefjaa
open Go.RowKit
set_option linter.unusedVariables false
set_option linter.unusedSimpArgs false

set_option maxRecDepth 100000 in
set_option maxHeartbeats 400000 in
theorem equalA_any (A B : Option Addr) (n m c d : Nat) (l k : List At) (w : World) (hn : n = l.length) (hm : m = k.length) (h1 : RdAt w w.heap.size A l) (h2 : RdAt w w.heap.size B k) (hb : n ≤ 140737488355328) (hb2 : m ≤ 140737488355328) :
    Calls Try.prog 38 #[.slice A n c, .slice B m d] w (Quiet (.bool (decide (l = k))) w) := by
  have N := Lib.hid hn
  have M := Lib.hid hm
  generalize hR : decide (l = k) = R
  have HR := Lib.hid hR
  clear hn hR hm
  by_cases hnm : (n : Int) = m
  · have hnm' : n = m := by omega
    subst hnm'
    clear hnm
    go_enter Try.func38, Try.ntmps38
    go_wp2_with (fail)
    go_loopg [13] n (fun g iv wr => ∃ i : Nat, i ≤ n ∧ g = n - i ∧ iv = .int .i64 (i : Int) ∧ (∃ d, wr = w.drewN d) ∧ Hid (decide (l.drop i = k.drop i) = R))
    case atStart => exact ⟨0, by omega, rfl, rfl, ⟨0, rfl⟩, Lib.hid (by rw [List.drop_zero, List.drop_zero]; exact HR.out)⟩
    case round =>
      obtain ⟨i, hi, hg, rfl, ⟨q, rfl⟩, HI⟩ := hrel
      have HG := Lib.hid hg
      clear hg HR
      by_cases hlt : i < n
      · have hl1 : i < l.length := by have := N.out; omega
        have hl2 : i < k.length := by have := M.out; omega
        obtain ⟨ad, x, rfl, _, hd1, _, hc1⟩ := h1.el hl1
        obtain ⟨ad2, y, rfl, _, hd2, _, hc2⟩ := h2.el hl2
        have HI' : Hid (decide (x :: l.drop (i + 1) = y :: k.drop (i + 1)) = R) := Lib.hid (by rw [← HI.out, hd1, hd2])
        clear HI hd1 hd2
        obtain ⟨x1, x2, x3, x4, x5⟩ := x
        obtain ⟨y1, y2, y3, y4, y5⟩ := y
        obtain ⟨r0, r1, r2, r3, r4⟩ := at_cells hc1
        obtain ⟨s0, s1, s2, s3, s4⟩ := at_cells hc2
        by_cases hxy : (⟨x1, ⟨x2, x3, x4, x5⟩⟩ : At) = ⟨y1, ⟨y2, y3, y4, y5⟩⟩
        · have hq := beqAt_eq hxy
          have HXY := Lib.hid hxy
          clear hxy
          go_wp2_with (go_quiet (fail))
          go_roundg (n - (i + 1))
          case measure => have := HG.out; omega
          case rel => exact ⟨i + 1, by omega, rfl, by go_num, ⟨_, rfl⟩, Lib.hid (by rw [← HI'.out]; simp only [List.cons.injEq, HXY.out, true_and])⟩
        · have hq := beqAt_ne hxy
          have HXY := Lib.hid hxy
          clear hxy
          go_wp2_with (go_quiet (fail))
          go_ret
          exact ⟨ret_bool (by rw [← HI'.out]; exact (decide_eq_false fun e => HXY.out (List.cons.inj e).1).symm), _, World.drewN_drewN _ _ _⟩
      · go_wp2_with (fail)
        go_ret
        exact ⟨ret_bool (by rw [← HI.out, List.drop_eq_nil_of_le (by have := N.out; omega), List.drop_eq_nil_of_le (by have := M.out; omega)]; rfl), _, rfl⟩
  · have hne : ((n : Int) == m) = false := beq_eq_false_iff_ne.2 hnm
    go_enter Try.func38, Try.ntmps38
    go_wp2_with (fail)
    go_ret
    refine ⟨ret_bool ?_, 0, rfl⟩
    rw [← HR.out]
    refine (decide_eq_false fun e => ?_).symm
    have h3 := N.out
    have h4 := M.out
    rw [e] at h3
    omega

set_option maxHeartbeats 400000 in
theorem attrsSame_any (A B : Option Addr) (n m c d : Nat) (l k : List At) (w : World) (hn : n = l.length) (hm : m = k.length) (h1 : RdAt w w.heap.size A l) (h2 : RdAt w w.heap.size B k) (hb : n ≤ 140737488355328) (hb2 : m ≤ 140737488355328) :
    Calls Try.prog 24 #[.slice A n c, .slice B m d] w (Quiet (.bool (decide (l = k))) w) := by
  have N := Lib.hid hn
  have M := Lib.hid hm
  clear hn hm
  go_enter Try.func24, Try.ntmps24
  go_wp2_with (go_at_call 38; refine (equalA_any A B n m c d l k _ N.out M.out h1 h2 hb hb2).mono ?_; rintro e w' ⟨rfl, q, rfl⟩)
  go_ret
  exact ⟨rfl, _, rfl⟩

set_option maxHeartbeats 400000 in
theorem copy_any (A : Option Addr) (n c : Nat) (l : List At) (w : World) (hn : n = l.length) (h : RdAt w w.heap.size A l) (hb : n ≤ 100000000) :
    Calls Try.prog 26 #[.slice A n c] w (NewAt l w) := by
  have N := Lib.hid hn
  clear hn
  go_enter Try.func26, Try.ntmps26
  go_wp2_with (go_at_call 36; refine Hid.out ?_)
  refine Lib.hid ?_
  refine (cloneAt_any A n c l w N.out h hb).mono ?_
  rintro e w2 ⟨A2, c2, rfl, ho, hb2⟩
  generalize hq : l.length = q at *
  go_wp2_with (fail)
  go_ret
  exact ⟨A2, c2, by rw [hq]; rfl, by rw [hq]; exact ho, hb2⟩

set_option maxHeartbeats 400000 in
theorem without_cl (b : Nat) (ck k a n f : Int) (s : ByteArray) (w : World) (hc : w.cell? ⟨b, 0, none⟩ = some (.int .i64 ck)) (hbl : b < w.heap.size) :
    Calls Try.prog 40 #[.agg #[.int .i64 k, .int .u8 a, .int .i64 n, .int .u64 f, .string s], .pointer (some ⟨b, 0, none⟩)] w fun e w' => e = .returned (.bool (k == ck)) ∧ Below w.heap.size w w' := by
  have hne : ¬ b = w.heap.size := by omega
  go_enter Try.func40, Try.ntmps40
  go_wp2_with (fail)
  go_ret
  exact ⟨rfl, ext_alloc w _⟩

def withoutP (l : List At) (k : Int) : List At := l.filter (fun x => !(x.key == k))

set_option maxHeartbeats 400000 in
theorem without_any (A : Option Addr) (n c : Nat) (l : List At) (k : Int) (w : World) (hn : n = l.length) (h : RdAt w w.heap.size A l) (hb : n ≤ 100000000) :
    Calls Try.prog 25 #[.slice A n c, .int .i64 k] w (NewAt (withoutP l k) w) := by
  have N := Lib.hid hn
  clear hn
  go_enter Try.func25, Try.ntmps25
  go_wp2_with (go_at_call 36; refine Hid.out ?_)
  refine Lib.hid ?_
  have hbx := heap_alloc_new w (.cells #[.int .i64 k] 3)
  have y := ext_alloc w (.cells #[.int .i64 k] 3)
  have hsz := size_alloc' w (.cells #[.int .i64 k] 3)
  refine (cloneAt_any A n c l _ N.out (h.ext y) hb).mono ?_
  rintro e w1 ⟨A1, c1, rfl, ho, hb1⟩
  rw [← N.out] at ho ⊢
  have hbx1 := (hb1.block w.heap.size (by omega)).trans hbx
  have hbw := ext_trans y hb1
  have HBX := Lib.hid hbx1
  have hszb : w.heap.size < w1.heap.size := blk_lt hbx1
  have hsz1 : (w.alloc (.cells #[.int .i64 k] 3)).heap.size ≤ w1.heap.size := hb1.size
  have HSZ := Lib.hid hsz
  have HSZ1 := Lib.hid hsz1
  clear hbx hbx1 hb1 y hsz hsz1
  go_wp2_with (go_at_call 39; refine Hid.out ?_)
  refine Lib.hid ?_
  refine (deleteWithout_any w.heap.size (fun x => x.key == k) A1 n c1 _ l w1 ho HSZ1.out hb N.out ?_).mono ?_
  · intro x1 x2 x3 x4 x5 w' hb'
    have hbx' := (hb'.block w.heap.size (by rw [← HSZ.out]; omega)).trans HBX.out
    exact without_cl w.heap.size k x1 x2 x3 x4 x5 w' (cell_of_one hbx') (blk_lt hbx')
  · rintro e w2 ⟨A', c', rfl, ho2, hb2⟩
    have hbase : w.heap.size ≤ (w.alloc (.cells #[.int .i64 k] 3)).heap.size := by rw [← HSZ.out]; omega
    have ho3 := ho2.base_le hbase
    have hbw2 := hbw.trans (hb2.mono hbase)
    have e : l.filter (fun x => !(x.key == k)) = withoutP l k := rfl
    rw [e] at ho3 ⊢
    generalize withoutP l k = R at *
    go_wp2_with (fail)
    go_ret
    exact ⟨A', c', rfl, ho3, hbw2⟩
end Go.Proofs.Ytclfplpggmefjaa
