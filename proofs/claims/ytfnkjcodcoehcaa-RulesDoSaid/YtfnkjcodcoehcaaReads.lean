/- Walks of the functions that only read: Rising, Same, Equal. -/
import Derived.Test.YtfnkjcodcoehcaaEq
import Derived.Deep.LoopGhost
import Derived.Deep.DeepMust
namespace Go.Proofs.Ytfnkjcodcoehcaa
open Go.RowKit
set_option linter.unusedVariables false
set_option linter.unusedSimpArgs false

/-- what a call does that only reads -/
def Quiet (v : Value) (w : World) (e : Ending) (w' : World) : Prop := e = .returned v ∧ ∃ d, w' = w.drewN d
theorem Quiet.below {v : Value} {w w' : World} {e : Ending} (h : Quiet v w e w') (B : Nat) : e = .returned v ∧ Below B w w' := by
  obtain ⟨h1, d, rfl⟩ := h
  exact ⟨h1, below_drewN (Below.refl _ _) d⟩

theorem ret_bool {a b : Bool} (h : a = b) : Ending.returned (.bool a) = Ending.returned (.bool b) := by rw [h]
theorem ret_int {k : IntKind} {a b : Int} (h : a = b) : Ending.returned (.int k a) = Ending.returned (.int k b) := by rw [h]

def rise : List Int → Bool
  | a :: b :: t => decide (a < b) && rise (b :: t)
  | _ => true
def riseA (l : List At) : Bool := rise (l.map (·.key))
def riseC (l : List Ch) : Bool := rise (l.map (·.key))
theorem rise_short {α : Type} (f : α → Int) (l : List α) (m : Nat) (h : l.length ≤ m + 1) : rise ((l.drop m).map f) = true := by
  have : (l.drop m).length ≤ 1 := by rw [List.length_drop]; omega
  match hd : l.drop m with
  | [] => rfl
  | [a] => rfl
  | a :: b :: t => rw [hd] at this; simp at this

set_option maxRecDepth 100000 in
set_option maxHeartbeats 400000 in
theorem risingA_any (A : Option Addr) (n c : Nat) (l : List At) (w : World) (hn : n = l.length) (h : RdAt w w.heap.size A l) (hb : n ≤ 140737488355328) :
    Calls Try.prog 9 #[.slice A n c] w (Quiet (.bool (riseA l)) w) := by
  have N := Lib.hid hn
  generalize hR : riseA l = R
  have HR := Lib.hid hR
  clear hn hR
  go_enter Try.func9, Try.ntmps9
  go_wp2_with (fail)
  go_loopg [3] n (fun g iv wr => ∃ m : Nat, (m + 1 ≤ n ∨ m = 0) ∧ g = n - m ∧ iv = .int .i64 ((m : Int) + 1) ∧ (∃ d, wr = w.drewN d) ∧ Hid (rise ((l.drop m).map (·.key)) = R))
  case atStart => exact ⟨0, by omega, rfl, rfl, ⟨0, rfl⟩, Lib.hid (by rw [List.drop_zero]; exact HR.out)⟩
  case round =>
    obtain ⟨m, hm, hg, rfl, ⟨d, rfl⟩, HI⟩ := hrel
    have HG := Lib.hid hg
    clear hg HR
    by_cases hlt : m + 1 < n
    · have hl1 : m < l.length := by have := N.out; omega
      have hl2 : m + 1 < l.length := by have := N.out; omega
      obtain ⟨ad, x, rfl, _, hd1, _, hc1⟩ := h.el hl1
      obtain ⟨ad', y, e, _, hd2, _, hc2⟩ := h.el hl2
      injection e with e; subst e
      have HI' : Hid (rise (x.key :: y.key :: (l.drop (m + 2)).map (·.key)) = R) := Lib.hid (by rw [← HI.out, hd1, hd2]; rfl)
      have HI2 : Hid (rise (y.key :: (l.drop (m + 2)).map (·.key)) = rise ((l.drop (m + 1)).map (·.key))) := Lib.hid (by rw [hd2]; rfl)
      clear HI hd1 hd2
      obtain ⟨x1, x2, x3, x4, x5⟩ := x
      obtain ⟨y1, y2, y3, y4, y5⟩ := y
      obtain ⟨r0, -⟩ := at_cells hc1
      obtain ⟨s0, -⟩ := at_cells hc2
      have hmn : m < n := by omega
      have hw : IntKind.i64.wrap (m:Int) = m := IntWalk.i64_in _ (by omega)
      have hw2 : IntKind.i64.wrap ((m:Int) + 1) = (m : Int) + 1 := IntWalk.i64_in _ (by omega)
      by_cases hle : y1 ≤ x1
      · go_wp2_with (go_quiet (fail))
        go_ret
        have : ¬ x1 < y1 := by omega
        exact ⟨ret_bool (by rw [← HI'.out]; simp [rise, this]), _, rfl⟩
      · clear hw
        go_wp2_with (go_quiet (fail))
        go_roundg (n - (m + 1))
        case measure => have := HG.out; omega
        case rel => exact ⟨m + 1, by omega, rfl, by go_num, ⟨_, rfl⟩, Lib.hid (by rw [← HI'.out, ← HI2.out]; have : x1 < y1 := by omega
                                                                                  simp [rise, this])⟩
    · go_wp2_with (fail)
      go_ret
      exact ⟨ret_bool (by rw [← HI.out, rise_short _ _ _ (by have := N.out; omega)]), _, rfl⟩

set_option maxRecDepth 100000 in
set_option maxHeartbeats 400000 in
theorem risingC_any (A : Option Addr) (n c : Nat) (l : List Ch) (w : World) (hn : n = l.length) (h : RdCh w w.heap.size A l) (hb : n ≤ 140737488355328) :
    Calls Try.prog 8 #[.slice A n c] w (Quiet (.bool (riseC l)) w) := by
  have N := Lib.hid hn
  generalize hR : riseC l = R
  have HR := Lib.hid hR
  clear hn hR
  go_enter Try.func8, Try.ntmps8
  go_wp2_with (fail)
  go_loopg [3] n (fun g iv wr => ∃ m : Nat, (m + 1 ≤ n ∨ m = 0) ∧ g = n - m ∧ iv = .int .i64 ((m : Int) + 1) ∧ (∃ d, wr = w.drewN d) ∧ Hid (rise ((l.drop m).map (·.key)) = R))
  case atStart => exact ⟨0, by omega, rfl, rfl, ⟨0, rfl⟩, Lib.hid (by rw [List.drop_zero]; exact HR.out)⟩
  case round =>
    obtain ⟨m, hm, hg, rfl, ⟨d, rfl⟩, HI⟩ := hrel
    have HG := Lib.hid hg
    clear hg HR
    by_cases hlt : m + 1 < n
    · have hl1 : m < l.length := by have := N.out; omega
      have hl2 : m + 1 < l.length := by have := N.out; omega
      obtain ⟨ad, x, rfl, _, hd1, _, hc1⟩ := h.el hl1
      obtain ⟨ad', y, e, _, hd2, _, hc2⟩ := h.el hl2
      injection e with e; subst e
      have HI' : Hid (rise (x.key :: y.key :: (l.drop (m + 2)).map (·.key)) = R) := Lib.hid (by rw [← HI.out, hd1, hd2]; rfl)
      have HI2 : Hid (rise (y.key :: (l.drop (m + 2)).map (·.key)) = rise ((l.drop (m + 1)).map (·.key))) := Lib.hid (by rw [hd2]; rfl)
      clear HI hd1 hd2
      obtain ⟨x1, x6, x2, x3, x4, x5⟩ := x
      obtain ⟨y1, y6, y2, y3, y4, y5⟩ := y
      obtain ⟨r0, -⟩ := ch_cells hc1
      obtain ⟨s0, -⟩ := ch_cells hc2
      have hmn : m < n := by omega
      have hw : IntKind.i64.wrap (m:Int) = m := IntWalk.i64_in _ (by omega)
      have hw2 : IntKind.i64.wrap ((m:Int) + 1) = (m : Int) + 1 := IntWalk.i64_in _ (by omega)
      by_cases hle : y1 ≤ x1
      · go_wp2_with (go_quiet (fail))
        go_ret
        have : ¬ x1 < y1 := by omega
        exact ⟨ret_bool (by rw [← HI'.out]; simp [rise, this]), _, rfl⟩
      · clear hw
        go_wp2_with (go_quiet (fail))
        go_roundg (n - (m + 1))
        case measure => have := HG.out; omega
        case rel => exact ⟨m + 1, by omega, rfl, by go_num, ⟨_, rfl⟩, Lib.hid (by rw [← HI'.out, ← HI2.out]; have : x1 < y1 := by omega
                                                                                  simp [rise, this])⟩
    · go_wp2_with (fail)
      go_ret
      exact ⟨ret_bool (by rw [← HI.out, rise_short _ _ _ (by have := N.out; omega)]), _, rfl⟩

set_option maxRecDepth 100000 in
set_option maxHeartbeats 400000 in
theorem sameA_any (A B : Option Addr) (n m c d : Nat) (l k : List At) (w : World) (hn : n = l.length) (hm : m = k.length) (h1 : RdAt w w.heap.size A l) (h2 : RdAt w w.heap.size B k) (hb : n ≤ 140737488355328) (hb2 : m ≤ 140737488355328) :
    Calls Try.prog 17 #[.slice A n c, .slice B m d] w (Quiet (.bool (decide (l = k))) w) := by
  have N := Lib.hid hn
  have M := Lib.hid hm
  generalize hR : decide (l = k) = R
  have HR := Lib.hid hR
  clear hn hR hm
  by_cases hnm : (n : Int) = m
  · have hnm' : n = m := by omega
    subst hnm'
    clear hnm
    go_enter Try.func17, Try.ntmps17
    go_wp2_with (fail)
    go_loopg [5] n (fun g iv wr => ∃ i : Nat, i ≤ n ∧ g = n - i ∧ iv = .int .i64 (i : Int) ∧ (∃ d, wr = w.drewN d) ∧ Hid (decide (l.drop i = k.drop i) = R))
    case atStart => exact ⟨0, by omega, rfl, rfl, ⟨0, rfl⟩, Lib.hid (by rw [List.drop_zero, List.drop_zero]; exact HR.out)⟩
    case round =>
      obtain ⟨i, hi, hg, rfl, ⟨q, rfl⟩, HI⟩ := hrel
      have HG := Lib.hid hg
      clear hg HR
      by_cases hlt : i < n
      · have hl1 : i < l.length := by have := N.out; omega
        have hl2 : i < k.length := by have := M.out; omega
        obtain ⟨ad, x, rfl, _, hd1, _, hc1⟩ := h1.el hl1
        obtain ⟨ad2, y, rfl, _, hd2, _, hc2⟩ := h2.el hl2
        have HI' : Hid (decide (x :: l.drop (i + 1) = y :: k.drop (i + 1)) = R) := Lib.hid (by rw [← HI.out, hd1, hd2])
        clear HI hd1 hd2
        obtain ⟨x1, x2, x3, x4, x5⟩ := x
        obtain ⟨y1, y2, y3, y4, y5⟩ := y
        obtain ⟨r0, r1, r2, r3, r4⟩ := at_cells hc1
        obtain ⟨s0, s1, s2, s3, s4⟩ := at_cells hc2
        by_cases hxy : (⟨x1, ⟨x2, x3, x4, x5⟩⟩ : At) = ⟨y1, ⟨y2, y3, y4, y5⟩⟩
        · have hq := beqAt_eq hxy
          have HXY := Lib.hid hxy
          clear hxy
          go_wp2_with (go_quiet (fail))
          go_roundg (n - (i + 1))
          case measure => have := HG.out; omega
          case rel => exact ⟨i + 1, by omega, rfl, by go_num, ⟨_, rfl⟩, Lib.hid (by rw [← HI'.out]; simp only [List.cons.injEq, HXY.out, true_and])⟩
        · have hq := beqAt_ne hxy
          have HXY := Lib.hid hxy
          clear hxy
          go_wp2_with (go_quiet (fail))
          go_ret
          exact ⟨ret_bool (by rw [← HI'.out]; exact (decide_eq_false fun e => HXY.out (List.cons.inj e).1).symm), _, World.drewN_drewN _ _ _⟩
      · go_wp2_with (fail)
        go_ret
        exact ⟨ret_bool (by rw [← HI.out, List.drop_eq_nil_of_le (by have := N.out; omega), List.drop_eq_nil_of_le (by have := M.out; omega)]; rfl), _, rfl⟩
  · have hne : ((n : Int) == m) = false := beq_eq_false_iff_ne.2 hnm
    go_enter Try.func17, Try.ntmps17
    go_wp2_with (fail)
    go_ret
    refine ⟨ret_bool ?_, 0, rfl⟩
    rw [← HR.out]
    refine (decide_eq_false fun e => ?_).symm
    have h3 := N.out
    have h4 := M.out
    rw [e] at h3
    omega

end Go.Proofs.Ytfnkjcodcoehcaa
