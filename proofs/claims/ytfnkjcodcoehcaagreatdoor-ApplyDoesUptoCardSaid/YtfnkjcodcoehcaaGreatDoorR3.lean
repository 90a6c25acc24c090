/- Merged texts: RuReads, RuBytes, RuNext. -/
import Derived.Deep.LoopGhost
import Derived.Deep.DeepMust
import Derived.Test.YtfnkjcodcoehcaaGreatDoorR2
namespace Go.Proofs.YtfnkjcodcoehcaaGreatDoor
open Go.RowKit
set_option linter.unusedVariables false
set_option linter.unusedSimpArgs false

theorem ret_boolR {a b : Bool} (h : a = b) : Ending.returned (.bool a) = Ending.returned (.bool b) := by rw [h]
/-- the answer v, and nothing but draws -/
def QuietR (v : Value) (w : World) (e : Ending) (w' : World) : Prop := e = .returned v ∧ ∃ d, w' = w.drewN d

/-- how many newlines -/
def nlR (l : List Int) : Nat := l.countP (fun r => r == 10)
theorem nlR_take {l : List Int} {i : Nat} {r : Int} (h : l[i]? = some r) : nlR (l.take (i + 1)) = nlR (l.take i) + (if r = 10 then 1 else 0) := by
  obtain ⟨hi, he⟩ := List.getElem?_eq_some_iff.1 h
  rw [List.take_succ_eq_append_getElem hi, he]
  simp [nlR, List.countP_append, List.countP_cons]
theorem nlR_le (l : List Int) (i : Nat) : nlR (l.take i) ≤ l.length := by
  have h1 := List.countP_le_length (p := fun r => r == (10 : Int)) (l := l.take i)
  have h2 := List.length_take (i := i) (l := l)
  unfold nlR
  omega

set_option maxHeartbeats 400000 in
theorem newlines_any (A : Option Addr) (n c : Nat) (l : List Int) (w : World) (hn : n = l.length) (h : RdI32 w w.heap.size A l) (hb : n ≤ 9223372036854775806) :
    Calls Tryz.prog 209 #[.slice A n c] w fun e w' => e = .returned (.int .i64 (nlR l : Nat)) ∧ w = w' := by
  have N := Lib.hid hn
  clear hn
  go_enter Tryz.func209, Tryz.ntmps209
  go_wp2_with (fail)
  go_loopg [3, 8] n (fun g kv iv wr => ∃ i k : Nat, i ≤ n ∧ g = n - i ∧ kv = .int .i64 (k : Int) ∧ iv = .int .i64 (i : Int) ∧ w = wr ∧ Hid (nlR (l.take i) = k))
  case atStart => exact ⟨0, 0, by omega, rfl, rfl, rfl, rfl, Lib.hid rfl⟩
  case round =>
    obtain ⟨i, k, hi, hg, rfl, rfl, rfl, HK⟩ := hrel
    have HG := Lib.hid hg
    clear hg
    by_cases hlt : i < n
    · obtain ⟨ad, r, rfl, _, _, hri, hc1⟩ := h.el (i := i) (by have := N.out; omega)
      have r0 : w.cell? (ad.add (i * 1)) = some (.int .i32 r) := by have := hc1 0 _ rfl; rwa [add_zero'] at this
      rw [Nat.mul_one] at r0
      have hk1 := nlR_take hri
      have hk2 := nlR_le l i
      rw [HK.out] at hk1 hk2
      have hkb : k ≤ n := by rw [N.out]; exact hk2
      clear hk2 hri hc1
      by_cases h10 : r = 10
      · rw [if_pos h10] at hk1
        subst h10
        have HK1 := Lib.hid hk1
        clear hk1
        go_wp2_with (fail)
        go_roundg (n - (i + 1))
        case measure => have := HG.out; omega
        case rel => exact ⟨i + 1, k + 1, by omega, rfl, by go_num, by go_num, rfl, HK1⟩
      · rw [if_neg h10] at hk1
        have HK1 := Lib.hid hk1
        clear hk1
        go_wp2_with (fail)
        go_roundg (n - (i + 1))
        case measure => have := HG.out; omega
        case rel => exact ⟨i + 1, k, by omega, rfl, rfl, by go_num, rfl, HK1⟩
    · have hl : nlR l = k := by rw [← HK.out, List.take_of_length_le (by have := N.out; omega)]
      have HL := Lib.hid hl
      clear hl
      go_wp2_with (fail)
      go_ret
      exact ⟨by rw [HL.out]; rfl, rfl⟩
set_option maxHeartbeats 400000 in
theorem refNewlines_any (A : Option Addr) (n c : Nat) (l : List Int) (w : World) (hn : n = l.length) (h : RdI32 w w.heap.size A l) (hb : n ≤ 9223372036854775806) :
    Calls Tryz.prog 210 #[.slice A n c] w fun e w' => e = .returned (.int .i64 (nlR l : Nat)) ∧ w = w' := by
  have N := Lib.hid hn
  clear hn
  go_enter Tryz.func210, Tryz.ntmps210
  go_wp2_with (fail)
  go_loopg [3, 4] n (fun g kv iv wr => ∃ i k : Nat, i ≤ n ∧ g = n - i ∧ kv = .int .i64 (k : Int) ∧ iv = .int .i64 (i : Int) ∧ w = wr ∧ Hid (nlR (l.take i) = k))
  case atStart => exact ⟨0, 0, by omega, rfl, rfl, rfl, rfl, Lib.hid rfl⟩
  case round =>
    obtain ⟨i, k, hi, hg, rfl, rfl, rfl, HK⟩ := hrel
    have HG := Lib.hid hg
    clear hg
    by_cases hlt : i < n
    · obtain ⟨ad, r, rfl, _, _, hri, hc1⟩ := h.el (i := i) (by have := N.out; omega)
      have r0 : w.cell? (ad.add (i * 1)) = some (.int .i32 r) := by have := hc1 0 _ rfl; rwa [add_zero'] at this
      rw [Nat.mul_one] at r0
      have hk1 := nlR_take hri
      have hk2 := nlR_le l i
      rw [HK.out] at hk1 hk2
      have hkb : k ≤ n := by rw [N.out]; exact hk2
      clear hk2 hri hc1
      by_cases h10 : r = 10
      · rw [if_pos h10] at hk1
        subst h10
        have HK1 := Lib.hid hk1
        clear hk1
        go_wp2_with (fail)
        go_roundg (n - (i + 1))
        case measure => have := HG.out; omega
        case rel => exact ⟨i + 1, k + 1, by omega, rfl, by go_num, by go_num, rfl, HK1⟩
      · rw [if_neg h10] at hk1
        have HK1 := Lib.hid hk1
        clear hk1
        go_wp2_with (fail)
        go_roundg (n - (i + 1))
        case measure => have := HG.out; omega
        case rel => exact ⟨i + 1, k, by omega, rfl, rfl, by go_num, rfl, HK1⟩
    · have hl : nlR l = k := by rw [← HK.out, List.take_of_length_le (by have := N.out; omega)]
      have HL := Lib.hid hl
      clear hl
      go_wp2_with (fail)
      go_ret
      exact ⟨by rw [HL.out]; rfl, rfl⟩
set_option maxHeartbeats 400000 in
theorem refSame_any (A B : Option Addr) (n m c d : Nat) (l k : List Int) (w : World) (hn : n = l.length) (hm : m = k.length) (h1 : RdI32 w w.heap.size A l) (h2 : RdI32 w w.heap.size B k) (hb : n ≤ 140737488355328) (hb2 : m ≤ 140737488355328) :
    Calls Tryz.prog 59 #[.slice A n c, .slice B m d] w (QuietR (.bool (decide (l = k))) w) := by
  have N := Lib.hid hn
  have M := Lib.hid hm
  generalize hR : decide (l = k) = R
  have HR := Lib.hid hR
  clear hn hR hm
  by_cases hnm : (n : Int) = m
  · have hnm' : n = m := by omega
    subst hnm'
    clear hnm
    go_enter Tryz.func59, Tryz.ntmps59
    go_wp2_with (fail)
    go_loopg [5] n (fun g iv wr => ∃ i : Nat, i ≤ n ∧ g = n - i ∧ iv = .int .i64 (i : Int) ∧ (∃ d, wr = w.drewN d) ∧ Hid (decide (l.drop i = k.drop i) = R))
    case atStart => exact ⟨0, by omega, rfl, rfl, ⟨0, rfl⟩, Lib.hid (by rw [List.drop_zero, List.drop_zero]; exact HR.out)⟩
    case round =>
      obtain ⟨i, hi, hg, rfl, ⟨q, rfl⟩, HI⟩ := hrel
      have HG := Lib.hid hg
      clear hg HR
      by_cases hlt : i < n
      · have hl1 : i < l.length := by have := N.out; omega
        have hl2 : i < k.length := by have := M.out; omega
        obtain ⟨ad, x, rfl, _, hd1, _, hc1⟩ := h1.el hl1
        obtain ⟨ad2, y, rfl, _, hd2, _, hc2⟩ := h2.el hl2
        have HI' : Hid (decide (x :: l.drop (i + 1) = y :: k.drop (i + 1)) = R) := Lib.hid (by rw [← HI.out, hd1, hd2])
        clear HI hd1 hd2
        have r0 : w.cell? (ad.add (i * 1)) = some (.int .i32 x) := by have := hc1 0 _ rfl; rwa [add_zero'] at this
        have s0 : w.cell? (ad2.add (i * 1)) = some (.int .i32 y) := by have := hc2 0 _ rfl; rwa [add_zero'] at this
        rw [Nat.mul_one] at r0 s0
        clear hc1 hc2
        by_cases hxy : x = y
        · subst hxy
          go_wp2_with (go_quiet (fail))
          go_roundg (n - (i + 1))
          case measure => have := HG.out; omega
          case rel => exact ⟨i + 1, by omega, rfl, by go_num, ⟨_, rfl⟩, Lib.hid (by rw [← HI'.out]; simp only [List.cons.injEq, true_and])⟩
        · go_wp2_with (go_quiet (fail))
          go_ret
          exact ⟨ret_boolR (by rw [← HI'.out]; exact (decide_eq_false fun e => hxy (List.cons.inj e).1).symm), _, World.drewN_drewN _ _ _⟩
      · go_wp2_with (fail)
        go_ret
        exact ⟨ret_boolR (by rw [← HI.out, List.drop_eq_nil_of_le (by have := N.out; omega), List.drop_eq_nil_of_le (by have := M.out; omega)]; rfl), _, rfl⟩
  · have hne : ((n : Int) == m) = false := beq_eq_false_iff_ne.2 hnm
    go_enter Tryz.func59, Tryz.ntmps59
    go_wp2_with (fail)
    go_ret
    refine ⟨ret_boolR ?_, 0, rfl⟩
    rw [← HR.out]
    refine (decide_eq_false fun e => ?_).symm
    have h3 := N.out
    have h4 := M.out
    rw [e] at h3
    omega
end Go.Proofs.YtfnkjcodcoehcaaGreatDoor
namespace Go.Proofs.YtfnkjcodcoehcaaGreatDoor
open Go.RowKit
set_option linter.unusedVariables false
set_option linter.unusedSimpArgs false

theorem encR_len (r : Int) : 1 ≤ (encR r).length ∧ (encR r).length ≤ 4 := by
  unfold encR
  split
  · simp
  · split
    · simp
    · split <;> simp
theorem mayR_le {r : Int} (h : mayR r = true) : 0 ≤ r ∧ r ≤ 1114111 := by have := of_decide_eq_true h; omega
end Go.Proofs.YtfnkjcodcoehcaaGreatDoor
namespace Go.Proofs.YtfnkjcodcoehcaaGreatDoor
open Go.RowKit
set_option linter.unusedVariables false
set_option linter.unusedSimpArgs false

/-- the bytes behind the first one -/
def contR (r : Int) : List Int → Option Int
  | [] => some r
  | x :: t => if 128 ≤ x ∧ x ≤ 191 then contR (r * 64 + x - 128) t else none
/-- of n bytes, of which the first one gives r -/
def headR (n : Nat) (r : Int) (b : List Int) : Int × Nat :=
  if b.length < n then (0, 0) else
  match contR r ((b.drop 1).take (n - 1)) with
  | none => (0, 0)
  | some r => if mayR r = true ∧ (encR r).length = n then (r, n) else (0, 0)
/-- the rune that bytes begin with -/
def nextR (b : List Int) : Int × Nat :=
  let b0 := b.headD 0
  if 240 ≤ b0 then headR 4 (b0 - 240) b else if 224 ≤ b0 then headR 3 (b0 - 224) b else if 192 ≤ b0 then headR 2 (b0 - 192) b else if 128 ≤ b0 then (0, 0) else headR 1 b0 b

theorem nextR_cons {b : List Int} {b0 : Int} (h : b[0]? = some b0) : nextR b = if 240 ≤ b0 then headR 4 (b0 - 240) b else if 224 ≤ b0 then headR 3 (b0 - 224) b else if 192 ≤ b0 then headR 2 (b0 - 192) b else if 128 ≤ b0 then (0, 0) else headR 1 b0 b := by
  cases b with
  | nil => cases h
  | cons a t => injection h with h; subst h; rfl

set_option maxHeartbeats 800000 in
theorem next_any (A : Option Addr) (n c : Nat) (b : List Int) (w : World) (hn : n = b.length) (h : RdU8 w w.heap.size A b) (hb : n ≤ 400000000) (hpos : 0 < n) (hu : ∀ x ∈ b, 0 ≤ x ∧ x ≤ 255) :
    Calls Tryz.prog 232 #[.slice A n c] w fun e w' => e = .returned (.tuple #[.int .i32 (nextR b).1, .int .i64 ((nextR b).2 : Nat)]) ∧ Below w.heap.size w w' := by
  have N := Lib.hid hn
  clear hn
  obtain ⟨ad, b0, rfl, had, hd0, hb0, hc1⟩ := h.el (i := 0) (by have := N.out; omega)
  have r0 : w.cell? ad = some (.int .u8 b0) := by have := hc1 0 _ rfl; simpa [add_zero'] using this
  have hlo := (hu b0 (List.mem_of_getElem? hb0)).1
  have hhi := (hu b0 (List.mem_of_getElem? hb0)).2
  have he := nextR_cons hb0
  clear hc1
  by_cases h1 : 240 ≤ b0
  · rw [if_pos h1] at he
    by_cases hk : (n : Int) < 4
    · have hx : nextR b = (0, 0) := by rw [he, headR, if_pos (by have := N.out; omega)]
      have HX := Lib.hid hx
      clear hx he
      go_enter Tryz.func232, Tryz.ntmps232
      go_wp2_with (fail)
      refine bodyPost_ret (v := .tuple #[.int .i32 0, .int .i64 0]) (by simp [results, Tryz.results232, go_sem]) rfl ?_
      exact ⟨by rw [HX.out]; rfl, Below.refl _ _⟩
    · go_enter Tryz.func232, Tryz.ntmps232
      have hw1 : IntKind.i32.wrap b0 = b0 := IntWalk.i32_in _ (by omega)
      go_wp2_with (fail)
      clear hw1
      go_loopg [5, 6] (4 - 1) (fun g rv iv wr => ∃ (i : Nat) (r : Int), 1 ≤ i ∧ i ≤ 4 ∧ g = 4 - i ∧ rv = .int .i32 r ∧ iv = .int .i64 (i : Int) ∧ w = wr ∧ 0 ≤ r ∧ r < 128 * 64 ^ (i - 1) ∧ Hid (contR (b0 - 240) ((b.drop 1).take (4 - 1)) = contR r ((b.drop i).take (4 - i))))
      case atStart => exact ⟨1, b0 - 240, by omega, by omega, rfl, rfl, rfl, rfl, by omega, by simp; omega, Lib.hid rfl⟩
      case round =>
        obtain ⟨i, r, hi1, hi, hg, rfl, rfl, rfl, hr0, hr1, HC⟩ := hrel
        have HG := Lib.hid hg
        clear hg
        by_cases hlt : i < 4
        · have hr2 : r ≤ 524287 := by
            have : i = 1 ∨ i = 2 ∨ i = 3 := by omega
            rcases this with rfl | rfl | rfl <;> simp at hr1 <;> omega
          obtain ⟨ad', x, ea, _, hdx, hbx, hcx⟩ := h.el (i := i) (by have := N.out; omega)
          injection ea with ea
          subst ea
          have x0 : w.cell? (ad.add i) = some (.int .u8 x) := by have := hcx 0 _ rfl; simpa [add_zero'] using this
          have hxlo := (hu x (List.mem_of_getElem? hbx)).1
          have hxhi := (hu x (List.mem_of_getElem? hbx)).2
          have hil : i < n := by omega
          have e1 : (b.drop i).take (4 - i) = x :: (b.drop (i + 1)).take (4 - (i + 1)) := by
            rw [hdx, show 4 - i = (4 - (i + 1)) + 1 by omega, List.take_succ_cons]
          rw [e1] at HC
          clear e1 hcx hdx
          by_cases hx1 : x < 128
          · have hx : nextR b = (0, 0) := by
              have t := HC.out
              rw [contR, if_neg (by omega)] at t
              rw [he, headR, if_neg (by have := N.out; omega)]
              simp only [t]
            have HX := Lib.hid hx
            clear hx he
            go_wp2_with (fail)
            refine bodyPost_ret (v := .tuple #[.int .i32 0, .int .i64 0]) (by simp [results, Tryz.results232, go_sem]) rfl ?_
            exact ⟨by rw [HX.out]; rfl, Below.refl _ _⟩
          · by_cases hx2 : 191 < x
            · have hx : nextR b = (0, 0) := by
                have t := HC.out
                rw [contR, if_neg (by omega)] at t
                rw [he, headR, if_neg (by have := N.out; omega)]
                simp only [t]
              have HX := Lib.hid hx
              clear hx he
              go_wp2_with (fail)
              refine bodyPost_ret (v := .tuple #[.int .i32 0, .int .i64 0]) (by simp [results, Tryz.results232, go_sem]) rfl ?_
              exact ⟨by rw [HX.out]; rfl, Below.refl _ _⟩
            · have HE := Lib.hid he
              clear he
              have HC2 : Hid (contR (b0 - 240) ((b.drop 1).take (4 - 1)) = contR (r * 64 + x - 128) ((b.drop (i + 1)).take (4 - (i + 1)))) := Lib.hid (by have t := HC.out; rwa [contR, if_pos (by omega)] at t)
              have hr3 : r * 64 + x - 128 < 128 * 64 ^ (i + 1 - 1) := by
                have : i = 1 ∨ i = 2 ∨ i = 3 := by omega
                rcases this with rfl | rfl | rfl <;> simp at hr1 ⊢ <;> omega
              clear hr1 HC
              go_wp2_with (fail)
              go_roundg (4 - (i + 1))
              case measure => have := HG.out; omega
              case rel => exact ⟨i + 1, r * 64 + x - 128, by omega, by omega, rfl, by first | rfl | go_num, by go_num, rfl, by omega, hr3, HC2⟩
        · have ein : i = 4 := by omega
          subst ein
          have hc : contR (b0 - 240) ((b.drop 1).take (4 - 1)) = some r := by rw [HC.out]; simp [contR]
          have hx : nextR b = if mayR r = true ∧ (encR r).length = 4 then (r, 4) else (0, 0) := by
            rw [he, headR, if_neg (by have := N.out; omega)]
            simp only [hc]
          have HX := Lib.hid hx
          clear hx he hc HC hr1 hlt hi hi1
          cases hm : mayR r with
          | false =>
            have HM := Lib.hid hm
            go_wp2_with (go_at_call 150; refine (refMay_any r w).mono ?_; rintro e w2 ⟨rfl, rfl⟩; rw [HM.out])
            refine bodyPost_ret (v := .tuple #[.int .i32 0, .int .i64 0]) (by simp [results, Tryz.results232, go_sem]) rfl ?_
            exact ⟨by rw [HX.out, HM.out]; rfl, Below.refl _ _⟩
          | true =>
            have HM := Lib.hid hm
            have hhi := (mayR_le hm).2
            clear hm
            go_wp2_with (first
              | (go_at_call 150; refine (refMay_any r w).mono ?_; rintro e w2 ⟨rfl, rfl⟩; rw [HM.out])
              | (go_at_call 241; refine Hid.out ?_))
            refine Lib.hid ?_
            refine (one_any r w hr0 hhi).mono ?_
            rintro e w2 ⟨A2, c2, rfl, rr, y⟩
            obtain ⟨q, hq⟩ : ∃ q, q = (encR r).length := ⟨_, rfl⟩
            rw [← hq]
            have HQ := Lib.hid hq
            clear hq rr
            by_cases hqk : (q : Int) = 4
            · have hx : nextR b = (r, 4) := by rw [HX.out, if_pos ⟨HM.out, by rw [← HQ.out]; omega⟩]
              have HX2 := Lib.hid hx
              clear hx
              go_wp2_with (fail)
              refine bodyPost_ret (v := .tuple #[.int .i32 r, .int .i64 4]) (by simp [results, Tryz.results232, go_sem]) rfl ?_
              exact ⟨by rw [HX2.out]; rfl, y⟩
            · have hx : nextR b = (0, 0) := by rw [HX.out, if_neg (by rw [← HQ.out]; omega)]
              have HX2 := Lib.hid hx
              clear hx
              go_wp2_with (fail)
              refine bodyPost_ret (v := .tuple #[.int .i32 0, .int .i64 0]) (by simp [results, Tryz.results232, go_sem]) rfl ?_
              exact ⟨by rw [HX2.out]; rfl, y⟩
  · rw [if_neg h1] at he
    by_cases h2 : 224 ≤ b0
    · rw [if_pos h2] at he
      by_cases hk : (n : Int) < 3
      · have hx : nextR b = (0, 0) := by rw [he, headR, if_pos (by have := N.out; omega)]
        have HX := Lib.hid hx
        clear hx he
        go_enter Tryz.func232, Tryz.ntmps232
        go_wp2_with (fail)
        refine bodyPost_ret (v := .tuple #[.int .i32 0, .int .i64 0]) (by simp [results, Tryz.results232, go_sem]) rfl ?_
        exact ⟨by rw [HX.out]; rfl, Below.refl _ _⟩
      · go_enter Tryz.func232, Tryz.ntmps232
        have hw1 : IntKind.i32.wrap b0 = b0 := IntWalk.i32_in _ (by omega)
        go_wp2_with (fail)
        clear hw1
        go_loopg [5, 6] (3 - 1) (fun g rv iv wr => ∃ (i : Nat) (r : Int), 1 ≤ i ∧ i ≤ 3 ∧ g = 3 - i ∧ rv = .int .i32 r ∧ iv = .int .i64 (i : Int) ∧ w = wr ∧ 0 ≤ r ∧ r < 128 * 64 ^ (i - 1) ∧ Hid (contR (b0 - 224) ((b.drop 1).take (3 - 1)) = contR r ((b.drop i).take (3 - i))))
        case atStart => exact ⟨1, b0 - 224, by omega, by omega, rfl, rfl, rfl, rfl, by omega, by simp; omega, Lib.hid rfl⟩
        case round =>
          obtain ⟨i, r, hi1, hi, hg, rfl, rfl, rfl, hr0, hr1, HC⟩ := hrel
          have HG := Lib.hid hg
          clear hg
          by_cases hlt : i < 3
          · have hr2 : r ≤ 524287 := by
              have : i = 1 ∨ i = 2 ∨ i = 3 := by omega
              rcases this with rfl | rfl | rfl <;> simp at hr1 <;> omega
            obtain ⟨ad', x, ea, _, hdx, hbx, hcx⟩ := h.el (i := i) (by have := N.out; omega)
            injection ea with ea
            subst ea
            have x0 : w.cell? (ad.add i) = some (.int .u8 x) := by have := hcx 0 _ rfl; simpa [add_zero'] using this
            have hxlo := (hu x (List.mem_of_getElem? hbx)).1
            have hxhi := (hu x (List.mem_of_getElem? hbx)).2
            have hil : i < n := by omega
            have e1 : (b.drop i).take (3 - i) = x :: (b.drop (i + 1)).take (3 - (i + 1)) := by
              rw [hdx, show 3 - i = (3 - (i + 1)) + 1 by omega, List.take_succ_cons]
            rw [e1] at HC
            clear e1 hcx hdx
            by_cases hx1 : x < 128
            · have hx : nextR b = (0, 0) := by
                have t := HC.out
                rw [contR, if_neg (by omega)] at t
                rw [he, headR, if_neg (by have := N.out; omega)]
                simp only [t]
              have HX := Lib.hid hx
              clear hx he
              go_wp2_with (fail)
              refine bodyPost_ret (v := .tuple #[.int .i32 0, .int .i64 0]) (by simp [results, Tryz.results232, go_sem]) rfl ?_
              exact ⟨by rw [HX.out]; rfl, Below.refl _ _⟩
            · by_cases hx2 : 191 < x
              · have hx : nextR b = (0, 0) := by
                  have t := HC.out
                  rw [contR, if_neg (by omega)] at t
                  rw [he, headR, if_neg (by have := N.out; omega)]
                  simp only [t]
                have HX := Lib.hid hx
                clear hx he
                go_wp2_with (fail)
                refine bodyPost_ret (v := .tuple #[.int .i32 0, .int .i64 0]) (by simp [results, Tryz.results232, go_sem]) rfl ?_
                exact ⟨by rw [HX.out]; rfl, Below.refl _ _⟩
              · have HE := Lib.hid he
                clear he
                have HC2 : Hid (contR (b0 - 224) ((b.drop 1).take (3 - 1)) = contR (r * 64 + x - 128) ((b.drop (i + 1)).take (3 - (i + 1)))) := Lib.hid (by have t := HC.out; rwa [contR, if_pos (by omega)] at t)
                have hr3 : r * 64 + x - 128 < 128 * 64 ^ (i + 1 - 1) := by
                  have : i = 1 ∨ i = 2 ∨ i = 3 := by omega
                  rcases this with rfl | rfl | rfl <;> simp at hr1 ⊢ <;> omega
                clear hr1 HC
                go_wp2_with (fail)
                go_roundg (3 - (i + 1))
                case measure => have := HG.out; omega
                case rel => exact ⟨i + 1, r * 64 + x - 128, by omega, by omega, rfl, by first | rfl | go_num, by go_num, rfl, by omega, hr3, HC2⟩
          · have ein : i = 3 := by omega
            subst ein
            have hc : contR (b0 - 224) ((b.drop 1).take (3 - 1)) = some r := by rw [HC.out]; simp [contR]
            have hx : nextR b = if mayR r = true ∧ (encR r).length = 3 then (r, 3) else (0, 0) := by
              rw [he, headR, if_neg (by have := N.out; omega)]
              simp only [hc]
            have HX := Lib.hid hx
            clear hx he hc HC hr1 hlt hi hi1
            cases hm : mayR r with
            | false =>
              have HM := Lib.hid hm
              go_wp2_with (go_at_call 150; refine (refMay_any r w).mono ?_; rintro e w2 ⟨rfl, rfl⟩; rw [HM.out])
              refine bodyPost_ret (v := .tuple #[.int .i32 0, .int .i64 0]) (by simp [results, Tryz.results232, go_sem]) rfl ?_
              exact ⟨by rw [HX.out, HM.out]; rfl, Below.refl _ _⟩
            | true =>
              have HM := Lib.hid hm
              have hhi := (mayR_le hm).2
              clear hm
              go_wp2_with (first
                | (go_at_call 150; refine (refMay_any r w).mono ?_; rintro e w2 ⟨rfl, rfl⟩; rw [HM.out])
                | (go_at_call 241; refine Hid.out ?_))
              refine Lib.hid ?_
              refine (one_any r w hr0 hhi).mono ?_
              rintro e w2 ⟨A2, c2, rfl, rr, y⟩
              obtain ⟨q, hq⟩ : ∃ q, q = (encR r).length := ⟨_, rfl⟩
              rw [← hq]
              have HQ := Lib.hid hq
              clear hq rr
              by_cases hqk : (q : Int) = 3
              · have hx : nextR b = (r, 3) := by rw [HX.out, if_pos ⟨HM.out, by rw [← HQ.out]; omega⟩]
                have HX2 := Lib.hid hx
                clear hx
                go_wp2_with (fail)
                refine bodyPost_ret (v := .tuple #[.int .i32 r, .int .i64 3]) (by simp [results, Tryz.results232, go_sem]) rfl ?_
                exact ⟨by rw [HX2.out]; rfl, y⟩
              · have hx : nextR b = (0, 0) := by rw [HX.out, if_neg (by rw [← HQ.out]; omega)]
                have HX2 := Lib.hid hx
                clear hx
                go_wp2_with (fail)
                refine bodyPost_ret (v := .tuple #[.int .i32 0, .int .i64 0]) (by simp [results, Tryz.results232, go_sem]) rfl ?_
                exact ⟨by rw [HX2.out]; rfl, y⟩
    · rw [if_neg h2] at he
      by_cases h3 : 192 ≤ b0
      · rw [if_pos h3] at he
        by_cases hk : (n : Int) < 2
        · have hx : nextR b = (0, 0) := by rw [he, headR, if_pos (by have := N.out; omega)]
          have HX := Lib.hid hx
          clear hx he
          go_enter Tryz.func232, Tryz.ntmps232
          go_wp2_with (fail)
          refine bodyPost_ret (v := .tuple #[.int .i32 0, .int .i64 0]) (by simp [results, Tryz.results232, go_sem]) rfl ?_
          exact ⟨by rw [HX.out]; rfl, Below.refl _ _⟩
        · go_enter Tryz.func232, Tryz.ntmps232
          have hw1 : IntKind.i32.wrap b0 = b0 := IntWalk.i32_in _ (by omega)
          go_wp2_with (fail)
          clear hw1
          go_loopg [5, 6] (2 - 1) (fun g rv iv wr => ∃ (i : Nat) (r : Int), 1 ≤ i ∧ i ≤ 2 ∧ g = 2 - i ∧ rv = .int .i32 r ∧ iv = .int .i64 (i : Int) ∧ w = wr ∧ 0 ≤ r ∧ r < 128 * 64 ^ (i - 1) ∧ Hid (contR (b0 - 192) ((b.drop 1).take (2 - 1)) = contR r ((b.drop i).take (2 - i))))
          case atStart => exact ⟨1, b0 - 192, by omega, by omega, rfl, rfl, rfl, rfl, by omega, by simp; omega, Lib.hid rfl⟩
          case round =>
            obtain ⟨i, r, hi1, hi, hg, rfl, rfl, rfl, hr0, hr1, HC⟩ := hrel
            have HG := Lib.hid hg
            clear hg
            by_cases hlt : i < 2
            · have hr2 : r ≤ 524287 := by
                have : i = 1 ∨ i = 2 ∨ i = 3 := by omega
                rcases this with rfl | rfl | rfl <;> simp at hr1 <;> omega
              obtain ⟨ad', x, ea, _, hdx, hbx, hcx⟩ := h.el (i := i) (by have := N.out; omega)
              injection ea with ea
              subst ea
              have x0 : w.cell? (ad.add i) = some (.int .u8 x) := by have := hcx 0 _ rfl; simpa [add_zero'] using this
              have hxlo := (hu x (List.mem_of_getElem? hbx)).1
              have hxhi := (hu x (List.mem_of_getElem? hbx)).2
              have hil : i < n := by omega
              have e1 : (b.drop i).take (2 - i) = x :: (b.drop (i + 1)).take (2 - (i + 1)) := by
                rw [hdx, show 2 - i = (2 - (i + 1)) + 1 by omega, List.take_succ_cons]
              rw [e1] at HC
              clear e1 hcx hdx
              by_cases hx1 : x < 128
              · have hx : nextR b = (0, 0) := by
                  have t := HC.out
                  rw [contR, if_neg (by omega)] at t
                  rw [he, headR, if_neg (by have := N.out; omega)]
                  simp only [t]
                have HX := Lib.hid hx
                clear hx he
                go_wp2_with (fail)
                refine bodyPost_ret (v := .tuple #[.int .i32 0, .int .i64 0]) (by simp [results, Tryz.results232, go_sem]) rfl ?_
                exact ⟨by rw [HX.out]; rfl, Below.refl _ _⟩
              · by_cases hx2 : 191 < x
                · have hx : nextR b = (0, 0) := by
                    have t := HC.out
                    rw [contR, if_neg (by omega)] at t
                    rw [he, headR, if_neg (by have := N.out; omega)]
                    simp only [t]
                  have HX := Lib.hid hx
                  clear hx he
                  go_wp2_with (fail)
                  refine bodyPost_ret (v := .tuple #[.int .i32 0, .int .i64 0]) (by simp [results, Tryz.results232, go_sem]) rfl ?_
                  exact ⟨by rw [HX.out]; rfl, Below.refl _ _⟩
                · have HE := Lib.hid he
                  clear he
                  have HC2 : Hid (contR (b0 - 192) ((b.drop 1).take (2 - 1)) = contR (r * 64 + x - 128) ((b.drop (i + 1)).take (2 - (i + 1)))) := Lib.hid (by have t := HC.out; rwa [contR, if_pos (by omega)] at t)
                  have hr3 : r * 64 + x - 128 < 128 * 64 ^ (i + 1 - 1) := by
                    have : i = 1 ∨ i = 2 ∨ i = 3 := by omega
                    rcases this with rfl | rfl | rfl <;> simp at hr1 ⊢ <;> omega
                  clear hr1 HC
                  go_wp2_with (fail)
                  go_roundg (2 - (i + 1))
                  case measure => have := HG.out; omega
                  case rel => exact ⟨i + 1, r * 64 + x - 128, by omega, by omega, rfl, by first | rfl | go_num, by go_num, rfl, by omega, hr3, HC2⟩
            · have ein : i = 2 := by omega
              subst ein
              have hc : contR (b0 - 192) ((b.drop 1).take (2 - 1)) = some r := by rw [HC.out]; simp [contR]
              have hx : nextR b = if mayR r = true ∧ (encR r).length = 2 then (r, 2) else (0, 0) := by
                rw [he, headR, if_neg (by have := N.out; omega)]
                simp only [hc]
              have HX := Lib.hid hx
              clear hx he hc HC hr1 hlt hi hi1
              cases hm : mayR r with
              | false =>
                have HM := Lib.hid hm
                go_wp2_with (go_at_call 150; refine (refMay_any r w).mono ?_; rintro e w2 ⟨rfl, rfl⟩; rw [HM.out])
                refine bodyPost_ret (v := .tuple #[.int .i32 0, .int .i64 0]) (by simp [results, Tryz.results232, go_sem]) rfl ?_
                exact ⟨by rw [HX.out, HM.out]; rfl, Below.refl _ _⟩
              | true =>
                have HM := Lib.hid hm
                have hhi := (mayR_le hm).2
                clear hm
                go_wp2_with (first
                  | (go_at_call 150; refine (refMay_any r w).mono ?_; rintro e w2 ⟨rfl, rfl⟩; rw [HM.out])
                  | (go_at_call 241; refine Hid.out ?_))
                refine Lib.hid ?_
                refine (one_any r w hr0 hhi).mono ?_
                rintro e w2 ⟨A2, c2, rfl, rr, y⟩
                obtain ⟨q, hq⟩ : ∃ q, q = (encR r).length := ⟨_, rfl⟩
                rw [← hq]
                have HQ := Lib.hid hq
                clear hq rr
                by_cases hqk : (q : Int) = 2
                · have hx : nextR b = (r, 2) := by rw [HX.out, if_pos ⟨HM.out, by rw [← HQ.out]; omega⟩]
                  have HX2 := Lib.hid hx
                  clear hx
                  go_wp2_with (fail)
                  refine bodyPost_ret (v := .tuple #[.int .i32 r, .int .i64 2]) (by simp [results, Tryz.results232, go_sem]) rfl ?_
                  exact ⟨by rw [HX2.out]; rfl, y⟩
                · have hx : nextR b = (0, 0) := by rw [HX.out, if_neg (by rw [← HQ.out]; omega)]
                  have HX2 := Lib.hid hx
                  clear hx
                  go_wp2_with (fail)
                  refine bodyPost_ret (v := .tuple #[.int .i32 0, .int .i64 0]) (by simp [results, Tryz.results232, go_sem]) rfl ?_
                  exact ⟨by rw [HX2.out]; rfl, y⟩
      · rw [if_neg h3] at he
        by_cases h4 : 128 ≤ b0
        · rw [if_pos h4] at he
          have HX := Lib.hid he
          clear he
          go_enter Tryz.func232, Tryz.ntmps232
          go_wp2_with (fail)
          refine bodyPost_ret (v := .tuple #[.int .i32 0, .int .i64 0]) (by simp [results, Tryz.results232, go_sem]) rfl ?_
          exact ⟨by rw [HX.out]; rfl, Below.refl _ _⟩
        · rw [if_neg h4] at he
          by_cases hk : (n : Int) < 1
          · have hx : nextR b = (0, 0) := by rw [he, headR, if_pos (by have := N.out; omega)]
            have HX := Lib.hid hx
            clear hx he
            go_enter Tryz.func232, Tryz.ntmps232
            go_wp2_with (fail)
            refine bodyPost_ret (v := .tuple #[.int .i32 0, .int .i64 0]) (by simp [results, Tryz.results232, go_sem]) rfl ?_
            exact ⟨by rw [HX.out]; rfl, Below.refl _ _⟩
          · go_enter Tryz.func232, Tryz.ntmps232
            have hw1 : IntKind.i32.wrap b0 = b0 := IntWalk.i32_in _ (by omega)
            go_wp2_with (fail)
            clear hw1
            go_loopg [5, 6] (1 - 1) (fun g rv iv wr => ∃ (i : Nat) (r : Int), 1 ≤ i ∧ i ≤ 1 ∧ g = 1 - i ∧ rv = .int .i32 r ∧ iv = .int .i64 (i : Int) ∧ w = wr ∧ 0 ≤ r ∧ r < 128 * 64 ^ (i - 1) ∧ Hid (contR b0 ((b.drop 1).take (1 - 1)) = contR r ((b.drop i).take (1 - i))))
            case atStart => exact ⟨1, b0, by omega, by omega, rfl, rfl, rfl, rfl, by omega, by simp; omega, Lib.hid rfl⟩
            case round =>
              obtain ⟨i, r, hi1, hi, hg, rfl, rfl, rfl, hr0, hr1, HC⟩ := hrel
              have HG := Lib.hid hg
              clear hg
              by_cases hlt : i < 1
              · omega
              · have ein : i = 1 := by omega
                subst ein
                have hc : contR b0 ((b.drop 1).take (1 - 1)) = some r := by rw [HC.out]; simp [contR]
                have hx : nextR b = if mayR r = true ∧ (encR r).length = 1 then (r, 1) else (0, 0) := by
                  rw [he, headR, if_neg (by have := N.out; omega)]
                  simp only [hc]
                have HX := Lib.hid hx
                clear hx he hc HC hr1 hlt hi hi1
                cases hm : mayR r with
                | false =>
                  have HM := Lib.hid hm
                  go_wp2_with (go_at_call 150; refine (refMay_any r w).mono ?_; rintro e w2 ⟨rfl, rfl⟩; rw [HM.out])
                  refine bodyPost_ret (v := .tuple #[.int .i32 0, .int .i64 0]) (by simp [results, Tryz.results232, go_sem]) rfl ?_
                  exact ⟨by rw [HX.out, HM.out]; rfl, Below.refl _ _⟩
                | true =>
                  have HM := Lib.hid hm
                  have hhi := (mayR_le hm).2
                  clear hm
                  go_wp2_with (first
                    | (go_at_call 150; refine (refMay_any r w).mono ?_; rintro e w2 ⟨rfl, rfl⟩; rw [HM.out])
                    | (go_at_call 241; refine Hid.out ?_))
                  refine Lib.hid ?_
                  refine (one_any r w hr0 hhi).mono ?_
                  rintro e w2 ⟨A2, c2, rfl, rr, y⟩
                  obtain ⟨q, hq⟩ : ∃ q, q = (encR r).length := ⟨_, rfl⟩
                  rw [← hq]
                  have HQ := Lib.hid hq
                  clear hq rr
                  by_cases hqk : (q : Int) = 1
                  · have hx : nextR b = (r, 1) := by rw [HX.out, if_pos ⟨HM.out, by rw [← HQ.out]; omega⟩]
                    have HX2 := Lib.hid hx
                    clear hx
                    go_wp2_with (fail)
                    refine bodyPost_ret (v := .tuple #[.int .i32 r, .int .i64 1]) (by simp [results, Tryz.results232, go_sem]) rfl ?_
                    exact ⟨by rw [HX2.out]; rfl, y⟩
                  · have hx : nextR b = (0, 0) := by rw [HX.out, if_neg (by rw [← HQ.out]; omega)]
                    have HX2 := Lib.hid hx
                    clear hx
                    go_wp2_with (fail)
                    refine bodyPost_ret (v := .tuple #[.int .i32 0, .int .i64 0]) (by simp [results, Tryz.results232, go_sem]) rfl ?_
                    exact ⟨by rw [HX2.out]; rfl, y⟩
end Go.Proofs.YtfnkjcodcoehcaaGreatDoor
