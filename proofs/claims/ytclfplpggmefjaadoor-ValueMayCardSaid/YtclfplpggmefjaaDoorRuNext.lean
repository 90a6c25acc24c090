/- The walk of rubricref01.next. -/
import Derived.Test.YtclfplpggmefjaaDoorRuBytes
namespace Go.Proofs.YtclfplpggmefjaaDoor
open Go.RowKit
set_option linter.unusedVariables false
set_option linter.unusedSimpArgs false

/-- the bytes behind the first one -/
def contR (r : Int) : List Int → Option Int
  | [] => some r
  | x :: t => if 128 ≤ x ∧ x ≤ 191 then contR (r * 64 + x - 128) t else none
/-- of n bytes, of which the first one gives r -/
def headR (n : Nat) (r : Int) (b : List Int) : Int × Nat :=
  if b.length < n then (0, 0) else
  match contR r ((b.drop 1).take (n - 1)) with
  | none => (0, 0)
  | some r => if mayR r = true ∧ (encR r).length = n then (r, n) else (0, 0)
/-- the rune that bytes begin with -/
def nextR (b : List Int) : Int × Nat :=
  let b0 := b.headD 0
  if 240 ≤ b0 then headR 4 (b0 - 240) b else if 224 ≤ b0 then headR 3 (b0 - 224) b else if 192 ≤ b0 then headR 2 (b0 - 192) b else if 128 ≤ b0 then (0, 0) else headR 1 b0 b

theorem nextR_cons {b : List Int} {b0 : Int} (h : b[0]? = some b0) : nextR b = if 240 ≤ b0 then headR 4 (b0 - 240) b else if 224 ≤ b0 then headR 3 (b0 - 224) b else if 192 ≤ b0 then headR 2 (b0 - 192) b else if 128 ≤ b0 then (0, 0) else headR 1 b0 b := by
  cases b with
  | nil => cases h
  | cons a t => injection h with h; subst h; rfl

set_option maxHeartbeats 800000 in
theorem next_any (A : Option Addr) (n c : Nat) (b : List Int) (w : World) (hn : n = b.length) (h : RdU8 w w.heap.size A b) (hb : n ≤ 400000000) (hpos : 0 < n) (hu : ∀ x ∈ b, 0 ≤ x ∧ x ≤ 255) :
    Calls Tryd.prog 74 #[.slice A n c] w fun e w' => e = .returned (.tuple #[.int .i32 (nextR b).1, .int .i64 ((nextR b).2 : Nat)]) ∧ Below w.heap.size w w' := by
  have N := Lib.hid hn
  clear hn
  obtain ⟨ad, b0, rfl, had, hd0, hb0, hc1⟩ := h.el (i := 0) (by have := N.out; omega)
  have r0 : w.cell? ad = some (.int .u8 b0) := by have := hc1 0 _ rfl; simpa [add_zero'] using this
  have hlo := (hu b0 (List.mem_of_getElem? hb0)).1
  have hhi := (hu b0 (List.mem_of_getElem? hb0)).2
  have he := nextR_cons hb0
  clear hc1
  by_cases h1 : 240 ≤ b0
  · rw [if_pos h1] at he
    by_cases hk : (n : Int) < 4
    · have hx : nextR b = (0, 0) := by rw [he, headR, if_pos (by have := N.out; omega)]
      have HX := Lib.hid hx
      clear hx he
      go_enter Tryd.func74, Tryd.ntmps74
      go_wp2_with (fail)
      refine bodyPost_ret (v := .tuple #[.int .i32 0, .int .i64 0]) (by simp [results, Tryd.results74, go_sem]) rfl ?_
      exact ⟨by rw [HX.out]; rfl, Below.refl _ _⟩
    · go_enter Tryd.func74, Tryd.ntmps74
      have hw1 : IntKind.i32.wrap b0 = b0 := IntWalk.i32_in _ (by omega)
      go_wp2_with (fail)
      clear hw1
      go_loopg [5, 6] (4 - 1) (fun g rv iv wr => ∃ (i : Nat) (r : Int), 1 ≤ i ∧ i ≤ 4 ∧ g = 4 - i ∧ rv = .int .i32 r ∧ iv = .int .i64 (i : Int) ∧ w = wr ∧ 0 ≤ r ∧ r < 128 * 64 ^ (i - 1) ∧ Hid (contR (b0 - 240) ((b.drop 1).take (4 - 1)) = contR r ((b.drop i).take (4 - i))))
      case atStart => exact ⟨1, b0 - 240, by omega, by omega, rfl, rfl, rfl, rfl, by omega, by simp; omega, Lib.hid rfl⟩
      case round =>
        obtain ⟨i, r, hi1, hi, hg, rfl, rfl, rfl, hr0, hr1, HC⟩ := hrel
        have HG := Lib.hid hg
        clear hg
        by_cases hlt : i < 4
        · have hr2 : r ≤ 524287 := by
            have : i = 1 ∨ i = 2 ∨ i = 3 := by omega
            rcases this with rfl | rfl | rfl <;> simp at hr1 <;> omega
          obtain ⟨ad', x, ea, _, hdx, hbx, hcx⟩ := h.el (i := i) (by have := N.out; omega)
          injection ea with ea
          subst ea
          have x0 : w.cell? (ad.add i) = some (.int .u8 x) := by have := hcx 0 _ rfl; simpa [add_zero'] using this
          have hxlo := (hu x (List.mem_of_getElem? hbx)).1
          have hxhi := (hu x (List.mem_of_getElem? hbx)).2
          have hil : i < n := by omega
          have e1 : (b.drop i).take (4 - i) = x :: (b.drop (i + 1)).take (4 - (i + 1)) := by
            rw [hdx, show 4 - i = (4 - (i + 1)) + 1 by omega, List.take_succ_cons]
          rw [e1] at HC
          clear e1 hcx hdx
          by_cases hx1 : x < 128
          · have hx : nextR b = (0, 0) := by
              have t := HC.out
              rw [contR, if_neg (by omega)] at t
              rw [he, headR, if_neg (by have := N.out; omega)]
              simp only [t]
            have HX := Lib.hid hx
            clear hx he
            go_wp2_with (fail)
            refine bodyPost_ret (v := .tuple #[.int .i32 0, .int .i64 0]) (by simp [results, Tryd.results74, go_sem]) rfl ?_
            exact ⟨by rw [HX.out]; rfl, Below.refl _ _⟩
          · by_cases hx2 : 191 < x
            · have hx : nextR b = (0, 0) := by
                have t := HC.out
                rw [contR, if_neg (by omega)] at t
                rw [he, headR, if_neg (by have := N.out; omega)]
                simp only [t]
              have HX := Lib.hid hx
              clear hx he
              go_wp2_with (fail)
              refine bodyPost_ret (v := .tuple #[.int .i32 0, .int .i64 0]) (by simp [results, Tryd.results74, go_sem]) rfl ?_
              exact ⟨by rw [HX.out]; rfl, Below.refl _ _⟩
            · have HE := Lib.hid he
              clear he
              have HC2 : Hid (contR (b0 - 240) ((b.drop 1).take (4 - 1)) = contR (r * 64 + x - 128) ((b.drop (i + 1)).take (4 - (i + 1)))) := Lib.hid (by have t := HC.out; rwa [contR, if_pos (by omega)] at t)
              have hr3 : r * 64 + x - 128 < 128 * 64 ^ (i + 1 - 1) := by
                have : i = 1 ∨ i = 2 ∨ i = 3 := by omega
                rcases this with rfl | rfl | rfl <;> simp at hr1 ⊢ <;> omega
              clear hr1 HC
              go_wp2_with (fail)
              go_roundg (4 - (i + 1))
              case measure => have := HG.out; omega
              case rel => exact ⟨i + 1, r * 64 + x - 128, by omega, by omega, rfl, by first | rfl | go_num, by go_num, rfl, by omega, hr3, HC2⟩
        · have ein : i = 4 := by omega
          subst ein
          have hc : contR (b0 - 240) ((b.drop 1).take (4 - 1)) = some r := by rw [HC.out]; simp [contR]
          have hx : nextR b = if mayR r = true ∧ (encR r).length = 4 then (r, 4) else (0, 0) := by
            rw [he, headR, if_neg (by have := N.out; omega)]
            simp only [hc]
          have HX := Lib.hid hx
          clear hx he hc HC hr1 hlt hi hi1
          cases hm : mayR r with
          | false =>
            have HM := Lib.hid hm
            go_wp2_with (go_at_call 81; refine (refMay_any r w).mono ?_; rintro e w2 ⟨rfl, rfl⟩; rw [HM.out])
            refine bodyPost_ret (v := .tuple #[.int .i32 0, .int .i64 0]) (by simp [results, Tryd.results74, go_sem]) rfl ?_
            exact ⟨by rw [HX.out, HM.out]; rfl, Below.refl _ _⟩
          | true =>
            have HM := Lib.hid hm
            have hhi := (mayR_le hm).2
            clear hm
            go_wp2_with (first
              | (go_at_call 81; refine (refMay_any r w).mono ?_; rintro e w2 ⟨rfl, rfl⟩; rw [HM.out])
              | (go_at_call 82; refine Hid.out ?_))
            refine Lib.hid ?_
            refine (one_any r w hr0 hhi).mono ?_
            rintro e w2 ⟨A2, c2, rfl, rr, y⟩
            obtain ⟨q, hq⟩ : ∃ q, q = (encR r).length := ⟨_, rfl⟩
            rw [← hq]
            have HQ := Lib.hid hq
            clear hq rr
            by_cases hqk : (q : Int) = 4
            · have hx : nextR b = (r, 4) := by rw [HX.out, if_pos ⟨HM.out, by rw [← HQ.out]; omega⟩]
              have HX2 := Lib.hid hx
              clear hx
              go_wp2_with (fail)
              refine bodyPost_ret (v := .tuple #[.int .i32 r, .int .i64 4]) (by simp [results, Tryd.results74, go_sem]) rfl ?_
              exact ⟨by rw [HX2.out]; rfl, y⟩
            · have hx : nextR b = (0, 0) := by rw [HX.out, if_neg (by rw [← HQ.out]; omega)]
              have HX2 := Lib.hid hx
              clear hx
              go_wp2_with (fail)
              refine bodyPost_ret (v := .tuple #[.int .i32 0, .int .i64 0]) (by simp [results, Tryd.results74, go_sem]) rfl ?_
              exact ⟨by rw [HX2.out]; rfl, y⟩
  · rw [if_neg h1] at he
    by_cases h2 : 224 ≤ b0
    · rw [if_pos h2] at he
      by_cases hk : (n : Int) < 3
      · have hx : nextR b = (0, 0) := by rw [he, headR, if_pos (by have := N.out; omega)]
        have HX := Lib.hid hx
        clear hx he
        go_enter Tryd.func74, Tryd.ntmps74
        go_wp2_with (fail)
        refine bodyPost_ret (v := .tuple #[.int .i32 0, .int .i64 0]) (by simp [results, Tryd.results74, go_sem]) rfl ?_
        exact ⟨by rw [HX.out]; rfl, Below.refl _ _⟩
      · go_enter Tryd.func74, Tryd.ntmps74
        have hw1 : IntKind.i32.wrap b0 = b0 := IntWalk.i32_in _ (by omega)
        go_wp2_with (fail)
        clear hw1
        go_loopg [5, 6] (3 - 1) (fun g rv iv wr => ∃ (i : Nat) (r : Int), 1 ≤ i ∧ i ≤ 3 ∧ g = 3 - i ∧ rv = .int .i32 r ∧ iv = .int .i64 (i : Int) ∧ w = wr ∧ 0 ≤ r ∧ r < 128 * 64 ^ (i - 1) ∧ Hid (contR (b0 - 224) ((b.drop 1).take (3 - 1)) = contR r ((b.drop i).take (3 - i))))
        case atStart => exact ⟨1, b0 - 224, by omega, by omega, rfl, rfl, rfl, rfl, by omega, by simp; omega, Lib.hid rfl⟩
        case round =>
          obtain ⟨i, r, hi1, hi, hg, rfl, rfl, rfl, hr0, hr1, HC⟩ := hrel
          have HG := Lib.hid hg
          clear hg
          by_cases hlt : i < 3
          · have hr2 : r ≤ 524287 := by
              have : i = 1 ∨ i = 2 ∨ i = 3 := by omega
              rcases this with rfl | rfl | rfl <;> simp at hr1 <;> omega
            obtain ⟨ad', x, ea, _, hdx, hbx, hcx⟩ := h.el (i := i) (by have := N.out; omega)
            injection ea with ea
            subst ea
            have x0 : w.cell? (ad.add i) = some (.int .u8 x) := by have := hcx 0 _ rfl; simpa [add_zero'] using this
            have hxlo := (hu x (List.mem_of_getElem? hbx)).1
            have hxhi := (hu x (List.mem_of_getElem? hbx)).2
            have hil : i < n := by omega
            have e1 : (b.drop i).take (3 - i) = x :: (b.drop (i + 1)).take (3 - (i + 1)) := by
              rw [hdx, show 3 - i = (3 - (i + 1)) + 1 by omega, List.take_succ_cons]
            rw [e1] at HC
            clear e1 hcx hdx
            by_cases hx1 : x < 128
            · have hx : nextR b = (0, 0) := by
                have t := HC.out
                rw [contR, if_neg (by omega)] at t
                rw [he, headR, if_neg (by have := N.out; omega)]
                simp only [t]
              have HX := Lib.hid hx
              clear hx he
              go_wp2_with (fail)
              refine bodyPost_ret (v := .tuple #[.int .i32 0, .int .i64 0]) (by simp [results, Tryd.results74, go_sem]) rfl ?_
              exact ⟨by rw [HX.out]; rfl, Below.refl _ _⟩
            · by_cases hx2 : 191 < x
              · have hx : nextR b = (0, 0) := by
                  have t := HC.out
                  rw [contR, if_neg (by omega)] at t
                  rw [he, headR, if_neg (by have := N.out; omega)]
                  simp only [t]
                have HX := Lib.hid hx
                clear hx he
                go_wp2_with (fail)
                refine bodyPost_ret (v := .tuple #[.int .i32 0, .int .i64 0]) (by simp [results, Tryd.results74, go_sem]) rfl ?_
                exact ⟨by rw [HX.out]; rfl, Below.refl _ _⟩
              · have HE := Lib.hid he
                clear he
                have HC2 : Hid (contR (b0 - 224) ((b.drop 1).take (3 - 1)) = contR (r * 64 + x - 128) ((b.drop (i + 1)).take (3 - (i + 1)))) := Lib.hid (by have t := HC.out; rwa [contR, if_pos (by omega)] at t)
                have hr3 : r * 64 + x - 128 < 128 * 64 ^ (i + 1 - 1) := by
                  have : i = 1 ∨ i = 2 ∨ i = 3 := by omega
                  rcases this with rfl | rfl | rfl <;> simp at hr1 ⊢ <;> omega
                clear hr1 HC
                go_wp2_with (fail)
                go_roundg (3 - (i + 1))
                case measure => have := HG.out; omega
                case rel => exact ⟨i + 1, r * 64 + x - 128, by omega, by omega, rfl, by first | rfl | go_num, by go_num, rfl, by omega, hr3, HC2⟩
          · have ein : i = 3 := by omega
            subst ein
            have hc : contR (b0 - 224) ((b.drop 1).take (3 - 1)) = some r := by rw [HC.out]; simp [contR]
            have hx : nextR b = if mayR r = true ∧ (encR r).length = 3 then (r, 3) else (0, 0) := by
              rw [he, headR, if_neg (by have := N.out; omega)]
              simp only [hc]
            have HX := Lib.hid hx
            clear hx he hc HC hr1 hlt hi hi1
            cases hm : mayR r with
            | false =>
              have HM := Lib.hid hm
              go_wp2_with (go_at_call 81; refine (refMay_any r w).mono ?_; rintro e w2 ⟨rfl, rfl⟩; rw [HM.out])
              refine bodyPost_ret (v := .tuple #[.int .i32 0, .int .i64 0]) (by simp [results, Tryd.results74, go_sem]) rfl ?_
              exact ⟨by rw [HX.out, HM.out]; rfl, Below.refl _ _⟩
            | true =>
              have HM := Lib.hid hm
              have hhi := (mayR_le hm).2
              clear hm
              go_wp2_with (first
                | (go_at_call 81; refine (refMay_any r w).mono ?_; rintro e w2 ⟨rfl, rfl⟩; rw [HM.out])
                | (go_at_call 82; refine Hid.out ?_))
              refine Lib.hid ?_
              refine (one_any r w hr0 hhi).mono ?_
              rintro e w2 ⟨A2, c2, rfl, rr, y⟩
              obtain ⟨q, hq⟩ : ∃ q, q = (encR r).length := ⟨_, rfl⟩
              rw [← hq]
              have HQ := Lib.hid hq
              clear hq rr
              by_cases hqk : (q : Int) = 3
              · have hx : nextR b = (r, 3) := by rw [HX.out, if_pos ⟨HM.out, by rw [← HQ.out]; omega⟩]
                have HX2 := Lib.hid hx
                clear hx
                go_wp2_with (fail)
                refine bodyPost_ret (v := .tuple #[.int .i32 r, .int .i64 3]) (by simp [results, Tryd.results74, go_sem]) rfl ?_
                exact ⟨by rw [HX2.out]; rfl, y⟩
              · have hx : nextR b = (0, 0) := by rw [HX.out, if_neg (by rw [← HQ.out]; omega)]
                have HX2 := Lib.hid hx
                clear hx
                go_wp2_with (fail)
                refine bodyPost_ret (v := .tuple #[.int .i32 0, .int .i64 0]) (by simp [results, Tryd.results74, go_sem]) rfl ?_
                exact ⟨by rw [HX2.out]; rfl, y⟩
    · rw [if_neg h2] at he
      by_cases h3 : 192 ≤ b0
      · rw [if_pos h3] at he
        by_cases hk : (n : Int) < 2
        · have hx : nextR b = (0, 0) := by rw [he, headR, if_pos (by have := N.out; omega)]
          have HX := Lib.hid hx
          clear hx he
          go_enter Tryd.func74, Tryd.ntmps74
          go_wp2_with (fail)
          refine bodyPost_ret (v := .tuple #[.int .i32 0, .int .i64 0]) (by simp [results, Tryd.results74, go_sem]) rfl ?_
          exact ⟨by rw [HX.out]; rfl, Below.refl _ _⟩
        · go_enter Tryd.func74, Tryd.ntmps74
          have hw1 : IntKind.i32.wrap b0 = b0 := IntWalk.i32_in _ (by omega)
          go_wp2_with (fail)
          clear hw1
          go_loopg [5, 6] (2 - 1) (fun g rv iv wr => ∃ (i : Nat) (r : Int), 1 ≤ i ∧ i ≤ 2 ∧ g = 2 - i ∧ rv = .int .i32 r ∧ iv = .int .i64 (i : Int) ∧ w = wr ∧ 0 ≤ r ∧ r < 128 * 64 ^ (i - 1) ∧ Hid (contR (b0 - 192) ((b.drop 1).take (2 - 1)) = contR r ((b.drop i).take (2 - i))))
          case atStart => exact ⟨1, b0 - 192, by omega, by omega, rfl, rfl, rfl, rfl, by omega, by simp; omega, Lib.hid rfl⟩
          case round =>
            obtain ⟨i, r, hi1, hi, hg, rfl, rfl, rfl, hr0, hr1, HC⟩ := hrel
            have HG := Lib.hid hg
            clear hg
            by_cases hlt : i < 2
            · have hr2 : r ≤ 524287 := by
                have : i = 1 ∨ i = 2 ∨ i = 3 := by omega
                rcases this with rfl | rfl | rfl <;> simp at hr1 <;> omega
              obtain ⟨ad', x, ea, _, hdx, hbx, hcx⟩ := h.el (i := i) (by have := N.out; omega)
              injection ea with ea
              subst ea
              have x0 : w.cell? (ad.add i) = some (.int .u8 x) := by have := hcx 0 _ rfl; simpa [add_zero'] using this
              have hxlo := (hu x (List.mem_of_getElem? hbx)).1
              have hxhi := (hu x (List.mem_of_getElem? hbx)).2
              have hil : i < n := by omega
              have e1 : (b.drop i).take (2 - i) = x :: (b.drop (i + 1)).take (2 - (i + 1)) := by
                rw [hdx, show 2 - i = (2 - (i + 1)) + 1 by omega, List.take_succ_cons]
              rw [e1] at HC
              clear e1 hcx hdx
              by_cases hx1 : x < 128
              · have hx : nextR b = (0, 0) := by
                  have t := HC.out
                  rw [contR, if_neg (by omega)] at t
                  rw [he, headR, if_neg (by have := N.out; omega)]
                  simp only [t]
                have HX := Lib.hid hx
                clear hx he
                go_wp2_with (fail)
                refine bodyPost_ret (v := .tuple #[.int .i32 0, .int .i64 0]) (by simp [results, Tryd.results74, go_sem]) rfl ?_
                exact ⟨by rw [HX.out]; rfl, Below.refl _ _⟩
              · by_cases hx2 : 191 < x
                · have hx : nextR b = (0, 0) := by
                    have t := HC.out
                    rw [contR, if_neg (by omega)] at t
                    rw [he, headR, if_neg (by have := N.out; omega)]
                    simp only [t]
                  have HX := Lib.hid hx
                  clear hx he
                  go_wp2_with (fail)
                  refine bodyPost_ret (v := .tuple #[.int .i32 0, .int .i64 0]) (by simp [results, Tryd.results74, go_sem]) rfl ?_
                  exact ⟨by rw [HX.out]; rfl, Below.refl _ _⟩
                · have HE := Lib.hid he
                  clear he
                  have HC2 : Hid (contR (b0 - 192) ((b.drop 1).take (2 - 1)) = contR (r * 64 + x - 128) ((b.drop (i + 1)).take (2 - (i + 1)))) := Lib.hid (by have t := HC.out; rwa [contR, if_pos (by omega)] at t)
                  have hr3 : r * 64 + x - 128 < 128 * 64 ^ (i + 1 - 1) := by
                    have : i = 1 ∨ i = 2 ∨ i = 3 := by omega
                    rcases this with rfl | rfl | rfl <;> simp at hr1 ⊢ <;> omega
                  clear hr1 HC
                  go_wp2_with (fail)
                  go_roundg (2 - (i + 1))
                  case measure => have := HG.out; omega
                  case rel => exact ⟨i + 1, r * 64 + x - 128, by omega, by omega, rfl, by first | rfl | go_num, by go_num, rfl, by omega, hr3, HC2⟩
            · have ein : i = 2 := by omega
              subst ein
              have hc : contR (b0 - 192) ((b.drop 1).take (2 - 1)) = some r := by rw [HC.out]; simp [contR]
              have hx : nextR b = if mayR r = true ∧ (encR r).length = 2 then (r, 2) else (0, 0) := by
                rw [he, headR, if_neg (by have := N.out; omega)]
                simp only [hc]
              have HX := Lib.hid hx
              clear hx he hc HC hr1 hlt hi hi1
              cases hm : mayR r with
              | false =>
                have HM := Lib.hid hm
                go_wp2_with (go_at_call 81; refine (refMay_any r w).mono ?_; rintro e w2 ⟨rfl, rfl⟩; rw [HM.out])
                refine bodyPost_ret (v := .tuple #[.int .i32 0, .int .i64 0]) (by simp [results, Tryd.results74, go_sem]) rfl ?_
                exact ⟨by rw [HX.out, HM.out]; rfl, Below.refl _ _⟩
              | true =>
                have HM := Lib.hid hm
                have hhi := (mayR_le hm).2
                clear hm
                go_wp2_with (first
                  | (go_at_call 81; refine (refMay_any r w).mono ?_; rintro e w2 ⟨rfl, rfl⟩; rw [HM.out])
                  | (go_at_call 82; refine Hid.out ?_))
                refine Lib.hid ?_
                refine (one_any r w hr0 hhi).mono ?_
                rintro e w2 ⟨A2, c2, rfl, rr, y⟩
                obtain ⟨q, hq⟩ : ∃ q, q = (encR r).length := ⟨_, rfl⟩
                rw [← hq]
                have HQ := Lib.hid hq
                clear hq rr
                by_cases hqk : (q : Int) = 2
                · have hx : nextR b = (r, 2) := by rw [HX.out, if_pos ⟨HM.out, by rw [← HQ.out]; omega⟩]
                  have HX2 := Lib.hid hx
                  clear hx
                  go_wp2_with (fail)
                  refine bodyPost_ret (v := .tuple #[.int .i32 r, .int .i64 2]) (by simp [results, Tryd.results74, go_sem]) rfl ?_
                  exact ⟨by rw [HX2.out]; rfl, y⟩
                · have hx : nextR b = (0, 0) := by rw [HX.out, if_neg (by rw [← HQ.out]; omega)]
                  have HX2 := Lib.hid hx
                  clear hx
                  go_wp2_with (fail)
                  refine bodyPost_ret (v := .tuple #[.int .i32 0, .int .i64 0]) (by simp [results, Tryd.results74, go_sem]) rfl ?_
                  exact ⟨by rw [HX2.out]; rfl, y⟩
      · rw [if_neg h3] at he
        by_cases h4 : 128 ≤ b0
        · rw [if_pos h4] at he
          have HX := Lib.hid he
          clear he
          go_enter Tryd.func74, Tryd.ntmps74
          go_wp2_with (fail)
          refine bodyPost_ret (v := .tuple #[.int .i32 0, .int .i64 0]) (by simp [results, Tryd.results74, go_sem]) rfl ?_
          exact ⟨by rw [HX.out]; rfl, Below.refl _ _⟩
        · rw [if_neg h4] at he
          by_cases hk : (n : Int) < 1
          · have hx : nextR b = (0, 0) := by rw [he, headR, if_pos (by have := N.out; omega)]
            have HX := Lib.hid hx
            clear hx he
            go_enter Tryd.func74, Tryd.ntmps74
            go_wp2_with (fail)
            refine bodyPost_ret (v := .tuple #[.int .i32 0, .int .i64 0]) (by simp [results, Tryd.results74, go_sem]) rfl ?_
            exact ⟨by rw [HX.out]; rfl, Below.refl _ _⟩
          · go_enter Tryd.func74, Tryd.ntmps74
            have hw1 : IntKind.i32.wrap b0 = b0 := IntWalk.i32_in _ (by omega)
            go_wp2_with (fail)
            clear hw1
            go_loopg [5, 6] (1 - 1) (fun g rv iv wr => ∃ (i : Nat) (r : Int), 1 ≤ i ∧ i ≤ 1 ∧ g = 1 - i ∧ rv = .int .i32 r ∧ iv = .int .i64 (i : Int) ∧ w = wr ∧ 0 ≤ r ∧ r < 128 * 64 ^ (i - 1) ∧ Hid (contR b0 ((b.drop 1).take (1 - 1)) = contR r ((b.drop i).take (1 - i))))
            case atStart => exact ⟨1, b0, by omega, by omega, rfl, rfl, rfl, rfl, by omega, by simp; omega, Lib.hid rfl⟩
            case round =>
              obtain ⟨i, r, hi1, hi, hg, rfl, rfl, rfl, hr0, hr1, HC⟩ := hrel
              have HG := Lib.hid hg
              clear hg
              by_cases hlt : i < 1
              · omega
              · have ein : i = 1 := by omega
                subst ein
                have hc : contR b0 ((b.drop 1).take (1 - 1)) = some r := by rw [HC.out]; simp [contR]
                have hx : nextR b = if mayR r = true ∧ (encR r).length = 1 then (r, 1) else (0, 0) := by
                  rw [he, headR, if_neg (by have := N.out; omega)]
                  simp only [hc]
                have HX := Lib.hid hx
                clear hx he hc HC hr1 hlt hi hi1
                cases hm : mayR r with
                | false =>
                  have HM := Lib.hid hm
                  go_wp2_with (go_at_call 81; refine (refMay_any r w).mono ?_; rintro e w2 ⟨rfl, rfl⟩; rw [HM.out])
                  refine bodyPost_ret (v := .tuple #[.int .i32 0, .int .i64 0]) (by simp [results, Tryd.results74, go_sem]) rfl ?_
                  exact ⟨by rw [HX.out, HM.out]; rfl, Below.refl _ _⟩
                | true =>
                  have HM := Lib.hid hm
                  have hhi := (mayR_le hm).2
                  clear hm
                  go_wp2_with (first
                    | (go_at_call 81; refine (refMay_any r w).mono ?_; rintro e w2 ⟨rfl, rfl⟩; rw [HM.out])
                    | (go_at_call 82; refine Hid.out ?_))
                  refine Lib.hid ?_
                  refine (one_any r w hr0 hhi).mono ?_
                  rintro e w2 ⟨A2, c2, rfl, rr, y⟩
                  obtain ⟨q, hq⟩ : ∃ q, q = (encR r).length := ⟨_, rfl⟩
                  rw [← hq]
                  have HQ := Lib.hid hq
                  clear hq rr
                  by_cases hqk : (q : Int) = 1
                  · have hx : nextR b = (r, 1) := by rw [HX.out, if_pos ⟨HM.out, by rw [← HQ.out]; omega⟩]
                    have HX2 := Lib.hid hx
                    clear hx
                    go_wp2_with (fail)
                    refine bodyPost_ret (v := .tuple #[.int .i32 r, .int .i64 1]) (by simp [results, Tryd.results74, go_sem]) rfl ?_
                    exact ⟨by rw [HX2.out]; rfl, y⟩
                  · have hx : nextR b = (0, 0) := by rw [HX.out, if_neg (by rw [← HQ.out]; omega)]
                    have HX2 := Lib.hid hx
                    clear hx
                    go_wp2_with (fail)
                    refine bodyPost_ret (v := .tuple #[.int .i32 0, .int .i64 0]) (by simp [results, Tryd.results74, go_sem]) rfl ?_
                    exact ⟨by rw [HX2.out]; rfl, y⟩
end Go.Proofs.YtclfplpggmefjaaDoor
