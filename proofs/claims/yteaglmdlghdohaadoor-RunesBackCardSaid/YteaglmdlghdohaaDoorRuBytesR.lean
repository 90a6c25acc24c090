/- The walk of runes.Bytes. -/
import Derived.Test.YteaglmdlghdohaaDoorRuAppend
namespace Go.Proofs.YteaglmdlghdohaaDoor
open Go.RowKit
set_option linter.unusedVariables false
set_option linter.unusedSimpArgs false

set_option maxHeartbeats 800000 in
theorem bytes_any (A : Option Addr) (n c : Nat) (l : List Int) (w : World) (hn : n = l.length) (h : RdI32 w w.heap.size A l) (hb : n ≤ 100000000) :
    Calls Tryd.prog 8 #[.slice A n c] w (BytesOut l w) := by
  have N := Lib.hid hn
  clear hn
  go_enter Tryd.func8, Tryd.ntmps8
  go_wp2_with (fail)
  go_loopg [4, 9] n (fun g bv iv wr => ∃ (i : Nat) (w1 : World) (b : List Int) (bs : Value), i ≤ n ∧ g = n - i ∧ iv = .int .i64 (i : Int) ∧ w1 = wr ∧ bs = bv ∧ Hid (b = bytesR (l.take i)) ∧ Hid (okR (l.take i) = true) ∧ OwU8 w1 w.heap.size bs b ∧ Below w.heap.size w w1)
  case atStart => exact ⟨0, w, [], _, by omega, rfl, rfl, rfl, rfl, Lib.hid (by simp [bytesR]), Lib.hid (by simp [okR]), Ow.nil _ _, Below.refl _ _⟩
  case round =>
    obtain ⟨i, w1, b, bs, hi, hg, rfl, rfl, rfl, HB, HO, hown, hx⟩ := hrel
    have HG := Lib.hid hg
    clear hg
    have hbl : b.length ≤ 400000000 := by
      have t := bytesR_len (l.take i)
      rw [← HB.out, List.length_take] at t
      have := N.out
      omega
    by_cases hlt : i < n
    · have r1 := h.ext hx
      obtain ⟨ad, r, rfl, _, _, hri, hc1⟩ := r1.el (i := i) (by have := N.out; omega)
      have HRI := Lib.hid hri
      have r0 : w1.cell? (ad.add (i * 1)) = some (.int .i32 r) := by have := hc1 0 _ rfl; rwa [add_zero'] at this
      rw [Nat.mul_one] at r0
      clear hc1 hri
      cases hm : mayR r with
      | false =>
        have HM := Lib.hid (okR_not HRI.out hm)
        go_wp2_with (go_at_call 13; refine (may_any r w1).mono ?_; rintro e w2 ⟨rfl, rfl⟩; rw [hm])
        refine bodyPost_ret (v := .tuple #[.slice none 0 0, .int .i64 3]) (by simp [results, Tryd.results8, go_sem]) rfl ?_
        exact ⟨.slice none 0 0, by rw [if_neg (by rw [HM.out]; simp)], by rw [if_neg (by rw [HM.out]; simp)]; exact Ow.nil _ _, hx⟩
      | true =>
        have HO1 : Hid (okR (l.take (i + 1)) = true) := Lib.hid (by rw [okR_take HRI.out, HO.out, hm]; rfl)
        have HB1 : Hid (b ++ encR r = bytesR (l.take (i + 1))) := Lib.hid (by rw [bytesR_take HRI.out, HB.out])
        go_wp2_with (first
          | (go_at_call 13; refine (may_any r w1).mono ?_; rintro e w2 ⟨rfl, rfl⟩; rw [hm])
          | (go_at_call 17; refine Hid.out ?_))
        refine Lib.hid ?_
        refine (appendRune_any bs b w.heap.size r w1 hown hx.size hbl hm).mono ?_
        rintro e w' ⟨v', rfl, hown', y⟩
        have hx3 : Below w.heap.size w w' := hx.trans y
        clear hm y
        go_wp2_with (fail)
        go_roundg (n - (i + 1))
        case measure => have := HG.out; omega
        case rel => exact ⟨i + 1, w', _, _, by omega, rfl, by go_num, rfl, rfl, HB1, HO1, hown', hx3⟩
    · have e : l.take i = l := List.take_of_length_le (by have := N.out; omega)
      have HB1 : Hid (b = bytesR l) := Lib.hid (by rw [HB.out, e])
      have HO1 : Hid (okR l = true) := Lib.hid (by rw [← HO.out, e])
      clear e HB HO
      go_wp2_with (fail)
      refine bodyPost_ret (v := .tuple #[bs, .int .i64 0]) (by simp [results, Tryd.results8, go_sem]) rfl ?_
      exact ⟨bs, by rw [if_pos HO1.out], by rw [if_pos HO1.out, ← HB1.out]; exact hown, hx⟩
end Go.Proofs.YteaglmdlghdohaaDoor
