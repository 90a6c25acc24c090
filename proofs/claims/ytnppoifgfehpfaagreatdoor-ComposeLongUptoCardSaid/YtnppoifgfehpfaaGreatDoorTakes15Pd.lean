/- The walk of rubricref15.Takes. -/
import Derived.Test.YtnppoifgfehpfaaGreatDoorPk6
namespace Go.Proofs.YtnppoifgfehpfaaGreatDoor
open Go.RowKit
set_option linter.unusedVariables false
set_option linter.unusedSimpArgs false

set_option maxRecDepth 100000 in
set_option maxHeartbeats 800000 in
theorem takes15_any (A : Option Addr) (n c : Nat) (x : List OpS) (w : World) (hn : n = x.length) (h : RdOs w w.heap.size A x) (hb : n ≤ 140737488355328) :
    Calls Tryz.prog 29 #[.slice A n c] w fun e w' => e = .returned (.int .i64 (takesP x)) ∧ ∃ d, w' = w.drewN d := by
  have N := Lib.hid hn
  obtain ⟨R, hR⟩ : ∃ X, takesP x = X := ⟨_, rfl⟩
  rw [hR]
  unfold takesP at hR
  have HR := Lib.hid hR
  clear hn hR
  go_enter Tryz.func29, Tryz.ntmps29
  go_wp2_with (fail)
  go_loopg [3, 4] n (fun g av iv wr => ∃ (m : Nat) (a : Int), m ≤ n ∧ g = n - m ∧ av = .int .i64 a ∧ iv = .int .i64 (m : Int) ∧ (∃ d, wr = w.drewN d) ∧ Hid ((x.drop m).foldl takeStep a = R))
  case atStart => exact ⟨0, 0, by omega, rfl, rfl, rfl, ⟨0, rfl⟩, HR⟩
  case round =>
    obtain ⟨m, a, hm, hg, rfl, rfl, ⟨d, rfl⟩, HI⟩ := hrel
    have HG := Lib.hid hg
    clear hg
    by_cases hlt : m < n
    · have hl1 : m < x.length := by have := N.out; omega
      obtain ⟨ad, o, had0, had, hd1, hx1, hc0⟩ := h.el hl1
      subst had0
      have HD : Hid (x.drop m = o :: x.drop (m + 1)) := Lib.hid (by rw [List.drop_eq_getElem_cons hl1]; rw [List.getElem?_eq_getElem hl1] at hx1; injection hx1 with hx1; rw [hx1])
      obtain ⟨⟨k, nn, r, s, p⟩, Ar, cr, As, cs, Ap, cp⟩ := o
      obtain ⟨r0, r1, r2, r3, r4⟩ := op_cells hc0
      have hw2 : IntKind.i64.wrap ((m:Int) + 1) = (m : Int) + 1 := IntWalk.i64_in _ (by omega)
      clear hc0 hd1 hx1
      by_cases hk : k = 2
      · subst hk
        have HI2 : Hid ((x.drop (m + 1)).foldl takeStep a = R) := Lib.hid (by have := HI.out; rw [HD.out, List.foldl_cons] at this; simpa [takeStep] using this)
        go_wp2_with (fail)
        go_roundg (n - (m + 1))
        case measure => have := HG.out; omega
        case rel => exact ⟨m + 1, a, by omega, rfl, rfl, by go_num, ⟨_, rfl⟩, HI2⟩
      · have hk' : (k == 2) = false := beq_eq_false_iff_ne.2 hk
        obtain ⟨W, hW⟩ : ∃ W, IntKind.i64.wrap (a + nn) = W := ⟨_, rfl⟩
        have HI2 : Hid ((x.drop (m + 1)).foldl takeStep W = R) := Lib.hid (by
          have := HI.out
          rw [HD.out, List.foldl_cons] at this
          have e : takeStep a ⟨⟨k, nn, r, s, p⟩, Ar, cr, As, cs, Ap, cp⟩ = W := by unfold takeStep; rw [if_neg hk]; exact hW
          rwa [e] at this)
        go_wp2_with (fail)
        go_roundg (n - (m + 1))
        case measure => have := HG.out; omega
        case rel => exact ⟨m + 1, W, by omega, rfl, by first | rfl | (rw [← hW]; rfl), by go_num, ⟨_, rfl⟩, HI2⟩
    · have HI9 : Hid (a = R) := Lib.hid (by have := HI.out; rwa [List.drop_of_length_le (by have := N.out; omega)] at this)
      have e := HI9.out
      clear HI HI9
      go_wp2_with (fail)
      go_ret
      subst e
      exact ⟨rfl, _, rfl⟩
end Go.Proofs.YtnppoifgfehpfaaGreatDoor
