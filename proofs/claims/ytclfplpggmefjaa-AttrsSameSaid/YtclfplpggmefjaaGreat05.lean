/- The walk of the bound of the statements of layer 5: it changes nothing; false bounds the list. -/
import Derived.Test.YtclfplpggmefjaaReads
namespace Go.Proofs.Ytclfplpggmefjaa
open Go.RowKit
set_option linter.unusedVariables false
set_option linter.unusedSimpArgs false

set_option maxRecDepth 100000 in
set_option maxHeartbeats 800000 in
theorem great05_any (A : Option Addr) (n c : Nat) (l : List At) (w : World) (hn : n = l.length) (h : RdAt w w.heap.size A l) (hb : n ≤ 9223372036854775807) :
    Calls Try.prog 20 #[.slice A n c] w fun e w' => ∃ b : Bool, e = .returned (.bool b) ∧ (b = false → n ≤ 100) ∧ w = w' := by
  have N := Lib.hid hn
  clear hn
  go_enter Try.func20, Try.ntmps20
  go_wp2_with (fail)
  go_loopg [6] n (fun g iv wr => ∃ (i : Nat), i ≤ n ∧ g = n - i ∧ iv = .int .i64 i ∧ w = wr)
  case atStart => exact ⟨0, by omega, rfl, rfl, rfl⟩
  case round =>
    obtain ⟨i, hi, hg, rfl, rfl⟩ := hrel
    have HG := Lib.hid hg
    clear hg
    by_cases hlt : i < n
    · obtain ⟨ad, a, rfl, _, _, _, hc1⟩ := h.el (i := i) (by have := N.out; omega)
      obtain ⟨x1, x2, x3, x4, x5⟩ := a
      obtain ⟨r0, r1, r2, r3, r4⟩ := at_cells hc1
      have HC := Lib.hid hc1
      clear hc1
      by_cases hs : (200 : Int) < x5.size
      · go_wp2_with (fail)
        go_ret
        exact ⟨true, rfl, fun h => (by cases h), rfl⟩
      · go_wp2_with (fail)
        go_roundg (n - (i + 1))
        case measure => have := HG.out; omega
        case rel => exact ⟨i + 1, by omega, rfl, by go_num, rfl⟩
    · go_wp2_with (fail)
      go_ret
      exact ⟨_, rfl, fun h => (by simp at h; omega), rfl⟩
end Go.Proofs.Ytclfplpggmefjaa
