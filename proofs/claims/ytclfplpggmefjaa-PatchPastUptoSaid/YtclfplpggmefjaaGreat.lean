/- The walk of the bound of the statements of layer 6: it answers a bool and changes nothing. -/
import Derived.Test.YtclfplpggmefjaaReads
namespace Go.Proofs.Ytclfplpggmefjaa
open Go.RowKit
set_option linter.unusedVariables false
set_option linter.unusedSimpArgs false

/-- a slice of attributes as a value -/
structure SA where
  A : Option Addr
  c : Nat
  l : List At
def SA.enc (s : SA) : List Value := [.slice s.A s.l.length s.c]

set_option maxRecDepth 100000 in
set_option maxHeartbeats 800000 in
theorem great_any (A1 A2 : Option Addr) (n1 n2 c1 c2 : Nat) (l : List Ch) (ss : List SA) (w : World) (hn1 : n1 = l.length) (hn2 : n2 = ss.length)
    (h1 : RdCh w w.heap.size A1 l) (h2 : Rd SA.enc 1 w w.heap.size A2 ss) (hs : ∀ s ∈ ss, RdAt w w.heap.size s.A s.l) (hsb : ∀ s ∈ ss, s.l.length ≤ 140737488355328)
    (hb1 : n1 ≤ 140737488355328) (hb2 : n2 ≤ 140737488355328) :
    Calls Try.prog 8 #[.slice A1 n1 c1, .slice A2 n2 c2] w fun e w' => ∃ b : Bool, e = .returned (.bool b) ∧ w = w' := by
  have N1 := Lib.hid hn1
  have N2 := Lib.hid hn2
  have HS := Lib.hid hs
  have HSB := Lib.hid hsb
  clear hn1 hn2 hs hsb
  go_enter Try.func8, Try.ntmps8
  go_wp2_with (fail)
  go_loopg [5, 13] n1 (fun g nv iv wr => ∃ (x : Int) (i : Nat), i ≤ n1 ∧ g = n1 - i ∧ nv = .int .i64 x ∧ iv = .int .i64 i ∧ w = wr)
  case atStart => exact ⟨_, 0, by omega, rfl, rfl, rfl, rfl⟩
  case round =>
    obtain ⟨x, i, hi, hg, rfl, rfl, rfl⟩ := hrel
    have HG := Lib.hid hg
    clear hg
    by_cases hlt : i < n1
    · obtain ⟨ad, a, rfl, _, _, _, hc1⟩ := h1.el (i := i) (by have := N1.out; omega)
      obtain ⟨x1, x6, x2, x3, x4, x5⟩ := a
      obtain ⟨r0, r1, r2, r3, r4, r5⟩ := ch_cells hc1
      go_wp2_with (go_quiet (fail))
      go_roundg (n1 - (i + 1))
      case measure => have := HG.out; omega
      case rel => exact ⟨_, i + 1, by omega, rfl, rfl, by go_num, rfl⟩
    · go_wp2_with (fail)
      clear HG hlt hi
      go_loopg [5, 28] n2 (fun g nv iv wr => ∃ (x : Int) (i : Nat), i ≤ n2 ∧ g = n2 - i ∧ nv = .int .i64 x ∧ iv = .int .i64 i ∧ w = wr)
      case atStart => exact ⟨_, 0, by omega, rfl, rfl, rfl, rfl⟩
      case round =>
        obtain ⟨x, j, hj, hg, rfl, rfl, rfl⟩ := hrel
        have HG := Lib.hid hg
        clear hg
        by_cases hlt : j < n2
        · obtain ⟨ad2, s, rfl, _, _, hsj, hc2⟩ := h2.el (i := j) (by have := N2.out; omega)
          have hmem := List.mem_of_getElem? hsj
          have hrs := HS.out s hmem
          have hbs := HSB.out s hmem
          obtain ⟨A3, c3, k⟩ := s
          simp only at hrs hbs
          have q0 : w.cell? (ad2.add (j * 1)) = some (.slice A3 k.length c3) := by have := hc2 0 _ rfl; rwa [add_zero'] at this
          rw [Nat.mul_one] at q0
          obtain ⟨n3, hn3⟩ : ∃ n3, n3 = k.length := ⟨_, rfl⟩
          rw [← hn3] at q0 hbs
          have N3 := Lib.hid hn3
          clear hn3 hsj hc2 hmem
          go_wp2_with (fail)
          go_loopg [5, 43] n3 (fun g nv iv wr => ∃ (x : Int) (i : Nat), i ≤ n3 ∧ g = n3 - i ∧ nv = .int .i64 x ∧ iv = .int .i64 i ∧ w = wr)
          case atStart => exact ⟨_, 0, by omega, rfl, rfl, rfl, rfl⟩
          case round =>
            obtain ⟨x, i, hi, hg, rfl, rfl, rfl⟩ := hrel
            have HG3 := Lib.hid hg
            clear hg
            by_cases hlt3 : i < n3
            · obtain ⟨ad3, a, rfl, _, _, _, hc3⟩ := hrs.el (i := i) (by have := N3.out; omega)
              obtain ⟨x1, x2, x3, x4, x5⟩ := a
              obtain ⟨r0, r1, r2, r3, r4⟩ := at_cells hc3
              go_wp2_with (fail)
              go_roundg (n3 - (i + 1))
              case measure => have := HG3.out; omega
              case rel => exact ⟨_, i + 1, by omega, rfl, rfl, by go_num, rfl⟩
            · go_wp2_with (fail)
              go_roundg (n2 - (j + 1))
              case measure => have := HG.out; omega
              case rel => exact ⟨_, j + 1, by omega, rfl, rfl, by go_num, rfl⟩
        · go_wp2_with (fail)
          all_goals
            go_ret
            exact ⟨_, rfl, rfl⟩
end Go.Proofs.Ytclfplpggmefjaa
