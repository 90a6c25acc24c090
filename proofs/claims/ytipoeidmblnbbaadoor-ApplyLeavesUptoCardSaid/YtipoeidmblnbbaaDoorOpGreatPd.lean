/- The walks of rubricref15.Size and rubriclaw15.great: they answer something and change nothing. -/
import Derived.Test.YtipoeidmblnbbaaDoorPk22
namespace Go.Proofs.YtipoeidmblnbbaaDoor
open Go.RowKit
set_option linter.unusedVariables false
set_option linter.unusedSimpArgs false

set_option maxRecDepth 100000 in
set_option maxHeartbeats 1600000 in
theorem sizeX_any (A : Option Addr) (n c : Nat) (x : List OpS) (w : World) (hn : n = x.length) (h : RdOp w w.heap.size A x) (hb : n ≤ 140737488355328) (ho : ∀ o ∈ x, okOp o.o) :
    Calls Tryd.prog 54 #[.slice A n c] w fun e w' => ∃ v : Int, e = .returned (.int .i64 v) ∧ ∃ d, w' = w.drewN d := by
  have N := Lib.hid hn
  clear hn
  go_enter Tryd.func54, Tryd.ntmps54
  go_wp2_with (fail)
  go_loopg [3, 4] n (fun g av iv wr => ∃ (m : Nat) (a : Int), m ≤ n ∧ g = n - m ∧ av = .int .i64 a ∧ iv = .int .i64 (m : Int) ∧ ∃ d, wr = w.drewN d)
  case atStart => exact ⟨0, 0, by omega, rfl, rfl, rfl, 0, rfl⟩
  case round =>
    obtain ⟨m, a, hm, hg, rfl, rfl, d, rfl⟩ := hrel
    have HG := Lib.hid hg
    clear hg
    by_cases hlt : m < n
    · have hl1 : m < x.length := by have := N.out; omega
      obtain ⟨ad, o, had0, had, hd1, hx1, hc0⟩ := h.1.el hl1
      subst had0
      have hmem := List.mem_of_getElem? hx1
      obtain ⟨q1, q2, q3, q4, q5⟩ := ho o hmem
      obtain ⟨g1, g2, g3⟩ := h.2 o hmem
      obtain ⟨⟨k, nn, r, s, p⟩, Ar, cr, As, cs, Ap, cp⟩ := o
      simp only at g1 g2 g3 q3 q4 q5
      obtain ⟨r0, r1, r2, r3, r4⟩ := op_cells hc0
      obtain ⟨ns, hns⟩ : ∃ X, s.length = X := ⟨_, rfl⟩
      obtain ⟨np, hnp⟩ : ∃ X, p.length = X := ⟨_, rfl⟩
      have NS := Lib.hid hns
      have NP := Lib.hid hnp
      rw [hns] at r3 q4
      rw [hnp] at r4 q5
      have hw2 : IntKind.i64.wrap ((m:Int) + 1) = (m : Int) + 1 := IntWalk.i64_in _ (by omega)
      clear hc0 hd1 hx1 hmem hns hnp
      go_wp2_with (fail)
      go_quiet (fail)
      go_wp2_with (fail)
      go_loopg [3, 5] ns (fun g av iv wi => ∃ (j : Nat) (b : Int), j ≤ ns ∧ g = ns - j ∧ av = .int .i64 b ∧ iv = .int .i64 (j : Int) ∧ ∃ d, wi = w.drewN d)
      case atStart => exact ⟨0, _, by omega, rfl, rfl, rfl, _, (by first | rfl | exact World.drewN_drewN _ _ _)⟩
      case round =>
        obtain ⟨j, b, hj, hg2, rfl, rfl, d2, rfl⟩ := hrel
        have HG2 := Lib.hid hg2
        clear hg2
        by_cases hls : j < ns
        · obtain ⟨ad2, z, e2, _, _, _, hz⟩ := g2.el (i := j) (by have := NS.out; omega)
          subst e2
          obtain ⟨z1, z2, z3, z4, z5⟩ := z
          obtain ⟨s0, s1, s2, s3, s4⟩ := at_cells hz
          have hw3 : IntKind.i64.wrap ((j:Int) + 1) = (j : Int) + 1 := IntWalk.i64_in _ (by omega)
          clear hz
          go_wp2_with (fail)
          go_roundg (ns - (j + 1))
          case measure => have := HG2.out; omega
          case rel => exact ⟨j + 1, _, by omega, rfl, rfl, by go_num, _, rfl⟩
        · go_wp2_with (fail)
          go_loopg [3, 6] np (fun g av iv wi => ∃ (j : Nat) (b : Int), j ≤ np ∧ g = np - j ∧ av = .int .i64 b ∧ iv = .int .i64 (j : Int) ∧ ∃ d, wi = w.drewN d)
          case atStart => exact ⟨0, _, by omega, rfl, rfl, rfl, _, rfl⟩
          case round =>
            obtain ⟨t, b, ht, hg2, rfl, rfl, d2, rfl⟩ := hrel
            have HG3 := Lib.hid hg2
            clear hg2
            by_cases hls : t < np
            · obtain ⟨ad2, z, e2, _, _, _, hz⟩ := g3.el (i := t) (by have := NP.out; omega)
              subst e2
              obtain ⟨z1, z6, z2, z3, z4, z5⟩ := z
              obtain ⟨s0, s1, s2, s3, s4, s5⟩ := ch_cells hz
              have hw3 : IntKind.i64.wrap ((t:Int) + 1) = (t : Int) + 1 := IntWalk.i64_in _ (by omega)
              clear hz
              go_wp2_with (fail)
              go_roundg (np - (t + 1))
              case measure => have := HG3.out; omega
              case rel => exact ⟨t + 1, _, by omega, rfl, rfl, by go_num, _, rfl⟩
            · go_wp2_with (fail)
              go_roundg (n - (m + 1))
              case measure => have := HG.out; omega
              case rel => exact ⟨m + 1, _, by omega, rfl, rfl, by go_num, _, rfl⟩
    · go_wp2_with (fail)
      go_ret
      exact ⟨_, rfl, _, rfl⟩

structure SX where
  A : Option Addr
  c : Nat
  l : List OpS
def SX.enc (s : SX) : List Value := [.slice s.A s.l.length s.c]
end Go.Proofs.YtipoeidmblnbbaaDoor
