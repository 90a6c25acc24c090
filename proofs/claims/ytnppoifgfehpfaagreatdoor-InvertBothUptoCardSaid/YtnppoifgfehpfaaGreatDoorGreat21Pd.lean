/- The walk of rubriclaw21.great. Printed by wip/gen_great2.py. -/
import Derived.Test.YtnppoifgfehpfaaGreatDoorPk32
import Derived.Test.YtnppoifgfehpfaaGreatDoorPk2
namespace Go.Proofs.YtnppoifgfehpfaaGreatDoor
open Go.RowKit
set_option linter.unusedVariables false
set_option linter.unusedSimpArgs false

def Great21 (n0 n1 : Nat) (d : List ClS) (L : List SX) (w : World) (e : Ending) (w' : World) : Prop :=
  ∃ b : Bool, e = .returned (.bool b) ∧ (b = false → n0 ≤ 64 ∧ n1 ≤ 400 ∧ (∀ c ∈ d, c.c.s.length ≤ 64) ∧ sumX L ≤ 5000) ∧ ∃ d, w' = w.drewN d
set_option maxRecDepth 100000 in
set_option maxHeartbeats 1600000 in
theorem great21_any (A0 A1 A2 : Option Addr) (n0 c0 n1 c1 n c : Nat) (d : List ClS) (L : List SX) (w : World) (hn : n = L.length) (h : Rd SX.enc 1 w w.heap.size A2 L) (hb : n ≤ 1000) (h0 : n0 ≤ 140737488355328)
    (hs : ∀ s ∈ L, RdOp w w.heap.size s.A s.l ∧ s.l.length ≤ 140737488355328) (hz : sumX L ≤ 9223372036854775807) (hz1 : ∀ s ∈ L, szX s.l ≤ 4611686018427387904)
    (hn1 : n1 = d.length) (h1 : RdCl w w.heap.size A1 d) (b1 : n1 ≤ 140737488355328) (hd : ∀ y ∈ d, y.c.s.length ≤ 140737488355328) :
    Calls Tryz.prog 15 #[.slice A0 n0 c0, .slice A1 n1 c1, .slice A2 n c] w (Great21 n0 n1 d L w) := by
  have N := Lib.hid hn
  have HS := Lib.hid hs
  have HZ := Lib.hid hz
  have HZ1 := Lib.hid hz1
  have N1 := Lib.hid hn1
  have H1 := Lib.hid h1
  have HD := Lib.hid hd
  clear hn hs hz hz1 hn1 h1 hd
  go_enter Tryz.func15, Tryz.ntmps15
  go_wp2_with (fail)
  go_loopg [7, 11] n (fun g av iv wr => ∃ (m a : Nat), m ≤ n ∧ g = n - m ∧ a = sumX (L.take m) ∧ av = .int .i64 (a : Int) ∧ iv = .int .i64 (m : Int) ∧ ∃ d, wr = w.drewN d)
  case atStart => exact ⟨0, 0, by omega, rfl, rfl, rfl, rfl, 0, rfl⟩
  case round =>
    obtain ⟨m, a, hm, hg, ha, rfl, rfl, d3, rfl⟩ := hrel
    have HG := Lib.hid hg
    have HA := Lib.hid ha
    clear hg ha
    by_cases hlt : m < n
    · obtain ⟨ad, z, had0, had, _, hx1, hc0⟩ := h.el (i := m) (by have := N.out; omega)
      subst had0
      obtain ⟨f1, f2⟩ := HS.out z (List.mem_of_getElem? hx1)
      have TK : Hid (sumX (L.take (m + 1)) = a + szX z.l) := Lib.hid (by rw [HA.out]; exact sum_take1 (fun s : SX => szX s.l) hx1)
      have TB : Hid (a + szX z.l ≤ 9223372036854775807) := Lib.hid (by rw [← TK.out]; exact Nat.le_trans (sum_take_le (fun s : SX => szX s.l) L (m + 1)) HZ.out)
      have Z1 := Lib.hid (HZ1.out z (List.mem_of_getElem? hx1))
      obtain ⟨A3, c3, x⟩ := z
      simp only at f1 f2 TK TB Z1
      have q0 : _ = some (Value.slice A3 x.length c3) := hc0 0 _ rfl
      rw [add_zero', Nat.mul_one] at q0
      obtain ⟨n3, hn3⟩ : ∃ n3, n3 = x.length := ⟨_, rfl⟩
      rw [← hn3] at q0 f2
      have N3 := Lib.hid hn3
      have hw2 : IntKind.i64.wrap ((m:Int) + 1) = (m : Int) + 1 := IntWalk.i64_in _ (by omega)
      clear hn3 hx1 hc0
      go_wp2_with (go_at_call 51; refine Hid.out ?_)
      refine Lib.hid ?_
      refine (sizeX2_any A3 n3 c3 x (w.drewN d3) N3.out ⟨f1.1.drewN _, fun q hq => ⟨(f1.2 q hq).1.drewN _, (f1.2 q hq).2.1.drewN _, (f1.2 q hq).2.2.drewN _⟩⟩ f2 (by have := Z1.out; omega)).mono ?_
      obtain ⟨sz, hsz⟩ : ∃ X, szX x = X := ⟨_, rfl⟩
      clear Z1
      rw [hsz] at TK TB ⊢
      rintro e w2 ⟨rfl, d2, rfl⟩
      have hw4 : IntKind.i64.wrap ((a:Int) + (sz : Int)) = (a : Int) + sz := IntWalk.i64_in _ (by have := TB.out; omega)
      clear hsz
      go_wp2_with (fail)
      go_roundg (n - (m + 1))
      case measure => have := HG.out; omega
      case rel => exact ⟨m + 1, a + sz, by omega, rfl, TK.out.symm, by go_num, by go_num, _, (by first | rfl | exact World.drewN_drewN _ _ _)⟩
    · have HA9 : Hid (a = sumX L) := Lib.hid (by have := HA.out; rwa [List.take_of_length_le (by have := N.out; omega)] at this)
      have AB : a ≤ 9223372036854775807 := by rw [HA9.out]; exact HZ.out
      by_cases h64 : (64 : Int) < (n0 : Int)
      · go_wp2_with (fail)
        go_ret
        exact ⟨true, rfl, (by intro h; cases h), _, rfl⟩
      · go_wp2_with (go_at_call 26; refine Hid.out ?_)
        refine Lib.hid ?_
        refine (great18_any A1 n1 c1 d 400 _ N1.out ⟨H1.out.1.drewN _, fun x hx => (H1.out.2 x hx).drewN _⟩ b1 HD.out).mono ?_
        rintro e w1 ⟨g1, rfl, hg1, x1, rfl⟩
        cases g1 with
        | true =>
          clear hg1
          go_wp2_with (fail)
          go_ret
          exact ⟨true, rfl, (by intro h; cases h), _, (by first | exact World.drewN_drewN _ _ _ | rfl)⟩
        | false =>
          have h2 := hg1 rfl
          have H2 := Lib.hid h2
          clear hg1 h2
          go_wp2_with (fail)
          go_ret
          exact ⟨decide ((5000 : Int) < (a : Int)), rfl, fun h5 => ⟨by omega, by have := H2.out.1; omega, H2.out.2, by have := of_decide_eq_false h5; rw [← HA9.out]; omega⟩, _, (by first | exact World.drewN_drewN _ _ _ | rfl)⟩
end Go.Proofs.YtnppoifgfehpfaaGreatDoor
