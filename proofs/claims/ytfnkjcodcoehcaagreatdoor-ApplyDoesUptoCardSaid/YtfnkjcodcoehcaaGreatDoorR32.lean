/- Merged texts: Great18, Great19, Same15D. -/
import Derived.Test.YtfnkjcodcoehcaaGreatDoorR9
import Derived.Test.YtfnkjcodcoehcaaGreatDoorR25
import Derived.Test.YtfnkjcodcoehcaaGreatDoorR2
import Derived.Test.YtfnkjcodcoehcaaGreatDoorR24
import Derived.Test.YtfnkjcodcoehcaaGreatDoorR23
namespace Go.Proofs.YtfnkjcodcoehcaaGreatDoor
open Go.RowKit
set_option linter.unusedVariables false
set_option linter.unusedSimpArgs false

def GreatOut (n : Nat) (l : List ClS) (lim : Int) (w : World) (e : Ending) (w' : World) : Prop :=
  ∃ b : Bool, e = .returned (.bool b) ∧ (b = false → (n : Int) ≤ lim ∧ ∀ x ∈ l, x.c.s.length ≤ 64) ∧ ∃ d, w' = w.drewN d
set_option maxRecDepth 100000 in
set_option maxHeartbeats 1600000 in
theorem great18_any (A : Option Addr) (n c : Nat) (l : List ClS) (lim : Int) (w : World) (hn : n = l.length) (h : RdCl w w.heap.size A l) (hb : n ≤ 140737488355328) (hs : ∀ x ∈ l, x.c.s.length ≤ 140737488355328) :
    Calls Tryz.prog 11 #[.slice A n c, .int .i64 lim] w (GreatOut n l lim w) := by
  have N := Lib.hid hn
  have HR := Lib.hid h
  have HS := Lib.hid hs
  clear hn h hs
  by_cases hl : lim < (n : Int)
  · go_enter Tryz.func11, Tryz.ntmps11
    go_wp2_with (fail)
    go_ret
    exact ⟨true, rfl, (by intro h; cases h), 0, rfl⟩
  have hle : (n : Int) ≤ lim := by omega
  go_enter Tryz.func11, Tryz.ntmps11
  go_wp2_with (fail)
  go_loopg [5, 6] n (fun g av iv wr => ∃ (m : Nat) (a : Int), m ≤ n ∧ g = n - m ∧ av = .int .i64 a ∧ iv = .int .i64 (m : Int) ∧ (∃ d, wr = w.drewN d) ∧ Hid (∀ x ∈ l.take m, x.c.s.length ≤ 64))
  case atStart => exact ⟨0, 0, by omega, rfl, rfl, rfl, ⟨0, rfl⟩, Lib.hid (by simp)⟩
  case round =>
    obtain ⟨m, a, hm, hg, rfl, rfl, ⟨d, rfl⟩, HI⟩ := hrel
    have HG := Lib.hid hg
    clear hg
    by_cases hlt : m < n
    · have hl1 : m < l.length := by have := N.out; omega
      obtain ⟨ad, o, had0, had, hd1, hx1, hc0⟩ := HR.out.1.el hl1
      subst had0
      have hmem := List.mem_of_getElem? hx1
      have g2 := HR.out.2 o hmem
      have hso := HS.out o hmem
      have HT : Hid (l.take (m + 1) = l.take m ++ [o]) := Lib.hid (by rw [List.take_add_one, hx1]; rfl)
      obtain ⟨⟨r, s⟩, As, cs⟩ := o
      simp only at g2 hso
      obtain ⟨r0, r1⟩ := cl_cells hc0
      obtain ⟨ns, hns⟩ : ∃ X, s.length = X := ⟨_, rfl⟩
      have NS := Lib.hid hns
      rw [hns] at r1 hso
      have hw2 : IntKind.i64.wrap ((m:Int) + 1) = (m : Int) + 1 := IntWalk.i64_in _ (by omega)
      clear hc0 hd1 hx1 hmem hns hl1
      by_cases h64 : (64 : Int) < (ns : Int)
      · go_wp2_with (fail)
        go_ret
        exact ⟨true, rfl, (by intro h; cases h), _, rfl⟩
      · have h64' : Hid (s.length ≤ 64) := Lib.hid (by rw [NS.out]; omega)
        go_wp2_with (fail)
        go_loopg [5, 7] ns (fun g av iv wi => ∃ (j : Nat) (b : Int), j ≤ ns ∧ g = ns - j ∧ av = .int .i64 b ∧ iv = .int .i64 (j : Int) ∧ ∃ d, wi = w.drewN d)
        case atStart => exact ⟨0, _, by omega, rfl, rfl, rfl, _, rfl⟩
        case round =>
          obtain ⟨j, b, hj, hg2, rfl, rfl, d2, rfl⟩ := hrel
          have HG2 := Lib.hid hg2
          clear hg2
          by_cases hls : j < ns
          · obtain ⟨ad2, z, e2, _, _, _, hz⟩ := g2.el (i := j) (by have := NS.out; omega)
            subst e2
            obtain ⟨z1, z2, z3, z4, z5⟩ := z
            obtain ⟨s0, s1, s2, s3, s4⟩ := at_cells hz
            have hw3 : IntKind.i64.wrap ((j:Int) + 1) = (j : Int) + 1 := IntWalk.i64_in _ (by omega)
            clear hz
            go_wp2_with (fail)
            go_roundg (ns - (j + 1))
            case measure => have := HG2.out; omega
            case rel => exact ⟨j + 1, _, by omega, rfl, rfl, by go_num, _, rfl⟩
          · go_wp2_with (fail)
            go_roundg (n - (m + 1))
            case measure => have := HG.out; omega
            case rel =>
              refine ⟨m + 1, _, by omega, rfl, rfl, by go_num, ⟨_, rfl⟩, Lib.hid ?_⟩
              intro y hy
              rw [HT.out] at hy
              rcases List.mem_append.1 hy with hy | hy
              · exact HI.out y hy
              · simp at hy; subst hy; exact h64'.out
    · have hmn : l.take m = l := List.take_of_length_le (by have := N.out; omega)
      have HI2 := HI.out
      rw [hmn] at HI2
      have H2 := Lib.hid HI2
      clear HI2 hmn
      go_wp2_with (fail)
      go_ret
      exact ⟨_, rfl, fun _ => ⟨hle, H2.out⟩, _, rfl⟩
end Go.Proofs.YtfnkjcodcoehcaaGreatDoor
namespace Go.Proofs.YtfnkjcodcoehcaaGreatDoor
open Go.RowKit
set_option linter.unusedVariables false
set_option linter.unusedSimpArgs false

def Great19 (n0 n1 : Nat) (d : List ClS) (L : List SX) (w : World) (e : Ending) (w' : World) : Prop :=
  ∃ b : Bool, e = .returned (.bool b) ∧ (b = false → n0 ≤ 64 ∧ n1 ≤ 400 ∧ (∀ c ∈ d, c.c.s.length ≤ 64) ∧ sumX L ≤ 5000) ∧ ∃ d, w' = w.drewN d
set_option maxRecDepth 100000 in
set_option maxHeartbeats 1600000 in
theorem great19_any (A0 A1 A2 : Option Addr) (n0 c0 n1 c1 n c : Nat) (d : List ClS) (L : List SX) (w : World) (hn : n = L.length) (h : Rd SX.enc 1 w w.heap.size A2 L) (hb : n ≤ 1000) (h0 : n0 ≤ 140737488355328)
    (hs : ∀ s ∈ L, RdOp w w.heap.size s.A s.l ∧ s.l.length ≤ 140737488355328) (hz : sumX L ≤ 4611686018427387904)
    (hn1 : n1 = d.length) (h1 : RdCl w w.heap.size A1 d) (b1 : n1 ≤ 140737488355328) (hd : ∀ y ∈ d, y.c.s.length ≤ 140737488355328) :
    Calls Tryz.prog 30 #[.slice A0 n0 c0, .slice A1 n1 c1, .slice A2 n c] w (Great19 n0 n1 d L w) := by
  have N := Lib.hid hn
  have HS := Lib.hid hs
  have HZ := Lib.hid hz
  have N1 := Lib.hid hn1
  have H1 := Lib.hid h1
  have HD := Lib.hid hd
  clear hn hs hz hn1 h1 hd
  go_enter Tryz.func30, Tryz.ntmps30
  go_wp2_with (fail)
  go_loopg [7, 11] n (fun g av iv wr => ∃ (m a : Nat), m ≤ n ∧ g = n - m ∧ a = sumX (L.take m) ∧ av = .int .i64 (a : Int) ∧ iv = .int .i64 (m : Int) ∧ ∃ d, wr = w.drewN d)
  case atStart => exact ⟨0, 0, by omega, rfl, rfl, rfl, rfl, 0, rfl⟩
  case round =>
    obtain ⟨m, a, hm, hg, ha, rfl, rfl, d3, rfl⟩ := hrel
    have HG := Lib.hid hg
    have HA := Lib.hid ha
    clear hg ha
    by_cases hlt : m < n
    · obtain ⟨ad, z, had0, had, _, hx1, hc0⟩ := h.el (i := m) (by have := N.out; omega)
      subst had0
      obtain ⟨f1, f2⟩ := HS.out z (List.mem_of_getElem? hx1)
      have TK : Hid (sumX (L.take (m + 1)) = a + szX z.l) := Lib.hid (by rw [HA.out]; exact sum_take1 (fun s : SX => szX s.l) hx1)
      have TB : Hid (a + szX z.l ≤ 4611686018427387904) := Lib.hid (by rw [← TK.out]; exact Nat.le_trans (sum_take_le (fun s : SX => szX s.l) L (m + 1)) HZ.out)
      obtain ⟨A3, c3, x⟩ := z
      simp only at f1 f2 TK TB
      have q0 : _ = some (Value.slice A3 x.length c3) := hc0 0 _ rfl
      rw [add_zero', Nat.mul_one] at q0
      obtain ⟨n3, hn3⟩ : ∃ n3, n3 = x.length := ⟨_, rfl⟩
      rw [← hn3] at q0 f2
      have N3 := Lib.hid hn3
      have hw2 : IntKind.i64.wrap ((m:Int) + 1) = (m : Int) + 1 := IntWalk.i64_in _ (by omega)
      clear hn3 hx1 hc0
      go_wp2_with (go_at_call 87; refine Hid.out ?_)
      refine Lib.hid ?_
      refine (sizeX2_any A3 n3 c3 x (w.drewN d3) N3.out ⟨f1.1.drewN _, fun q hq => ⟨(f1.2 q hq).1.drewN _, (f1.2 q hq).2.1.drewN _, (f1.2 q hq).2.2.drewN _⟩⟩ f2 (by have := TB.out; omega)).mono ?_
      obtain ⟨sz, hsz⟩ : ∃ X, szX x = X := ⟨_, rfl⟩
      rw [hsz] at TK TB ⊢
      rintro e w2 ⟨rfl, d2, rfl⟩
      have hw4 : IntKind.i64.wrap ((a:Int) + (sz : Int)) = (a : Int) + sz := IntWalk.i64_in _ (by have := TB.out; omega)
      clear hsz
      go_wp2_with (fail)
      go_roundg (n - (m + 1))
      case measure => have := HG.out; omega
      case rel => exact ⟨m + 1, a + sz, by omega, rfl, TK.out.symm, by go_num, by go_num, _, (by first | rfl | exact World.drewN_drewN _ _ _)⟩
    · have HA9 : Hid (a = sumX L) := Lib.hid (by have := HA.out; rwa [List.take_of_length_le (by have := N.out; omega)] at this)
      have AB : a ≤ 4611686018427387904 := by rw [HA9.out]; exact HZ.out
      by_cases h64 : (64 : Int) < (n0 : Int)
      · go_wp2_with (fail)
        go_ret
        exact ⟨true, rfl, (by intro h; cases h), _, rfl⟩
      · go_wp2_with (go_at_call 11; refine Hid.out ?_)
        refine Lib.hid ?_
        refine (great18_any A1 n1 c1 d 400 _ N1.out ⟨H1.out.1.drewN _, fun x hx => (H1.out.2 x hx).drewN _⟩ b1 HD.out).mono ?_
        rintro e w1 ⟨g1, rfl, hg1, x1, rfl⟩
        cases g1 with
        | true =>
          clear hg1
          go_wp2_with (fail)
          go_ret
          exact ⟨true, rfl, (by intro h; cases h), _, (by first | exact World.drewN_drewN _ _ _ | rfl)⟩
        | false =>
          have h2 := hg1 rfl
          have H2 := Lib.hid h2
          clear hg1 h2
          go_wp2_with (fail)
          go_ret
          exact ⟨decide ((5000 : Int) < (a : Int)), rfl, fun h5 => ⟨by omega, by have := H2.out.1; omega, H2.out.2, by have := of_decide_eq_false h5; rw [← HA9.out]; omega⟩, _, (by first | exact World.drewN_drewN _ _ _ | rfl)⟩
end Go.Proofs.YtfnkjcodcoehcaaGreatDoor
namespace Go.Proofs.YtfnkjcodcoehcaaGreatDoor
open Go.RowKit
theorem same15D {w : World} {A B : Option Addr} {n c n2 c2 : Nat} {x z : List OpS} (h1 : OpsAt w A n x) (h2 : OpsAt w B n2 z) {b : Bool} (hb : decide (osOf x = osOf z) = b) :
    Calls Tryz.prog 22 #[.slice A n c, .slice B n2 c2] w fun e w' => e = .returned (.bool b) ∧ Below w.heap.size w w' := by
  have h := same15_any A B n n2 c c2 x z w h1.len h2.len h1.rd h2.rd (by have := h1.b; omega) (by have := h2.b; omega) (fun o ho => by obtain ⟨_, _, a, b, c⟩ := h1.ok o ho; omega) (fun o ho => by obtain ⟨_, _, a, b, c⟩ := h2.ok o ho; omega)
  rw [hb] at h
  exact h
end Go.Proofs.YtfnkjcodcoehcaaGreatDoor
