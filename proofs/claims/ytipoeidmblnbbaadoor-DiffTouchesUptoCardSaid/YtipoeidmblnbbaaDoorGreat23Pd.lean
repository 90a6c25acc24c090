/- The walk of rubriclaw23.great. -/
import Derived.Test.YtipoeidmblnbbaaDoorPk17
import Derived.Test.YtipoeidmblnbbaaDoorPk2
namespace Go.Proofs.YtipoeidmblnbbaaDoor
open Go.RowKit
set_option linter.unusedVariables false
set_option linter.unusedSimpArgs false

/-- a slice of cells as an element of a slice -/
structure DocS where
  A : Option Addr
  n : Nat
  c : Nat
  d : List ClS
def DocS.enc (x : DocS) : List Value := [.slice x.A x.n x.c]
theorem DocS.enc_len (x : DocS) : x.enc.length = 1 := rfl
def GreatDs (n0 : Nat) (L : List DocS) (w : World) (e : Ending) (w' : World) : Prop :=
  ∃ b : Bool, e = .returned (.bool b) ∧ (b = false → n0 ≤ 64 ∧ ∀ x ∈ L, x.n ≤ 400 ∧ ∀ c ∈ x.d, c.c.s.length ≤ 64) ∧ ∃ d, w' = w.drewN d
set_option maxRecDepth 100000 in
set_option maxHeartbeats 1600000 in
theorem great23_any (A0 A1 : Option Addr) (n0 c0 n c : Nat) (L : List DocS) (w : World) (hn : n = L.length) (h : Rd DocS.enc 1 w w.heap.size A1 L) (hb : n ≤ 1000) (h0 : n0 ≤ 140737488355328)
    (hd : ∀ x ∈ L, x.n = x.d.length ∧ RdCl w w.heap.size x.A x.d ∧ x.n ≤ 140737488355328 ∧ ∀ y ∈ x.d, y.c.s.length ≤ 140737488355328) :
    Calls Tryd.prog 16 #[.slice A0 n0 c0, .slice A1 n c] w (GreatDs n0 L w) := by
  have N := Lib.hid hn
  have HR := Lib.hid h
  have HD := Lib.hid hd
  clear hn h hd
  go_enter Tryd.func16, Tryd.ntmps16
  go_wp2_with (fail)
  go_loopg [5, 8] n (fun g xv iv wr => ∃ (m : Nat), m ≤ n ∧ g = n - m ∧ iv = .int .i64 (m : Int) ∧ (∃ d, wr = w.drewN d) ∧ Hid (∀ x ∈ L.take m, x.n ≤ 400 ∧ ∀ c ∈ x.d, c.c.s.length ≤ 64))
  case atStart => exact ⟨0, by omega, rfl, rfl, ⟨0, rfl⟩, Lib.hid (by simp)⟩
  case round =>
    obtain ⟨m, hm, hg, rfl, ⟨d, rfl⟩, HI⟩ := hrel
    have HG := Lib.hid hg
    clear hg
    by_cases hlt : m < n
    · have hl1 : m < L.length := by have := N.out; omega
      obtain ⟨ad, o, rfl, had, hd1, hx1, hc0⟩ := HR.out.el hl1
      have hmem := List.mem_of_getElem? hx1
      have g2 := Lib.hid (HD.out o hmem)
      have HT : Hid (L.take (m + 1) = L.take m ++ [o]) := Lib.hid (by rw [List.take_add_one, hx1]; rfl)
      have z0 : w.cell? (ad.add (m * 1)) = some (.slice o.A o.n o.c) := by have := hc0 0 _ rfl; rwa [add_zero'] at this
      rw [Nat.mul_one] at z0
      have hlt' : (m : Int) < (n : Int) := by omega
      have hw2 : IntKind.i64.wrap ((m:Int) + 1) = (m : Int) + 1 := IntWalk.i64_in _ (by omega)
      obtain ⟨A, no, co, dd⟩ := o
      clear hc0 hx1 hd1 hmem hl1
      go_wp2_with (go_at_call 7; refine Hid.out ?_)
      refine Lib.hid ?_
      refine (great18_any A no co dd 400 _ g2.out.1 (by have := g2.out.2.1; exact ⟨this.1.drewN _, fun x hx => (this.2 x hx).drewN _⟩) g2.out.2.2.1 g2.out.2.2.2).mono ?_
      rintro e w1 ⟨g1, rfl, h1, x1, rfl⟩
      cases g1 with
      | true =>
        clear h1
        go_wp2_with (fail)
        go_ret
        exact ⟨true, rfl, (by intro h; cases h), _, (by first | exact World.drewN_drewN _ _ _ | rfl)⟩
      | false =>
        have h2 := h1 rfl
        have HI2 : Hid (∀ x ∈ L.take (m + 1), x.n ≤ 400 ∧ ∀ c ∈ x.d, c.c.s.length ≤ 64) := Lib.hid (fun x hx => by
          rw [HT.out] at hx
          rcases List.mem_append.1 hx with hx | hx
          · exact HI.out x hx
          · simp at hx; subst hx
            exact ⟨by have := h2.1; simp only; omega, h2.2⟩)
        clear h1 h2
        go_wp2_with (fail)
        go_roundg (n - (m + 1))
        case measure => have := HG.out; omega
        case rel => exact ⟨m + 1, by omega, rfl, by go_num, ⟨_, (by first | exact World.drewN_drewN _ _ _ | rfl)⟩, HI2⟩
    · have hlt' : ¬ (m : Int) < (n : Int) := by omega
      have HI2 := Lib.hid HI.out
      rw [List.take_of_length_le (by have := N.out; omega)] at HI2
      by_cases h64 : (64 : Int) < (n0 : Int)
      · go_wp2_with (fail)
        go_ret
        exact ⟨true, rfl, (by intro h; cases h), _, rfl⟩
      · go_wp2_with (fail)
        go_ret
        exact ⟨false, rfl, fun _ => ⟨by omega, HI2.out⟩, _, rfl⟩
end Go.Proofs.YtipoeidmblnbbaaDoor
