/- The walk of rubriclaw23.moved. -/
import Derived.Test.YtipoeidmblnbbaaGreatDoorPk6
namespace Go.Proofs.YtipoeidmblnbbaaGreatDoor
open Go.RowKit
set_option linter.unusedVariables false
set_option linter.unusedSimpArgs false

/-- how many runes ops insert, and how many cells they delete -/
def insO : List OpS → Int
  | [] => 0
  | o :: x => (o.o.r.length : Int) + insO x
def goneO : List OpS → Int
  | [] => 0
  | o :: x => (if o.o.k = 3 then o.o.n else 0) + goneO x
theorem insO_take {x : List OpS} {m : Nat} {o : OpS} (h : x[m]? = some o) : insO (x.take (m + 1)) = insO (x.take m) + (o.o.r.length : Int) := by
  induction x generalizing m with
  | nil => simp at h
  | cons a x ih =>
    cases m with
    | zero => simp at h; subst h; simp [insO]
    | succ m => simp at h; have := ih h; simp only [List.take_succ_cons, insO]; omega
theorem goneO_take {x : List OpS} {m : Nat} {o : OpS} (h : x[m]? = some o) : goneO (x.take (m + 1)) = goneO (x.take m) + (if o.o.k = 3 then o.o.n else 0) := by
  induction x generalizing m with
  | nil => simp at h
  | cons a x ih =>
    cases m with
    | zero => simp at h; subst h; simp [goneO]
    | succ m => simp at h; have := ih h; simp only [List.take_succ_cons, goneO]; omega
set_option maxRecDepth 100000 in
set_option maxHeartbeats 1600000 in
theorem moved_any (A : Option Addr) (n c : Nat) (x : List OpS) (w : World) (hn : n = x.length) (h : RdOs w w.heap.size A x) (hb : n ≤ 140737488355328)
    (hr : ∀ m, 0 ≤ insO (x.take m) ∧ insO (x.take m) ≤ 536870912 ∧ 0 ≤ goneO (x.take m) ∧ goneO (x.take m) ≤ 536870912) :
    Calls Tryz.prog 25 #[.slice A n c] w fun e w' => e = .returned (.tuple #[.int .i64 (insO x), .int .i64 (goneO x)]) ∧ ∃ d, w' = w.drewN d := by
  have N := Lib.hid hn
  have HR := Lib.hid hr
  clear hn hr
  go_enter Tryz.func25, Tryz.ntmps25
  go_wp2_with (fail)
  go_loopg [2, 3, 7] n (fun g av bv iv wr => ∃ (m : Nat) (a b : Int), m ≤ n ∧ g = n - m ∧ av = .int .i64 a ∧ bv = .int .i64 b ∧ iv = .int .i64 (m : Int) ∧ (∃ d, wr = w.drewN d) ∧ Hid (a = insO (x.take m) ∧ b = goneO (x.take m)))
  case atStart => exact ⟨0, 0, 0, by omega, rfl, rfl, rfl, rfl, ⟨0, rfl⟩, Lib.hid ⟨rfl, rfl⟩⟩
  case round =>
    obtain ⟨m, a, b, hm, hg, rfl, rfl, rfl, ⟨d, rfl⟩, HI⟩ := hrel
    have HG := Lib.hid hg
    clear hg
    by_cases hlt : m < n
    · have hl1 : m < x.length := by have := N.out; omega
      obtain ⟨ad, o, had0, had, hd1, hx1, hc0⟩ := h.el hl1
      subst had0
      have HX := Lib.hid hx1
      obtain ⟨⟨k, nn, r, s, p⟩, Ar, cr, As, cs, Ap, cp⟩ := o
      obtain ⟨r0, r1, r2, r3, r4⟩ := op_cells hc0
      have HZ : Hid (a + (r.length : Int) = insO (x.take (m + 1)) ∧ (k = 3 → b + nn = goneO (x.take (m + 1))) ∧ (k ≠ 3 → b = goneO (x.take (m + 1)))) := Lib.hid (by
        have h1 := insO_take HX.out
        have h2 := goneO_take HX.out
        have h3 := HI.out
        refine ⟨by rw [h1, h3.1], fun hk => ?_, fun hk => ?_⟩
        · rw [h2, h3.2]; simp only [hk, if_true]
        · rw [h2, h3.2]; simp only [hk, if_false]; omega)
      have RZ := Lib.hid (HR.out (m + 1))
      have hw2 : IntKind.i64.wrap ((m:Int) + 1) = (m : Int) + 1 := IntWalk.i64_in _ (by omega)
      obtain ⟨W, hW⟩ : ∃ W, a + (r.length : Int) = W := ⟨_, rfl⟩
      have hw3 : IntKind.i64.wrap (a + (r.length : Int)) = W := by
        rw [hW]; exact IntWalk.i64_in _ (by have h1 := RZ.out; have h2 := HZ.out.1; rw [hW] at h2; clear hw2; omega)
      have HW := Lib.hid hW
      clear hc0 hd1 hx1 hW
      by_cases hk : k = 3
      · subst hk
        obtain ⟨V, hV⟩ : ∃ V, b + nn = V := ⟨_, rfl⟩
        have hw4 : IntKind.i64.wrap (b + nn) = V := by
          rw [hV]; exact IntWalk.i64_in _ (by have h1 := RZ.out; have h2 := HZ.out.2.1 rfl; rw [hV] at h2; clear hw2 hw3; omega)
        have HV := Lib.hid hV
        clear hV
        go_wp2_with (fail)
        go_roundg (n - (m + 1))
        case measure => have := HG.out; omega
        case rel => exact ⟨m + 1, W, V, by omega, rfl, by first | rfl | (rw [← hw3]; rfl), by first | rfl | (rw [← hw4]; rfl), by go_num, ⟨_, rfl⟩, Lib.hid ⟨by rw [← HW.out]; exact HZ.out.1, by rw [← HV.out]; exact HZ.out.2.1 (by trivial)⟩⟩
      · have hk' : (k == 3) = false := beq_eq_false_iff_ne.2 hk
        have HK := Lib.hid hk
        clear hk
        go_wp2_with (fail)
        go_roundg (n - (m + 1))
        case measure => have := HG.out; omega
        case rel => exact ⟨m + 1, W, b, by omega, rfl, by first | rfl | (rw [← hw3]; rfl), rfl, by go_num, ⟨_, rfl⟩, Lib.hid ⟨by rw [← HW.out]; exact HZ.out.1, HZ.out.2.2 HK.out⟩⟩
    · have HI9 : Hid (a = insO x ∧ b = goneO x) := Lib.hid (by have := HI.out; rwa [List.take_of_length_le (by have := N.out; omega)] at this)
      obtain ⟨e1, e2⟩ := HI9.out
      clear HI HI9
      go_wp2_with (fail)
      go_ret2
      subst e1 e2
      exact ⟨rfl, _, rfl⟩
end Go.Proofs.YtipoeidmblnbbaaGreatDoor
