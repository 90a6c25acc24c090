/- The walks of diff.end. -/
import Derived.Test.YtipoeidmblnbbaaDoorPk21
import Derived.Test.YtipoeidmblnbbaaDoorPk17
import Derived.Test.YtipoeidmblnbbaaDoorPk16
namespace Go.Proofs.YtipoeidmblnbbaaDoor
open Go.RowKit
set_option linter.unusedVariables false
set_option linter.unusedSimpArgs false

set_option maxRecDepth 100000 in
set_option maxHeartbeats 1600000 in
theorem end_any (A B : Option Addr) (n m c c' : Nat) (d e : List ClS) (w : World) (hn : n = d.length) (hm : m = e.length) (h1 : RdCs w w.heap.size A d) (h2 : RdCs w w.heap.size B e) (b1 : n ≤ 1000000) (b2 : m ≤ 1000000) (p1 : 1 ≤ n) (p2 : 1 ≤ m) :
    Calls Tryd.prog 51 #[.slice A n c, .slice B m c'] w (Quiet (.int .i64 (endD (clsOf d) (clsOf e))) w) := by
  have N := Lib.hid hn
  have M := Lib.hid hm
  have H1 := Lib.hid h1
  have H2 := Lib.hid h2
  obtain ⟨K, hK⟩ : ∃ K, min n m = K := ⟨_, rfl⟩
  have HK := Lib.hid hK
  have ek : min (n : Int) (m : Int) = (K : Int) := by omega
  have L1 := Lib.hid (clsOf_len d)
  have L2 := Lib.hid (clsOf_len e)
  generalize hR : endD (clsOf d) (clsOf e) = R
  have HR := Lib.hid hR
  clear hn hm h1 h2 hR hK
  go_enter Tryd.func51, Tryd.ntmps51
  go_wp2_with (fail)
  go_step3
  go_wp2_with (fail)
  go_step3
  go_wp2_with (fail)
  go_loopg [5] (K - 1) (fun g iv wr => ∃ i : Nat, 1 ≤ i ∧ i ≤ K ∧ g = K - i ∧ iv = .int .i64 (i : Int) ∧ (∃ q, wr = w.drewN q) ∧ Hid (endD (clsOf d) (clsOf e) = i + cpl (((clsOf d).reverse.drop i).map (·.r)) (((clsOf e).reverse.drop i).map (·.r))))
  case atStart => exact ⟨1, by omega, by have := HK.out; omega, rfl, rfl, ⟨0, rfl⟩, Lib.hid rfl⟩
  case round =>
    obtain ⟨i, hi1, hi, hg, rfl, ⟨q, rfl⟩, HI⟩ := hrel
    have HG := Lib.hid hg
    clear hg
    have hw2 : IntKind.i64.wrap ((i:Int) + 1) = (i : Int) + 1 := IntWalk.i64_in _ (by omega)
    by_cases hlt : i < K
    · have hl1 : n - 1 - i < d.length := by have := N.out; have := HK.out; omega
      have hl2 : m - 1 - i < e.length := by have := M.out; have := HK.out; omega
      obtain ⟨ad, x, rfl, _, _, hx, hcx⟩ := H1.out.el hl1
      obtain ⟨ad2, z, rfl, _, _, hz, hcz⟩ := H2.out.el hl2
      have EA := Lib.hid (endD_at HI.out (by rw [L1.out]; have := N.out; have := HK.out; omega) (by rw [L2.out]; have := M.out; have := HK.out; omega) (a := x.c) (b := z.c) (by rw [L1.out, ← N.out]; exact clsOf_at hx) (by rw [L2.out, ← M.out]; exact clsOf_at hz))
      obtain ⟨⟨r1, s1⟩, As1, cs1⟩ := x
      obtain ⟨⟨r2, s2⟩, As2, cs2⟩ := z
      obtain ⟨z0, -⟩ := cl_cells hcx
      obtain ⟨u0, -⟩ := cl_cells hcz
      obtain ⟨j1, hj1⟩ : ∃ X, n - 1 - i = X := ⟨_, rfl⟩
      obtain ⟨j2, hj2⟩ : ∃ X, m - 1 - i = X := ⟨_, rfl⟩
      rw [hj1] at z0
      rw [hj2] at u0
      have e3 : (n : Int) - 1 - (i : Int) = (j1 : Int) := by have := HK.out; omega
      have e4 : (m : Int) - 1 - (i : Int) = (j2 : Int) := by have := HK.out; omega
      have q1 : IntKind.i64.wrap ((n : Int) - 1) = (n : Int) - 1 := IntWalk.i64_in _ (by omega)
      have q2 : IntKind.i64.wrap ((m : Int) - 1) = (m : Int) - 1 := IntWalk.i64_in _ (by omega)
      have q3 : IntKind.i64.wrap ((n : Int) - 1 - (i : Int)) = (j1 : Int) := by rw [e3]; exact IntWalk.i64_in _ (by omega)
      have q4 : IntKind.i64.wrap ((m : Int) - 1 - (i : Int)) = (j2 : Int) := by rw [e4]; exact IntWalk.i64_in _ (by omega)
      have q5 : j1 < n := by have := HK.out; omega
      have q6 : j2 < m := by have := HK.out; omega
      have hlt' : (i : Int) < (K : Int) := by omega
      clear hcx hcz hx hz hl1 hl2 hj1 hj2 e3 e4
      by_cases hr : r1 = r2
      · subst hr
        have hne : (r1 != r1) = false := by simp
        have HI2 := Lib.hid (EA.out.2 rfl)
        clear EA HI
        go_wp2_with (fail)
        go_quiet (fail)
        go_wp2_with (fail)
        go_roundg (K - (i + 1))
        case measure => have := HG.out; omega
        case rel => exact ⟨i + 1, by omega, by omega, rfl, by go_num, ⟨_, rfl⟩, HI2⟩
      · have hne : (r1 != r2) = true := by simp [hr]
        have HI2 := Lib.hid (EA.out.1 hr)
        clear EA HI hr
        go_wp2_with (fail)
        go_quiet (fail)
        go_wp2_with (fail)
        go_ret
        exact ⟨ret_int (by rw [← HR.out, HI2.out]), _, World.drewN_drewN _ _ _⟩
    · have hlt' : ¬ (i : Int) < (K : Int) := by omega
      have HE := Lib.hid (endD_over HI.out (by rw [L1.out, L2.out]; have := N.out; have := M.out; have := HK.out; omega))
      go_wp2_with (fail)
      go_ret
      exact ⟨ret_int (by rw [← HR.out, HE.out]), _, rfl⟩
end Go.Proofs.YtipoeidmblnbbaaDoor
