/- The walks of the document's functions of patches: Apply, Compose, Less, Diff (rubricref06). -/
import Derived.Test.YtfnkjcodcoehcaaRefPatLaw
import Derived.Test.YtfnkjcodcoehcaaGet05
import Derived.Deep.RegionHeld3
namespace Go.Proofs.Ytfnkjcodcoehcaa
open Go.RowKit
set_option linter.unusedVariables false
set_option linter.unusedSimpArgs false

set_option maxRecDepth 100000 in
set_option maxHeartbeats 3200000 in
theorem apply06_any (A B : Option Addr) (n c k d : Nat) (s : List At) (p : List Ch) (w : World) (hn : n = s.length) (hk : k = p.length) (h1 : RdAt w w.heap.size A s) (h2 : RdCh w w.heap.size B p) (hb : n ≤ 1000000) (hb2 : k ≤ 1000000) :
    Calls Try.prog 45 #[.slice A n c, .slice B k d] w (NewAt (applyR p s) w) := by
  have N := Lib.hid hn
  have K := Lib.hid hk
  have H1 := Lib.hid h1
  have H2 := Lib.hid h2
  obtain ⟨R, hR⟩ : ∃ X, applyR p s = X := ⟨_, rfl⟩
  have HR := Lib.hid hR
  rw [hR]
  clear hn hk h1 h2 hR
  go_enter Try.func45, Try.ntmps45
  go_wp2_with ((at_builtin; refine app_at (l := []) (m := s) rfl (.tmp 7) (.tmp 8) rfl rfl (by exact Ow.empty _ w.heap.size _) _ _ _ _ rfl N.out (by exact H1.out.ext (ext_alloc w _)) (by have := N.out; simp only [List.length_nil]; omega) (by simp) ?_; intro v1 w1 ho1 g1 hv1))
  rw [List.nil_append] at ho1
  have O1 := Lib.hid ho1
  have Y1 : Hid (Below w.heap.size w w1) := Lib.hid ((ext_alloc w _).grown g1 (by simp) (fun k hk => by cases hk))
  clear ho1 g1 hv1
  go_wp2_with (fail)
  go_loopg [5, 6] k (fun g ov iv wr => ∃ (m : Nat) (r : List At), m ≤ k ∧ g = k - m ∧ iv = .int .i64 (m : Int) ∧ OwAt wr w.heap.size ov r ∧ r.length ≤ n + m ∧ Below w.heap.size w wr ∧ Hid (applyR (p.drop m) r = R))
  case atStart => exact ⟨0, s, Nat.zero_le _, rfl, rfl, O1.out, by have := N.out; omega, Y1.out, Lib.hid (by rw [List.drop_zero]; exact HR.out)⟩
  case round =>
    obtain ⟨m, r, hm, hg, rfl, hown, hrl, y, HI⟩ := hrel
    have HG := Lib.hid hg
    clear hg HR O1 Y1
    by_cases hlt : m < k
    · have hlt' : (m : Int) < (k : Int) := by omega
      obtain ⟨ad, x, rfl, hd1, hx1, hc0⟩ := (H2.out.ext y).elIn (i := m) (by have := K.out; omega)
      have hst := HI.out
      rw [hd1] at hst
      obtain ⟨x1, x6, x2, x3, x4, x5⟩ := x
      have CX := Lib.hid hc0
      have HST : Hid (applyR (p.drop (m + 1)) (apply1 r ⟨x1, x6, ⟨x2, x3, x4, x5⟩⟩) = R) := Lib.hid hst
      have HL : Hid ((apply1 r ⟨x1, x6, ⟨x2, x3, x4, x5⟩⟩).length ≤ n + (m + 1)) := Lib.hid (by have := apply1_len r ⟨x1, x6, ⟨x2, x3, x4, x5⟩⟩; omega)
      have hw2 : IntKind.i64.wrap ((m:Int) + 1) = (m : Int) + 1 := IntWalk.i64_in _ (by omega)
      obtain ⟨A1, c1, rfl, _, _⟩ := hown.form
      have RR := Lib.hid (hown.rd At.enc_len)
      have YS := Lib.hid y.size
      have LB : Hid (r.length ≤ 2000000) := Lib.hid (by omega)
      clear hst hc0 hd1 hx1 HI hown
      obtain ⟨r0, r1, r2, r3, r4, r5⟩ := ch_cells CX.out.2
      cases x6 with
      | true =>
        have HE : Hid (apply1 r ⟨x1, true, ⟨x2, x3, x4, x5⟩⟩ = r.filter (fun a => !(a.key == x1))) := Lib.hid rfl
        go_wp2_with (go_at_call 59; refine Hid.out ?_)
        refine Lib.hid ?_
        refine (without05_any x1 A1 r.length c1 r _ rfl RR.out (by have := LB.out; omega)).mono ?_
        rw [← HE.out]
        rintro e w3 ⟨A3, c3, rfl, o3, y3⟩
        have O3 := Lib.hid (o3.base_le (B := w.heap.size) YS.out)
        have Y3 := Lib.hid (ext_trans y y3)
        clear o3 y3
        go_wp2_with (fail)
        go_roundg (k - (m + 1))
        case measure => have := HG.out; omega
        case rel => exact ⟨m + 1, _, by omega, rfl, by go_num, O3.out, HL.out, Y3.out, HST⟩
      | false =>
        have HE : Hid (apply1 r ⟨x1, false, ⟨x2, x3, x4, x5⟩⟩ = with05P r ⟨x1, ⟨x2, x3, x4, x5⟩⟩) := Lib.hid rfl
        go_wp2_with (fail)
        go_region_held3 (fun w' => w'.cell? (ad.add (m * 6)) = some (.int .i64 x1) ∧ w'.cell? { block := (ad.add (m * 6)).block, off := (ad.add (m * 6)).off + 2 } = some (.int .u8 x2) ∧ w'.cell? { block := (ad.add (m * 6)).block, off := (ad.add (m * 6)).off + 3 } = some (.int .i64 x3) ∧ w'.cell? { block := (ad.add (m * 6)).block, off := (ad.add (m * 6)).off + 4 } = some (.int .u64 x4) ∧ w'.cell? { block := (ad.add (m * 6)).block, off := (ad.add (m * 6)).off + 5 } = some (.string x5)) (go_keep) (first
          | (go_at_call 46
             with_reducible refine (with05_any A1 r.length c1 r x1 x2 x3 x4 x5 wr.drew rfl (RR.out.ext (up_drew (Below.refl _ _))) (by have := LB.out; omega)).mono ?_
             rw [← HE.out]
             rintro e w3 ⟨A3, c3, rfl, o3, y3⟩
             have O3 := Lib.hid (o3.base_le (B := w.heap.size) YS.out)
             have Y3 := Lib.hid (ext_trans y (ext_trans (up_drew (Below.refl _ _)) y3))
             obtain ⟨q0, q1, q2, q3, q4, q5⟩ := ch_cells (CX.out.ext (ext_trans (up_drew (Below.refl _ _)) y3)).2
             clear o3 y3))
        go_wp2_with (fail)
        go_roundg (k - (m + 1))
        case measure => have := HG.out; omega
        case rel => exact ⟨m + 1, _, by omega, rfl, by go_num, O3.out, HL.out, Y3.out, HST⟩
    · have hlt' : ¬ (m : Int) < (k : Int) := by omega
      have hR : r = R := by
        have h := HI.out
        rw [List.drop_eq_nil_of_le (by have := K.out; omega)] at h
        exact h
      subst hR
      obtain ⟨A', c', rfl, _, _⟩ := hown.form
      have HOW := Lib.hid hown
      clear hown
      go_wp2_with (fail)
      go_ret
      exact ⟨A', c', rfl, HOW.out, y⟩
end Go.Proofs.Ytfnkjcodcoehcaa
