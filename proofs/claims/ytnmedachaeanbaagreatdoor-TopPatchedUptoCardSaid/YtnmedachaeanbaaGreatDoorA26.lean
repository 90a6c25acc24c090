/- Merged texts. -/
import Derived.Test.YtnmedachaeanbaaGreatDoorA25
namespace Go.Proofs.YtnmedachaeanbaaGreatDoor
set_option maxRecDepth 100000
set_option maxHeartbeats 6400000
open Go.RowKit
open Go.Lib (hid Utf8Tabs)
set_option linter.unusedVariables false
set_option linter.unusedSimpArgs false
theorem Z9A (s : Nat) (l0 : List Ky) (A1 Ax Ay : Option Addr) (n1 c1 nx cx ny cy : Nat) (d : List ClS) (x y : List OpS) (most : Int) (w : World) (hD : DocAt w A1 n1 c1 d) (hX : OpsC w Ax nx cx x) (hY : OpsC w Ay ny cy y) (hS : Sch w s l0) (hl : l0.length ≤ 64)
 (hT : Utf8Tabs 0 1 w) {Na Nb : Nat} (Ia : In l0 x (Z0i d) 536870912 Na) (Ib : In l0 y (Z0i d) 536870912 Nb) (zx : szN x ≤ 50000) (zy : szN y ≤ 50000) (hz : (Z0i d).length + szX x + szX y ≤ 10000) :
 Calls Tryz.prog 11 #[.pointer (some ⟨s, 0, none⟩), .slice A1 n1 c1, .slice Ax nx cx, .slice Ay ny cy, .int .i64 most] w fun e w' => Below w.heap.size w w' ∧
  (((((app l0 (traU true (nf (Z0e (osOf x))) (nf (Z0e (osOf y)))) (app l0 (Z0e (osOf x)) (Z0i d))).length : Nat) : Int) ≤ most ∧ ∃ A c M, e = .returned (.tuple #[.slice A M.length c, .int .i64 0]) ∧ Z0i M = app l0 (traU true (nf (Z0e (osOf x))) (nf (Z0e (osOf y)))) (app l0 (Z0e (osOf x)) (Z0i d)) ∧ mayD l0 (Z0i M) = 0 ∧ DocAt w' A M.length c M) ∨
  (most < (((app l0 (traU true (nf (Z0e (osOf x))) (nf (Z0e (osOf y)))) (app l0 (Z0e (osOf x)) (Z0i d))).length : Nat) : Int) ∧ e = .returned (.tuple #[.slice none 0 0, .int .i64 8]))) := by
 have D1 := hid hD
 have OX := hid hX
 have OY := hid hY
 have HS := hid hS
 have HT := hid hT
 have H64 := hid hl
 have IA := hid Ia
 have IB := hid Ib
 have HZ := hid hz
 have ZX := hid zx
 have ZY := hid zy
 have hx := Below.refl w.heap.size w
 clear hD hX hY hS hT hl Ia Ib hz zx zy
 obtain ⟨U, hU⟩ : ∃ X, app l0 (traU true (nf (Z0e (osOf x))) (nf (Z0e (osOf y)))) (app l0 (Z0e (osOf x)) (Z0i d)) = X := ⟨_, rfl⟩
 rw [hU]
 have HU0 := hid hU
 clear hU
 have up : ∀ {z : List OpS} {M : Nat}, In l0 z (Z0i d) 536870912 M → Z00 l0 z (Z0i d) 536870912 = 0 := fun h => Z6j h.at_ h.le
 go_enter Tryz.func11, Tryz.ntmps11
 go_wp2_with (go_at_call 28; refine Hid.out ?_)
 refine hid ?_
 refine (Z4j (N := Na) (us := Z0e (osOf x)) D1.out OX.out.at_ HS.out HT.out H64.out IA.out.n (up IA.out) IA.out.at_ rfl).mono ?_
 rintro e wn ⟨A5, c5, M1, rfl, h_1, m_1, b_1, d_1, y⟩
 have D1 := hid (D1.out.ext y)
 have OX := hid (OX.out.ext y)
 have OY := hid (OY.out.ext y)
 have HS := hid (HS.out.ext y)
 have HT := hid (Utf8Tabs_below HT.out y)
 replace hx := Z0a hx y
 have D_M1 := hid d_1
 have E_M1 := hid h_1
 have M_M1 := hid m_1
 clear d_1 h_1 m_1 b_1
 clear y
 go_wp2_with (go_at_call 28; refine Hid.out ?_)
 refine hid ?_
 refine (Z4j (N := Nb) (us := Z0e (osOf y)) D1.out OY.out.at_ HS.out HT.out H64.out IB.out.n (up IB.out) IB.out.at_ rfl).mono ?_
 rintro e wn ⟨A6, c6, M2, rfl, h_1, m_1, b_1, d_1, y⟩
 have D1 := hid (D1.out.ext y)
 have OX := hid (OX.out.ext y)
 have OY := hid (OY.out.ext y)
 have HS := hid (HS.out.ext y)
 have HT := hid (Utf8Tabs_below HT.out y)
 have D_M1 := hid (D_M1.out.ext y)
 replace hx := Z0a hx y
 clear d_1 h_1 m_1 b_1
 clear y
 have SM : Hid ((Z0i M1).length + (Z0Q (Z0e (osOf y))).length ≤ 10000 ∧ Z0l (Z0e (osOf x)) + Z0l (Z0e (osOf y)) ≤ 536870912) := hid (by
  have h1 := IA.out.len
  have h2 := Y0v y
  have h3 := IA.out.makes
  have h4 := IB.out.makes
  have := HZ.out
  rw [E_M1.out]
  omega)
 have FPA : Hid (FitU l0 (traU true (nf (Z0e (osOf x))) (nf (Z0e (osOf y)))) (Z0i M1).length 10000 ∧ (app l0 (traU true (nf (Z0e (osOf x))) (nf (Z0e (osOf y)))) (Z0i M1)).length ≤ 10000) := hid (by
  have h := Y4V true IA.out.fit IB.out.fit (by rw [← E_M1.out]; exact SM.out.1) SM.out.2
  rw [← E_M1.out] at h
  exact h)
 go_wp2_with (go_at_call 56; refine Hid.out ?_)
 refine hid ?_
 refine (Z6r s l0 _ _ _ _ _ _ x y true _ OX.out OY.out HS.out H64.out HT.out IA.out.may IB.out.may ZX.out ZY.out FPA.out.1.tb FPA.out.1.mb).mono ?_
 rintro e wn ⟨A7, c7, pp, rfl, h_1, o_1, y⟩
 have D1 := hid (D1.out.ext y)
 have OX := hid (OX.out.ext y)
 have OY := hid (OY.out.ext y)
 have HS := hid (HS.out.ext y)
 have HT := hid (Utf8Tabs_below HT.out y)
 have D_M1 := hid (D_M1.out.ext y)
 replace hx := Z0a hx y
 have E_pp := hid h_1
 have O_pp := hid o_1
 clear h_1 o_1
 clear y
 have HU : Hid (app l0 (traU true (nf (Z0e (osOf x))) (nf (Z0e (osOf y)))) (Z0i M1) = U) := hid (by rw [E_M1.out]; exact HU0.out)
 have LM := hid (Z0D M1)
 have LU : Hid (U.length ≤ 10000 ∧ M1.length ≤ 10000) := hid ⟨by rw [← HU.out]; exact FPA.out.2, by rw [← Z0D]; have := SM.out; omega⟩
 by_cases hmx : most < (M1.length : Int)
 ·skip
  have hmax : max most (M1.length : Int) = (M1.length : Int) := by omega
  have MO := hid (Z8A (most := (M1.length : Int)) E_pp.out (by have := O_pp.out.at_.len; have := O_pp.out.at_.b; omega) M_M1.out FPA.out.1 (by omega) FPA.out.2 (by rw [LM.out]; exact Int.le_refl _))
  rw [HU.out] at MO
  by_cases hu : (U.length : Int) ≤ (M1.length : Int)
  ·skip
   obtain ⟨N2, g1, g2, g3, g4⟩ := MO.out.1 hu
   go_wp2_with (go_at_call 28; refine Hid.out ?_)
   refine hid ?_
   refine (Z4j (N := N2) (us := traU true (nf (Z0e (osOf x))) (nf (Z0e (osOf y)))) D_M1.out O_pp.out.at_ HS.out HT.out H64.out g1 g2 g3 (g4.trans HU.out.symm)).mono ?_
   rintro e wn ⟨A8, c8, M3, rfl, h_1, m_1, b_1, d_1, y⟩
   have D1 := hid (D1.out.ext y)
   have OX := hid (OX.out.ext y)
   have OY := hid (OY.out.ext y)
   have HS := hid (HS.out.ext y)
   have HT := hid (Utf8Tabs_below HT.out y)
   have D_M1 := hid (D_M1.out.ext y)
   have O_pp := hid (O_pp.out.ext y)
   replace hx := Z0a hx y
   rw [HU.out] at h_1
   have D_M3 := hid d_1
   have E_M3 := hid h_1
   have M_M3 := hid m_1
   clear d_1 h_1 m_1 b_1
   clear y
   have L3 : M3.length = U.length := by rw [← Z0D, E_M3.out]
   by_cases hlong : most < (M3.length : Int)
   ·skip
    have := hlong
    go_wp2_with (fail)
    refine bodyPost_ret (v := .tuple #[.slice none 0 0, .int .i64 8]) (by simp [results, Tryz.results11, go_sem]) rfl ?_
    exact ⟨hx, .inr ⟨by rw [← L3]; exact hlong, rfl⟩⟩
   go_wp2_with (fail)
   refine bodyPost_ret (v := .tuple #[.slice A8 M3.length c8, .int .i64 0]) (by simp [results, Tryz.results11, go_sem, L3]) rfl ?_
   exact ⟨hx, .inl ⟨by rw [← L3]; omega, _, _, M3, rfl, E_M3.out, M_M3.out, D_M3.out⟩⟩
  have hr := MO.out.2 (by omega)
  go_wp2_with (go_at_call 28; refine Hid.out ?_)
  refine hid ?_
  refine (Y0k D_M1.out O_pp.out.at_ HS.out HT.out hr (by decide)).mono ?_
  rintro e wn ⟨rfl, y⟩
  have D1 := hid (D1.out.ext y)
  have OX := hid (OX.out.ext y)
  have OY := hid (OY.out.ext y)
  have HS := hid (HS.out.ext y)
  have HT := hid (Utf8Tabs_below HT.out y)
  have D_M1 := hid (D_M1.out.ext y)
  have O_pp := hid (O_pp.out.ext y)
  replace hx := Z0a hx y
  clear y
  go_wp2_with (fail)
  refine bodyPost_ret (v := .tuple #[.slice none 0 0, .int .i64 8]) (by simp [results, Tryz.results11, go_sem]) rfl ?_
  exact ⟨hx, .inr ⟨by omega, rfl⟩⟩
 have hmax : max most (M1.length : Int) = most := by omega
 have MO := hid (Z8A (most := most) E_pp.out (by have := O_pp.out.at_.len; have := O_pp.out.at_.b; omega) M_M1.out FPA.out.1 (by omega) FPA.out.2 (by rw [LM.out]; omega))
 rw [HU.out] at MO
 by_cases hu : (U.length : Int) ≤ most
 ·skip
  obtain ⟨N2, g1, g2, g3, g4⟩ := MO.out.1 hu
  go_wp2_with (go_at_call 28; refine Hid.out ?_)
  refine hid ?_
  refine (Z4j (N := N2) (us := traU true (nf (Z0e (osOf x))) (nf (Z0e (osOf y)))) D_M1.out O_pp.out.at_ HS.out HT.out H64.out g1 g2 g3 (g4.trans HU.out.symm)).mono ?_
  rintro e wn ⟨A8, c8, M3, rfl, h_1, m_1, b_1, d_1, y⟩
  have D1 := hid (D1.out.ext y)
  have OX := hid (OX.out.ext y)
  have OY := hid (OY.out.ext y)
  have HS := hid (HS.out.ext y)
  have HT := hid (Utf8Tabs_below HT.out y)
  have D_M1 := hid (D_M1.out.ext y)
  have O_pp := hid (O_pp.out.ext y)
  replace hx := Z0a hx y
  rw [HU.out] at h_1
  have D_M3 := hid d_1
  have E_M3 := hid h_1
  have M_M3 := hid m_1
  clear d_1 h_1 m_1 b_1
  clear y
  have L3 : M3.length = U.length := by rw [← Z0D, E_M3.out]
  have hlong : ¬ most < (M3.length : Int) := by omega
  go_wp2_with (fail)
  refine bodyPost_ret (v := .tuple #[.slice A8 M3.length c8, .int .i64 0]) (by simp [results, Tryz.results11, go_sem, L3]) rfl ?_
  exact ⟨hx, .inl ⟨by rw [← L3]; omega, _, _, M3, rfl, E_M3.out, M_M3.out, D_M3.out⟩⟩
 have hr := MO.out.2 (by omega)
 go_wp2_with (go_at_call 28; refine Hid.out ?_)
 refine hid ?_
 refine (Y0k D_M1.out O_pp.out.at_ HS.out HT.out hr (by decide)).mono ?_
 rintro e wn ⟨rfl, y⟩
 have D1 := hid (D1.out.ext y)
 have OX := hid (OX.out.ext y)
 have OY := hid (OY.out.ext y)
 have HS := hid (HS.out.ext y)
 have HT := hid (Utf8Tabs_below HT.out y)
 have D_M1 := hid (D_M1.out.ext y)
 have O_pp := hid (O_pp.out.ext y)
 replace hx := Z0a hx y
 clear y
 go_wp2_with (fail)
 refine bodyPost_ret (v := .tuple #[.slice none 0 0, .int .i64 8]) (by simp [results, Tryz.results11, go_sem]) rfl ?_
 exact ⟨hx, .inr ⟨by omega, rfl⟩⟩
end Go.Proofs.YtnmedachaeanbaaGreatDoor
