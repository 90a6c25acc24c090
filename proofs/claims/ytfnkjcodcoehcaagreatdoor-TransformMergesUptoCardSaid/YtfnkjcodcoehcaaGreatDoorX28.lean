/- Merged texts. -/
import Derived.Test.YtfnkjcodcoehcaaGreatDoorX27
namespace Go.Proofs.YtfnkjcodcoehcaaGreatDoor
set_option maxRecDepth 100000
set_option maxHeartbeats 6400000
open Go.RowKit
open Go.Lib (hid Utf8Tabs)
set_option linter.unusedVariables false
set_option linter.unusedSimpArgs false
theorem Z9p (s : Nat) (l0 : List Ky) (A1 Ax Ay : Option Addr) (n1 c1 nx cx ny cy : Nat) (d : List ClS) (x y : List OpS) (most : Int) (w : World) (hD : DocAt w A1 n1 c1 d) (hX : OpsC w Ax nx cx x) (hY : OpsC w Ay ny cy y) (hS : Sch w s l0) (hl : l0.length ≤ 64)
 (hT : Utf8Tabs 1 2 w) {Na Nb : Nat} (Ia : In l0 x (Z0e d) 536870912 Na) (Ib : In l0 y (Z0e d) 536870912 Nb) (zx : szN x ≤ 50000) (zy : szN y ≤ 50000) (hz : (Z0e d).length + szX x + szX y ≤ 10000) :
 Calls Tryz.prog 53 #[.pointer (some ⟨s, 0, none⟩), .slice A1 n1 c1, .slice Ax nx cx, .slice Ay ny cy, .int .i64 most] w fun e w' => Below w.heap.size w w' ∧
  (((((app l0 (traU true (nf (Z0d (osOf x))) (nf (Z0d (osOf y)))) (app l0 (Z0d (osOf x)) (Z0e d))).length : Nat) : Int) ≤ most ∧ ∃ A c M, e = .returned (.tuple #[.slice A M.length c, .int .i64 0]) ∧ Z0e M = app l0 (traU true (nf (Z0d (osOf x))) (nf (Z0d (osOf y)))) (app l0 (Z0d (osOf x)) (Z0e d)) ∧ mayD l0 (Z0e M) = 0 ∧ DocAt w' A M.length c M) ∨
  (most < (((app l0 (traU true (nf (Z0d (osOf x))) (nf (Z0d (osOf y)))) (app l0 (Z0d (osOf x)) (Z0e d))).length : Nat) : Int) ∧ e = .returned (.tuple #[.slice none 0 0, .int .i64 8]))) := by
 have D1 := hid hD
 have OX := hid hX
 have OY := hid hY
 have HS := hid hS
 have HT := hid hT
 have H64 := hid hl
 have IA := hid Ia
 have IB := hid Ib
 have HZ := hid hz
 have ZX := hid zx
 have ZY := hid zy
 have hx := Below.refl w.heap.size w
 clear hD hX hY hS hT hl Ia Ib hz zx zy
 obtain ⟨U, hU⟩ : ∃ X, app l0 (traU true (nf (Z0d (osOf x))) (nf (Z0d (osOf y)))) (app l0 (Z0d (osOf x)) (Z0e d)) = X := ⟨_, rfl⟩
 rw [hU]
 have HU0 := hid hU
 clear hU
 have up : ∀ {z : List OpS} {M : Nat}, In l0 z (Z0e d) 536870912 M → Z0F l0 z (Z0e d) 536870912 = 0 := fun h => Z22 h.at_ h.le
 go_enter Tryz.func53, Tryz.ntmps53
 go_wp2_with (go_at_call 33; refine Hid.out ?_)
 refine hid ?_
 refine (Z3D (N := Na) (us := Z0d (osOf x)) D1.out OX.out.at_ HS.out HT.out H64.out IA.out.n (up IA.out) IA.out.at_ rfl).mono ?_
 rintro e wn ⟨A5, c5, M1, rfl, h_1, m_1, b_1, d_1, y⟩
 have D1 := hid (D1.out.ext y)
 have OX := hid (OX.out.ext y)
 have OY := hid (OY.out.ext y)
 have HS := hid (HS.out.ext y)
 have HT := hid (Utf8Tabs_below HT.out y)
 replace hx := Z0a hx y
 have D_M1 := hid d_1
 have E_M1 := hid h_1
 have M_M1 := hid m_1
 clear d_1 h_1 m_1 b_1
 clear y
 go_wp2_with (go_at_call 33; refine Hid.out ?_)
 refine hid ?_
 refine (Z3D (N := Nb) (us := Z0d (osOf y)) D1.out OY.out.at_ HS.out HT.out H64.out IB.out.n (up IB.out) IB.out.at_ rfl).mono ?_
 rintro e wn ⟨A6, c6, M2, rfl, h_1, m_1, b_1, d_1, y⟩
 have D1 := hid (D1.out.ext y)
 have OX := hid (OX.out.ext y)
 have OY := hid (OY.out.ext y)
 have HS := hid (HS.out.ext y)
 have HT := hid (Utf8Tabs_below HT.out y)
 have D_M1 := hid (D_M1.out.ext y)
 replace hx := Z0a hx y
 clear d_1 h_1 m_1 b_1
 clear y
 have SM : Hid ((Z0e M1).length + (Z05 (Z0d (osOf y))).length ≤ 10000 ∧ Z0p (Z0d (osOf x)) + Z0p (Z0d (osOf y)) ≤ 536870912) := hid (by
  have h1 := IA.out.len
  have h2 := Y0m y
  have h3 := IA.out.makes
  have h4 := IB.out.makes
  have := HZ.out
  rw [E_M1.out]
  omega)
 have FPA : Hid (FitU l0 (traU true (nf (Z0d (osOf x))) (nf (Z0d (osOf y)))) (Z0e M1).length 10000 ∧ (app l0 (traU true (nf (Z0d (osOf x))) (nf (Z0d (osOf y)))) (Z0e M1)).length ≤ 10000) := hid (by
  have h := Y4z true IA.out.fit IB.out.fit (by rw [← E_M1.out]; exact SM.out.1) SM.out.2
  rw [← E_M1.out] at h
  exact h)
 go_wp2_with (go_at_call 48; refine Hid.out ?_)
 refine hid ?_
 refine (Z2x s l0 _ _ _ _ _ _ x y true _ OX.out OY.out HS.out H64.out HT.out IA.out.may IB.out.may ZX.out ZY.out FPA.out.1.tb FPA.out.1.mb).mono ?_
 rintro e wn ⟨A7, c7, pp, rfl, h_1, o_1, y⟩
 have D1 := hid (D1.out.ext y)
 have OX := hid (OX.out.ext y)
 have OY := hid (OY.out.ext y)
 have HS := hid (HS.out.ext y)
 have HT := hid (Utf8Tabs_below HT.out y)
 have D_M1 := hid (D_M1.out.ext y)
 replace hx := Z0a hx y
 have E_pp := hid h_1
 have O_pp := hid o_1
 clear h_1 o_1
 clear y
 have HU : Hid (app l0 (traU true (nf (Z0d (osOf x))) (nf (Z0d (osOf y)))) (Z0e M1) = U) := hid (by rw [E_M1.out]; exact HU0.out)
 have LM := hid (Z0s M1)
 have LU : Hid (U.length ≤ 10000 ∧ M1.length ≤ 10000) := hid ⟨by rw [← HU.out]; exact FPA.out.2, by rw [← Z0s]; have := SM.out; omega⟩
 by_cases hmx : most < (M1.length : Int)
 ·skip
  have hmax : max most (M1.length : Int) = (M1.length : Int) := by omega
  have MO := hid (Z8y (most := (M1.length : Int)) E_pp.out (by have := O_pp.out.at_.len; have := O_pp.out.at_.b; omega) M_M1.out FPA.out.1 (by omega) FPA.out.2 (by rw [LM.out]; exact Int.le_refl _))
  rw [HU.out] at MO
  by_cases hu : (U.length : Int) ≤ (M1.length : Int)
  ·skip
   obtain ⟨N2, g1, g2, g3, g4⟩ := MO.out.1 hu
   go_wp2_with (go_at_call 33; refine Hid.out ?_)
   refine hid ?_
   refine (Z3D (N := N2) (us := traU true (nf (Z0d (osOf x))) (nf (Z0d (osOf y)))) D_M1.out O_pp.out.at_ HS.out HT.out H64.out g1 g2 g3 (g4.trans HU.out.symm)).mono ?_
   rintro e wn ⟨A8, c8, M3, rfl, h_1, m_1, b_1, d_1, y⟩
   have D1 := hid (D1.out.ext y)
   have OX := hid (OX.out.ext y)
   have OY := hid (OY.out.ext y)
   have HS := hid (HS.out.ext y)
   have HT := hid (Utf8Tabs_below HT.out y)
   have D_M1 := hid (D_M1.out.ext y)
   have O_pp := hid (O_pp.out.ext y)
   replace hx := Z0a hx y
   rw [HU.out] at h_1
   have D_M3 := hid d_1
   have E_M3 := hid h_1
   have M_M3 := hid m_1
   clear d_1 h_1 m_1 b_1
   clear y
   have L3 : M3.length = U.length := by rw [← Z0s, E_M3.out]
   by_cases hlong : most < (M3.length : Int)
   ·skip
    have := hlong
    go_wp2_with (fail)
    refine bodyPost_ret (v := .tuple #[.slice none 0 0, .int .i64 8]) (by simp [results, Tryz.results53, go_sem]) rfl ?_
    exact ⟨hx, .inr ⟨by rw [← L3]; exact hlong, rfl⟩⟩
   go_wp2_with (fail)
   refine bodyPost_ret (v := .tuple #[.slice A8 M3.length c8, .int .i64 0]) (by simp [results, Tryz.results53, go_sem, L3]) rfl ?_
   exact ⟨hx, .inl ⟨by rw [← L3]; omega, _, _, M3, rfl, E_M3.out, M_M3.out, D_M3.out⟩⟩
  have hr := MO.out.2 (by omega)
  go_wp2_with (go_at_call 33; refine Hid.out ?_)
  refine hid ?_
  refine (Z5H D_M1.out O_pp.out.at_ HS.out HT.out hr (by decide)).mono ?_
  rintro e wn ⟨rfl, y⟩
  have D1 := hid (D1.out.ext y)
  have OX := hid (OX.out.ext y)
  have OY := hid (OY.out.ext y)
  have HS := hid (HS.out.ext y)
  have HT := hid (Utf8Tabs_below HT.out y)
  have D_M1 := hid (D_M1.out.ext y)
  have O_pp := hid (O_pp.out.ext y)
  replace hx := Z0a hx y
  clear y
  go_wp2_with (fail)
  refine bodyPost_ret (v := .tuple #[.slice none 0 0, .int .i64 8]) (by simp [results, Tryz.results53, go_sem]) rfl ?_
  exact ⟨hx, .inr ⟨by omega, rfl⟩⟩
 have hmax : max most (M1.length : Int) = most := by omega
 have MO := hid (Z8y (most := most) E_pp.out (by have := O_pp.out.at_.len; have := O_pp.out.at_.b; omega) M_M1.out FPA.out.1 (by omega) FPA.out.2 (by rw [LM.out]; omega))
 rw [HU.out] at MO
 by_cases hu : (U.length : Int) ≤ most
 ·skip
  obtain ⟨N2, g1, g2, g3, g4⟩ := MO.out.1 hu
  go_wp2_with (go_at_call 33; refine Hid.out ?_)
  refine hid ?_
  refine (Z3D (N := N2) (us := traU true (nf (Z0d (osOf x))) (nf (Z0d (osOf y)))) D_M1.out O_pp.out.at_ HS.out HT.out H64.out g1 g2 g3 (g4.trans HU.out.symm)).mono ?_
  rintro e wn ⟨A8, c8, M3, rfl, h_1, m_1, b_1, d_1, y⟩
  have D1 := hid (D1.out.ext y)
  have OX := hid (OX.out.ext y)
  have OY := hid (OY.out.ext y)
  have HS := hid (HS.out.ext y)
  have HT := hid (Utf8Tabs_below HT.out y)
  have D_M1 := hid (D_M1.out.ext y)
  have O_pp := hid (O_pp.out.ext y)
  replace hx := Z0a hx y
  rw [HU.out] at h_1
  have D_M3 := hid d_1
  have E_M3 := hid h_1
  have M_M3 := hid m_1
  clear d_1 h_1 m_1 b_1
  clear y
  have L3 : M3.length = U.length := by rw [← Z0s, E_M3.out]
  have hlong : ¬ most < (M3.length : Int) := by omega
  go_wp2_with (fail)
  refine bodyPost_ret (v := .tuple #[.slice A8 M3.length c8, .int .i64 0]) (by simp [results, Tryz.results53, go_sem, L3]) rfl ?_
  exact ⟨hx, .inl ⟨by rw [← L3]; omega, _, _, M3, rfl, E_M3.out, M_M3.out, D_M3.out⟩⟩
 have hr := MO.out.2 (by omega)
 go_wp2_with (go_at_call 33; refine Hid.out ?_)
 refine hid ?_
 refine (Z5H D_M1.out O_pp.out.at_ HS.out HT.out hr (by decide)).mono ?_
 rintro e wn ⟨rfl, y⟩
 have D1 := hid (D1.out.ext y)
 have OX := hid (OX.out.ext y)
 have OY := hid (OY.out.ext y)
 have HS := hid (HS.out.ext y)
 have HT := hid (Utf8Tabs_below HT.out y)
 have D_M1 := hid (D_M1.out.ext y)
 have O_pp := hid (O_pp.out.ext y)
 replace hx := Z0a hx y
 clear y
 go_wp2_with (fail)
 refine bodyPost_ret (v := .tuple #[.slice none 0 0, .int .i64 8]) (by simp [results, Tryz.results53, go_sem]) rfl ?_
 exact ⟨hx, .inr ⟨by omega, rfl⟩⟩
theorem Y28 (s : Nat) (l0 : List Ky) (A1 Ax Ay : Option Addr) (n1 c1 nx cx ny cy : Nat) (d : List ClS) (x y : List OpS) (most r : Int) (w : World) (hD : DocAt w A1 n1 c1 d) (hX : OpsAt w Ax nx x) (hY : OpsAt w Ay ny y) (hS : Sch w s l0) (hl : l0.length ≤ 64)
 (hT : Utf8Tabs 1 2 w) (hr : Z0F l0 x (Z0e d) 536870912 = r) (hne : r ≠ 0) :
 Calls Tryz.prog 53 #[.pointer (some ⟨s, 0, none⟩), .slice A1 n1 c1, .slice Ax nx cx, .slice Ay ny cy, .int .i64 most] w fun e w' => e = .returned (.tuple #[.slice none 0 0, .int .i64 r]) ∧ Below w.heap.size w w' := by
 have D1 := hid hD
 have OX := hid hX
 have OY := hid hY
 have HS := hid hS
 have HT := hid hT
 have H64 := hid hl
 have HR := hid hr
 have hx := Below.refl w.heap.size w
 clear hD hX hY hS hT hl hr
 have hne' : (r == 0) = false := beq_eq_false_iff_ne.2 hne
 have hne'' : (r != 0) = true := by rw [bne, hne']; rfl
 go_enter Tryz.func53, Tryz.ntmps53
 go_wp2_with (go_at_call 33; refine Hid.out ?_)
 refine hid ?_
 refine (Z5H D1.out OX.out HS.out HT.out HR.out hne).mono ?_
 rintro e wn ⟨rfl, y⟩
 have D1 := hid (D1.out.ext y)
 have OX := hid (OX.out.ext y)
 have OY := hid (OY.out.ext y)
 have HS := hid (HS.out.ext y)
 have HT := hid (Utf8Tabs_below HT.out y)
 replace hx := Z0a hx y
 clear y
 go_wp2_with (fail)
 refine bodyPost_ret (v := .tuple #[.slice none 0 0, .int .i64 r]) (by simp [results, Tryz.results53, go_sem]) rfl ?_
 exact ⟨rfl, hx⟩
theorem Y29 (s : Nat) (l0 : List Ky) (A1 Ax Ay : Option Addr) (n1 c1 nx cx ny cy : Nat) (d : List ClS) (x y : List OpS) (most r : Int) (w : World) (hD : DocAt w A1 n1 c1 d) (hX : OpsAt w Ax nx x) (hY : OpsAt w Ay ny y) (hS : Sch w s l0) (hl : l0.length ≤ 64)
 (hT : Utf8Tabs 1 2 w) {Na : Nat} (Ia : In l0 x (Z0e d) 536870912 Na) (hr : Z0F l0 y (Z0e d) 536870912 = r) (hne : r ≠ 0) :
 Calls Tryz.prog 53 #[.pointer (some ⟨s, 0, none⟩), .slice A1 n1 c1, .slice Ax nx cx, .slice Ay ny cy, .int .i64 most] w fun e w' => e = .returned (.tuple #[.slice none 0 0, .int .i64 r]) ∧ Below w.heap.size w w' := by
 have D1 := hid hD
 have OX := hid hX
 have OY := hid hY
 have HS := hid hS
 have HT := hid hT
 have H64 := hid hl
 have HR := hid hr
 have IA := hid Ia
 have hx := Below.refl w.heap.size w
 clear hD hX hY hS hT hl hr Ia
 have hne' : (r == 0) = false := beq_eq_false_iff_ne.2 hne
 have hne'' : (r != 0) = true := by rw [bne, hne']; rfl
 go_enter Tryz.func53, Tryz.ntmps53
 go_wp2_with (go_at_call 33; refine Hid.out ?_)
 refine hid ?_
 refine (Z3D (N := Na) (us := Z0d (osOf x)) D1.out OX.out HS.out HT.out H64.out IA.out.n (Z22 IA.out.at_ IA.out.le) IA.out.at_ rfl).mono ?_
 rintro e wn ⟨A5, c5, M1, rfl, h_1, m_1, b_1, d_1, y⟩
 have D1 := hid (D1.out.ext y)
 have OX := hid (OX.out.ext y)
 have OY := hid (OY.out.ext y)
 have HS := hid (HS.out.ext y)
 have HT := hid (Utf8Tabs_below HT.out y)
 replace hx := Z0a hx y
 clear d_1 h_1 m_1 b_1
 clear y
 go_wp2_with (go_at_call 33; refine Hid.out ?_)
 refine hid ?_
 refine (Z5H D1.out OY.out HS.out HT.out HR.out hne).mono ?_
 rintro e wn ⟨rfl, y⟩
 have D1 := hid (D1.out.ext y)
 have OX := hid (OX.out.ext y)
 have OY := hid (OY.out.ext y)
 have HS := hid (HS.out.ext y)
 have HT := hid (Utf8Tabs_below HT.out y)
 replace hx := Z0a hx y
 clear y
 go_wp2_with (fail)
 refine bodyPost_ret (v := .tuple #[.slice none 0 0, .int .i64 r]) (by simp [results, Tryz.results53, go_sem]) rfl ?_
 exact ⟨rfl, hx⟩
def gapD (us : List Un) : Nat → List Un
 | 0 => us
 | g + 1 => ((gapD us g).dropWhile Z0n).tail
def Z5M (f : Bool) (u : Option Un) (v : Un) : List Un :=
 match u, v with
 | some .del, _ => []
 | _, .del => [.del]
 | some (.ret p), .ret q => [.ret (Z2l f q p)]
 | _, .ret q => [.ret q]
 | _, .ins _ _ => []
def rets (n : Nat) : List Un := List.replicate n (.ret [])
theorem dw_dw (us : List Un) : (us.dropWhile Z0n).dropWhile Z0n = us.dropWhile Z0n := by
 induction us with
 | nil => rfl
 | cons u us ih =>
   cases h : Z0n u
   ·rw [List.dropWhile_cons_of_neg (by rw [h]; decide), List.dropWhile_cons_of_neg (by rw [h]; decide)]
   ·rw [List.dropWhile_cons_of_pos h]; exact ih
theorem Y6s (us : List Un) : (us.dropWhile Z0n).takeWhile Z0n = [] := by
 induction us with
 | nil => rfl
 | cons u us ih =>
   cases h : Z0n u
   ·rw [List.dropWhile_cons_of_neg (by rw [h]; decide), List.takeWhile_cons_of_neg (by rw [h]; decide)]
   ·rw [List.dropWhile_cons_of_pos h]; exact ih
theorem Z3G : ∀ {us : List Un} {u : Un} {t : List Un}, us.dropWhile Z0n = u :: t → Z0n u = false
 | [], _, _, h => by cases h
 | x :: us, u, t, h => by
   cases hx : Z0n x
   ·rw [List.dropWhile_cons_of_neg (by rw [hx]; decide)] at h
    injection h with h1 h2
    rw [← h1]; exact hx
   ·rw [List.dropWhile_cons_of_pos hx] at h
    exact Z3G h
theorem Z9q (f : Bool) : ∀ (vs us : List Un) {v : Un} {t : List Un}, vs.dropWhile Z0n = v :: t →
 traU f us vs = (if f = true then rets (us.takeWhile Z0n).length ++ vs.takeWhile Z0n else vs.takeWhile Z0n ++ rets (us.takeWhile Z0n).length) ++ (Z5M f (us.dropWhile Z0n).head? v ++ traU f (us.dropWhile Z0n).tail t)
 | [], us, v, t, h => by cases h
 | .ins r s :: vs, us, v, t, h => by
   have h' : vs.dropWhile Z0n = v :: t := h
   have tw : (Un.ins r s :: vs).takeWhile Z0n = .ins r s :: vs.takeWhile Z0n := rfl
   rw [tw]
   cases f with
   | true =>
     rw [traU, if_pos rfl, if_pos rfl, Z9q true vs _ h', if_pos rfl, Y6s, dw_dw]
     simp [rets]
   | false =>
     rw [traU, if_neg (by decide), if_neg (by decide), Z9q false vs us h', if_neg (by decide)]
     simp
 | .del :: vs, us, v, t, h => by
   have e : (Un.del :: vs).dropWhile Z0n = .del :: vs := rfl
   have e2 : (Un.del :: vs).takeWhile Z0n = [] := rfl
   rw [e] at h
   injection h with h1 h2
   subst h1 h2
   rw [e2]
   have g : (if f = true then rets (us.takeWhile Z0n).length ++ [] else [] ++ rets (us.takeWhile Z0n).length) = rets (us.takeWhile Z0n).length := by split <;> simp
   rw [g, traU]
   unfold rets
   congr 1
   cases hd : us.dropWhile Z0n with
   | nil => rfl
   | cons u us' =>
     cases u with
     | ins r s => have := Z3G hd; cases this
     | del => rfl
     | ret p => rfl
 | .ret q :: vs, us, v, t, h => by
   have e : (Un.ret q :: vs).dropWhile Z0n = .ret q :: vs := rfl
   have e2 : (Un.ret q :: vs).takeWhile Z0n = [] := rfl
   rw [e] at h
   injection h with h1 h2
   subst h1 h2
   rw [e2]
   have g : (if f = true then rets (us.takeWhile Z0n).length ++ [] else [] ++ rets (us.takeWhile Z0n).length) = rets (us.takeWhile Z0n).length := by split <;> simp
   rw [g, traU]
   unfold rets
   congr 1
   have pn : Z2l f q [] = q := Y0g f q
   cases hd : us.dropWhile Z0n with
   | nil => simp [Z5M, pn]
   | cons u us' =>
     cases u with
     | ins r s => have := Z3G hd; cases this
     | del => simp [Z5M]
     | ret p => simp [Z5M]
theorem Z7Q (f : Bool) : ∀ (vs us : List Un), vs.dropWhile Z0n = [] →
 ∃ n, (if f = true then rets (us.takeWhile Z0n).length ++ vs.takeWhile Z0n else vs.takeWhile Z0n ++ rets (us.takeWhile Z0n).length) = traU f us vs ++ rets n
 | [], us, h => ⟨(us.takeWhile Z0n).length, by rw [Z2d]; cases f <;> simp⟩
 | .ins r s :: vs, us, h => by
   have h' : vs.dropWhile Z0n = [] := h
   have tw : (Un.ins r s :: vs).takeWhile Z0n = .ins r s :: vs.takeWhile Z0n := rfl
   rw [tw]
   cases f with
   | true =>
     obtain ⟨n, hn⟩ := Z7Q true vs (us.dropWhile Z0n) h'
     rw [if_pos rfl, Y6s] at hn
     refine ⟨n, ?_⟩
     rw [if_pos rfl, traU, if_pos rfl]
     have hn' : vs.takeWhile Z0n = traU true (us.dropWhile Z0n) vs ++ rets n := by simpa [rets] using hn
     rw [hn']
     simp [rets]
   | false =>
     obtain ⟨n, hn⟩ := Z7Q false vs us h'
     rw [if_neg (by decide)] at hn
     refine ⟨n, ?_⟩
     rw [if_neg (by decide), traU, if_neg (by decide)]
     rw [List.cons_append, hn]; rfl
 | .del :: vs, us, h => by cases h
 | .ret q :: vs, us, h => by cases h
def Z1n : List OpS → Nat → List OpS
 | [], _ => []
 | z :: t, g => if z.o.k = 2 then (if g = 0 then z :: Z1n t 0 else Z1n t g) else if z.o.n.toNat ≤ g then Z1n t (g - z.o.n.toNat) else []
def Z0C : List OpS → Nat → Option OpS
 | [], _ => none
 | z :: t, g => if z.o.k = 2 then Z0C t g else if g < z.o.n.toNat then some z else Z0C t (g - z.o.n.toNat)
def Z0u : List OpS → Nat
 | [] => 0
 | z :: t => (if z.o.k = 2 then 0 else z.o.n.toNat) + Z0u t
theorem Z7c (x : List OpS) (z : OpS) : Z0u (x ++ [z]) = Z0u x + (if z.o.k = 2 then 0 else z.o.n.toNat) := by
 induction x with
 | nil => simp [Z0u]
 | cons a t ih => rw [List.cons_append, Z0u, Z0u, ih]; omega
theorem Z25 (z : OpS) : ∀ (x : List OpS) (g : Nat), Z1n (x ++ [z]) g = if z.o.k = 2 ∧ g = Z0u x then Z1n x g ++ [z] else Z1n x g
 | [], g => by
   simp only [List.nil_append, Z1n, Z0u]
   by_cases h : z.o.k = 2
   ·by_cases hg : g = 0 <;> simp [h, hg]
   ·simp [h]
 | a :: t, g => by
   rw [List.cons_append, Z1n, Z1n, Z0u]
   by_cases ha : a.o.k = 2
   ·rw [if_pos ha, if_pos ha, if_pos ha, Z25 z t 0, Z25 z t g, Nat.zero_add]
    by_cases hg : g = 0
    ·subst hg
     rw [if_pos rfl, if_pos rfl]
     by_cases h : z.o.k = 2 ∧ 0 = Z0u t
     ·rw [if_pos h, if_pos h]; rfl
     ·rw [if_neg h, if_neg h]
    ·rw [if_neg hg, if_neg hg]
   ·rw [if_neg ha, if_neg ha, if_neg ha]
    by_cases hn : a.o.n.toNat ≤ g
    ·rw [if_pos hn, if_pos hn, Z25 z t _]
     have e : (g - a.o.n.toNat = Z0u t) ↔ (g = a.o.n.toNat + Z0u t) := by omega
     simp only [e]
    ·rw [if_neg hn, if_neg hn, if_neg (fun h => by have := h.2; omega)]
theorem Z17 (z : OpS) : ∀ (x : List OpS) (g : Nat), Z0C (x ++ [z]) g = if g < Z0u x then Z0C x g else if z.o.k = 2 then none else if g < Z0u x + z.o.n.toNat then some z else none
 | [], g => by simp [Z0C, Z0u]
 | a :: t, g => by
   rw [List.cons_append, Z0C, Z0C, Z0u]
   by_cases ha : a.o.k = 2
   ·rw [if_pos ha, if_pos ha, if_pos ha, Z17 z t g, Nat.zero_add]
   ·rw [if_neg ha, if_neg ha, if_neg ha]
    by_cases hn : g < a.o.n.toNat
    ·rw [if_pos hn, if_pos hn, if_pos (by omega)]
    ·rw [if_neg hn, if_neg hn, Z17 z t _]
     have e1 : (g - a.o.n.toNat < Z0u t) ↔ (g < a.o.n.toNat + Z0u t) := by omega
     have e2 : (g - a.o.n.toNat < Z0u t + z.o.n.toNat) ↔ (g < a.o.n.toNat + Z0u t + z.o.n.toNat) := by omega
     simp only [e1, e2]
theorem Z1U : ∀ (x : List OpS) (g : Nat), Z0u x ≤ g → Z0C x g = none
 | [], g, _ => rfl
 | a :: t, g, h => by
   rw [Z0u] at h
   rw [Z0C]
   by_cases ha : a.o.k = 2
   ·rw [if_pos ha] at h ⊢
    exact Z1U t g (by omega)
   ·rw [if_neg ha] at h ⊢
    rw [if_neg (by omega)]
    exact Z1U t _ (by omega)
theorem Z2y : ∀ (x : List OpS) (g : Nat), g < Z0u x → ∃ z, Z0C x g = some z ∧ z ∈ x ∧ ¬ z.o.k = 2
 | [], g, h => by simp [Z0u] at h
 | a :: t, g, h => by
   rw [Z0u] at h
   rw [Z0C]
   by_cases ha : a.o.k = 2
   ·rw [if_pos ha] at h ⊢
    obtain ⟨z, h1, h2, h3⟩ := Z2y t g (by omega)
    exact ⟨z, h1, List.mem_cons_of_mem _ h2, h3⟩
   ·rw [if_neg ha] at h ⊢
    by_cases hn : g < a.o.n.toNat
    ·exact ⟨a, by rw [if_pos hn], List.mem_cons_self, ha⟩
    ·obtain ⟨z, h1, h2, h3⟩ := Z2y t (g - a.o.n.toNat) (by omega)
     exact ⟨z, by rw [if_neg hn]; exact h1, List.mem_cons_of_mem _ h2, h3⟩
theorem Z26 : ∀ (x : List OpS) (g : Nat) (z : OpS), z ∈ Z1n x g → z ∈ x ∧ z.o.k = 2
 | [], g, z, h => by cases h
 | a :: t, g, z, h => by
   rw [Z1n] at h
   by_cases ha : a.o.k = 2
   ·rw [if_pos ha] at h
    by_cases hg : g = 0
    ·rw [if_pos hg] at h
     rcases List.mem_cons.1 h with rfl | h
     ·exact ⟨List.mem_cons_self, ha⟩
     ·have := Z26 t 0 z h; exact ⟨List.mem_cons_of_mem _ this.1, this.2⟩
    ·rw [if_neg hg] at h
     have := Z26 t g z h; exact ⟨List.mem_cons_of_mem _ this.1, this.2⟩
   ·rw [if_neg ha] at h
    split at h
    ·have := Z26 t _ z h; exact ⟨List.mem_cons_of_mem _ this.1, this.2⟩
    ·cases h
theorem Z27 : ∀ (x : List OpS) (g : Nat), (Z1n x g).length ≤ x.length
 | [], g => Nat.le_refl _
 | a :: t, g => by
   rw [Z1n]
   by_cases ha : a.o.k = 2
   ·rw [if_pos ha]
    by_cases hg : g = 0
    ·rw [if_pos hg]; have := Z27 t 0; simp; omega
    ·rw [if_neg hg]; have := Z27 t g; simp; omega
   ·rw [if_neg ha]
    split
    ·have := Z27 t (g - a.o.n.toNat); simp; omega
    ·simp
def cel1 (z : OpS) : Un := if z.o.k = 1 then .ret z.o.p else .del
theorem Z6t {u : Un} (hu : Z0n u = false) (us : List Un) : ∀ g, gapD (u :: us) (g + 1) = gapD us g
 | 0 => by
   show ((u :: us).dropWhile Z0n).tail = us
   rw [List.dropWhile_cons_of_neg (by rw [hu]; decide)]; rfl
 | g + 1 => by
   show ((gapD (u :: us) (g + 1)).dropWhile Z0n).tail = ((gapD us g).dropWhile Z0n).tail
   rw [Z6t hu us g]
theorem Y0r {u : Un} (hu : Z0n u = true) (us : List Un) : ∀ g, gapD (u :: us) (g + 1) = gapD us (g + 1)
 | 0 => by
   show ((u :: us).dropWhile Z0n).tail = (us.dropWhile Z0n).tail
   rw [List.dropWhile_cons_of_pos hu]
 | g + 1 => by
   show ((gapD (u :: us) (g + 1)).dropWhile Z0n).tail = ((gapD us (g + 1)).dropWhile Z0n).tail
   rw [Y0r hu us g]
theorem Z8B : ∀ (a us : List Un), (∀ u ∈ a, Z0n u = true) → ∀ g, gapD (a ++ us) (g + 1) = gapD us (g + 1)
 | [], us, _, g => rfl
 | u :: a, us, h, g => by
   rw [List.cons_append, Y0r (h u List.mem_cons_self), Z8B a us (fun v hv => h v (List.mem_cons_of_mem _ hv))]
theorem Z7d {u : Un} (hu : Z0n u = false) (us : List Un) : ∀ (n g : Nat), n ≤ g → gapD (List.replicate n u ++ us) g = gapD us (g - n)
 | 0, g, _ => rfl
 | n + 1, 0, h => by omega
 | n + 1, g + 1, h => by
   rw [List.replicate_succ, List.cons_append, Z6t hu, Z7d hu us n g (by omega)]
   congr 1; omega
theorem Y3a {u : Un} (hu : Z0n u = false) (us : List Un) : ∀ (n g : Nat), g < n → ∃ t, gapD (List.replicate n u ++ us) g = u :: t
 | 0, g, h => by omega
 | n + 1, 0, _ => ⟨_, by rw [List.replicate_succ]; rfl⟩
 | n + 1, g + 1, h => by
   rw [List.replicate_succ, List.cons_append, Z6t hu]
   exact Y3a hu us n g (by omega)
theorem Y6t {a us : List Un} (h : ∀ u ∈ a, Z0n u = true) : (a ++ us).takeWhile Z0n = a ++ us.takeWhile Z0n := by
 induction a with
 | nil => rfl
 | cons u a ih => rw [List.cons_append, List.takeWhile_cons_of_pos (h u List.mem_cons_self), ih (fun v hv => h v (List.mem_cons_of_mem _ hv))]; rfl
theorem Y6u {a us : List Un} (h : ∀ u ∈ a, Z0n u = true) : (a ++ us).dropWhile Z0n = us.dropWhile Z0n := by
 induction a with
 | nil => rfl
 | cons u a ih => rw [List.cons_append, List.dropWhile_cons_of_pos (h u List.mem_cons_self), ih (fun v hv => h v (List.mem_cons_of_mem _ hv))]
theorem Z5e {z : OpS} (h : z.o.k = 2) : ∀ u ∈ Z0h z.o, Z0n u = true := by
 unfold Z0h
 rw [if_pos h]
 intro u hu
 obtain ⟨r, _, rfl⟩ := List.mem_map.1 hu
 rfl
theorem Y1s {z : OpS} (h : ¬ z.o.k = 2) : Z0h z.o = List.replicate z.o.n.toNat (cel1 z) := by
 unfold Z0h cel1
 rw [if_neg h]
 split <;> rfl
theorem Y4C (z : OpS) : Z0n (cel1 z) = false := by unfold cel1; split <;> rfl
theorem Z0Y : ∀ (x : List OpS) (g : Nat), (gapD (Z0d (osOf x)) g).takeWhile Z0n = Z0d (osOf (Z1n x g)) ∧ ((gapD (Z0d (osOf x)) g).dropWhile Z0n).head? = (Z0C x g).map cel1
 | [], g => by
   have : ∀ g, gapD [] g = [] := fun g => by
    induction g with
    | zero => rfl
    | succ g ih => show ((gapD [] g).dropWhile Z0n).tail = []; rw [ih]; rfl
   show (gapD [] g).takeWhile Z0n = [] ∧ ((gapD [] g).dropWhile Z0n).head? = none
   rw [this g]; exact ⟨rfl, rfl⟩
 | z :: t, g => by
   have e : Z0d (osOf (z :: t)) = Z0h z.o ++ Z0d (osOf t) := rfl
   rw [e, Z1n, Z0C]
   by_cases hz : z.o.k = 2
   ·have hi := Z5e hz
    rw [if_pos hz, if_pos hz]
    cases g with
    | zero =>
      obtain ⟨h1, h2⟩ := Z0Y t 0
      rw [if_pos rfl]
      show (Z0h z.o ++ Z0d (osOf t)).takeWhile Z0n = Z0h z.o ++ Z0d (osOf (Z1n t 0)) ∧ _
      constructor
      ·rw [Y6t hi]; rw [← h1]; rfl
      ·rw [← h2]
       show ((Z0h z.o ++ Z0d (osOf t)).dropWhile Z0n).head? = _
       rw [Y6u hi]; rfl
    | succ g =>
      rw [if_neg (by omega), Z8B _ _ hi]
      exact Z0Y t (g + 1)
   ·rw [if_neg hz, if_neg hz, Y1s hz]
    have hn := Y4C z
    by_cases hg : z.o.n.toNat ≤ g
    ·rw [if_pos hg, if_neg (by omega), Z7d hn _ _ _ hg]
     exact Z0Y t _
    ·rw [if_neg hg, if_pos (by omega)]
     obtain ⟨s, hs⟩ := Y3a hn (Z0d (osOf t)) z.o.n.toNat g (by omega)
     rw [hs]
     exact ⟨by rw [List.takeWhile_cons_of_neg (by rw [hn]; decide)]; rfl, by rw [List.dropWhile_cons_of_neg (by rw [hn]; decide)]; rfl⟩
open Go.RowKit Go.MapKept
def MapV (w : World) (b : Nat) (kv : List (Int × Value)) : Prop := ∃ es clock, w.heap[b]? = some (.map es clock) ∧ es.toList.map (fun e => (e.key, e.val)) = kv.map (fun p => (Value.int .i64 p.1, p.2))
def Z12 (kv : List (Int × Value)) (id : Int) : Option Value := (kv.find? (fun p => decide (p.1 = id))).map (·.2)
def putV : List (Int × Value) → Int → Value → List (Int × Value)
 | [], id, v => [(id, v)]
 | p :: t, id, v => if p.1 = id then (id, v) :: t else p :: putV t id v
theorem Z4I (kv : List (Int × Value)) (id : Int) (v : Value) (k : Int) : Z12 (putV kv id v) k = if id = k then some v else Z12 kv k := by
 induction kv with
 | nil => unfold Z12 putV; by_cases h : id = k <;> simp [h]
 | cons p t ih =>
   unfold putV
   by_cases hp : p.1 = id
   ·rw [if_pos hp]
    unfold Z12
    by_cases hk : id = k
    ·simp [hk]
    ·have : ¬ p.1 = k := fun e => hk (hp.symm.trans e)
     simp [hk, this]
   ·rw [if_neg hp]
    unfold Z12 at ih ⊢
    rw [List.find?_cons, List.find?_cons]
    by_cases hk : p.1 = k
    ·have : ¬ id = k := fun e => hp (hk.trans e.symm)
     simp [hk, this]
    ·simp only [hk, decide_false]
     exact ih
theorem Z3H (id : Int) : ∀ (kv : List (Int × Value)) (es : List MapEntry) (i : Nat), es.map (fun e => (e.key, e.val)) = kv.map (fun p => (Value.int .i64 p.1, p.2)) →
 (Z12 kv id = none ∧ Instr.findNow (.int .i64) (.int .i64 id) es i = some none) ∨
 ∃ j v, Z12 kv id = some v ∧ Instr.findNow (.int .i64) (.int .i64 id) es i = some (some (i + j, v)) ∧ (∃ e, es[j]? = some e ∧ e.key = .int .i64 id) ∧ ∀ v', (es.modify j (fun e => { e with key := .int .i64 id, val := v' })).map (fun e => (e.key, e.val)) = (putV kv id v').map (fun p => (Value.int .i64 p.1, p.2))
 | [], [], i, _ => .inl ⟨rfl, rfl⟩
 | [], e :: es, i, h => by simp at h
 | k :: l, [], i, h => by simp at h
 | k :: l, e :: es, i, h => by
   simp only [List.map_cons, List.cons.injEq, Prod.mk.injEq] at h
   obtain ⟨⟨h1, h2⟩, h3⟩ := h
   by_cases hk : k.1 = id
   ·refine .inr ⟨0, e.val, ?_, ?_, ⟨e, rfl, by rw [h1, hk]⟩, fun v' => ?_⟩
    ·unfold Z12; simp [hk, h2]
    ·simp [Instr.findNow, Instr.sameNow, h1, hk]
    ·unfold putV; rw [if_pos hk]; simp [h3]
   ·have hb : (id == k.1) = false := by simp; omega
    have hf : Z12 (k :: l) id = Z12 l id := by unfold Z12; simp [hk]
    rcases Z3H id l es (i + 1) h3 with ⟨g1, g2⟩ | ⟨j, v, g1, g2, ⟨e', g3, g3'⟩, g4⟩
    ·exact .inl ⟨by rw [hf, g1], by simp [Instr.findNow, Instr.sameNow, h1, hb, g2]⟩
    ·refine .inr ⟨j + 1, v, by rw [hf, g1], ?_, ⟨e', by simpa using g3, g3'⟩, fun v' => ?_⟩
     ·simp only [Instr.findNow, Instr.sameNow, h1, hb]
      rw [g2]
      have : i + 1 + j = i + (j + 1) := by omega
      simp [this]
     ·unfold putV; rw [if_neg hk]
      simp only [List.modify_succ_cons, List.map_cons, h1, h2, g4 v']
section
variable {t k e : TypeId} {z : Value} {w : World} {b : Nat} {kv : List (Int × Value)}
theorem MapV.look (hu : Tryz.prog.underlying t = some (.map 3 e)) (hz : ∀ w, (zeroValue e).run Tryz.prog w = .ok z w) (h : MapV w b kv) (id : Int) :
 (Instr.lookup t (.map (some b)) (.int .i64 id) false).run Tryz.prog w = .ok ((Z12 kv id).getD z) w := by
 obtain ⟨es, clock, hb, he⟩ := h
 have hc := fun e => run_checkKey (P := Tryz.prog) (w := w) (k := .int .i64 id) Tryz.mpInt (by simp [IsKey]) e 9999
 rcases Z3H id kv es.toList 0 he with ⟨h1, h2⟩ | ⟨j, v, h1, h2, _⟩
 ·have hf := run_findKey (P := Tryz.prog) (w := w) Tryz.mpInt h2
  simp [Instr.lookup, run_underlying hu, MapKept.run_getObj_map hb, hc, hf, hz, Result.andThen, h1]
 ·have hf := run_findKey (P := Tryz.prog) (w := w) Tryz.mpInt h2
  simp [Instr.lookup, run_underlying hu, MapKept.run_getObj_map hb, hc, hf, Result.andThen, h1]
theorem MapV.store (hu : Tryz.prog.underlying t = some (.map 3 e)) (h : MapV w b kv) (id : Int) (v : Value) :
 ∃ w', (Instr.mapUpdate t (.map (some b)) (.int .i64 id) v).run Tryz.prog w = .ok () w' ∧ MapV w' b (putV kv id v) ∧ (∀ j, j ≠ b → w'.heap[j]? = w.heap[j]?) ∧ w'.heap.size = w.heap.size ∧ w'.os = w.os ∧ w'.tape = w.tape ∧ w'.output = w.output := by
 obtain ⟨es, clock, hb, he⟩ := h
 have hc := fun e => run_checkKey (P := Tryz.prog) (w := w) (k := .int .i64 id) Tryz.mpInt (by simp [IsKey]) e 9999
 rcases Z3H id kv es.toList 0 he with ⟨h1, h2⟩ | ⟨j, v0, h1, h2, ⟨e', h3, h3'⟩, h4⟩
 ·have hf := run_findKey (P := Tryz.prog) (w := w) Tryz.mpInt h2
  obtain ⟨g1, g2⟩ := heap_set (o' := .map (es.push ⟨.int .i64 id, v, clock⟩) (clock + 1)) hb
  refine ⟨{ w with heap := w.heap.setIfInBounds b (.map (es.push ⟨.int .i64 id, v, clock⟩) (clock + 1)) }, ?_, ⟨_, _, g1, ?_⟩, g2, by simp, rfl, rfl, rfl⟩
  ·simp [Instr.mapUpdate, run_underlying hu, MapKept.run_getObj_map hb, hc, hf, MapKept.run_setObj_map _ hb, Result.andThen]
  ·rw [Array.toList_push, List.map_append, he]
   have : ∀ (l : List (Int × Value)), Z12 l id = none → (putV l id v) = l ++ [(id, v)] := by
    intro l
    induction l with
    | nil => intro _; rfl
    | cons p t ih =>
      intro hn
      unfold Z12 at hn
      rw [List.find?_cons] at hn
      by_cases hp : p.1 = id
      ·simp [hp] at hn
      ·unfold putV; rw [if_neg hp]
       simp only [hp, decide_false] at hn
       rw [ih (by unfold Z12; exact hn)]; rfl
   rw [this kv h1]; simp
 ·have hf := run_findKey (P := Tryz.prog) (w := w) Tryz.mpInt h2
  rw [Nat.zero_add] at hf
  obtain ⟨g1, g2⟩ := heap_set (o' := .map (es.modify j fun e => { e with key := .int .i64 id, val := v }) clock) hb
  have h5 : es[j]? = some e' := by rw [← Array.getElem?_toList]; exact h3
  refine ⟨{ w with heap := w.heap.setIfInBounds b (.map (es.modify j fun e => { e with key := .int .i64 id, val := v }) clock) }, ?_, ⟨_, _, g1, ?_⟩, g2, by simp, rfl, rfl, rfl⟩
  ·simp [Instr.mapUpdate, Instr.keyThatStays, Instr.sameBits, run_underlying hu, MapKept.run_getObj_map hb, hc, hf, h5, h3', MapKept.run_setObj_map _ hb, Result.andThen]
  ·rw [Array.toList_modify]
   exact h4 v
theorem MapV.keep {w' : World} (h : MapV w b kv) (e : w'.heap[b]? = w.heap[b]?) : MapV w' b kv := by
 obtain ⟨es, clock, hb, he⟩ := h
 exact ⟨es, clock, e.trans hb, he⟩
theorem MapV.ext {w' : World} (h : MapV w b kv) (y : Below w.heap.size w w') : MapV w' b kv := by
 obtain ⟨es, clock, hb, he⟩ := h
 exact ⟨es, clock, (y.block b (Z0c hb)).trans hb, he⟩
theorem MapV.new (w : World) : MapV (w.alloc (.map #[] 0)) w.heap.size [] := ⟨_, _, heap_alloc_new _ _, rfl⟩
end
open Go.RowKit
set_option linter.unusedVariables false
set_option linter.unusedSimpArgs false
def RowG (F : Nat → Prop) (v : Value) : Nat → Prop := fun k => F k ∨ wb v = some k
structure RowF (w : World) (F : Nat → Prop) (B : Nat) (v : Value) (D : List OpS) : Prop where
 own : OwOs w B v D
 parts : ∀ x ∈ D, PartF w (RowG F v) x
section
variable {w w' : World} {F : Nat → Prop} {B : Nat} {v v' : Value} {D M : List OpS}
theorem RowF.nil (w : World) (F : Nat → Prop) (B : Nat) : RowF w F B (.slice none 0 0) [] := ⟨Ow.nil _ _, fun x hx => by cases hx⟩
theorem RowF.ext (h : RowF w F B v D) (y : Below w.heap.size w w') : RowF w' F B v D := ⟨h.own.below y (Nat.le_refl _), fun x hx => (h.parts x hx).grow (Grow.of y)⟩
theorem Y0s (g : w.grownBy w' (wb v)) (hv : v' = v ∧ w' = w ∨ wb v' = wb v ∨ wb v' = some w.heap.size) : Grow w (RowG F v) w' (RowG F v') :=
 ⟨g.os, g.tape, g.output, g.size, fun j hj hn => g.block j hj (fun e => hn (.inr e.symm)), fun k hk => by
  rcases hk with hk | hk
  ·exact .inl (.inl hk)
  ·rcases hv with ⟨rfl, _⟩ | h | h
   ·exact .inl (.inr hk)
   ·exact .inl (.inr (h ▸ hk))
   ·rw [h] at hk; injection hk with hk; exact .inr (by omega)⟩
theorem RowF.app (h : RowF w F B v D) (hm : ∀ x ∈ M, PartF w (RowG F v) x) (ho : OwOs w' B v' (D ++ M)) (g : w.grownBy w' (wb v)) (hv : v' = v ∧ w' = w ∨ wb v' = wb v ∨ wb v' = some w.heap.size) : RowF w' F B v' (D ++ M) :=
 ⟨ho, fun x hx => by
  rcases List.mem_append.1 hx with hx | hx
  ·exact (h.parts x hx).grow (Y0s g hv)
  ·exact (hm x hx).grow (Y0s g hv)⟩
theorem PartF.fresh {w0 : World} {x : OpS} (h : PartF w0 F x) (y : Below w0.heap.size w0 w) (hv : ∀ k, wb v = some k → w0.heap.size ≤ k) : PartF w (RowG F v) x := by
 have p := h.grow (Grow.of (F := F) y)
 have off : ∀ {α : Type} {enc : α → List Value} {size : Nat} {A : Option Addr} {l : List α}, Rd enc size w0 w0.heap.size A l → OffF F A l.length → OffF (RowG F v) A l.length := fun hr h1 ad e hl hk => by
  rcases hk with hk | hk
  ·exact h1 ad e hl hk
  ·obtain ⟨ad', e', hb, _⟩ := hr hl
   rw [e] at e'; injection e' with e'; subst e'
   have := hv _ hk; omega
 exact ⟨⟨p.1.1, off h.1.1 h.1.2⟩, ⟨p.2.1.1, off h.2.1.1 h.2.1.2⟩, ⟨p.2.2.1, off h.2.2.1 h.2.2.2⟩⟩
theorem RowF.low (h : RowF w F B v D) : ∀ k, wb v = some k → B ≤ k := fun k hk => (h.own.wb_lt k hk).1
theorem RowF.set {g n c i j : Nat} {u : Value} {x' : OpS} (h : RowF w F B (.slice (some ⟨g, 0, none⟩) n c) D) (hi : i < D.length) (hj : j < 5) (he : x'.enc = D[i].enc.set j u) (hp : PartF w (RowG F (.slice (some ⟨g, 0, none⟩) n c)) x') :
 RowF (w.setCell ⟨g, i * 5 + j, none⟩ u) F B (.slice (some ⟨g, 0, none⟩) n c) (D.set i x') := by
 have hc : ∃ c', c = c' + 1 := by
  obtain ⟨A', c', hv, h1, _⟩ := h.own.form
  injection hv with _ hn hcc
  exact ⟨c - 1, by omega⟩
 obtain ⟨c', rfl⟩ := hc
 have gr : Grow w (RowG F (.slice (some ⟨g, 0, none⟩) n (c' + 1))) (w.setCell ⟨g, i * 5 + j, none⟩ u) (RowG F (.slice (some ⟨g, 0, none⟩) n (c' + 1))) := Z0w g (i * 5 + j) u (.inr rfl) 0
 exact ⟨Ow.setEl OpS.enc_len h.own hi hj he, fun x hx => by
  rcases List.mem_or_eq_of_mem_set hx with hx | rfl
  ·exact (h.parts x hx).grow gr
  ·exact hp.grow gr⟩
end
end Go.Proofs.YtfnkjcodcoehcaaGreatDoor
