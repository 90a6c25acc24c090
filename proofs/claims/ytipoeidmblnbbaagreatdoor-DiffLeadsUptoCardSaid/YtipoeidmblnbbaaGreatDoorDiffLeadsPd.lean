/- The walk of rubriclaw23.DiffLeads. Printed by wip/gen_diff.py. -/
import Derived.Test.YtipoeidmblnbbaaGreatDoorPk38
import Derived.Test.YtipoeidmblnbbaaGreatDoorPk37
import Derived.Test.YtipoeidmblnbbaaGreatDoorPk36
import Derived.Test.YtipoeidmblnbbaaGreatDoorInvertWPd
import Derived.Test.YtipoeidmblnbbaaGreatDoorNormIsPd
namespace Go.Proofs.YtipoeidmblnbbaaGreatDoor
open Go.RowKit
set_option linter.unusedVariables false
set_option linter.unusedSimpArgs false

set_option maxRecDepth 100000 in
set_option maxHeartbeats 12800000 in
theorem diffLeads_any (A0 A1 A2 : Option Addr) (n0 n1 n2 c0 c1 c2 : Nat) (l0 : List Ky) (d o : List ClS) (w : World)
    (e0 : n0 = l0.length) (e1 : n1 = d.length) (e2 : n2 = o.length) (r0 : RdKy w w.heap.size A0 l0) (r1 : RdCl w w.heap.size A1 d) (r2 : RdCl w w.heap.size A2 o) (b0 : n0 ≤ 1048576) (b1 : n1 ≤ 1048576) (b2 : n2 ≤ 1048576) (k1 : n1 ≤ c1) (k2 : n2 ≤ c2)
    (q1 : ∀ x ∈ d, x.c.s.length ≤ 100000000 ∧ okVr x.c.s) (g1 : ∀ x ∈ d, x.c.s.length ≤ x.cs ∧ x.cs ≤ maxLen) (q2 : ∀ x ∈ o, x.c.s.length ≤ 100000000 ∧ okVr x.c.s) (g2 : ∀ x ∈ o, x.c.s.length ≤ x.cs ∧ x.cs ≤ maxLen) (hT : Lib.Utf8Tabs 1 2 w) :
    Calls Tryz.prog 7 #[.slice A0 n0 c0, .slice A1 n1 c1, .slice A2 n2 c2] w fun e w' => e = .returned (.bool true) ∧ Below w.heap.size w w' := by
  have N0 := Lib.hid e0
  have R0 := Lib.hid r0
  have HT := Lib.hid hT
  have hx := Below.refl w.heap.size w
  have N1 := Lib.hid e1
  have R1 := Lib.hid r1
  have Q1 := Lib.hid q1
  have C1 := Lib.hid g1
  have N2 := Lib.hid e2
  have R2 := Lib.hid r2
  have Q2 := Lib.hid q2
  have C2 := Lib.hid g2
  clear e0 r0 hT e1 r1 q1 g1 e2 r2 q2 g2
  go_enter Tryz.func7, Tryz.ntmps7
  have ra : Rd DocS.enc 1 _ _ _ [⟨A1, n1, c1, d⟩, ⟨A2, n2, c2, o⟩] := Rd.new (enc := DocS.enc) (size := 1) DocS.enc_len w 23 [⟨A1, n1, c1, d⟩, ⟨A2, n2, c2, o⟩] (cs := #[.slice A1 n1 c1, .slice A2 n2 c2]) rfl rfl
  have y := ext_alloc w (.cells #[.slice A1 n1 c1, .slice A2 n2 c2] 23)
  have R0 := Lib.hid (R0.out.ext y)
  have HT := Lib.hid (Utf8Tabs_below HT.out y)
  have R1 := Lib.hid (R1.out.ext y)
  have R2 := Lib.hid (R2.out.ext y)
  replace hx := ext_trans hx y
  clear y
  go_wp2_with (go_at_call 22; refine Hid.out ?_)
  refine Lib.hid ?_
  refine (great23_any A0 (some ⟨w.heap.size, 0, none⟩) n0 c0 2 2 [⟨A1, n1, c1, d⟩, ⟨A2, n2, c2, o⟩] _ rfl ra (by omega) (by omega) (fun x hx => by
    simp only [List.mem_cons, List.not_mem_nil, or_false] at hx
    rcases hx with rfl | rfl
    · exact ⟨N1.out, R1.out, by simp only; omega, fun z hz => by have := (Q1.out z hz).1; omega⟩
    · exact ⟨N2.out, R2.out, by simp only; omega, fun z hz => by have := (Q2.out z hz).1; omega⟩)).mono ?_
  rintro e wn ⟨gb, rfl, h1, dr, hd⟩
  have y := drew_ext hd
  clear hd ra
  have R0 := Lib.hid (R0.out.ext y)
  have HT := Lib.hid (Utf8Tabs_below HT.out y)
  have R1 := Lib.hid (R1.out.ext y)
  have R2 := Lib.hid (R2.out.ext y)
  replace hx := ext_trans hx y
  clear y
  cases gb
  case true =>
    clear h1
    go_wp2_with (go_at_call 23; refine Hid.out ?_)
    refine Lib.hid ?_
    refine (known23_any _ HT.out).mono ?_
    rintro e w2 ⟨rfl, y⟩
    replace hx := ext_trans hx y
    go_wp2_with (fail)
    go_ret
    exact ⟨rfl, hx⟩
  have h2 := h1 rfl
  have G0 := Lib.hid h2.1
  have G1 : Hid (n1 ≤ 400 ∧ ∀ c ∈ d, c.c.s.length ≤ 64) := Lib.hid (h2.2 ⟨A1, n1, c1, d⟩ (by simp))
  have G2 : Hid (n2 ≤ 400 ∧ ∀ c ∈ o, c.c.s.length ≤ 64) := Lib.hid (h2.2 ⟨A2, n2, c2, o⟩ (by simp))
  clear h1 h2
  go_wp2_with (go_at_call 13; refine Hid.out ?_)
  refine Lib.hid ?_
  refine (new_any A0 n0 c0 l0 _ N0.out R0.out (by omega)).mono ?_
  rintro e wn ⟨y, ⟨hm, s, rfl, hS⟩ | ⟨hm, rfl⟩⟩
  all_goals
    have R0 := Lib.hid (R0.out.ext y)
    have HT := Lib.hid (Utf8Tabs_below HT.out y)
    have R1 := Lib.hid (R1.out.ext y)
    have R2 := Lib.hid (R2.out.ext y)
    replace hx := ext_trans hx y
    clear y hm
  rotate_left
  · skip
    go_wp2_with (go_at_call 23; refine Hid.out ?_)
    refine Lib.hid ?_
    refine (known23_any _ HT.out).mono ?_
    rintro e w2 ⟨rfl, y⟩
    replace hx := ext_trans hx y
    go_wp2_with (fail)
    go_ret
    exact ⟨rfl, hx⟩
  have HS := Lib.hid hS
  clear hS
  have H64 : Hid (l0.length ≤ 64) := Lib.hid (by have := N0.out; have := G0.out; omega)
  have D1 : Hid (DocAt _ A1 n1 c1 d) := Lib.hid ⟨R1.out, N1.out, k1, C1.out, fun z hz => ⟨by have := G1.out.2 z hz; omega, (Q1.out z hz).2⟩, by have := G1.out; omega⟩
  have L1 : Hid ((clsOf d).length = n1) := Lib.hid D1.out.clen
  have B1 := Lib.hid G1.out.1
  have D2 : Hid (DocAt _ A2 n2 c2 o) := Lib.hid ⟨R2.out, N2.out, k2, C2.out, fun z hz => ⟨by have := G2.out.2 z hz; omega, (Q2.out z hz).2⟩, by have := G2.out; omega⟩
  have L2 : Hid ((clsOf o).length = n2) := Lib.hid D2.out.clen
  have B2 := Lib.hid G2.out.1
  obtain ⟨md, hmd⟩ : ∃ X, mayD l0 (clsOf d) = X := ⟨_, rfl⟩
  have HMD := Lib.hid hmd
  clear hmd
  go_wp2_with (go_at_call 14; refine Hid.out ?_)
  refine Lib.hid ?_
  refine (mayDoc D1.out HS.out HT.out HMD.out).mono ?_
  rintro e wn ⟨rfl, y⟩
  have HT := Lib.hid (Utf8Tabs_below HT.out y)
  have HS := Lib.hid (HS.out.ext y)
  have D1 := Lib.hid (D1.out.ext y)
  have D2 := Lib.hid (D2.out.ext y)
  replace hx := ext_trans hx y
  clear y
  by_cases hd : md = 0
  rotate_left
  · skip
    have hd' : (md == 0) = false := beq_eq_false_iff_ne.2 hd
    clear HMD
    go_wp2_with (go_at_call 23; refine Hid.out ?_)
    refine Lib.hid ?_
    refine (known23_any _ HT.out).mono ?_
    rintro e w2 ⟨rfl, y⟩
    replace hx := ext_trans hx y
    go_wp2_with (fail)
    go_ret
    exact ⟨rfl, hx⟩
  subst hd
  have M1 := Lib.hid HMD.out
  clear HMD
  obtain ⟨md, hmd⟩ : ∃ X, mayD l0 (clsOf o) = X := ⟨_, rfl⟩
  have HMD := Lib.hid hmd
  clear hmd
  go_wp2_with (go_at_call 14; refine Hid.out ?_)
  refine Lib.hid ?_
  refine (mayDoc D2.out HS.out HT.out HMD.out).mono ?_
  rintro e wn ⟨rfl, y⟩
  have HT := Lib.hid (Utf8Tabs_below HT.out y)
  have HS := Lib.hid (HS.out.ext y)
  have D1 := Lib.hid (D1.out.ext y)
  have D2 := Lib.hid (D2.out.ext y)
  replace hx := ext_trans hx y
  clear y
  by_cases hd : md = 0
  rotate_left
  · skip
    have hd' : (md == 0) = false := beq_eq_false_iff_ne.2 hd
    clear HMD
    go_wp2_with (go_at_call 23; refine Hid.out ?_)
    refine Lib.hid ?_
    refine (known23_any _ HT.out).mono ?_
    rintro e w2 ⟨rfl, y⟩
    replace hx := ext_trans hx y
    go_wp2_with (fail)
    go_ret
    exact ⟨rfl, hx⟩
  subst hd
  have M2 := Lib.hid HMD.out
  clear HMD
  go_wp2_with (go_at_call 24; refine Hid.out ?_)
  refine Lib.hid ?_
  refine (diffDoc D1.out D2.out HS.out HT.out M1.out M2.out).mono ?_
  rintro e wn ⟨A3, c3, x, rfl, h_1, o_1, y⟩
  have HT := Lib.hid (Utf8Tabs_below HT.out y)
  have HS := Lib.hid (HS.out.ext y)
  have D1 := Lib.hid (D1.out.ext y)
  have D2 := Lib.hid (D2.out.ext y)
  replace hx := ext_trans hx y
  have E_x := Lib.hid h_1
  have O_x := Lib.hid o_1
  clear h_1 o_1
  clear y
  obtain ⟨N5, hN5⟩ : ∃ X, max n1 n2 = X := ⟨_, rfl⟩
  have hmx : max (n1 : Int) (n2 : Int) = (N5 : Int) := by omega
  have HN5 : Hid (n1 ≤ N5 ∧ n2 ≤ N5 ∧ N5 ≤ 400) := Lib.hid (by have := B1.out; have := B2.out; omega)
  clear hN5
  have LL := Lib.hid (lead_law (N := N5) H64.out M1.out M2.out (by rw [L1.out]; exact HN5.out.1) (by rw [L2.out]; exact HN5.out.2.1) (by have := HN5.out; omega))
  have UL : Hid ((diffU (clsOf d) (clsOf o)).length ≤ 20000) := Lib.hid (by have h := diffU_len (mayD_end M1.out).1 (mayD_end M2.out).1; rw [L1.out, L2.out] at h; have := B1.out; have := B2.out; omega)
  have UM : Hid (∀ u ∈ diffU (clsOf d) (clsOf o), mU l0 u) := Lib.hid (fun u hu => vU_mU (LL.out.1.v u hu))
  have X1 : Hid (applyN l0 x (clsOf d) 536870912 = 0) := Lib.hid (made_in (N := N5) (most := 536870912) E_x.out (by have := O_x.out.at_.len; have := O_x.out.at_.b; omega) M1.out LL.out.1 (by have := HN5.out; omega) (by have := HN5.out; omega)).1
  have Y_Q := Lib.hid (made_in (N := N5) (most := (N5 : Int)) E_x.out (by have := O_x.out.at_.len; have := O_x.out.at_.b; omega) M1.out LL.out.1 (by have := HN5.out; omega) (Int.le_refl _))
  go_wp2_with (go_at_call 17; refine Hid.out ?_)
  refine Lib.hid ?_
  refine (applyDocI (N := N5) (us := diffU (clsOf d) (clsOf o)) D1.out O_x.out.at_ HS.out HT.out H64.out (by have := HN5.out; omega) Y_Q.out.1 Y_Q.out.2.1 Y_Q.out.2.2).mono ?_
  rintro e wn ⟨A4, c4, Q, rfl, h_1, m_1, b_1, d_1, y⟩
  have HT := Lib.hid (Utf8Tabs_below HT.out y)
  have HS := Lib.hid (HS.out.ext y)
  have D1 := Lib.hid (D1.out.ext y)
  have D2 := Lib.hid (D2.out.ext y)
  have O_x := Lib.hid (O_x.out.ext y)
  replace hx := ext_trans hx y
  have D_Q := Lib.hid d_1
  have E_Q := Lib.hid h_1
  have M_Q := Lib.hid m_1
  clear d_1 h_1 m_1 b_1
  clear y
  have EQ1 : Hid (clsOf Q = clsOf o) := Lib.hid (E_Q.out.trans LL.out.2)
  go_wp2_with (go_at_call 19; refine Hid.out ?_)
  refine Lib.hid ?_
  refine (sameD D_Q.out D2.out (decide_eq_true EQ1.out)).mono ?_
  rintro e wn ⟨rfl, y⟩
  have HT := Lib.hid (Utf8Tabs_below HT.out y)
  have HS := Lib.hid (HS.out.ext y)
  have D1 := Lib.hid (D1.out.ext y)
  have D2 := Lib.hid (D2.out.ext y)
  have O_x := Lib.hid (O_x.out.ext y)
  have D_Q := Lib.hid (D_Q.out.ext y)
  replace hx := ext_trans hx y
  clear y
  go_wp2_with (go_at_call 26; refine Hid.out ?_)
  refine Lib.hid ?_
  refine (isNormal O_x.out.at_ E_x.out (by have := UL.out; omega) UM.out).mono ?_
  rintro e wn ⟨rfl, y⟩
  have HT := Lib.hid (Utf8Tabs_below HT.out y)
  have HS := Lib.hid (HS.out.ext y)
  have D1 := Lib.hid (D1.out.ext y)
  have D2 := Lib.hid (D2.out.ext y)
  have O_x := Lib.hid (O_x.out.ext y)
  have D_Q := Lib.hid (D_Q.out.ext y)
  replace hx := ext_trans hx y
  clear y
  have LE := Lib.hid (lead_empty H64.out M1.out M2.out (by rw [L1.out]; have := B1.out; omega) (by rw [L2.out]; have := B2.out; omega))
  have ZL : Hid (x.length ≤ 1048576) := Lib.hid (by have := O_x.out.at_.len; have := O_x.out.at_.b; omega)
  have FN : Hid (FitU l0 (units (osOf x)) (clsOf d).length N5) := Lib.hid (by rw [mkU_units E_x.out]; exact fit_nf LL.out.1)
  have AU : Hid (app l0 (units (osOf x)) (clsOf d) = clsOf o) := Lib.hid (by rw [mkU_units E_x.out, app_nf]; exact LL.out.2)
  have FV : Hid (FitU l0 (invU l0 (units (osOf x)) (clsOf d)) (clsOf o).length N5) := Lib.hid (by
    have h := inv_fit0 (N := N5) H64.out FN.out M1.out (by have := HN5.out; omega) (by rw [L1.out]; exact HN5.out.1) (by rw [AU.out, L2.out]; exact HN5.out.2.1) (by have := HN5.out; omega)
    rw [AU.out] at h; exact h)
  have BV : Hid (app l0 (invU l0 (units (osOf x)) (clsOf d)) (clsOf o) = clsOf d) := Lib.hid (by
    have h := inv_back (l := l0) (units (osOf x)) (clsOf d) FN.out.t (fun u hu => vU_mU (FN.out.v u hu)) (fun c hc => ((mayD_iff.1 M1.out).2.1 c hc).2.1)
    rw [AU.out] at h; exact h)
  by_cases he : clsOf d = clsOf o
  · skip
    have HQ : Hid (decide (clsOf d = clsOf o) = true) := Lib.hid (decide_eq_true he)
    have hz0 : x = [] := List.map_eq_nil_iff.1 (E_x.out.trans (LE.out.1 he))
    have hz : ((x.length : Int) == 0) = true := by rw [hz0]; rfl
    clear he hz0
    go_wp2_with (go_at_call 19; refine Hid.out ?_)
    refine Lib.hid ?_
    refine (sameD D1.out D2.out HQ.out).mono ?_
    rintro e wn ⟨rfl, y⟩
    have HT := Lib.hid (Utf8Tabs_below HT.out y)
    have HS := Lib.hid (HS.out.ext y)
    have D1 := Lib.hid (D1.out.ext y)
    have D2 := Lib.hid (D2.out.ext y)
    have O_x := Lib.hid (O_x.out.ext y)
    have D_Q := Lib.hid (D_Q.out.ext y)
    replace hx := ext_trans hx y
    clear y
    go_wp2_with (go_at_call 27; refine Hid.out ?_)
    refine Lib.hid ?_
    refine (invertOk_any s l0 _ _ _ _ _ _ d x _ D1.out O_x.out.at_ HS.out H64.out HT.out X1.out).mono ?_
    rintro e wn ⟨A5, c5, u, rfl, h_1, o_1, y⟩
    have HT := Lib.hid (Utf8Tabs_below HT.out y)
    have HS := Lib.hid (HS.out.ext y)
    have D1 := Lib.hid (D1.out.ext y)
    have D2 := Lib.hid (D2.out.ext y)
    have O_x := Lib.hid (O_x.out.ext y)
    have D_Q := Lib.hid (D_Q.out.ext y)
    replace hx := ext_trans hx y
    have E_u := Lib.hid h_1
    have O_u := Lib.hid o_1
    clear h_1 o_1
    clear y
    have Y_P := Lib.hid (made_in (N := N5) (most := (N5 : Int)) E_u.out (by have := O_u.out.at_.len; have := O_u.out.at_.b; omega) M2.out FV.out (by have := HN5.out; omega) (Int.le_refl _))
    go_wp2_with (go_at_call 17; refine Hid.out ?_)
    refine Lib.hid ?_
    refine (applyDocI (N := N5) (us := invU l0 (units (osOf x)) (clsOf d)) D2.out O_u.out.at_ HS.out HT.out H64.out (by have := HN5.out; omega) Y_P.out.1 Y_P.out.2.1 Y_P.out.2.2).mono ?_
    rintro e wn ⟨A6, c6, P, rfl, h_1, m_1, b_1, d_1, y⟩
    have HT := Lib.hid (Utf8Tabs_below HT.out y)
    have HS := Lib.hid (HS.out.ext y)
    have D1 := Lib.hid (D1.out.ext y)
    have D2 := Lib.hid (D2.out.ext y)
    have O_x := Lib.hid (O_x.out.ext y)
    have D_Q := Lib.hid (D_Q.out.ext y)
    have O_u := Lib.hid (O_u.out.ext y)
    replace hx := ext_trans hx y
    have D_P := Lib.hid d_1
    have E_P := Lib.hid h_1
    have M_P := Lib.hid m_1
    clear d_1 h_1 m_1 b_1
    clear y
    have EQ2 : Hid (clsOf P = clsOf d) := Lib.hid (E_P.out.trans BV.out)
    go_wp2_with (go_at_call 19; refine Hid.out ?_)
    refine Lib.hid ?_
    refine (sameD D_P.out D1.out (decide_eq_true EQ2.out)).mono ?_
    rintro e wn ⟨rfl, y⟩
    have HT := Lib.hid (Utf8Tabs_below HT.out y)
    have HS := Lib.hid (HS.out.ext y)
    have D1 := Lib.hid (D1.out.ext y)
    have D2 := Lib.hid (D2.out.ext y)
    have O_x := Lib.hid (O_x.out.ext y)
    have D_Q := Lib.hid (D_Q.out.ext y)
    have O_u := Lib.hid (O_u.out.ext y)
    have D_P := Lib.hid (D_P.out.ext y)
    replace hx := ext_trans hx y
    clear y
    go_wp2_with (go_at_call 23; refine Hid.out ?_)
    refine Lib.hid ?_
    refine (known23_any _ HT.out).mono ?_
    rintro e w2 ⟨rfl, y⟩
    replace hx := ext_trans hx y
    go_wp2_with (fail)
    go_ret
    exact ⟨rfl, hx⟩
  · skip
    have HQ : Hid (decide (clsOf d = clsOf o) = false) := Lib.hid (decide_eq_false he)
    have hz0 : x ≠ [] := fun h => he (LE.out.2 (by rw [← E_x.out, h]; rfl))
    have hz : ((x.length : Int) == 0) = false := beq_eq_false_iff_ne.2 (fun h => hz0 (List.length_eq_zero_iff.1 (by omega)))
    clear he hz0
    go_wp2_with (go_at_call 19; refine Hid.out ?_)
    refine Lib.hid ?_
    refine (sameD D1.out D2.out HQ.out).mono ?_
    rintro e wn ⟨rfl, y⟩
    have HT := Lib.hid (Utf8Tabs_below HT.out y)
    have HS := Lib.hid (HS.out.ext y)
    have D1 := Lib.hid (D1.out.ext y)
    have D2 := Lib.hid (D2.out.ext y)
    have O_x := Lib.hid (O_x.out.ext y)
    have D_Q := Lib.hid (D_Q.out.ext y)
    replace hx := ext_trans hx y
    clear y
    go_wp2_with (go_at_call 27; refine Hid.out ?_)
    refine Lib.hid ?_
    refine (invertOk_any s l0 _ _ _ _ _ _ d x _ D1.out O_x.out.at_ HS.out H64.out HT.out X1.out).mono ?_
    rintro e wn ⟨A5, c5, u, rfl, h_1, o_1, y⟩
    have HT := Lib.hid (Utf8Tabs_below HT.out y)
    have HS := Lib.hid (HS.out.ext y)
    have D1 := Lib.hid (D1.out.ext y)
    have D2 := Lib.hid (D2.out.ext y)
    have O_x := Lib.hid (O_x.out.ext y)
    have D_Q := Lib.hid (D_Q.out.ext y)
    replace hx := ext_trans hx y
    have E_u := Lib.hid h_1
    have O_u := Lib.hid o_1
    clear h_1 o_1
    clear y
    have Y_P := Lib.hid (made_in (N := N5) (most := (N5 : Int)) E_u.out (by have := O_u.out.at_.len; have := O_u.out.at_.b; omega) M2.out FV.out (by have := HN5.out; omega) (Int.le_refl _))
    go_wp2_with (go_at_call 17; refine Hid.out ?_)
    refine Lib.hid ?_
    refine (applyDocI (N := N5) (us := invU l0 (units (osOf x)) (clsOf d)) D2.out O_u.out.at_ HS.out HT.out H64.out (by have := HN5.out; omega) Y_P.out.1 Y_P.out.2.1 Y_P.out.2.2).mono ?_
    rintro e wn ⟨A6, c6, P, rfl, h_1, m_1, b_1, d_1, y⟩
    have HT := Lib.hid (Utf8Tabs_below HT.out y)
    have HS := Lib.hid (HS.out.ext y)
    have D1 := Lib.hid (D1.out.ext y)
    have D2 := Lib.hid (D2.out.ext y)
    have O_x := Lib.hid (O_x.out.ext y)
    have D_Q := Lib.hid (D_Q.out.ext y)
    have O_u := Lib.hid (O_u.out.ext y)
    replace hx := ext_trans hx y
    have D_P := Lib.hid d_1
    have E_P := Lib.hid h_1
    have M_P := Lib.hid m_1
    clear d_1 h_1 m_1 b_1
    clear y
    have EQ2 : Hid (clsOf P = clsOf d) := Lib.hid (E_P.out.trans BV.out)
    go_wp2_with (go_at_call 19; refine Hid.out ?_)
    refine Lib.hid ?_
    refine (sameD D_P.out D1.out (decide_eq_true EQ2.out)).mono ?_
    rintro e wn ⟨rfl, y⟩
    have HT := Lib.hid (Utf8Tabs_below HT.out y)
    have HS := Lib.hid (HS.out.ext y)
    have D1 := Lib.hid (D1.out.ext y)
    have D2 := Lib.hid (D2.out.ext y)
    have O_x := Lib.hid (O_x.out.ext y)
    have D_Q := Lib.hid (D_Q.out.ext y)
    have O_u := Lib.hid (O_u.out.ext y)
    have D_P := Lib.hid (D_P.out.ext y)
    replace hx := ext_trans hx y
    clear y
    go_wp2_with (go_at_call 23; refine Hid.out ?_)
    refine Lib.hid ?_
    refine (known23_any _ HT.out).mono ?_
    rintro e w2 ⟨rfl, y⟩
    replace hx := ext_trans hx y
    go_wp2_with (fail)
    go_ret
    exact ⟨rfl, hx⟩
end Go.Proofs.YtipoeidmblnbbaaGreatDoor
