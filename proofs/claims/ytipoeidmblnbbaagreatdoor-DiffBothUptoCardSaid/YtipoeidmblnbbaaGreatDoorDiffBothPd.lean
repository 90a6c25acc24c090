/- The walk of rubriclaw23.DiffBoth. Printed by wip/gen_diff.py. -/
import Derived.Test.YtipoeidmblnbbaaGreatDoorPk38
import Derived.Test.YtipoeidmblnbbaaGreatDoorPk37
import Derived.Test.YtipoeidmblnbbaaGreatDoorPk36
import Derived.Test.YtipoeidmblnbbaaGreatDoorBothLawPd
namespace Go.Proofs.YtipoeidmblnbbaaGreatDoor
open Go.RowKit
set_option linter.unusedVariables false
set_option linter.unusedSimpArgs false

set_option maxRecDepth 100000 in
set_option maxHeartbeats 12800000 in
theorem diffBoth_any (A0 A1 A2 A3 : Option Addr) (n0 n1 n2 n3 c0 c1 c2 c3 : Nat) (l0 : List Ky) (d o t : List ClS) (w : World)
    (e0 : n0 = l0.length) (e1 : n1 = d.length) (e2 : n2 = o.length) (e3 : n3 = t.length) (r0 : RdKy w w.heap.size A0 l0) (r1 : RdCl w w.heap.size A1 d) (r2 : RdCl w w.heap.size A2 o) (r3 : RdCl w w.heap.size A3 t) (b0 : n0 ≤ 1048576) (b1 : n1 ≤ 1048576) (b2 : n2 ≤ 1048576) (b3 : n3 ≤ 1048576) (k1 : n1 ≤ c1) (k2 : n2 ≤ c2) (k3 : n3 ≤ c3)
    (q1 : ∀ x ∈ d, x.c.s.length ≤ 100000000 ∧ okVr x.c.s) (g1 : ∀ x ∈ d, x.c.s.length ≤ x.cs ∧ x.cs ≤ maxLen) (q2 : ∀ x ∈ o, x.c.s.length ≤ 100000000 ∧ okVr x.c.s) (g2 : ∀ x ∈ o, x.c.s.length ≤ x.cs ∧ x.cs ≤ maxLen) (q3 : ∀ x ∈ t, x.c.s.length ≤ 100000000 ∧ okVr x.c.s) (g3 : ∀ x ∈ t, x.c.s.length ≤ x.cs ∧ x.cs ≤ maxLen) (hT : Lib.Utf8Tabs 1 2 w) :
    Calls Tryz.prog 6 #[.slice A0 n0 c0, .slice A1 n1 c1, .slice A2 n2 c2, .slice A3 n3 c3] w fun e w' => e = .returned (.bool true) ∧ Below w.heap.size w w' := by
  have N0 := Lib.hid e0
  have R0 := Lib.hid r0
  have HT := Lib.hid hT
  have hx := Below.refl w.heap.size w
  have N1 := Lib.hid e1
  have R1 := Lib.hid r1
  have Q1 := Lib.hid q1
  have C1 := Lib.hid g1
  have N2 := Lib.hid e2
  have R2 := Lib.hid r2
  have Q2 := Lib.hid q2
  have C2 := Lib.hid g2
  have N3 := Lib.hid e3
  have R3 := Lib.hid r3
  have Q3 := Lib.hid q3
  have C3 := Lib.hid g3
  clear e0 r0 hT e1 r1 q1 g1 e2 r2 q2 g2 e3 r3 q3 g3
  go_enter Tryz.func6, Tryz.ntmps6
  have ra : Rd DocS.enc 1 _ _ _ [⟨A1, n1, c1, d⟩, ⟨A2, n2, c2, o⟩, ⟨A3, n3, c3, t⟩] := Rd.new (enc := DocS.enc) (size := 1) DocS.enc_len w 23 [⟨A1, n1, c1, d⟩, ⟨A2, n2, c2, o⟩, ⟨A3, n3, c3, t⟩] (cs := #[.slice A1 n1 c1, .slice A2 n2 c2, .slice A3 n3 c3]) rfl rfl
  have y := ext_alloc w (.cells #[.slice A1 n1 c1, .slice A2 n2 c2, .slice A3 n3 c3] 23)
  have R0 := Lib.hid (R0.out.ext y)
  have HT := Lib.hid (Utf8Tabs_below HT.out y)
  have R1 := Lib.hid (R1.out.ext y)
  have R2 := Lib.hid (R2.out.ext y)
  have R3 := Lib.hid (R3.out.ext y)
  replace hx := ext_trans hx y
  clear y
  go_wp2_with (go_at_call 22; refine Hid.out ?_)
  refine Lib.hid ?_
  refine (great23_any A0 (some ⟨w.heap.size, 0, none⟩) n0 c0 3 3 [⟨A1, n1, c1, d⟩, ⟨A2, n2, c2, o⟩, ⟨A3, n3, c3, t⟩] _ rfl ra (by omega) (by omega) (fun x hx => by
    simp only [List.mem_cons, List.not_mem_nil, or_false] at hx
    rcases hx with rfl | rfl | rfl
    · exact ⟨N1.out, R1.out, by simp only; omega, fun z hz => by have := (Q1.out z hz).1; omega⟩
    · exact ⟨N2.out, R2.out, by simp only; omega, fun z hz => by have := (Q2.out z hz).1; omega⟩
    · exact ⟨N3.out, R3.out, by simp only; omega, fun z hz => by have := (Q3.out z hz).1; omega⟩)).mono ?_
  rintro e wn ⟨gb, rfl, h1, dr, hd⟩
  have y := drew_ext hd
  clear hd ra
  have R0 := Lib.hid (R0.out.ext y)
  have HT := Lib.hid (Utf8Tabs_below HT.out y)
  have R1 := Lib.hid (R1.out.ext y)
  have R2 := Lib.hid (R2.out.ext y)
  have R3 := Lib.hid (R3.out.ext y)
  replace hx := ext_trans hx y
  clear y
  cases gb
  case true =>
    clear h1
    go_wp2_with (go_at_call 23; refine Hid.out ?_)
    refine Lib.hid ?_
    refine (known23_any _ HT.out).mono ?_
    rintro e w2 ⟨rfl, y⟩
    replace hx := ext_trans hx y
    go_wp2_with (fail)
    go_ret
    exact ⟨rfl, hx⟩
  have h2 := h1 rfl
  have G0 := Lib.hid h2.1
  have G1 : Hid (n1 ≤ 400 ∧ ∀ c ∈ d, c.c.s.length ≤ 64) := Lib.hid (h2.2 ⟨A1, n1, c1, d⟩ (by simp))
  have G2 : Hid (n2 ≤ 400 ∧ ∀ c ∈ o, c.c.s.length ≤ 64) := Lib.hid (h2.2 ⟨A2, n2, c2, o⟩ (by simp))
  have G3 : Hid (n3 ≤ 400 ∧ ∀ c ∈ t, c.c.s.length ≤ 64) := Lib.hid (h2.2 ⟨A3, n3, c3, t⟩ (by simp))
  clear h1 h2
  go_wp2_with (go_at_call 13; refine Hid.out ?_)
  refine Lib.hid ?_
  refine (new_any A0 n0 c0 l0 _ N0.out R0.out (by omega)).mono ?_
  rintro e wn ⟨y, ⟨hm, s, rfl, hS⟩ | ⟨hm, rfl⟩⟩
  all_goals
    have R0 := Lib.hid (R0.out.ext y)
    have HT := Lib.hid (Utf8Tabs_below HT.out y)
    have R1 := Lib.hid (R1.out.ext y)
    have R2 := Lib.hid (R2.out.ext y)
    have R3 := Lib.hid (R3.out.ext y)
    replace hx := ext_trans hx y
    clear y hm
  rotate_left
  · skip
    go_wp2_with (go_at_call 23; refine Hid.out ?_)
    refine Lib.hid ?_
    refine (known23_any _ HT.out).mono ?_
    rintro e w2 ⟨rfl, y⟩
    replace hx := ext_trans hx y
    go_wp2_with (fail)
    go_ret
    exact ⟨rfl, hx⟩
  have HS := Lib.hid hS
  clear hS
  have H64 : Hid (l0.length ≤ 64) := Lib.hid (by have := N0.out; have := G0.out; omega)
  have D1 : Hid (DocAt _ A1 n1 c1 d) := Lib.hid ⟨R1.out, N1.out, k1, C1.out, fun z hz => ⟨by have := G1.out.2 z hz; omega, (Q1.out z hz).2⟩, by have := G1.out; omega⟩
  have L1 : Hid ((clsOf d).length = n1) := Lib.hid D1.out.clen
  have B1 := Lib.hid G1.out.1
  have D2 : Hid (DocAt _ A2 n2 c2 o) := Lib.hid ⟨R2.out, N2.out, k2, C2.out, fun z hz => ⟨by have := G2.out.2 z hz; omega, (Q2.out z hz).2⟩, by have := G2.out; omega⟩
  have L2 : Hid ((clsOf o).length = n2) := Lib.hid D2.out.clen
  have B2 := Lib.hid G2.out.1
  have D3 : Hid (DocAt _ A3 n3 c3 t) := Lib.hid ⟨R3.out, N3.out, k3, C3.out, fun z hz => ⟨by have := G3.out.2 z hz; omega, (Q3.out z hz).2⟩, by have := G3.out; omega⟩
  have L3 : Hid ((clsOf t).length = n3) := Lib.hid D3.out.clen
  have B3 := Lib.hid G3.out.1
  obtain ⟨md, hmd⟩ : ∃ X, mayD l0 (clsOf d) = X := ⟨_, rfl⟩
  have HMD := Lib.hid hmd
  clear hmd
  go_wp2_with (go_at_call 14; refine Hid.out ?_)
  refine Lib.hid ?_
  refine (mayDoc D1.out HS.out HT.out HMD.out).mono ?_
  rintro e wn ⟨rfl, y⟩
  have HT := Lib.hid (Utf8Tabs_below HT.out y)
  have HS := Lib.hid (HS.out.ext y)
  have D1 := Lib.hid (D1.out.ext y)
  have D2 := Lib.hid (D2.out.ext y)
  have D3 := Lib.hid (D3.out.ext y)
  replace hx := ext_trans hx y
  clear y
  by_cases hd : md = 0
  rotate_left
  · skip
    have hd' : (md == 0) = false := beq_eq_false_iff_ne.2 hd
    clear HMD
    go_wp2_with (go_at_call 23; refine Hid.out ?_)
    refine Lib.hid ?_
    refine (known23_any _ HT.out).mono ?_
    rintro e w2 ⟨rfl, y⟩
    replace hx := ext_trans hx y
    go_wp2_with (fail)
    go_ret
    exact ⟨rfl, hx⟩
  subst hd
  have M1 := Lib.hid HMD.out
  clear HMD
  obtain ⟨md, hmd⟩ : ∃ X, mayD l0 (clsOf o) = X := ⟨_, rfl⟩
  have HMD := Lib.hid hmd
  clear hmd
  go_wp2_with (go_at_call 14; refine Hid.out ?_)
  refine Lib.hid ?_
  refine (mayDoc D2.out HS.out HT.out HMD.out).mono ?_
  rintro e wn ⟨rfl, y⟩
  have HT := Lib.hid (Utf8Tabs_below HT.out y)
  have HS := Lib.hid (HS.out.ext y)
  have D1 := Lib.hid (D1.out.ext y)
  have D2 := Lib.hid (D2.out.ext y)
  have D3 := Lib.hid (D3.out.ext y)
  replace hx := ext_trans hx y
  clear y
  by_cases hd : md = 0
  rotate_left
  · skip
    have hd' : (md == 0) = false := beq_eq_false_iff_ne.2 hd
    clear HMD
    go_wp2_with (go_at_call 23; refine Hid.out ?_)
    refine Lib.hid ?_
    refine (known23_any _ HT.out).mono ?_
    rintro e w2 ⟨rfl, y⟩
    replace hx := ext_trans hx y
    go_wp2_with (fail)
    go_ret
    exact ⟨rfl, hx⟩
  subst hd
  have M2 := Lib.hid HMD.out
  clear HMD
  obtain ⟨md, hmd⟩ : ∃ X, mayD l0 (clsOf t) = X := ⟨_, rfl⟩
  have HMD := Lib.hid hmd
  clear hmd
  go_wp2_with (go_at_call 14; refine Hid.out ?_)
  refine Lib.hid ?_
  refine (mayDoc D3.out HS.out HT.out HMD.out).mono ?_
  rintro e wn ⟨rfl, y⟩
  have HT := Lib.hid (Utf8Tabs_below HT.out y)
  have HS := Lib.hid (HS.out.ext y)
  have D1 := Lib.hid (D1.out.ext y)
  have D2 := Lib.hid (D2.out.ext y)
  have D3 := Lib.hid (D3.out.ext y)
  replace hx := ext_trans hx y
  clear y
  by_cases hd : md = 0
  rotate_left
  · skip
    have hd' : (md == 0) = false := beq_eq_false_iff_ne.2 hd
    clear HMD
    go_wp2_with (go_at_call 23; refine Hid.out ?_)
    refine Lib.hid ?_
    refine (known23_any _ HT.out).mono ?_
    rintro e w2 ⟨rfl, y⟩
    replace hx := ext_trans hx y
    go_wp2_with (fail)
    go_ret
    exact ⟨rfl, hx⟩
  subst hd
  have M3 := Lib.hid HMD.out
  clear HMD
  go_wp2_with (go_at_call 24; refine Hid.out ?_)
  refine Lib.hid ?_
  refine (diffDoc D1.out D2.out HS.out HT.out M1.out M2.out).mono ?_
  rintro e wn ⟨A4, c4, x, rfl, h_1, o_1, y_⟩
  have HT := Lib.hid (Utf8Tabs_below HT.out y_)
  have HS := Lib.hid (HS.out.ext y_)
  have D1 := Lib.hid (D1.out.ext y_)
  have D2 := Lib.hid (D2.out.ext y_)
  have D3 := Lib.hid (D3.out.ext y_)
  replace hx := ext_trans hx y_
  have E_x := Lib.hid h_1
  have O_x := Lib.hid o_1
  clear h_1 o_1
  clear y_
  go_wp2_with (go_at_call 24; refine Hid.out ?_)
  refine Lib.hid ?_
  refine (diffDoc D2.out D1.out HS.out HT.out M2.out M1.out).mono ?_
  rintro e wn ⟨A5, c5, y, rfl, h_1, o_1, y_⟩
  have HT := Lib.hid (Utf8Tabs_below HT.out y_)
  have HS := Lib.hid (HS.out.ext y_)
  have D1 := Lib.hid (D1.out.ext y_)
  have D2 := Lib.hid (D2.out.ext y_)
  have D3 := Lib.hid (D3.out.ext y_)
  have O_x := Lib.hid (O_x.out.ext y_)
  replace hx := ext_trans hx y_
  have E_y := Lib.hid h_1
  have O_y := Lib.hid o_1
  clear h_1 o_1
  clear y_
  go_wp2_with (go_at_call 24; refine Hid.out ?_)
  refine Lib.hid ?_
  refine (diffDoc D2.out D3.out HS.out HT.out M2.out M3.out).mono ?_
  rintro e wn ⟨A6, c6, z, rfl, h_1, o_1, y_⟩
  have HT := Lib.hid (Utf8Tabs_below HT.out y_)
  have HS := Lib.hid (HS.out.ext y_)
  have D1 := Lib.hid (D1.out.ext y_)
  have D2 := Lib.hid (D2.out.ext y_)
  have D3 := Lib.hid (D3.out.ext y_)
  have O_x := Lib.hid (O_x.out.ext y_)
  have O_y := Lib.hid (O_y.out.ext y_)
  replace hx := ext_trans hx y_
  have E_z := Lib.hid h_1
  have O_z := Lib.hid o_1
  clear h_1 o_1
  clear y_
  have HN5 : Hid ((400 : Nat) ≤ 400) := Lib.hid (by omega)
  have UX : Hid ((diffU (clsOf d) (clsOf o)).length ≤ 536870912) := Lib.hid (by have h := diffU_len (mayD_end M1.out).1 (mayD_end M2.out).1; rw [L1.out, L2.out] at h; have := B1.out; have := B2.out; omega)
  have UY : Hid ((diffU (clsOf o) (clsOf d)).length ≤ 536870912) := Lib.hid (by have h := diffU_len (mayD_end M2.out).1 (mayD_end M1.out).1; rw [L2.out, L1.out] at h; have := B2.out; have := B1.out; omega)
  have LX := Lib.hid (lead_law (N := 400) H64.out M1.out M2.out (by rw [L1.out]; exact B1.out) (by rw [L2.out]; exact B2.out) (by omega))
  have LZ := Lib.hid (lead_law (N := 400) H64.out M2.out M3.out (by rw [L2.out]; exact B2.out) (by rw [L3.out]; exact B3.out) (by omega))
  obtain ⟨ix, hix⟩ : ∃ X, insO x = X := ⟨_, rfl⟩
  obtain ⟨gx, hgx⟩ : ∃ X, goneO x = X := ⟨_, rfl⟩
  have HX1 := Lib.hid hix
  have HX2 := Lib.hid hgx
  clear hix hgx
  have HY : Hid (insO y = gx ∧ goneO y = ix) := Lib.hid (by
    obtain ⟨a1, a2⟩ := made_cnt E_x.out
    obtain ⟨b1, b2⟩ := made_cnt E_y.out
    obtain ⟨c1, c2⟩ := diffU_back (clsOf d) (clsOf o)
    rw [HX1.out] at a1
    rw [HX2.out] at a2
    omega)
  go_wp2_with (go_at_call 25; refine Hid.out ?_)
  refine Lib.hid ?_
  refine (moved_any _ _ _ x _ O_x.out.at_.len O_x.out.at_.rd.1 (by have := O_x.out.at_.b; omega) (moved_range E_x.out UX.out)).mono ?_
  rw [HX1.out, HX2.out]
  rintro e wn ⟨rfl, dr, hd⟩
  have y_ := drew_ext hd
  clear hd
  have HT := Lib.hid (Utf8Tabs_below HT.out y_)
  have HS := Lib.hid (HS.out.ext y_)
  have D1 := Lib.hid (D1.out.ext y_)
  have D2 := Lib.hid (D2.out.ext y_)
  have D3 := Lib.hid (D3.out.ext y_)
  have O_x := Lib.hid (O_x.out.ext y_)
  have O_y := Lib.hid (O_y.out.ext y_)
  have O_z := Lib.hid (O_z.out.ext y_)
  replace hx := ext_trans hx y_
  clear y_
  go_wp2_with (go_at_call 25; refine Hid.out ?_)
  refine Lib.hid ?_
  refine (moved_any _ _ _ y _ O_y.out.at_.len O_y.out.at_.rd.1 (by have := O_y.out.at_.b; omega) (moved_range E_y.out UY.out)).mono ?_
  rw [HY.out.1, HY.out.2]
  rintro e wn ⟨rfl, dr, hd⟩
  have y_ := drew_ext hd
  clear hd
  have HT := Lib.hid (Utf8Tabs_below HT.out y_)
  have HS := Lib.hid (HS.out.ext y_)
  have D1 := Lib.hid (D1.out.ext y_)
  have D2 := Lib.hid (D2.out.ext y_)
  have D3 := Lib.hid (D3.out.ext y_)
  have O_x := Lib.hid (O_x.out.ext y_)
  have O_y := Lib.hid (O_y.out.ext y_)
  have O_z := Lib.hid (O_z.out.ext y_)
  replace hx := ext_trans hx y_
  clear y_
  have Y_Q := Lib.hid (made_in (N := 400) (most := 10000) E_x.out (by have := O_x.out.at_.len; have := O_x.out.at_.b; omega) M1.out LX.out.1 (by have := HN5.out; omega) (by omega))
  go_wp2_with (go_at_call 17; refine Hid.out ?_)
  refine Lib.hid ?_
  refine (applyDocI (N := 400) (us := diffU (clsOf d) (clsOf o)) D1.out O_x.out.at_ HS.out HT.out H64.out (by have := HN5.out; omega) Y_Q.out.1 Y_Q.out.2.1 Y_Q.out.2.2).mono ?_
  rintro e wn ⟨A7, c7, Q, rfl, h_1, m_1, b_1, d_1, y_⟩
  have HT := Lib.hid (Utf8Tabs_below HT.out y_)
  have HS := Lib.hid (HS.out.ext y_)
  have D1 := Lib.hid (D1.out.ext y_)
  have D2 := Lib.hid (D2.out.ext y_)
  have D3 := Lib.hid (D3.out.ext y_)
  have O_x := Lib.hid (O_x.out.ext y_)
  have O_y := Lib.hid (O_y.out.ext y_)
  have O_z := Lib.hid (O_z.out.ext y_)
  replace hx := ext_trans hx y_
  have D_Q := Lib.hid d_1
  have E_Q := Lib.hid h_1
  have M_Q := Lib.hid m_1
  clear d_1 h_1 m_1 b_1
  clear y_
  have EQ1 : Hid (clsOf Q = clsOf o) := Lib.hid (E_Q.out.trans LX.out.2)
  have LQ : Hid (FitU l0 (diffU (clsOf o) (clsOf t)) (clsOf Q).length 400) := Lib.hid (by rw [EQ1.out]; exact LZ.out.1)
  have Y_P := Lib.hid (made_in (N := 400) (most := 10000) E_z.out (by have := O_z.out.at_.len; have := O_z.out.at_.b; omega) M_Q.out LQ.out (by have := HN5.out; omega) (by omega))
  go_wp2_with (go_at_call 17; refine Hid.out ?_)
  refine Lib.hid ?_
  refine (applyDocI (N := 400) (us := diffU (clsOf o) (clsOf t)) D_Q.out O_z.out.at_ HS.out HT.out H64.out (by have := HN5.out; omega) Y_P.out.1 Y_P.out.2.1 Y_P.out.2.2).mono ?_
  rintro e wn ⟨A8, c8, P, rfl, h_1, m_1, b_1, d_1, y_⟩
  have HT := Lib.hid (Utf8Tabs_below HT.out y_)
  have HS := Lib.hid (HS.out.ext y_)
  have D1 := Lib.hid (D1.out.ext y_)
  have D2 := Lib.hid (D2.out.ext y_)
  have D3 := Lib.hid (D3.out.ext y_)
  have O_x := Lib.hid (O_x.out.ext y_)
  have O_y := Lib.hid (O_y.out.ext y_)
  have O_z := Lib.hid (O_z.out.ext y_)
  have D_Q := Lib.hid (D_Q.out.ext y_)
  replace hx := ext_trans hx y_
  have D_P := Lib.hid d_1
  have E_P := Lib.hid h_1
  have M_P := Lib.hid m_1
  clear d_1 h_1 m_1 b_1
  clear y_
  have EQ2 : Hid (clsOf P = clsOf t) := Lib.hid (by rw [E_P.out, EQ1.out]; exact LZ.out.2)
  go_wp2_with (go_at_call 19; refine Hid.out ?_)
  refine Lib.hid ?_
  refine (sameD D_P.out D3.out (decide_eq_true EQ2.out)).mono ?_
  rintro e wn ⟨rfl, y_⟩
  have HT := Lib.hid (Utf8Tabs_below HT.out y_)
  have HS := Lib.hid (HS.out.ext y_)
  have D1 := Lib.hid (D1.out.ext y_)
  have D2 := Lib.hid (D2.out.ext y_)
  have D3 := Lib.hid (D3.out.ext y_)
  have O_x := Lib.hid (O_x.out.ext y_)
  have O_y := Lib.hid (O_y.out.ext y_)
  have O_z := Lib.hid (O_z.out.ext y_)
  have D_Q := Lib.hid (D_Q.out.ext y_)
  have D_P := Lib.hid (D_P.out.ext y_)
  replace hx := ext_trans hx y_
  clear y_
  go_wp2_with (go_at_call 23; refine Hid.out ?_)
  refine Lib.hid ?_
  refine (known23_any _ HT.out).mono ?_
  rintro e w2 ⟨rfl, y⟩
  replace hx := ext_trans hx y
  go_wp2_with (fail)
  go_ret
  exact ⟨rfl, hx⟩
end Go.Proofs.YtipoeidmblnbbaaGreatDoor
