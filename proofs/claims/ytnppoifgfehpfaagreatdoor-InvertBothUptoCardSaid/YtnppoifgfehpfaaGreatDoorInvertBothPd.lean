/- The walk of rubriclaw21.InvertBoth. Printed by wip/gen_r5.py. -/
import Derived.Test.YtnppoifgfehpfaaGreatDoorPk29
import Derived.Test.YtnppoifgfehpfaaGreatDoorKnown21Pd
import Derived.Test.YtnppoifgfehpfaaGreatDoorGreat21Pd
import Derived.Test.YtnppoifgfehpfaaGreatDoorPk34
import Derived.Test.YtnppoifgfehpfaaGreatDoorPk28
import Derived.Test.YtnppoifgfehpfaaGreatDoorPk31
import Derived.Test.YtnppoifgfehpfaaGreatDoorPk35
import Derived.Test.YtnppoifgfehpfaaGreatDoorPk32
namespace Go.Proofs.YtnppoifgfehpfaaGreatDoor
open Go.RowKit
set_option linter.unusedVariables false
set_option linter.unusedSimpArgs false

set_option maxRecDepth 100000 in
set_option maxHeartbeats 12800000 in
theorem invertBoth_any (A0 A1 A2 A3 : Option Addr) (n0 n1 n2 n3 c0 c1 c2 c3 : Nat) (l0 : List Ky) (d : List ClS) (l2 l3 : List OpS) (w : World)
    (e0 : n0 = l0.length) (r0 : RdKy w w.heap.size A0 l0) (b0 : n0 ≤ 1048576) (e1 : n1 = d.length) (r1 : RdCl w w.heap.size A1 d) (b1 : n1 ≤ 1048576) (k1 : n1 ≤ c1) (q1 : ∀ x ∈ d, x.c.s.length ≤ 100000000 ∧ okVr x.c.s) (g1 : ∀ x ∈ d, x.c.s.length ≤ x.cs ∧ x.cs ≤ maxLen)
    (e2 : n2 = l2.length) (r2 : RdOp w w.heap.size A2 l2) (b2 : n2 ≤ 1048576) (k2 : n2 ≤ c2) (m2 : c2 ≤ maxLen) (q2 : ∀ o ∈ l2, okOp o.o) (z2 : szX l2 ≤ 2305850000000000000) (f2 : ∀ o ∈ l2, capO o)
    (e3 : n3 = l3.length) (r3 : RdOp w w.heap.size A3 l3) (b3 : n3 ≤ 1048576) (k3 : n3 ≤ c3) (m3 : c3 ≤ maxLen) (q3 : ∀ o ∈ l3, okOp o.o) (z3 : szX l3 ≤ 2305850000000000000) (f3 : ∀ o ∈ l3, capO o)
    (hT : Lib.Utf8Tabs 1 2 w) :
    Calls Tryz.prog 5 #[.slice A0 n0 c0, .slice A1 n1 c1, .slice A2 n2 c2, .slice A3 n3 c3] w fun e w' => e = .returned (.bool true) ∧ Below w.heap.size w w' := by
  have N0 := Lib.hid e0
  have R0 := Lib.hid r0
  have HT := Lib.hid hT
  have hx := Below.refl w.heap.size w
  have N1 := Lib.hid e1
  have R1 := Lib.hid r1
  have Q1 := Lib.hid q1
  have C1 := Lib.hid g1
  have N2 := Lib.hid e2
  have R2 := Lib.hid r2
  have Q2 := Lib.hid q2
  have Z2 := Lib.hid z2
  have F2 := Lib.hid f2
  have N3 := Lib.hid e3
  have R3 := Lib.hid r3
  have Q3 := Lib.hid q3
  have Z3 := Lib.hid z3
  have F3 := Lib.hid f3
  clear e0 r0 hT e1 r1 q1 g1 e2 r2 q2 z2 f2 e3 r3 q3 z3 f3
  go_enter Tryz.func5, Tryz.ntmps5
  have ra : Rd SX.enc 1 _ _ _ [⟨A2, c2, l2⟩, ⟨A3, c3, l3⟩] := Rd.new (enc := SX.enc) (size := 1) (fun _ => rfl) w 24 [⟨A2, c2, l2⟩, ⟨A3, c3, l3⟩] (cs := #[.slice A2 n2 c2, .slice A3 n3 c3]) (by simp [SX.enc, ← N2.out, ← N3.out]) rfl
  have y := ext_alloc w (.cells #[.slice A2 n2 c2, .slice A3 n3 c3] 24)
  have R0 := Lib.hid (R0.out.ext y)
  have HT := Lib.hid (Utf8Tabs_below HT.out y)
  have R1 := Lib.hid (R1.out.ext y)
  have R2 := Lib.hid (R2.out.ext y)
  have R3 := Lib.hid (R3.out.ext y)
  replace hx := ext_trans hx y
  clear y
  go_wp2_with (go_at_call 15; refine Hid.out ?_)
  refine Lib.hid ?_
  refine (great21_any A0 A1 (some ⟨w.heap.size, 0, none⟩) n0 c0 n1 c1 2 2 d [⟨A2, c2, l2⟩, ⟨A3, c3, l3⟩] _ rfl ra (by omega) (by omega) (fun x hx => by
    simp only [List.mem_cons, List.not_mem_nil, or_false] at hx
    rcases hx with rfl | rfl
    · exact ⟨R2.out, by have := N2.out; simp only; omega⟩
    · exact ⟨R3.out, by have := N3.out; simp only; omega⟩) (by simp only [sumX, List.map_cons, List.map_nil, List.sum_cons, List.sum_nil]; have := Z2.out; have := Z3.out; omega) (fun x hx => by
    simp only [List.mem_cons, List.not_mem_nil, or_false] at hx
    rcases hx with rfl | rfl
    · have := Z2.out; simp only; omega
    · have := Z3.out; simp only; omega) N1.out R1.out (by omega) (fun z hz => by have := (Q1.out z hz).1; omega)).mono ?_
  rintro e wn ⟨gb, rfl, h1, dr, hd⟩
  have y := drew_ext hd
  clear hd ra
  have R0 := Lib.hid (R0.out.ext y)
  have HT := Lib.hid (Utf8Tabs_below HT.out y)
  have R1 := Lib.hid (R1.out.ext y)
  have R2 := Lib.hid (R2.out.ext y)
  have R3 := Lib.hid (R3.out.ext y)
  replace hx := ext_trans hx y
  clear y
  cases gb
  case true =>
    clear h1
    go_wp2_with (go_at_call 16; refine Hid.out ?_)
    refine Lib.hid ?_
    refine (known21_any _ HT.out).mono ?_
    rintro e w2 ⟨rfl, y⟩
    replace hx := ext_trans hx y
    go_wp2_with (fail)
    go_ret
    exact ⟨rfl, hx⟩
  have h2 := h1 rfl
  have G0 := Lib.hid h2.1
  have G1 : Hid (n1 ≤ 400 ∧ ∀ c ∈ d, c.c.s.length ≤ 64) := Lib.hid ⟨h2.2.1, h2.2.2.1⟩
  have SZ : Hid (szX l2 + szX l3 ≤ 5000) := Lib.hid (by have h3 := h2.2.2.2; simp only [sumX, List.map_cons, List.map_nil, List.sum_cons, List.sum_nil] at h3; omega)
  clear h1 h2
  go_wp2_with (go_at_call 17; refine Hid.out ?_)
  refine Lib.hid ?_
  refine (new_any A0 n0 c0 l0 _ N0.out R0.out (by omega)).mono ?_
  rintro e wn ⟨y, ⟨hm, s, rfl, hS⟩ | ⟨hm, rfl⟩⟩
  all_goals
    have R0 := Lib.hid (R0.out.ext y)
    have HT := Lib.hid (Utf8Tabs_below HT.out y)
    have R1 := Lib.hid (R1.out.ext y)
    have R2 := Lib.hid (R2.out.ext y)
    have R3 := Lib.hid (R3.out.ext y)
    replace hx := ext_trans hx y
    clear y hm
  rotate_left
  · skip
    go_wp2_with (go_at_call 16; refine Hid.out ?_)
    refine Lib.hid ?_
    refine (known21_any _ HT.out).mono ?_
    rintro e w2 ⟨rfl, y⟩
    replace hx := ext_trans hx y
    go_wp2_with (fail)
    go_ret
    exact ⟨rfl, hx⟩
  have HS := Lib.hid hS
  clear hS
  have H64 : Hid (l0.length ≤ 64) := Lib.hid (by have := N0.out; have := G0.out; omega)
  have D1 : Hid (DocAt _ A1 n1 c1 d) := Lib.hid ⟨R1.out, N1.out, k1, C1.out, fun z hz => ⟨by have := G1.out.2 z hz; omega, (Q1.out z hz).2⟩, by have := G1.out; omega⟩
  have LD : Hid ((clsOf d).length = n1) := Lib.hid D1.out.clen
  have B1 := Lib.hid G1.out.1
  have LX2 : Hid (l2.length ≤ 5000) := Lib.hid (by have := szX_len l2; have := SZ.out; omega)
  have O2 : Hid (OpsC _ A2 n2 c2 l2) := Lib.hid ⟨⟨R2.out, N2.out, Q2.out, by have := LX2.out; have := N2.out; omega⟩, k2, m2, F2.out⟩
  have LX3 : Hid (l3.length ≤ 5000) := Lib.hid (by have := szX_len l3; have := SZ.out; omega)
  have O3 : Hid (OpsC _ A3 n3 c3 l3) := Lib.hid ⟨⟨R3.out, N3.out, Q3.out, by have := LX3.out; have := N3.out; omega⟩, k3, m3, F3.out⟩
  obtain ⟨r, hr⟩ : ∃ X, applyN l0 l2 (clsOf d) 10000 = X := ⟨_, rfl⟩
  by_cases h0 : r = 0
  rotate_left
  · skip
    have h0' : (r == 0) = false := beq_eq_false_iff_ne.2 h0
    have h0'' : (r != 0) = true := by rw [bne, h0']; rfl
    have HR := Lib.hid hr
    clear hr
    go_wp2_with (go_at_call 21; refine Hid.out ?_)
    refine Lib.hid ?_
    refine (applyBad D1.out O2.out.at_ HS.out HT.out HR.out h0).mono ?_
    rintro e wn ⟨rfl, y⟩
    have HT := Lib.hid (Utf8Tabs_below HT.out y)
    have HS := Lib.hid (HS.out.ext y)
    have D1 := Lib.hid (D1.out.ext y)
    have O2 := Lib.hid (O2.out.ext y)
    have O3 := Lib.hid (O3.out.ext y)
    replace hx := ext_trans hx y
    clear y
    have ND : Hid (DocAt wn none 0 0 []) := Lib.hid ⟨⟨Rd.nil, fun z hz => by cases hz⟩, rfl, Nat.le_refl _, (fun z hz => by cases hz), (fun z hz => by cases hz), by omega⟩
    have NB := nil_bad l0 l3 10000
    go_wp2_with (go_at_call 21; refine Hid.out ?_)
    refine Lib.hid ?_
    refine (applyBad ND.out O3.out.at_ HS.out HT.out rfl NB).mono ?_
    rintro e wn ⟨rfl, y⟩
    have HT := Lib.hid (Utf8Tabs_below HT.out y)
    have HS := Lib.hid (HS.out.ext y)
    have D1 := Lib.hid (D1.out.ext y)
    have O2 := Lib.hid (O2.out.ext y)
    have O3 := Lib.hid (O3.out.ext y)
    replace hx := ext_trans hx y
    clear y
    clear ND
    go_wp2_with (go_at_call 16; refine Hid.out ?_)
    refine Lib.hid ?_
    refine (known21_any _ HT.out).mono ?_
    rintro e w2 ⟨rfl, y⟩
    replace hx := ext_trans hx y
    go_wp2_with (fail)
    go_ret
    exact ⟨rfl, hx⟩
  subst h0
  have W1 := Lib.hid hr
  obtain ⟨N1, hin⟩ := apply_in (by have := O2.out.at_.len; have := O2.out.at_.b; omega) (by rw [LD.out]; have := B1.out; have := SZ.out; omega) hr
  have I1 := Lib.hid hin
  clear hr hin
  go_wp2_with (go_at_call 21; refine Hid.out ?_)
  refine Lib.hid ?_
  refine (applyDocI (N := N1) (us := units (osOf l2)) D1.out O2.out.at_ HS.out HT.out H64.out I1.out.n W1.out I1.out.at_ rfl).mono ?_
  rintro e wn ⟨A5, c5, M1, rfl, h_1, m_1, b_1, d_1, y⟩
  have HT := Lib.hid (Utf8Tabs_below HT.out y)
  have HS := Lib.hid (HS.out.ext y)
  have D1 := Lib.hid (D1.out.ext y)
  have O2 := Lib.hid (O2.out.ext y)
  have O3 := Lib.hid (O3.out.ext y)
  replace hx := ext_trans hx y
  have D_M1 := Lib.hid d_1
  have E_M1 := Lib.hid h_1
  have M_M1 := Lib.hid m_1
  clear d_1 h_1 m_1 b_1
  clear y
  have L_M1 : Hid ((clsOf M1).length ≤ (clsOf d).length + szX l2) := Lib.hid (by rw [E_M1.out]; exact I1.out.len)
  obtain ⟨r, hr⟩ : ∃ X, applyN l0 l3 (clsOf M1) 10000 = X := ⟨_, rfl⟩
  by_cases h0 : r = 0
  rotate_left
  · skip
    have h0' : (r == 0) = false := beq_eq_false_iff_ne.2 h0
    have h0'' : (r != 0) = true := by rw [bne, h0']; rfl
    have HR := Lib.hid hr
    clear hr
    go_wp2_with (go_at_call 21; refine Hid.out ?_)
    refine Lib.hid ?_
    refine (applyBad D_M1.out O3.out.at_ HS.out HT.out HR.out h0).mono ?_
    rintro e wn ⟨rfl, y⟩
    have HT := Lib.hid (Utf8Tabs_below HT.out y)
    have HS := Lib.hid (HS.out.ext y)
    have D1 := Lib.hid (D1.out.ext y)
    have O2 := Lib.hid (O2.out.ext y)
    have O3 := Lib.hid (O3.out.ext y)
    have D_M1 := Lib.hid (D_M1.out.ext y)
    replace hx := ext_trans hx y
    clear y
    go_wp2_with (go_at_call 16; refine Hid.out ?_)
    refine Lib.hid ?_
    refine (known21_any _ HT.out).mono ?_
    rintro e w2 ⟨rfl, y⟩
    replace hx := ext_trans hx y
    go_wp2_with (fail)
    go_ret
    exact ⟨rfl, hx⟩
  subst h0
  have W2 := Lib.hid hr
  obtain ⟨N2, hin⟩ := apply_in (by have := O3.out.at_.len; have := O3.out.at_.b; omega) (by have := L_M1.out; rw [LD.out] at this; have := B1.out; have := SZ.out; omega) hr
  have I2 := Lib.hid hin
  clear hr hin
  go_wp2_with (go_at_call 21; refine Hid.out ?_)
  refine Lib.hid ?_
  refine (applyDocI (N := N2) (us := units (osOf l3)) D_M1.out O3.out.at_ HS.out HT.out H64.out I2.out.n W2.out I2.out.at_ rfl).mono ?_
  rintro e wn ⟨A6, c6, M2, rfl, h_1, m_1, b_1, d_1, y⟩
  have HT := Lib.hid (Utf8Tabs_below HT.out y)
  have HS := Lib.hid (HS.out.ext y)
  have D1 := Lib.hid (D1.out.ext y)
  have O2 := Lib.hid (O2.out.ext y)
  have O3 := Lib.hid (O3.out.ext y)
  have D_M1 := Lib.hid (D_M1.out.ext y)
  replace hx := ext_trans hx y
  have D_M2 := Lib.hid d_1
  have E_M2 := Lib.hid h_1
  have M_M2 := Lib.hid m_1
  clear d_1 h_1 m_1 b_1
  clear y
  have L_M2 : Hid ((clsOf M2).length ≤ (clsOf M1).length + szX l3) := Lib.hid (by rw [E_M2.out]; exact I2.out.len)
  have X1 : Hid (applyN l0 l2 (clsOf d) 536870912 = 0) := Lib.hid (applyN_up I1.out.at_ (by have := I1.out.n; omega))
  have X2 : Hid (applyN l0 l3 (clsOf M1) 536870912 = 0) := Lib.hid (applyN_up I2.out.at_ (by have := I2.out.n; omega))
  go_wp2_with (go_at_call 18; refine Hid.out ?_)
  refine Lib.hid ?_
  refine (invertOk_any s l0 _ _ _ _ _ _ d l2 _ D1.out O2.out.at_ HS.out H64.out HT.out X1.out).mono ?_
  rintro e wn ⟨A7, c7, u, rfl, h_1, o_1, y⟩
  have HT := Lib.hid (Utf8Tabs_below HT.out y)
  have HS := Lib.hid (HS.out.ext y)
  have D1 := Lib.hid (D1.out.ext y)
  have O2 := Lib.hid (O2.out.ext y)
  have O3 := Lib.hid (O3.out.ext y)
  have D_M1 := Lib.hid (D_M1.out.ext y)
  have D_M2 := Lib.hid (D_M2.out.ext y)
  replace hx := ext_trans hx y
  have E_u := Lib.hid h_1
  have O_u := Lib.hid o_1
  clear h_1 o_1
  clear y
  go_wp2_with (go_at_call 18; refine Hid.out ?_)
  refine Lib.hid ?_
  refine (invertOk_any s l0 _ _ _ _ _ _ M1 l3 _ D_M1.out O3.out.at_ HS.out H64.out HT.out X2.out).mono ?_
  rintro e wn ⟨A8, c8, v, rfl, h_1, o_1, y⟩
  have HT := Lib.hid (Utf8Tabs_below HT.out y)
  have HS := Lib.hid (HS.out.ext y)
  have D1 := Lib.hid (D1.out.ext y)
  have O2 := Lib.hid (O2.out.ext y)
  have O3 := Lib.hid (O3.out.ext y)
  have D_M1 := Lib.hid (D_M1.out.ext y)
  have D_M2 := Lib.hid (D_M2.out.ext y)
  have O_u := Lib.hid (O_u.out.ext y)
  replace hx := ext_trans hx y
  have E_v := Lib.hid h_1
  have O_v := Lib.hid o_1
  clear h_1 o_1
  clear y
  have LM : Hid ((clsOf M1).length ≤ 5400 ∧ (clsOf M2).length ≤ 5400) := Lib.hid (by have h1 := L_M1.out; have h2 := L_M2.out; rw [LD.out] at h1; have := B1.out; have := SZ.out; omega)
  have FU : Hid (FitU l0 (invU l0 (units (osOf l2)) (clsOf d)) (clsOf M1).length 10000) := Lib.hid (by
    rw [E_M1.out]
    exact inv_fit0 H64.out I1.out.fit I1.out.doc (by have := I1.out.n; omega) (by rw [LD.out]; have := B1.out; omega) (by rw [← E_M1.out]; have := LM.out; omega) (by omega))
  have FV : Hid (FitU l0 (invU l0 (units (osOf l3)) (clsOf M1)) (clsOf M2).length 10000) := Lib.hid (by
    rw [E_M2.out]
    exact inv_fit0 H64.out I2.out.fit I2.out.doc (by have := I2.out.n; omega) (by have := LM.out; omega) (by rw [← E_M2.out]; have := LM.out; omega) (by omega))
  have BU : Hid (app l0 (invU l0 (units (osOf l2)) (clsOf d)) (clsOf M1) = clsOf d) := Lib.hid (by rw [E_M1.out]; exact inv_back _ _ I1.out.fit.t I1.out.mu (fun c hc => ((mayD_iff.1 I1.out.doc).2.1 c hc).2.1))
  have BV : Hid (app l0 (invU l0 (units (osOf l3)) (clsOf M1)) (clsOf M2) = clsOf M1) := Lib.hid (by rw [E_M2.out]; exact inv_back _ _ I2.out.fit.t I2.out.mu (fun c hc => ((mayD_iff.1 I2.out.doc).2.1 c hc).2.1))
  have Yv := Lib.hid (made_in (N := 10000) (most := 10000) E_v.out (by have := O_v.out.at_.len; have := O_v.out.at_.b; omega) M_M2.out FV.out (by omega) (by omega))
  have Yu := Lib.hid (made_in (N := 10000) (most := 10000) E_u.out (by have := O_u.out.at_.len; have := O_u.out.at_.b; omega) M_M1.out FU.out (by omega) (by omega))
  have NV : Hid (FitU l0 (units (osOf v)) (clsOf M2).length 10000) := Lib.hid (by rw [mkU_units E_v.out]; exact fit_nf FV.out)
  have NU : Hid (FitU l0 (units (osOf u)) (clsOf M1).length 10000) := Lib.hid (by rw [mkU_units E_u.out]; exact fit_nf FU.out)
  have AV : Hid (app l0 (units (osOf v)) (clsOf M2) = clsOf M1) := Lib.hid (Yv.out.2.2.trans BV.out)
  have AU : Hid (app l0 (units (osOf u)) (clsOf M1) = clsOf d) := Lib.hid (Yu.out.2.2.trans BU.out)
  have FW : Hid (FitU l0 (compU l0 (units (osOf v)) (units (osOf u))) (clsOf M2).length 10000) := Lib.hid (comp_fit H64.out NV.out (by rw [AV.out]; exact NU.out) (by omega))
  have AW : Hid (app l0 (compU l0 (units (osOf v)) (units (osOf u))) (clsOf M2) = clsOf d) := Lib.hid (by
    rw [comp_app l0 _ _ (clsOf M2) NV.out.t (fun x hx => vU_mU (NV.out.v x hx)) (fun x hx => vU_mU (NU.out.v x hx)) (fun c hc => (mayS_zero ((mayD_iff.1 M_M2.out).2.1 c hc).2.1).2.1) (by rw [AV.out]; exact NU.out.t), AV.out, AU.out])
  have ZV : Hid (szN v ≤ 100000) := Lib.hid (by have h1 := szN_units (mkU_isOp E_v.out); have h2 := units_length (us := units (osOf v)); have h3 := NV.out.t; have h4 := NV.out.m; have := LM.out; omega)
  have ZU : Hid (szN u ≤ 100000) := Lib.hid (by have h1 := szN_units (mkU_isOp E_u.out); have h2 := units_length (us := units (osOf u)); have h3 := NU.out.t; have h4 := NU.out.m; have := LM.out; omega)
  go_wp2_with (go_at_call 24; refine Hid.out ?_)
  refine Lib.hid ?_
  refine (composeOk_any s l0 _ _ _ _ _ _ v u _ O_v.out O_u.out HS.out H64.out HT.out (mayO_of Yv.out.1) (mayO_of Yu.out.1) (by have := ZV.out; omega) (by have := ZU.out; omega) (FW.out.tb) (FW.out.mb)).mono ?_
  rintro e wn ⟨A9, c9, z, rfl, h_1, o_1, y⟩
  have HT := Lib.hid (Utf8Tabs_below HT.out y)
  have HS := Lib.hid (HS.out.ext y)
  have D1 := Lib.hid (D1.out.ext y)
  have O2 := Lib.hid (O2.out.ext y)
  have O3 := Lib.hid (O3.out.ext y)
  have D_M1 := Lib.hid (D_M1.out.ext y)
  have D_M2 := Lib.hid (D_M2.out.ext y)
  have O_u := Lib.hid (O_u.out.ext y)
  have O_v := Lib.hid (O_v.out.ext y)
  replace hx := ext_trans hx y
  have E_z := Lib.hid h_1
  have O_z := Lib.hid o_1
  clear h_1 o_1
  clear y
  have Y_M3 := Lib.hid (made_in (N := 10000) (most := 10000) E_z.out (by have := O_z.out.at_.len; have := O_z.out.at_.b; omega) M_M2.out FW.out (by omega) (by omega))
  go_wp2_with (go_at_call 21; refine Hid.out ?_)
  refine Lib.hid ?_
  refine (applyDocI (N := 10000) (us := compU l0 (units (osOf v)) (units (osOf u))) D_M2.out O_z.out.at_ HS.out HT.out H64.out (by omega) Y_M3.out.1 Y_M3.out.2.1 Y_M3.out.2.2).mono ?_
  rintro e wn ⟨A10, c10, M3, rfl, h_1, m_1, b_1, d_1, y⟩
  have HT := Lib.hid (Utf8Tabs_below HT.out y)
  have HS := Lib.hid (HS.out.ext y)
  have D1 := Lib.hid (D1.out.ext y)
  have O2 := Lib.hid (O2.out.ext y)
  have O3 := Lib.hid (O3.out.ext y)
  have D_M1 := Lib.hid (D_M1.out.ext y)
  have D_M2 := Lib.hid (D_M2.out.ext y)
  have O_u := Lib.hid (O_u.out.ext y)
  have O_v := Lib.hid (O_v.out.ext y)
  have O_z := Lib.hid (O_z.out.ext y)
  replace hx := ext_trans hx y
  have D_M3 := Lib.hid d_1
  have E_M3 := Lib.hid h_1
  have M_M3 := Lib.hid m_1
  clear d_1 h_1 m_1 b_1
  clear y
  have EC : Hid (clsOf M3 = clsOf d) := Lib.hid (E_M3.out.trans AW.out)
  go_wp2_with (go_at_call 22; refine Hid.out ?_)
  refine Lib.hid ?_
  refine (sameD D_M3.out D1.out (decide_eq_true EC.out)).mono ?_
  rintro e wn ⟨rfl, y⟩
  have HT := Lib.hid (Utf8Tabs_below HT.out y)
  have HS := Lib.hid (HS.out.ext y)
  have D1 := Lib.hid (D1.out.ext y)
  have O2 := Lib.hid (O2.out.ext y)
  have O3 := Lib.hid (O3.out.ext y)
  have D_M1 := Lib.hid (D_M1.out.ext y)
  have D_M2 := Lib.hid (D_M2.out.ext y)
  have O_u := Lib.hid (O_u.out.ext y)
  have O_v := Lib.hid (O_v.out.ext y)
  have O_z := Lib.hid (O_z.out.ext y)
  have D_M3 := Lib.hid (D_M3.out.ext y)
  replace hx := ext_trans hx y
  clear y
  go_wp2_with (go_at_call 16; refine Hid.out ?_)
  refine Lib.hid ?_
  refine (known21_any _ HT.out).mono ?_
  rintro e w2 ⟨rfl, y⟩
  replace hx := ext_trans hx y
  go_wp2_with (fail)
  go_ret
  exact ⟨rfl, hx⟩
end Go.Proofs.YtnppoifgfehpfaaGreatDoor
