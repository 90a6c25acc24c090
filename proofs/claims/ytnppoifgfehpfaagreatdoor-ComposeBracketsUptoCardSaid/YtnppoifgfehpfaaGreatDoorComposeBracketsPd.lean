/- The walk of rubriclaw20.ComposeBrackets. Printed by wip/gen_r5.py. -/
import Derived.Test.YtnppoifgfehpfaaGreatDoorPk29
import Derived.Test.YtnppoifgfehpfaaGreatDoorPk32
import Derived.Test.YtnppoifgfehpfaaGreatDoorKnown20Pd
import Derived.Test.YtnppoifgfehpfaaGreatDoorGreat20Pd
import Derived.Test.YtnppoifgfehpfaaGreatDoorPk34
import Derived.Test.YtnppoifgfehpfaaGreatDoorPk35
import Derived.Test.YtnppoifgfehpfaaGreatDoorPk31
namespace Go.Proofs.YtnppoifgfehpfaaGreatDoor
open Go.RowKit
set_option linter.unusedVariables false
set_option linter.unusedSimpArgs false

set_option maxRecDepth 100000 in
set_option maxHeartbeats 12800000 in
theorem composeBrackets_any (A0 A1 A2 A3 A4 : Option Addr) (n0 n1 n2 n3 n4 c0 c1 c2 c3 c4 : Nat) (l0 : List Ky) (d : List ClS) (l2 l3 l4 : List OpS) (w : World)
    (e0 : n0 = l0.length) (r0 : RdKy w w.heap.size A0 l0) (b0 : n0 ≤ 1048576) (e1 : n1 = d.length) (r1 : RdCl w w.heap.size A1 d) (b1 : n1 ≤ 1048576) (k1 : n1 ≤ c1) (q1 : ∀ x ∈ d, x.c.s.length ≤ 100000000 ∧ okVr x.c.s) (g1 : ∀ x ∈ d, x.c.s.length ≤ x.cs ∧ x.cs ≤ maxLen)
    (e2 : n2 = l2.length) (r2 : RdOp w w.heap.size A2 l2) (b2 : n2 ≤ 1048576) (k2 : n2 ≤ c2) (m2 : c2 ≤ maxLen) (q2 : ∀ o ∈ l2, okOp o.o) (z2 : szX l2 ≤ 2305850000000000000) (f2 : ∀ o ∈ l2, capO o)
    (e3 : n3 = l3.length) (r3 : RdOp w w.heap.size A3 l3) (b3 : n3 ≤ 1048576) (k3 : n3 ≤ c3) (m3 : c3 ≤ maxLen) (q3 : ∀ o ∈ l3, okOp o.o) (z3 : szX l3 ≤ 2305850000000000000) (f3 : ∀ o ∈ l3, capO o)
    (e4 : n4 = l4.length) (r4 : RdOp w w.heap.size A4 l4) (b4 : n4 ≤ 1048576) (k4 : n4 ≤ c4) (m4 : c4 ≤ maxLen) (q4 : ∀ o ∈ l4, okOp o.o) (z4 : szX l4 ≤ 2305850000000000000) (f4 : ∀ o ∈ l4, capO o)
    (hT : Lib.Utf8Tabs 1 2 w) :
    Calls Tryz.prog 7 #[.slice A0 n0 c0, .slice A1 n1 c1, .slice A2 n2 c2, .slice A3 n3 c3, .slice A4 n4 c4] w fun e w' => e = .returned (.bool true) ∧ Below w.heap.size w w' := by
  have N0 := Lib.hid e0
  have R0 := Lib.hid r0
  have HT := Lib.hid hT
  have hx := Below.refl w.heap.size w
  have N1 := Lib.hid e1
  have R1 := Lib.hid r1
  have Q1 := Lib.hid q1
  have C1 := Lib.hid g1
  have N2 := Lib.hid e2
  have R2 := Lib.hid r2
  have Q2 := Lib.hid q2
  have Z2 := Lib.hid z2
  have F2 := Lib.hid f2
  have N3 := Lib.hid e3
  have R3 := Lib.hid r3
  have Q3 := Lib.hid q3
  have Z3 := Lib.hid z3
  have F3 := Lib.hid f3
  have N4 := Lib.hid e4
  have R4 := Lib.hid r4
  have Q4 := Lib.hid q4
  have Z4 := Lib.hid z4
  have F4 := Lib.hid f4
  clear e0 r0 hT e1 r1 q1 g1 e2 r2 q2 z2 f2 e3 r3 q3 z3 f3 e4 r4 q4 z4 f4
  go_enter Tryz.func7, Tryz.ntmps7
  have ra : Rd SX.enc 1 _ _ _ [⟨A2, c2, l2⟩, ⟨A3, c3, l3⟩, ⟨A4, c4, l4⟩] := Rd.new (enc := SX.enc) (size := 1) (fun _ => rfl) w 24 [⟨A2, c2, l2⟩, ⟨A3, c3, l3⟩, ⟨A4, c4, l4⟩] (cs := #[.slice A2 n2 c2, .slice A3 n3 c3, .slice A4 n4 c4]) (by simp [SX.enc, ← N2.out, ← N3.out, ← N4.out]) rfl
  have y := ext_alloc w (.cells #[.slice A2 n2 c2, .slice A3 n3 c3, .slice A4 n4 c4] 24)
  have R0 := Lib.hid (R0.out.ext y)
  have HT := Lib.hid (Utf8Tabs_below HT.out y)
  have R1 := Lib.hid (R1.out.ext y)
  have R2 := Lib.hid (R2.out.ext y)
  have R3 := Lib.hid (R3.out.ext y)
  have R4 := Lib.hid (R4.out.ext y)
  replace hx := ext_trans hx y
  clear y
  go_wp2_with (go_at_call 25; refine Hid.out ?_)
  refine Lib.hid ?_
  refine (great20_any A0 (some ⟨w.heap.size, 0, none⟩) n0 c0 3 3 [⟨A2, c2, l2⟩, ⟨A3, c3, l3⟩, ⟨A4, c4, l4⟩] _ rfl ra (by omega) (by omega) (fun x hx => by
    simp only [List.mem_cons, List.not_mem_nil, or_false] at hx
    rcases hx with rfl | rfl | rfl
    · exact ⟨R2.out, by have := N2.out; simp only; omega⟩
    · exact ⟨R3.out, by have := N3.out; simp only; omega⟩
    · exact ⟨R4.out, by have := N4.out; simp only; omega⟩) (by simp only [sumX, List.map_cons, List.map_nil, List.sum_cons, List.sum_nil]; have := Z2.out; have := Z3.out; have := Z4.out; omega) (fun x hx => by
    simp only [List.mem_cons, List.not_mem_nil, or_false] at hx
    rcases hx with rfl | rfl | rfl
    · have := Z2.out; simp only; omega
    · have := Z3.out; simp only; omega
    · have := Z4.out; simp only; omega)).mono ?_
  rintro e wn ⟨gb, rfl, h1, dr, hd⟩
  have y := drew_ext hd
  clear hd ra
  have R0 := Lib.hid (R0.out.ext y)
  have HT := Lib.hid (Utf8Tabs_below HT.out y)
  have R1 := Lib.hid (R1.out.ext y)
  have R2 := Lib.hid (R2.out.ext y)
  have R3 := Lib.hid (R3.out.ext y)
  have R4 := Lib.hid (R4.out.ext y)
  replace hx := ext_trans hx y
  clear y
  cases gb
  case true =>
    clear h1
    go_wp2_with (go_at_call 27; refine Hid.out ?_)
    refine Lib.hid ?_
    refine (known20_any _ HT.out).mono ?_
    rintro e w2 ⟨rfl, y⟩
    replace hx := ext_trans hx y
    go_wp2_with (fail)
    go_ret
    exact ⟨rfl, hx⟩
  have h2 := h1 rfl
  have G0 := Lib.hid h2.1
  have SZ : Hid (szX l2 + szX l3 + szX l4 ≤ 5000) := Lib.hid (by have h3 := h2.2; simp only [sumX, List.map_cons, List.map_nil, List.sum_cons, List.sum_nil] at h3; omega)
  clear h1 h2
  go_wp2_with (go_at_call 26; refine Hid.out ?_)
  refine Lib.hid ?_
  refine (great18_any A1 n1 c1 d 400 _ N1.out R1.out (by omega) (fun z hz => by have := (Q1.out z hz).1; omega)).mono ?_
  rintro e wn ⟨g, rfl, hgr, dr, hd⟩
  have y := drew_ext hd
  clear hd
  have R0 := Lib.hid (R0.out.ext y)
  have HT := Lib.hid (Utf8Tabs_below HT.out y)
  have R1 := Lib.hid (R1.out.ext y)
  have R2 := Lib.hid (R2.out.ext y)
  have R3 := Lib.hid (R3.out.ext y)
  have R4 := Lib.hid (R4.out.ext y)
  replace hx := ext_trans hx y
  clear y
  cases g
  case true =>
    clear hgr
    go_wp2_with (go_at_call 27; refine Hid.out ?_)
    refine Lib.hid ?_
    refine (known20_any _ HT.out).mono ?_
    rintro e w2 ⟨rfl, y⟩
    replace hx := ext_trans hx y
    go_wp2_with (fail)
    go_ret
    exact ⟨rfl, hx⟩
  have G1 : Hid (n1 ≤ 400 ∧ ∀ c ∈ d, c.c.s.length ≤ 64) := Lib.hid ⟨by have := (hgr rfl).1; omega, (hgr rfl).2⟩
  clear hgr
  go_wp2_with (go_at_call 17; refine Hid.out ?_)
  refine Lib.hid ?_
  refine (new_any A0 n0 c0 l0 _ N0.out R0.out (by omega)).mono ?_
  rintro e wn ⟨y, ⟨hm, s, rfl, hS⟩ | ⟨hm, rfl⟩⟩
  all_goals
    have R0 := Lib.hid (R0.out.ext y)
    have HT := Lib.hid (Utf8Tabs_below HT.out y)
    have R1 := Lib.hid (R1.out.ext y)
    have R2 := Lib.hid (R2.out.ext y)
    have R3 := Lib.hid (R3.out.ext y)
    have R4 := Lib.hid (R4.out.ext y)
    replace hx := ext_trans hx y
    clear y hm
  rotate_left
  · skip
    go_wp2_with (go_at_call 27; refine Hid.out ?_)
    refine Lib.hid ?_
    refine (known20_any _ HT.out).mono ?_
    rintro e w2 ⟨rfl, y⟩
    replace hx := ext_trans hx y
    go_wp2_with (fail)
    go_ret
    exact ⟨rfl, hx⟩
  have HS := Lib.hid hS
  clear hS
  have H64 : Hid (l0.length ≤ 64) := Lib.hid (by have := N0.out; have := G0.out; omega)
  have D1 : Hid (DocAt _ A1 n1 c1 d) := Lib.hid ⟨R1.out, N1.out, k1, C1.out, fun z hz => ⟨by have := G1.out.2 z hz; omega, (Q1.out z hz).2⟩, by have := G1.out; omega⟩
  have LD : Hid ((clsOf d).length = n1) := Lib.hid D1.out.clen
  have B1 := Lib.hid G1.out.1
  have LX2 : Hid (l2.length ≤ 5000) := Lib.hid (by have := szX_len l2; have := SZ.out; omega)
  have O2 : Hid (OpsC _ A2 n2 c2 l2) := Lib.hid ⟨⟨R2.out, N2.out, Q2.out, by have := LX2.out; have := N2.out; omega⟩, k2, m2, F2.out⟩
  have LX3 : Hid (l3.length ≤ 5000) := Lib.hid (by have := szX_len l3; have := SZ.out; omega)
  have O3 : Hid (OpsC _ A3 n3 c3 l3) := Lib.hid ⟨⟨R3.out, N3.out, Q3.out, by have := LX3.out; have := N3.out; omega⟩, k3, m3, F3.out⟩
  have LX4 : Hid (l4.length ≤ 5000) := Lib.hid (by have := szX_len l4; have := SZ.out; omega)
  have O4 : Hid (OpsC _ A4 n4 c4 l4) := Lib.hid ⟨⟨R4.out, N4.out, Q4.out, by have := LX4.out; have := N4.out; omega⟩, k4, m4, F4.out⟩
  obtain ⟨r, hr⟩ : ∃ X, applyN l0 l2 (clsOf d) 10000 = X := ⟨_, rfl⟩
  by_cases h0 : r = 0
  rotate_left
  · skip
    have h0' : (r == 0) = false := beq_eq_false_iff_ne.2 h0
    have h0'' : (r != 0) = true := by rw [bne, h0']; rfl
    have HR := Lib.hid hr
    clear hr
    go_wp2_with (go_at_call 21; refine Hid.out ?_)
    refine Lib.hid ?_
    refine (applyBad D1.out O2.out.at_ HS.out HT.out HR.out h0).mono ?_
    rintro e wn ⟨rfl, y⟩
    have HT := Lib.hid (Utf8Tabs_below HT.out y)
    have HS := Lib.hid (HS.out.ext y)
    have D1 := Lib.hid (D1.out.ext y)
    have O2 := Lib.hid (O2.out.ext y)
    have O3 := Lib.hid (O3.out.ext y)
    have O4 := Lib.hid (O4.out.ext y)
    replace hx := ext_trans hx y
    clear y
    have ND : Hid (DocAt wn none 0 0 []) := Lib.hid ⟨⟨Rd.nil, fun z hz => by cases hz⟩, rfl, Nat.le_refl _, (fun z hz => by cases hz), (fun z hz => by cases hz), by omega⟩
    have NB := nil_bad l0 l3 10000
    go_wp2_with (go_at_call 21; refine Hid.out ?_)
    refine Lib.hid ?_
    refine (applyBad ND.out O3.out.at_ HS.out HT.out rfl NB).mono ?_
    rintro e wn ⟨rfl, y⟩
    have HT := Lib.hid (Utf8Tabs_below HT.out y)
    have HS := Lib.hid (HS.out.ext y)
    have D1 := Lib.hid (D1.out.ext y)
    have O2 := Lib.hid (O2.out.ext y)
    have O3 := Lib.hid (O3.out.ext y)
    have O4 := Lib.hid (O4.out.ext y)
    replace hx := ext_trans hx y
    clear y
    clear ND
    have ND : Hid (DocAt wn none 0 0 []) := Lib.hid ⟨⟨Rd.nil, fun z hz => by cases hz⟩, rfl, Nat.le_refl _, (fun z hz => by cases hz), (fun z hz => by cases hz), by omega⟩
    have NB := nil_bad l0 l4 10000
    go_wp2_with (go_at_call 21; refine Hid.out ?_)
    refine Lib.hid ?_
    refine (applyBad ND.out O4.out.at_ HS.out HT.out rfl NB).mono ?_
    rintro e wn ⟨rfl, y⟩
    have HT := Lib.hid (Utf8Tabs_below HT.out y)
    have HS := Lib.hid (HS.out.ext y)
    have D1 := Lib.hid (D1.out.ext y)
    have O2 := Lib.hid (O2.out.ext y)
    have O3 := Lib.hid (O3.out.ext y)
    have O4 := Lib.hid (O4.out.ext y)
    replace hx := ext_trans hx y
    clear y
    clear ND
    go_wp2_with (go_at_call 27; refine Hid.out ?_)
    refine Lib.hid ?_
    refine (known20_any _ HT.out).mono ?_
    rintro e w2 ⟨rfl, y⟩
    replace hx := ext_trans hx y
    go_wp2_with (fail)
    go_ret
    exact ⟨rfl, hx⟩
  subst h0
  have W1 := Lib.hid hr
  obtain ⟨N1, hin⟩ := apply_in (by have := O2.out.at_.len; have := O2.out.at_.b; omega) (by rw [LD.out]; have := B1.out; have := SZ.out; omega) hr
  have I1 := Lib.hid hin
  clear hr hin
  go_wp2_with (go_at_call 21; refine Hid.out ?_)
  refine Lib.hid ?_
  refine (applyDocI (N := N1) (us := units (osOf l2)) D1.out O2.out.at_ HS.out HT.out H64.out I1.out.n W1.out I1.out.at_ rfl).mono ?_
  rintro e wn ⟨A5, c5, M1, rfl, h_1, m_1, b_1, d_1, y⟩
  have HT := Lib.hid (Utf8Tabs_below HT.out y)
  have HS := Lib.hid (HS.out.ext y)
  have D1 := Lib.hid (D1.out.ext y)
  have O2 := Lib.hid (O2.out.ext y)
  have O3 := Lib.hid (O3.out.ext y)
  have O4 := Lib.hid (O4.out.ext y)
  replace hx := ext_trans hx y
  have D_M1 := Lib.hid d_1
  have E_M1 := Lib.hid h_1
  have M_M1 := Lib.hid m_1
  clear d_1 h_1 m_1 b_1
  clear y
  have L_M1 : Hid ((clsOf M1).length ≤ (clsOf d).length + szX l2) := Lib.hid (by rw [E_M1.out]; exact I1.out.len)
  obtain ⟨r, hr⟩ : ∃ X, applyN l0 l3 (clsOf M1) 10000 = X := ⟨_, rfl⟩
  by_cases h0 : r = 0
  rotate_left
  · skip
    have h0' : (r == 0) = false := beq_eq_false_iff_ne.2 h0
    have h0'' : (r != 0) = true := by rw [bne, h0']; rfl
    have HR := Lib.hid hr
    clear hr
    go_wp2_with (go_at_call 21; refine Hid.out ?_)
    refine Lib.hid ?_
    refine (applyBad D_M1.out O3.out.at_ HS.out HT.out HR.out h0).mono ?_
    rintro e wn ⟨rfl, y⟩
    have HT := Lib.hid (Utf8Tabs_below HT.out y)
    have HS := Lib.hid (HS.out.ext y)
    have D1 := Lib.hid (D1.out.ext y)
    have O2 := Lib.hid (O2.out.ext y)
    have O3 := Lib.hid (O3.out.ext y)
    have O4 := Lib.hid (O4.out.ext y)
    have D_M1 := Lib.hid (D_M1.out.ext y)
    replace hx := ext_trans hx y
    clear y
    have ND : Hid (DocAt wn none 0 0 []) := Lib.hid ⟨⟨Rd.nil, fun z hz => by cases hz⟩, rfl, Nat.le_refl _, (fun z hz => by cases hz), (fun z hz => by cases hz), by omega⟩
    have NB := nil_bad l0 l4 10000
    go_wp2_with (go_at_call 21; refine Hid.out ?_)
    refine Lib.hid ?_
    refine (applyBad ND.out O4.out.at_ HS.out HT.out rfl NB).mono ?_
    rintro e wn ⟨rfl, y⟩
    have HT := Lib.hid (Utf8Tabs_below HT.out y)
    have HS := Lib.hid (HS.out.ext y)
    have D1 := Lib.hid (D1.out.ext y)
    have O2 := Lib.hid (O2.out.ext y)
    have O3 := Lib.hid (O3.out.ext y)
    have O4 := Lib.hid (O4.out.ext y)
    have D_M1 := Lib.hid (D_M1.out.ext y)
    replace hx := ext_trans hx y
    clear y
    clear ND
    go_wp2_with (go_at_call 27; refine Hid.out ?_)
    refine Lib.hid ?_
    refine (known20_any _ HT.out).mono ?_
    rintro e w2 ⟨rfl, y⟩
    replace hx := ext_trans hx y
    go_wp2_with (fail)
    go_ret
    exact ⟨rfl, hx⟩
  subst h0
  have W2 := Lib.hid hr
  obtain ⟨N2, hin⟩ := apply_in (by have := O3.out.at_.len; have := O3.out.at_.b; omega) (by have := L_M1.out; rw [LD.out] at this; have := B1.out; have := SZ.out; omega) hr
  have I2 := Lib.hid hin
  clear hr hin
  go_wp2_with (go_at_call 21; refine Hid.out ?_)
  refine Lib.hid ?_
  refine (applyDocI (N := N2) (us := units (osOf l3)) D_M1.out O3.out.at_ HS.out HT.out H64.out I2.out.n W2.out I2.out.at_ rfl).mono ?_
  rintro e wn ⟨A6, c6, M2, rfl, h_1, m_1, b_1, d_1, y⟩
  have HT := Lib.hid (Utf8Tabs_below HT.out y)
  have HS := Lib.hid (HS.out.ext y)
  have D1 := Lib.hid (D1.out.ext y)
  have O2 := Lib.hid (O2.out.ext y)
  have O3 := Lib.hid (O3.out.ext y)
  have O4 := Lib.hid (O4.out.ext y)
  have D_M1 := Lib.hid (D_M1.out.ext y)
  replace hx := ext_trans hx y
  have D_M2 := Lib.hid d_1
  have E_M2 := Lib.hid h_1
  have M_M2 := Lib.hid m_1
  clear d_1 h_1 m_1 b_1
  clear y
  have L_M2 : Hid ((clsOf M2).length ≤ (clsOf M1).length + szX l3) := Lib.hid (by rw [E_M2.out]; exact I2.out.len)
  obtain ⟨r, hr⟩ : ∃ X, applyN l0 l4 (clsOf M2) 10000 = X := ⟨_, rfl⟩
  by_cases h0 : r = 0
  rotate_left
  · skip
    have h0' : (r == 0) = false := beq_eq_false_iff_ne.2 h0
    have h0'' : (r != 0) = true := by rw [bne, h0']; rfl
    have HR := Lib.hid hr
    clear hr
    go_wp2_with (go_at_call 21; refine Hid.out ?_)
    refine Lib.hid ?_
    refine (applyBad D_M2.out O4.out.at_ HS.out HT.out HR.out h0).mono ?_
    rintro e wn ⟨rfl, y⟩
    have HT := Lib.hid (Utf8Tabs_below HT.out y)
    have HS := Lib.hid (HS.out.ext y)
    have D1 := Lib.hid (D1.out.ext y)
    have O2 := Lib.hid (O2.out.ext y)
    have O3 := Lib.hid (O3.out.ext y)
    have O4 := Lib.hid (O4.out.ext y)
    have D_M1 := Lib.hid (D_M1.out.ext y)
    have D_M2 := Lib.hid (D_M2.out.ext y)
    replace hx := ext_trans hx y
    clear y
    go_wp2_with (go_at_call 27; refine Hid.out ?_)
    refine Lib.hid ?_
    refine (known20_any _ HT.out).mono ?_
    rintro e w2 ⟨rfl, y⟩
    replace hx := ext_trans hx y
    go_wp2_with (fail)
    go_ret
    exact ⟨rfl, hx⟩
  subst h0
  have W3 := Lib.hid hr
  obtain ⟨N3, hin⟩ := apply_in (by have := O4.out.at_.len; have := O4.out.at_.b; omega) (by have := L_M1.out; have := L_M2.out; rw [LD.out] at *; have := B1.out; have := SZ.out; omega) hr
  have I3 := Lib.hid hin
  clear hr hin
  go_wp2_with (go_at_call 21; refine Hid.out ?_)
  refine Lib.hid ?_
  refine (applyDocI (N := N3) (us := units (osOf l4)) D_M2.out O4.out.at_ HS.out HT.out H64.out I3.out.n W3.out I3.out.at_ rfl).mono ?_
  rintro e wn ⟨A7, c7, M3, rfl, h_1, m_1, b_1, d_1, y⟩
  have HT := Lib.hid (Utf8Tabs_below HT.out y)
  have HS := Lib.hid (HS.out.ext y)
  have D1 := Lib.hid (D1.out.ext y)
  have O2 := Lib.hid (O2.out.ext y)
  have O3 := Lib.hid (O3.out.ext y)
  have O4 := Lib.hid (O4.out.ext y)
  have D_M1 := Lib.hid (D_M1.out.ext y)
  have D_M2 := Lib.hid (D_M2.out.ext y)
  replace hx := ext_trans hx y
  have D_M3 := Lib.hid d_1
  have E_M3 := Lib.hid h_1
  have M_M3 := Lib.hid m_1
  clear d_1 h_1 m_1 b_1
  clear y
  have L_M3 : Hid ((clsOf M3).length ≤ (clsOf M2).length + szX l4) := Lib.hid (by rw [E_M3.out]; exact I3.out.len)
  have CX := Lib.hid (In.comp I1.out E_M1.out I2.out H64.out)
  have CY := Lib.hid (In.comp I2.out E_M2.out I3.out H64.out)
  have NN : Hid (N1 ≤ 10000 ∧ N2 ≤ 10000 ∧ N3 ≤ 10000) := Lib.hid ⟨I1.out.n, I2.out.n, I3.out.n⟩
  have FX : Hid (FitU l0 (compU l0 (units (osOf l2)) (units (osOf l3))) (clsOf d).length 10000) := Lib.hid (CX.out.1.up (by have := NN.out; omega))
  have FY : Hid (FitU l0 (compU l0 (units (osOf l3)) (units (osOf l4))) (clsOf M1).length 10000) := Lib.hid (CY.out.1.up (by have := NN.out; omega))
  have LM : Hid ((clsOf d).length ≤ 400 ∧ (clsOf M1).length ≤ 5400 ∧ (clsOf M2).length ≤ 5400) := Lib.hid (by have h1 := L_M1.out; have h2 := L_M2.out; rw [LD.out] at *; have := B1.out; have := SZ.out; omega)
  go_wp2_with (go_at_call 24; refine Hid.out ?_)
  refine Lib.hid ?_
  refine (composeOk_any s l0 _ _ _ _ _ _ l2 l3 _ O2.out O3.out HS.out H64.out HT.out I1.out.may I2.out.may (by have := szN_le l2; have := SZ.out; omega) (by have := szN_le l3; have := SZ.out; omega) (FX.out.tb) (FX.out.mb)).mono ?_
  rintro e wn ⟨A8, c8, xy, rfl, h_1, o_1, y⟩
  have HT := Lib.hid (Utf8Tabs_below HT.out y)
  have HS := Lib.hid (HS.out.ext y)
  have D1 := Lib.hid (D1.out.ext y)
  have O2 := Lib.hid (O2.out.ext y)
  have O3 := Lib.hid (O3.out.ext y)
  have O4 := Lib.hid (O4.out.ext y)
  have D_M1 := Lib.hid (D_M1.out.ext y)
  have D_M2 := Lib.hid (D_M2.out.ext y)
  have D_M3 := Lib.hid (D_M3.out.ext y)
  replace hx := ext_trans hx y
  have E_xy := Lib.hid h_1
  have O_xy := Lib.hid o_1
  clear h_1 o_1
  clear y
  go_wp2_with (go_at_call 24; refine Hid.out ?_)
  refine Lib.hid ?_
  refine (composeOk_any s l0 _ _ _ _ _ _ l3 l4 _ O3.out O4.out HS.out H64.out HT.out I2.out.may I3.out.may (by have := szN_le l3; have := SZ.out; omega) (by have := szN_le l4; have := SZ.out; omega) (FY.out.tb) (FY.out.mb)).mono ?_
  rintro e wn ⟨A9, c9, yz, rfl, h_1, o_1, y⟩
  have HT := Lib.hid (Utf8Tabs_below HT.out y)
  have HS := Lib.hid (HS.out.ext y)
  have D1 := Lib.hid (D1.out.ext y)
  have O2 := Lib.hid (O2.out.ext y)
  have O3 := Lib.hid (O3.out.ext y)
  have O4 := Lib.hid (O4.out.ext y)
  have D_M1 := Lib.hid (D_M1.out.ext y)
  have D_M2 := Lib.hid (D_M2.out.ext y)
  have D_M3 := Lib.hid (D_M3.out.ext y)
  have O_xy := Lib.hid (O_xy.out.ext y)
  replace hx := ext_trans hx y
  have E_yz := Lib.hid h_1
  have O_yz := Lib.hid o_1
  clear h_1 o_1
  clear y
  have Yx := Lib.hid (made_in (N := 10000) (most := 10000) E_xy.out (by have := O_xy.out.at_.len; have := O_xy.out.at_.b; omega) I1.out.doc FX.out (by omega) (by omega))
  have Yy := Lib.hid (made_in (N := 10000) (most := 10000) E_yz.out (by have := O_yz.out.at_.len; have := O_yz.out.at_.b; omega) I2.out.doc FY.out (by omega) (by omega))
  have NX : Hid (FitU l0 (units (osOf xy)) (clsOf d).length 10000) := Lib.hid (by rw [mkU_units E_xy.out]; exact fit_nf FX.out)
  have NY : Hid (FitU l0 (units (osOf yz)) (clsOf M1).length 10000) := Lib.hid (by rw [mkU_units E_yz.out]; exact fit_nf FY.out)
  have AX : Hid (app l0 (units (osOf xy)) (clsOf d) = clsOf M2) := Lib.hid (by rw [Yx.out.2.2, CX.out.2, E_M2.out])
  have AY : Hid (app l0 (units (osOf yz)) (clsOf M1) = clsOf M3) := Lib.hid (by rw [Yy.out.2.2, CY.out.2, E_M3.out])
  have FP : Hid (FitU l0 (compU l0 (units (osOf xy)) (units (osOf l4))) (clsOf d).length 10000) := Lib.hid (comp_fit H64.out NX.out (by rw [AX.out]; exact I3.out.fit.up NN.out.2.2) (by omega))
  have FQ : Hid (FitU l0 (compU l0 (units (osOf l2)) (units (osOf yz))) (clsOf d).length 10000) := Lib.hid (comp_fit H64.out (I1.out.fit.up NN.out.1) (by rw [← E_M1.out]; exact NY.out) (by omega))
  have AP : Hid (app l0 (compU l0 (units (osOf xy)) (units (osOf l4))) (clsOf d) = clsOf M3) := Lib.hid (by rw [comp_app l0 _ _ (clsOf d) NX.out.t (fun x hx => vU_mU (NX.out.v x hx)) I3.out.mu I1.out.rise (by rw [AX.out]; exact I3.out.fit.t), AX.out, E_M3.out])
  have AQ : Hid (app l0 (compU l0 (units (osOf l2)) (units (osOf yz))) (clsOf d) = clsOf M3) := Lib.hid (by rw [comp_app l0 _ _ (clsOf d) I1.out.fit.t I1.out.mu (fun x hx => vU_mU (NY.out.v x hx)) I1.out.rise (by rw [← E_M1.out]; exact NY.out.t), ← E_M1.out, AY.out])
  have ZX : Hid (szN xy ≤ 100000) := Lib.hid (by have h1 := szN_units (mkU_isOp E_xy.out); have h2 := units_length (us := units (osOf xy)); have h3 := NX.out.t; have h4 := NX.out.m; have := LM.out; omega)
  have ZY : Hid (szN yz ≤ 100000) := Lib.hid (by have h1 := szN_units (mkU_isOp E_yz.out); have h2 := units_length (us := units (osOf yz)); have h3 := NY.out.t; have h4 := NY.out.m; have := LM.out; omega)
  go_wp2_with (go_at_call 24; refine Hid.out ?_)
  refine Lib.hid ?_
  refine (composeOk_any s l0 _ _ _ _ _ _ xy l4 _ O_xy.out O4.out HS.out H64.out HT.out (mayO_of Yx.out.1) I3.out.may (by have := ZX.out; omega) (by have := szN_le l4; have := SZ.out; omega) (FP.out.tb) (FP.out.mb)).mono ?_
  rintro e wn ⟨A10, c10, pp, rfl, h_1, o_1, y⟩
  have HT := Lib.hid (Utf8Tabs_below HT.out y)
  have HS := Lib.hid (HS.out.ext y)
  have D1 := Lib.hid (D1.out.ext y)
  have O2 := Lib.hid (O2.out.ext y)
  have O3 := Lib.hid (O3.out.ext y)
  have O4 := Lib.hid (O4.out.ext y)
  have D_M1 := Lib.hid (D_M1.out.ext y)
  have D_M2 := Lib.hid (D_M2.out.ext y)
  have D_M3 := Lib.hid (D_M3.out.ext y)
  have O_xy := Lib.hid (O_xy.out.ext y)
  have O_yz := Lib.hid (O_yz.out.ext y)
  replace hx := ext_trans hx y
  have E_pp := Lib.hid h_1
  have O_pp := Lib.hid o_1
  clear h_1 o_1
  clear y
  go_wp2_with (go_at_call 24; refine Hid.out ?_)
  refine Lib.hid ?_
  refine (composeOk_any s l0 _ _ _ _ _ _ l2 yz _ O2.out O_yz.out HS.out H64.out HT.out I1.out.may (mayO_of Yy.out.1) (by have := szN_le l2; have := SZ.out; omega) (by have := ZY.out; omega) (FQ.out.tb) (FQ.out.mb)).mono ?_
  rintro e wn ⟨A11, c11, qq, rfl, h_1, o_1, y⟩
  have HT := Lib.hid (Utf8Tabs_below HT.out y)
  have HS := Lib.hid (HS.out.ext y)
  have D1 := Lib.hid (D1.out.ext y)
  have O2 := Lib.hid (O2.out.ext y)
  have O3 := Lib.hid (O3.out.ext y)
  have O4 := Lib.hid (O4.out.ext y)
  have D_M1 := Lib.hid (D_M1.out.ext y)
  have D_M2 := Lib.hid (D_M2.out.ext y)
  have D_M3 := Lib.hid (D_M3.out.ext y)
  have O_xy := Lib.hid (O_xy.out.ext y)
  have O_yz := Lib.hid (O_yz.out.ext y)
  have O_pp := Lib.hid (O_pp.out.ext y)
  replace hx := ext_trans hx y
  have E_qq := Lib.hid h_1
  have O_qq := Lib.hid o_1
  clear h_1 o_1
  clear y
  have Y_M4 := Lib.hid (made_in (N := 10000) (most := 10000) E_pp.out (by have := O_pp.out.at_.len; have := O_pp.out.at_.b; omega) I1.out.doc FP.out (by omega) (by omega))
  go_wp2_with (go_at_call 21; refine Hid.out ?_)
  refine Lib.hid ?_
  refine (applyDocI (N := 10000) (us := compU l0 (units (osOf xy)) (units (osOf l4))) D1.out O_pp.out.at_ HS.out HT.out H64.out (by omega) Y_M4.out.1 Y_M4.out.2.1 Y_M4.out.2.2).mono ?_
  rintro e wn ⟨A12, c12, M4, rfl, h_1, m_1, b_1, d_1, y⟩
  have HT := Lib.hid (Utf8Tabs_below HT.out y)
  have HS := Lib.hid (HS.out.ext y)
  have D1 := Lib.hid (D1.out.ext y)
  have O2 := Lib.hid (O2.out.ext y)
  have O3 := Lib.hid (O3.out.ext y)
  have O4 := Lib.hid (O4.out.ext y)
  have D_M1 := Lib.hid (D_M1.out.ext y)
  have D_M2 := Lib.hid (D_M2.out.ext y)
  have D_M3 := Lib.hid (D_M3.out.ext y)
  have O_xy := Lib.hid (O_xy.out.ext y)
  have O_yz := Lib.hid (O_yz.out.ext y)
  have O_pp := Lib.hid (O_pp.out.ext y)
  have O_qq := Lib.hid (O_qq.out.ext y)
  replace hx := ext_trans hx y
  have D_M4 := Lib.hid d_1
  have E_M4 := Lib.hid h_1
  have M_M4 := Lib.hid m_1
  clear d_1 h_1 m_1 b_1
  clear y
  have Y_M5 := Lib.hid (made_in (N := 10000) (most := 10000) E_qq.out (by have := O_qq.out.at_.len; have := O_qq.out.at_.b; omega) I1.out.doc FQ.out (by omega) (by omega))
  go_wp2_with (go_at_call 21; refine Hid.out ?_)
  refine Lib.hid ?_
  refine (applyDocI (N := 10000) (us := compU l0 (units (osOf l2)) (units (osOf yz))) D1.out O_qq.out.at_ HS.out HT.out H64.out (by omega) Y_M5.out.1 Y_M5.out.2.1 Y_M5.out.2.2).mono ?_
  rintro e wn ⟨A13, c13, M5, rfl, h_1, m_1, b_1, d_1, y⟩
  have HT := Lib.hid (Utf8Tabs_below HT.out y)
  have HS := Lib.hid (HS.out.ext y)
  have D1 := Lib.hid (D1.out.ext y)
  have O2 := Lib.hid (O2.out.ext y)
  have O3 := Lib.hid (O3.out.ext y)
  have O4 := Lib.hid (O4.out.ext y)
  have D_M1 := Lib.hid (D_M1.out.ext y)
  have D_M2 := Lib.hid (D_M2.out.ext y)
  have D_M3 := Lib.hid (D_M3.out.ext y)
  have O_xy := Lib.hid (O_xy.out.ext y)
  have O_yz := Lib.hid (O_yz.out.ext y)
  have O_pp := Lib.hid (O_pp.out.ext y)
  have O_qq := Lib.hid (O_qq.out.ext y)
  have D_M4 := Lib.hid (D_M4.out.ext y)
  replace hx := ext_trans hx y
  have D_M5 := Lib.hid d_1
  have E_M5 := Lib.hid h_1
  have M_M5 := Lib.hid m_1
  clear d_1 h_1 m_1 b_1
  clear y
  have EP : Hid (clsOf M4 = clsOf M3) := Lib.hid (E_M4.out.trans AP.out)
  have EQ : Hid (clsOf M5 = clsOf M3) := Lib.hid (E_M5.out.trans AQ.out)
  go_wp2_with (go_at_call 22; refine Hid.out ?_)
  refine Lib.hid ?_
  refine (sameD D_M4.out D_M3.out (decide_eq_true EP.out)).mono ?_
  rintro e wn ⟨rfl, y⟩
  have HT := Lib.hid (Utf8Tabs_below HT.out y)
  have HS := Lib.hid (HS.out.ext y)
  have D1 := Lib.hid (D1.out.ext y)
  have O2 := Lib.hid (O2.out.ext y)
  have O3 := Lib.hid (O3.out.ext y)
  have O4 := Lib.hid (O4.out.ext y)
  have D_M1 := Lib.hid (D_M1.out.ext y)
  have D_M2 := Lib.hid (D_M2.out.ext y)
  have D_M3 := Lib.hid (D_M3.out.ext y)
  have O_xy := Lib.hid (O_xy.out.ext y)
  have O_yz := Lib.hid (O_yz.out.ext y)
  have O_pp := Lib.hid (O_pp.out.ext y)
  have O_qq := Lib.hid (O_qq.out.ext y)
  have D_M4 := Lib.hid (D_M4.out.ext y)
  have D_M5 := Lib.hid (D_M5.out.ext y)
  replace hx := ext_trans hx y
  clear y
  go_wp2_with (go_at_call 22; refine Hid.out ?_)
  refine Lib.hid ?_
  refine (sameD D_M5.out D_M3.out (decide_eq_true EQ.out)).mono ?_
  rintro e wn ⟨rfl, y⟩
  have HT := Lib.hid (Utf8Tabs_below HT.out y)
  have HS := Lib.hid (HS.out.ext y)
  have D1 := Lib.hid (D1.out.ext y)
  have O2 := Lib.hid (O2.out.ext y)
  have O3 := Lib.hid (O3.out.ext y)
  have O4 := Lib.hid (O4.out.ext y)
  have D_M1 := Lib.hid (D_M1.out.ext y)
  have D_M2 := Lib.hid (D_M2.out.ext y)
  have D_M3 := Lib.hid (D_M3.out.ext y)
  have O_xy := Lib.hid (O_xy.out.ext y)
  have O_yz := Lib.hid (O_yz.out.ext y)
  have O_pp := Lib.hid (O_pp.out.ext y)
  have O_qq := Lib.hid (O_qq.out.ext y)
  have D_M4 := Lib.hid (D_M4.out.ext y)
  have D_M5 := Lib.hid (D_M5.out.ext y)
  replace hx := ext_trans hx y
  clear y
  go_wp2_with (go_at_call 27; refine Hid.out ?_)
  refine Lib.hid ?_
  refine (known20_any _ HT.out).mono ?_
  rintro e w2 ⟨rfl, y⟩
  replace hx := ext_trans hx y
  go_wp2_with (fail)
  go_ret
  exact ⟨rfl, hx⟩
end Go.Proofs.YtnppoifgfehpfaaGreatDoor
