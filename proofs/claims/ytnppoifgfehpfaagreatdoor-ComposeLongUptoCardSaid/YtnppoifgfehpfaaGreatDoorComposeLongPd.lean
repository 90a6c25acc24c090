/- The walk of rubriclaw20.ComposeLong. Printed by wip/gen_r5.py. -/
import Derived.Test.YtnppoifgfehpfaaGreatDoorPk29
import Derived.Test.YtnppoifgfehpfaaGreatDoorPk32
import Derived.Test.YtnppoifgfehpfaaGreatDoorKnown20Pd
import Derived.Test.YtnppoifgfehpfaaGreatDoorGreat20Pd
import Derived.Test.YtnppoifgfehpfaaGreatDoorPk34
import Derived.Test.YtnppoifgfehpfaaGreatDoorPk35
import Derived.Test.YtnppoifgfehpfaaGreatDoorPk31
import Derived.Test.YtnppoifgfehpfaaGreatDoorTakes15Pd
import Derived.Test.YtnppoifgfehpfaaGreatDoorMakes15Pd
namespace Go.Proofs.YtnppoifgfehpfaaGreatDoor
open Go.RowKit
set_option linter.unusedVariables false
set_option linter.unusedSimpArgs false

set_option maxRecDepth 100000 in
set_option maxHeartbeats 12800000 in
theorem composeLong_any (A0 A1 A2 A3 : Option Addr) (n0 n1 n2 n3 c0 c1 c2 c3 : Nat) (l0 : List Ky) (d : List ClS) (l2 l3 : List OpS) (w : World)
    (e0 : n0 = l0.length) (r0 : RdKy w w.heap.size A0 l0) (b0 : n0 ≤ 1048576) (e1 : n1 = d.length) (r1 : RdCl w w.heap.size A1 d) (b1 : n1 ≤ 1048576) (k1 : n1 ≤ c1) (q1 : ∀ x ∈ d, x.c.s.length ≤ 100000000 ∧ okVr x.c.s) (g1 : ∀ x ∈ d, x.c.s.length ≤ x.cs ∧ x.cs ≤ maxLen)
    (e2 : n2 = l2.length) (r2 : RdOp w w.heap.size A2 l2) (b2 : n2 ≤ 1048576) (k2 : n2 ≤ c2) (m2 : c2 ≤ maxLen) (q2 : ∀ o ∈ l2, okOp o.o) (z2 : szX l2 ≤ 2305850000000000000) (f2 : ∀ o ∈ l2, capO o)
    (e3 : n3 = l3.length) (r3 : RdOp w w.heap.size A3 l3) (b3 : n3 ≤ 1048576) (k3 : n3 ≤ c3) (m3 : c3 ≤ maxLen) (q3 : ∀ o ∈ l3, okOp o.o) (z3 : szX l3 ≤ 2305850000000000000) (f3 : ∀ o ∈ l3, capO o)
    (hT : Lib.Utf8Tabs 1 2 w) :
    Calls Tryz.prog 6 #[.slice A0 n0 c0, .slice A1 n1 c1, .slice A2 n2 c2, .slice A3 n3 c3] w fun e w' => e = .returned (.bool true) ∧ Below w.heap.size w w' := by
  have N0 := Lib.hid e0
  have R0 := Lib.hid r0
  have HT := Lib.hid hT
  have hx := Below.refl w.heap.size w
  have N1 := Lib.hid e1
  have R1 := Lib.hid r1
  have Q1 := Lib.hid q1
  have C1 := Lib.hid g1
  have N2 := Lib.hid e2
  have R2 := Lib.hid r2
  have Q2 := Lib.hid q2
  have Z2 := Lib.hid z2
  have F2 := Lib.hid f2
  have N3 := Lib.hid e3
  have R3 := Lib.hid r3
  have Q3 := Lib.hid q3
  have Z3 := Lib.hid z3
  have F3 := Lib.hid f3
  clear e0 r0 hT e1 r1 q1 g1 e2 r2 q2 z2 f2 e3 r3 q3 z3 f3
  go_enter Tryz.func6, Tryz.ntmps6
  have ra : Rd SX.enc 1 _ _ _ [⟨A2, c2, l2⟩, ⟨A3, c3, l3⟩] := Rd.new (enc := SX.enc) (size := 1) (fun _ => rfl) w 24 [⟨A2, c2, l2⟩, ⟨A3, c3, l3⟩] (cs := #[.slice A2 n2 c2, .slice A3 n3 c3]) (by simp [SX.enc, ← N2.out, ← N3.out]) rfl
  have y := ext_alloc w (.cells #[.slice A2 n2 c2, .slice A3 n3 c3] 24)
  have R0 := Lib.hid (R0.out.ext y)
  have HT := Lib.hid (Utf8Tabs_below HT.out y)
  have R1 := Lib.hid (R1.out.ext y)
  have R2 := Lib.hid (R2.out.ext y)
  have R3 := Lib.hid (R3.out.ext y)
  replace hx := ext_trans hx y
  clear y
  go_wp2_with (go_at_call 25; refine Hid.out ?_)
  refine Lib.hid ?_
  refine (great20_any A0 (some ⟨w.heap.size, 0, none⟩) n0 c0 2 2 [⟨A2, c2, l2⟩, ⟨A3, c3, l3⟩] _ rfl ra (by omega) (by omega) (fun x hx => by
    simp only [List.mem_cons, List.not_mem_nil, or_false] at hx
    rcases hx with rfl | rfl
    · exact ⟨R2.out, by have := N2.out; simp only; omega⟩
    · exact ⟨R3.out, by have := N3.out; simp only; omega⟩) (by simp only [sumX, List.map_cons, List.map_nil, List.sum_cons, List.sum_nil]; have := Z2.out; have := Z3.out; omega) (fun x hx => by
    simp only [List.mem_cons, List.not_mem_nil, or_false] at hx
    rcases hx with rfl | rfl
    · have := Z2.out; simp only; omega
    · have := Z3.out; simp only; omega)).mono ?_
  rintro e wn ⟨gb, rfl, h1, dr, hd⟩
  have y := drew_ext hd
  clear hd ra
  have R0 := Lib.hid (R0.out.ext y)
  have HT := Lib.hid (Utf8Tabs_below HT.out y)
  have R1 := Lib.hid (R1.out.ext y)
  have R2 := Lib.hid (R2.out.ext y)
  have R3 := Lib.hid (R3.out.ext y)
  replace hx := ext_trans hx y
  clear y
  cases gb
  case true =>
    clear h1
    go_wp2_with (go_at_call 27; refine Hid.out ?_)
    refine Lib.hid ?_
    refine (known20_any _ HT.out).mono ?_
    rintro e w2 ⟨rfl, y⟩
    replace hx := ext_trans hx y
    go_wp2_with (fail)
    go_ret
    exact ⟨rfl, hx⟩
  have h2 := h1 rfl
  have G0 := Lib.hid h2.1
  have SZ : Hid (szX l2 + szX l3 ≤ 5000) := Lib.hid (by have h3 := h2.2; simp only [sumX, List.map_cons, List.map_nil, List.sum_cons, List.sum_nil] at h3; omega)
  clear h1 h2
  go_wp2_with (go_at_call 26; refine Hid.out ?_)
  refine Lib.hid ?_
  refine (great18_any A1 n1 c1 d 400 _ N1.out R1.out (by omega) (fun z hz => by have := (Q1.out z hz).1; omega)).mono ?_
  rintro e wn ⟨g, rfl, hgr, dr, hd⟩
  have y := drew_ext hd
  clear hd
  have R0 := Lib.hid (R0.out.ext y)
  have HT := Lib.hid (Utf8Tabs_below HT.out y)
  have R1 := Lib.hid (R1.out.ext y)
  have R2 := Lib.hid (R2.out.ext y)
  have R3 := Lib.hid (R3.out.ext y)
  replace hx := ext_trans hx y
  clear y
  cases g
  case true =>
    clear hgr
    go_wp2_with (go_at_call 27; refine Hid.out ?_)
    refine Lib.hid ?_
    refine (known20_any _ HT.out).mono ?_
    rintro e w2 ⟨rfl, y⟩
    replace hx := ext_trans hx y
    go_wp2_with (fail)
    go_ret
    exact ⟨rfl, hx⟩
  have G1 : Hid (n1 ≤ 400 ∧ ∀ c ∈ d, c.c.s.length ≤ 64) := Lib.hid ⟨by have := (hgr rfl).1; omega, (hgr rfl).2⟩
  clear hgr
  go_wp2_with (go_at_call 17; refine Hid.out ?_)
  refine Lib.hid ?_
  refine (new_any A0 n0 c0 l0 _ N0.out R0.out (by omega)).mono ?_
  rintro e wn ⟨y, ⟨hm, s, rfl, hS⟩ | ⟨hm, rfl⟩⟩
  all_goals
    have R0 := Lib.hid (R0.out.ext y)
    have HT := Lib.hid (Utf8Tabs_below HT.out y)
    have R1 := Lib.hid (R1.out.ext y)
    have R2 := Lib.hid (R2.out.ext y)
    have R3 := Lib.hid (R3.out.ext y)
    replace hx := ext_trans hx y
    clear y hm
  rotate_left
  · skip
    go_wp2_with (go_at_call 27; refine Hid.out ?_)
    refine Lib.hid ?_
    refine (known20_any _ HT.out).mono ?_
    rintro e w2 ⟨rfl, y⟩
    replace hx := ext_trans hx y
    go_wp2_with (fail)
    go_ret
    exact ⟨rfl, hx⟩
  have HS := Lib.hid hS
  clear hS
  have H64 : Hid (l0.length ≤ 64) := Lib.hid (by have := N0.out; have := G0.out; omega)
  have D1 : Hid (DocAt _ A1 n1 c1 d) := Lib.hid ⟨R1.out, N1.out, k1, C1.out, fun z hz => ⟨by have := G1.out.2 z hz; omega, (Q1.out z hz).2⟩, by have := G1.out; omega⟩
  have LD : Hid ((clsOf d).length = n1) := Lib.hid D1.out.clen
  have B1 := Lib.hid G1.out.1
  have LX2 : Hid (l2.length ≤ 5000) := Lib.hid (by have := szX_len l2; have := SZ.out; omega)
  have O2 : Hid (OpsC _ A2 n2 c2 l2) := Lib.hid ⟨⟨R2.out, N2.out, Q2.out, by have := LX2.out; have := N2.out; omega⟩, k2, m2, F2.out⟩
  have LX3 : Hid (l3.length ≤ 5000) := Lib.hid (by have := szX_len l3; have := SZ.out; omega)
  have O3 : Hid (OpsC _ A3 n3 c3 l3) := Lib.hid ⟨⟨R3.out, N3.out, Q3.out, by have := LX3.out; have := N3.out; omega⟩, k3, m3, F3.out⟩
  obtain ⟨r, hr⟩ : ∃ X, applyN l0 l2 (clsOf d) 10000 = X := ⟨_, rfl⟩
  by_cases h0 : r = 0
  rotate_left
  · skip
    have h0' : (r == 0) = false := beq_eq_false_iff_ne.2 h0
    have h0'' : (r != 0) = true := by rw [bne, h0']; rfl
    have HR := Lib.hid hr
    clear hr
    go_wp2_with (go_at_call 21; refine Hid.out ?_)
    refine Lib.hid ?_
    refine (applyBad D1.out O2.out.at_ HS.out HT.out HR.out h0).mono ?_
    rintro e wn ⟨rfl, y⟩
    have HT := Lib.hid (Utf8Tabs_below HT.out y)
    have HS := Lib.hid (HS.out.ext y)
    have D1 := Lib.hid (D1.out.ext y)
    have O2 := Lib.hid (O2.out.ext y)
    have O3 := Lib.hid (O3.out.ext y)
    replace hx := ext_trans hx y
    clear y
    have ND : Hid (DocAt wn none 0 0 []) := Lib.hid ⟨⟨Rd.nil, fun z hz => by cases hz⟩, rfl, Nat.le_refl _, (fun z hz => by cases hz), (fun z hz => by cases hz), by omega⟩
    have NB := nil_bad l0 l3 10000
    go_wp2_with (go_at_call 21; refine Hid.out ?_)
    refine Lib.hid ?_
    refine (applyBad ND.out O3.out.at_ HS.out HT.out rfl NB).mono ?_
    rintro e wn ⟨rfl, y⟩
    have HT := Lib.hid (Utf8Tabs_below HT.out y)
    have HS := Lib.hid (HS.out.ext y)
    have D1 := Lib.hid (D1.out.ext y)
    have O2 := Lib.hid (O2.out.ext y)
    have O3 := Lib.hid (O3.out.ext y)
    replace hx := ext_trans hx y
    clear y
    clear ND
    go_wp2_with (go_at_call 27; refine Hid.out ?_)
    refine Lib.hid ?_
    refine (known20_any _ HT.out).mono ?_
    rintro e w2 ⟨rfl, y⟩
    replace hx := ext_trans hx y
    go_wp2_with (fail)
    go_ret
    exact ⟨rfl, hx⟩
  subst h0
  have W1 := Lib.hid hr
  obtain ⟨N1, hin⟩ := apply_in (by have := O2.out.at_.len; have := O2.out.at_.b; omega) (by rw [LD.out]; have := B1.out; have := SZ.out; omega) hr
  have I1 := Lib.hid hin
  clear hr hin
  go_wp2_with (go_at_call 21; refine Hid.out ?_)
  refine Lib.hid ?_
  refine (applyDocI (N := N1) (us := units (osOf l2)) D1.out O2.out.at_ HS.out HT.out H64.out I1.out.n W1.out I1.out.at_ rfl).mono ?_
  rintro e wn ⟨A5, c5, M1, rfl, h_1, m_1, b_1, d_1, y⟩
  have HT := Lib.hid (Utf8Tabs_below HT.out y)
  have HS := Lib.hid (HS.out.ext y)
  have D1 := Lib.hid (D1.out.ext y)
  have O2 := Lib.hid (O2.out.ext y)
  have O3 := Lib.hid (O3.out.ext y)
  replace hx := ext_trans hx y
  have D_M1 := Lib.hid d_1
  have E_M1 := Lib.hid h_1
  have M_M1 := Lib.hid m_1
  clear d_1 h_1 m_1 b_1
  clear y
  have L_M1 : Hid ((clsOf M1).length ≤ (clsOf d).length + szX l2) := Lib.hid (by rw [E_M1.out]; exact I1.out.len)
  obtain ⟨r, hr⟩ : ∃ X, applyN l0 l3 (clsOf M1) 10000 = X := ⟨_, rfl⟩
  by_cases h0 : r = 0
  rotate_left
  · skip
    have h0' : (r == 0) = false := beq_eq_false_iff_ne.2 h0
    have h0'' : (r != 0) = true := by rw [bne, h0']; rfl
    have HR := Lib.hid hr
    clear hr
    go_wp2_with (go_at_call 21; refine Hid.out ?_)
    refine Lib.hid ?_
    refine (applyBad D_M1.out O3.out.at_ HS.out HT.out HR.out h0).mono ?_
    rintro e wn ⟨rfl, y⟩
    have HT := Lib.hid (Utf8Tabs_below HT.out y)
    have HS := Lib.hid (HS.out.ext y)
    have D1 := Lib.hid (D1.out.ext y)
    have O2 := Lib.hid (O2.out.ext y)
    have O3 := Lib.hid (O3.out.ext y)
    have D_M1 := Lib.hid (D_M1.out.ext y)
    replace hx := ext_trans hx y
    clear y
    go_wp2_with (go_at_call 27; refine Hid.out ?_)
    refine Lib.hid ?_
    refine (known20_any _ HT.out).mono ?_
    rintro e w2 ⟨rfl, y⟩
    replace hx := ext_trans hx y
    go_wp2_with (fail)
    go_ret
    exact ⟨rfl, hx⟩
  subst h0
  have W2 := Lib.hid hr
  obtain ⟨N2, hin⟩ := apply_in (by have := O3.out.at_.len; have := O3.out.at_.b; omega) (by have := L_M1.out; rw [LD.out] at this; have := B1.out; have := SZ.out; omega) hr
  have I2 := Lib.hid hin
  clear hr hin
  go_wp2_with (go_at_call 21; refine Hid.out ?_)
  refine Lib.hid ?_
  refine (applyDocI (N := N2) (us := units (osOf l3)) D_M1.out O3.out.at_ HS.out HT.out H64.out I2.out.n W2.out I2.out.at_ rfl).mono ?_
  rintro e wn ⟨A6, c6, M2, rfl, h_1, m_1, b_1, d_1, y⟩
  have HT := Lib.hid (Utf8Tabs_below HT.out y)
  have HS := Lib.hid (HS.out.ext y)
  have D1 := Lib.hid (D1.out.ext y)
  have O2 := Lib.hid (O2.out.ext y)
  have O3 := Lib.hid (O3.out.ext y)
  have D_M1 := Lib.hid (D_M1.out.ext y)
  replace hx := ext_trans hx y
  have D_M2 := Lib.hid d_1
  have E_M2 := Lib.hid h_1
  have M_M2 := Lib.hid m_1
  clear d_1 h_1 m_1 b_1
  clear y
  have L_M2 : Hid ((clsOf M2).length ≤ (clsOf M1).length + szX l3) := Lib.hid (by rw [E_M2.out]; exact I2.out.len)
  have CC := Lib.hid (In.comp I1.out E_M1.out I2.out H64.out)
  obtain ⟨N5, hN5⟩ : ∃ X, max N1 N2 = X := ⟨_, rfl⟩
  have HN5 : Hid (N5 ≤ 10000 ∧ (N5 : Int) ≤ 10000) := Lib.hid (by have := I1.out.n; have := I2.out.n; have := I1.out.le; have := I2.out.le; omega)
  rw [hN5] at CC
  clear hN5
  have UL : Hid ((compU l0 (units (osOf l2)) (units (osOf l3))).length ≤ 60000) := Lib.hid (by have h1 := comp_len l0 (units (osOf l3)) (units (osOf l2)); have h2 := I1.out.ul; have h3 := I2.out.ul; have h4 := L_M1.out; rw [LD.out] at h2 h4; have := B1.out; have := SZ.out; omega)
  go_wp2_with (go_at_call 24; refine Hid.out ?_)
  refine Lib.hid ?_
  refine (composeOk_any s l0 _ _ _ _ _ _ l2 l3 _ O2.out O3.out HS.out H64.out HT.out I1.out.may I2.out.may (by have := szN_le l2; have := SZ.out; omega) (by have := szN_le l3; have := SZ.out; omega) (CC.out.1.tb) (CC.out.1.mb)).mono ?_
  rintro e wn ⟨A7, c7, z, rfl, h_1, o_1, y⟩
  have HT := Lib.hid (Utf8Tabs_below HT.out y)
  have HS := Lib.hid (HS.out.ext y)
  have D1 := Lib.hid (D1.out.ext y)
  have O2 := Lib.hid (O2.out.ext y)
  have O3 := Lib.hid (O3.out.ext y)
  have D_M1 := Lib.hid (D_M1.out.ext y)
  have D_M2 := Lib.hid (D_M2.out.ext y)
  replace hx := ext_trans hx y
  have E_z := Lib.hid h_1
  have O_z := Lib.hid o_1
  clear h_1 o_1
  clear y
  obtain ⟨gx, _, _⟩ := mayO_zero I1.out.may
  obtain ⟨gy, _, _⟩ := mayO_zero I2.out.may
  have SZ_z := Lib.hid (made_sums E_z.out (fun u hu => vU_mU (CC.out.1.v u hu)) CC.out.1.tb CC.out.1.mb (by have := O_z.out.at_.len; have := O_z.out.at_.b; omega))
  have SX1 : Hid (takesP l2 = takesU (units (osOf l2)) ∧ makesP l2 = makesU (units (osOf l2))) := Lib.hid (by
    obtain ⟨s1, s2⟩ := sums_units l2 (good_isOp gx)
    rw [takes_sum gx (by have := LX2.out; omega), makes_sum gx (by have := LX2.out; omega), s1, s2]; exact ⟨rfl, rfl⟩)
  have SX2 : Hid (takesP l3 = takesU (units (osOf l3)) ∧ makesP l3 = makesU (units (osOf l3))) := Lib.hid (by
    obtain ⟨s1, s2⟩ := sums_units l3 (good_isOp gy)
    rw [takes_sum gy (by have := LX3.out; omega), makes_sum gy (by have := LX3.out; omega), s1, s2]; exact ⟨rfl, rfl⟩)
  clear gx gy
  obtain ⟨mz, hmz⟩ : ∃ X, makesP z = X := ⟨_, rfl⟩
  have Hmz := Lib.hid hmz
  clear hmz
  obtain ⟨tz, htz⟩ : ∃ X, takesP z = X := ⟨_, rfl⟩
  have Htz := Lib.hid htz
  clear htz
  obtain ⟨mx, hmx⟩ : ∃ X, makesP l2 = X := ⟨_, rfl⟩
  have Hmx := Lib.hid hmx
  clear hmx
  obtain ⟨tx, htx⟩ : ∃ X, takesP l2 = X := ⟨_, rfl⟩
  have Htx := Lib.hid htx
  clear htx
  obtain ⟨my, hmy⟩ : ∃ X, makesP l3 = X := ⟨_, rfl⟩
  have Hmy := Lib.hid hmy
  clear hmy
  obtain ⟨ty, hty⟩ : ∃ X, takesP l3 = X := ⟨_, rfl⟩
  have Hty := Lib.hid hty
  clear hty
  have LF : Hid (mz - tz = mx - tx + my - ty ∧ (n1 : Int) + (mz - tz) = (M2.length : Int) ∧ tz ≤ (n1 : Int) ∧ 0 ≤ mz ∧ mz ≤ 536870912 ∧ 0 ≤ tz ∧ tz ≤ 536870912 ∧ 0 ≤ mx ∧ mx ≤ 536870912 ∧ 0 ≤ tx ∧ tx ≤ 536870912 ∧ 0 ≤ my ∧ my ≤ 536870912 ∧ 0 ≤ ty ∧ ty ≤ 536870912) := Lib.hid (by
    have s1 := SZ_z.out
    have s2 := SX1.out
    have s3 := SX2.out
    obtain ⟨_, b1, b2⟩ := mayO_zero I1.out.may
    obtain ⟨_, b3, b4⟩ := mayO_zero I2.out.may
    rw [Hmz.out, Htz.out] at s1
    rw [Hmx.out, Htx.out] at s2
    rw [Hmy.out, Hty.out] at s3
    rw [Hmx.out] at b2
    rw [Htx.out] at b1
    rw [Hmy.out] at b4
    rw [Hty.out] at b3
    have c := comp_size l0 (units (osOf l3)) (units (osOf l2))
    have q := nf_lose (compU l0 (units (osOf l2)) (units (osOf l3)))
    have t := nf_takes (compU l0 (units (osOf l2)) (units (osOf l3)))
    have a1 := app_len l0 (units (osOf l2)) (clsOf d) I1.out.fit.t
    have a2 := app_len l0 (units (osOf l3)) (clsOf M1) I2.out.fit.t
    rw [← E_M1.out, clsOf_len, LD.out] at a1
    rw [← E_M2.out, clsOf_len, clsOf_len] at a2
    have f := CC.out.1.t
    rw [LD.out] at f
    omega)
  obtain ⟨gz, hgz⟩ : ∃ X, mz - tz = X := ⟨_, rfl⟩
  obtain ⟨gx, hgx⟩ : ∃ X, mx - tx = X := ⟨_, rfl⟩
  obtain ⟨gy, hgy⟩ : ∃ X, gx + my = X := ⟨_, rfl⟩
  have LG : Hid (gy - ty = gz ∧ (n1 : Int) + gz = (M2.length : Int)) := Lib.hid (by have := LF.out; omega)
  have lt : tz ≤ (n1 : Int) := LF.out.2.2.1
  skip
  have B_z : Hid (z.length ≤ 1048576) := Lib.hid (by have := O_z.out.at_.len; have := O_z.out.at_.b; omega)
  have B_x : Hid (n2 ≤ 140737488355328) := Lib.hid (by omega)
  have B_y : Hid (n3 ≤ 140737488355328) := Lib.hid (by omega)
  have w1 : IntKind.i64.wrap (mz - tz) = gz := by rw [hgz]; exact IntWalk.i64_in _ (by have := LF.out; omega)
  have w2 : IntKind.i64.wrap (mx - tx) = gx := by rw [hgx]; exact IntWalk.i64_in _ (by have := LF.out; clear w1; omega)
  have w3 : IntKind.i64.wrap (gx + my) = gy := by rw [hgy]; exact IntWalk.i64_in _ (by have := LF.out; clear w1 w2; omega)
  have w4 : IntKind.i64.wrap (gy - ty) = gz := by rw [LG.out.1]; exact IntWalk.i64_in _ (by have := LF.out; clear w1 w2 w3; omega)
  have w5 : IntKind.i64.wrap ((n1 : Int) + gz) = (M2.length : Int) := by rw [LG.out.2]; exact IntWalk.i64_in _ (by have := LF.out; clear w1 w2 w3 w4; omega)
  clear hgz hgx hgy
  go_wp2_with (go_at_call 28; refine Hid.out ?_)
  refine Lib.hid ?_
  refine (makes15_any _ _ _ z _ O_z.out.at_.len O_z.out.at_.rd.1 (Nat.le_trans (Nat.le_of_eq O_z.out.at_.len) (Nat.le_trans B_z.out (by decide)))).mono ?_
  rw [Hmz.out]
  rintro e wn ⟨rfl, y⟩
  have HT := Lib.hid (Utf8Tabs_below HT.out y)
  have HS := Lib.hid (HS.out.ext y)
  have D1 := Lib.hid (D1.out.ext y)
  have O2 := Lib.hid (O2.out.ext y)
  have O3 := Lib.hid (O3.out.ext y)
  have D_M1 := Lib.hid (D_M1.out.ext y)
  have D_M2 := Lib.hid (D_M2.out.ext y)
  have O_z := Lib.hid (O_z.out.ext y)
  replace hx := ext_trans hx y
  clear y
  go_wp2_with (go_at_call 29; refine Hid.out ?_)
  refine Lib.hid ?_
  refine (takes15_any _ _ _ z _ O_z.out.at_.len O_z.out.at_.rd.1 (Nat.le_trans (Nat.le_of_eq O_z.out.at_.len) (Nat.le_trans B_z.out (by decide)))).mono ?_
  rw [Htz.out]
  rintro e wn ⟨rfl, dr, hd⟩
  have y := drew_ext hd
  clear hd
  have HT := Lib.hid (Utf8Tabs_below HT.out y)
  have HS := Lib.hid (HS.out.ext y)
  have D1 := Lib.hid (D1.out.ext y)
  have O2 := Lib.hid (O2.out.ext y)
  have O3 := Lib.hid (O3.out.ext y)
  have D_M1 := Lib.hid (D_M1.out.ext y)
  have D_M2 := Lib.hid (D_M2.out.ext y)
  have O_z := Lib.hid (O_z.out.ext y)
  replace hx := ext_trans hx y
  clear y
  go_wp2_with (go_at_call 28; refine Hid.out ?_)
  refine Lib.hid ?_
  refine (makes15_any _ _ _ l2 _ O2.out.at_.len O2.out.at_.rd.1 B_x.out).mono ?_
  rw [Hmx.out]
  rintro e wn ⟨rfl, y⟩
  have HT := Lib.hid (Utf8Tabs_below HT.out y)
  have HS := Lib.hid (HS.out.ext y)
  have D1 := Lib.hid (D1.out.ext y)
  have O2 := Lib.hid (O2.out.ext y)
  have O3 := Lib.hid (O3.out.ext y)
  have D_M1 := Lib.hid (D_M1.out.ext y)
  have D_M2 := Lib.hid (D_M2.out.ext y)
  have O_z := Lib.hid (O_z.out.ext y)
  replace hx := ext_trans hx y
  clear y
  go_wp2_with (go_at_call 29; refine Hid.out ?_)
  refine Lib.hid ?_
  refine (takes15_any _ _ _ l2 _ O2.out.at_.len O2.out.at_.rd.1 B_x.out).mono ?_
  rw [Htx.out]
  rintro e wn ⟨rfl, dr, hd⟩
  have y := drew_ext hd
  clear hd
  have HT := Lib.hid (Utf8Tabs_below HT.out y)
  have HS := Lib.hid (HS.out.ext y)
  have D1 := Lib.hid (D1.out.ext y)
  have O2 := Lib.hid (O2.out.ext y)
  have O3 := Lib.hid (O3.out.ext y)
  have D_M1 := Lib.hid (D_M1.out.ext y)
  have D_M2 := Lib.hid (D_M2.out.ext y)
  have O_z := Lib.hid (O_z.out.ext y)
  replace hx := ext_trans hx y
  clear y
  go_wp2_with (go_at_call 28; refine Hid.out ?_)
  refine Lib.hid ?_
  refine (makes15_any _ _ _ l3 _ O3.out.at_.len O3.out.at_.rd.1 B_y.out).mono ?_
  rw [Hmy.out]
  rintro e wn ⟨rfl, y⟩
  have HT := Lib.hid (Utf8Tabs_below HT.out y)
  have HS := Lib.hid (HS.out.ext y)
  have D1 := Lib.hid (D1.out.ext y)
  have O2 := Lib.hid (O2.out.ext y)
  have O3 := Lib.hid (O3.out.ext y)
  have D_M1 := Lib.hid (D_M1.out.ext y)
  have D_M2 := Lib.hid (D_M2.out.ext y)
  have O_z := Lib.hid (O_z.out.ext y)
  replace hx := ext_trans hx y
  clear y
  go_wp2_with (go_at_call 29; refine Hid.out ?_)
  refine Lib.hid ?_
  refine (takes15_any _ _ _ l3 _ O3.out.at_.len O3.out.at_.rd.1 B_y.out).mono ?_
  rw [Hty.out]
  rintro e wn ⟨rfl, dr, hd⟩
  have y := drew_ext hd
  clear hd
  have HT := Lib.hid (Utf8Tabs_below HT.out y)
  have HS := Lib.hid (HS.out.ext y)
  have D1 := Lib.hid (D1.out.ext y)
  have O2 := Lib.hid (O2.out.ext y)
  have O3 := Lib.hid (O3.out.ext y)
  have D_M1 := Lib.hid (D_M1.out.ext y)
  have D_M2 := Lib.hid (D_M2.out.ext y)
  have O_z := Lib.hid (O_z.out.ext y)
  replace hx := ext_trans hx y
  clear y
  go_wp2_with (go_at_call 29; refine Hid.out ?_)
  refine Lib.hid ?_
  refine (takes15_any _ _ _ z _ O_z.out.at_.len O_z.out.at_.rd.1 (Nat.le_trans (Nat.le_of_eq O_z.out.at_.len) (Nat.le_trans B_z.out (by decide)))).mono ?_
  rw [Htz.out]
  rintro e wn ⟨rfl, dr, hd⟩
  have y := drew_ext hd
  clear hd
  have HT := Lib.hid (Utf8Tabs_below HT.out y)
  have HS := Lib.hid (HS.out.ext y)
  have D1 := Lib.hid (D1.out.ext y)
  have O2 := Lib.hid (O2.out.ext y)
  have O3 := Lib.hid (O3.out.ext y)
  have D_M1 := Lib.hid (D_M1.out.ext y)
  have D_M2 := Lib.hid (D_M2.out.ext y)
  have O_z := Lib.hid (O_z.out.ext y)
  replace hx := ext_trans hx y
  clear y
  go_wp2_with (go_at_call 27; refine Hid.out ?_)
  refine Lib.hid ?_
  refine (known20_any _ HT.out).mono ?_
  rintro e w2 ⟨rfl, y⟩
  replace hx := ext_trans hx y
  go_wp2_with (fail)
  go_ret
  exact ⟨rfl, hx⟩
end Go.Proofs.YtnppoifgfehpfaaGreatDoor
