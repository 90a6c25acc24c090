/- Merged texts: TransformMeets. -/
import Derived.Test.YtbdkbfoplpociaaGreatDoorF1
import Derived.Test.YtbdkbfoplpociaaGreatDoorK30
import Derived.Test.YtbdkbfoplpociaaGreatDoorF8
import Derived.Test.YtbdkbfoplpociaaGreatDoorF9
import Derived.Test.YtbdkbfoplpociaaGreatDoorK33
import Derived.Test.YtbdkbfoplpociaaGreatDoorK31
import Derived.Test.YtbdkbfoplpociaaGreatDoorF6
import Derived.Test.YtbdkbfoplpociaaGreatDoorF5
import Derived.Test.YtbdkbfoplpociaaGreatDoorK35
import Derived.Test.YtbdkbfoplpociaaGreatDoorK20
import Derived.Test.YtbdkbfoplpociaaGreatDoorMeetLawF
import Derived.Test.YtbdkbfoplpociaaGreatDoorMergeWF
import Derived.Test.YtbdkbfoplpociaaGreatDoorK34
namespace Go.Proofs.YtbdkbfoplpociaaGreatDoor
open Go.RowKit
set_option linter.unusedVariables false
set_option linter.unusedSimpArgs false

set_option maxRecDepth 100000 in
set_option maxHeartbeats 12800000 in
theorem transformMeets_any (A0 A1 A2 A3 : Option Addr) (n0 n1 n2 n3 c0 c1 c2 c3 : Nat) (l0 : List Ky) (d : List ClS) (l2 l3 : List OpS) (most : Int) (w : World)
    (e0 : n0 = l0.length) (r0 : RdKy w w.heap.size A0 l0) (b0 : n0 ≤ 1048576) (e1 : n1 = d.length) (r1 : RdCl w w.heap.size A1 d) (b1 : n1 ≤ 1048576) (k1 : n1 ≤ c1) (q1 : ∀ x ∈ d, x.c.s.length ≤ 100000000 ∧ okVr x.c.s) (g1 : ∀ x ∈ d, x.c.s.length ≤ x.cs ∧ x.cs ≤ maxLen)
    (e2 : n2 = l2.length) (r2 : RdOp w w.heap.size A2 l2) (b2 : n2 ≤ 1048576) (k2 : n2 ≤ c2) (m2 : c2 ≤ maxLen) (q2 : ∀ o ∈ l2, okOp o.o) (z2 : szX l2 ≤ 2305850000000000000) (f2 : ∀ o ∈ l2, capO o)
    (e3 : n3 = l3.length) (r3 : RdOp w w.heap.size A3 l3) (b3 : n3 ≤ 1048576) (k3 : n3 ≤ c3) (m3 : c3 ≤ maxLen) (q3 : ∀ o ∈ l3, okOp o.o) (z3 : szX l3 ≤ 2305850000000000000) (f3 : ∀ o ∈ l3, capO o)
    (hT : Lib.Utf8Tabs 1 2 w) :
    Calls Tryz.prog 16 #[.slice A0 n0 c0, .slice A1 n1 c1, .slice A2 n2 c2, .slice A3 n3 c3, .int .i64 most] w fun e w' => e = .returned (.bool true) ∧ Below w.heap.size w w' := by
  have N0 := Lib.hid e0
  have R0 := Lib.hid r0
  have HT := Lib.hid hT
  have hx := Below.refl w.heap.size w
  have N1 := Lib.hid e1
  have R1 := Lib.hid r1
  have Q1 := Lib.hid q1
  have C1 := Lib.hid g1
  have N2 := Lib.hid e2
  have R2 := Lib.hid r2
  have Q2 := Lib.hid q2
  have Z2 := Lib.hid z2
  have F2 := Lib.hid f2
  have N3 := Lib.hid e3
  have R3 := Lib.hid r3
  have Q3 := Lib.hid q3
  have Z3 := Lib.hid z3
  have F3 := Lib.hid f3
  clear e0 r0 hT e1 r1 q1 g1 e2 r2 q2 z2 f2 e3 r3 q3 z3 f3
  go_enter Tryz.func16, Tryz.ntmps16
  have ra : Rd SX.enc 1 _ _ _ [⟨A2, c2, l2⟩, ⟨A3, c3, l3⟩] := Rd.new (enc := SX.enc) (size := 1) (fun _ => rfl) w 23 [⟨A2, c2, l2⟩, ⟨A3, c3, l3⟩] (cs := #[.slice A2 n2 c2, .slice A3 n3 c3]) (by simp [SX.enc, ← N2.out, ← N3.out]) rfl
  have y := ext_alloc w (.cells #[.slice A2 n2 c2, .slice A3 n3 c3] 23)
  have R0 := Lib.hid (R0.out.ext y)
  have HT := Lib.hid (Utf8Tabs_below HT.out y)
  have R1 := Lib.hid (R1.out.ext y)
  have R2 := Lib.hid (R2.out.ext y)
  have R3 := Lib.hid (R3.out.ext y)
  replace hx := ext_trans hx y
  clear y
  go_wp2_with (go_at_call 60; refine Hid.out ?_)
  refine Lib.hid ?_
  refine (great22_any A0 A1 (some ⟨w.heap.size, 0, none⟩) n0 c0 n1 c1 2 2 d [⟨A2, c2, l2⟩, ⟨A3, c3, l3⟩] _ rfl ra (by omega) (by omega) (fun x hx => by
    simp only [List.mem_cons, List.not_mem_nil, or_false] at hx
    rcases hx with rfl | rfl
    · exact ⟨R2.out, by have := N2.out; simp only; omega⟩
    · exact ⟨R3.out, by have := N3.out; simp only; omega⟩) (by simp only [sumX, List.map_cons, List.map_nil, List.sum_cons, List.sum_nil]; have := Z2.out; have := Z3.out; omega) (fun x hx => by
    simp only [List.mem_cons, List.not_mem_nil, or_false] at hx
    rcases hx with rfl | rfl
    · have := Z2.out; simp only; omega
    · have := Z3.out; simp only; omega) N1.out R1.out (by omega) (fun z hz => by have := (Q1.out z hz).1; omega)).mono ?_
  rintro e wn ⟨gb, rfl, h1, dr, hd⟩
  have y := drew_ext hd
  clear hd ra
  have R0 := Lib.hid (R0.out.ext y)
  have HT := Lib.hid (Utf8Tabs_below HT.out y)
  have R1 := Lib.hid (R1.out.ext y)
  have R2 := Lib.hid (R2.out.ext y)
  have R3 := Lib.hid (R3.out.ext y)
  replace hx := ext_trans hx y
  clear y
  cases gb
  case true =>
    clear h1
    go_wp2_with (go_at_call 61; refine Hid.out ?_)
    refine Lib.hid ?_
    refine (known22_any _ HT.out).mono ?_
    rintro e w2 ⟨rfl, y⟩
    replace hx := ext_trans hx y
    go_wp2_with (fail)
    go_ret
    exact ⟨rfl, hx⟩
  have h2 := h1 rfl
  have G0 := Lib.hid h2.1
  have G1 : Hid (n1 ≤ 400 ∧ ∀ c ∈ d, c.c.s.length ≤ 64) := Lib.hid ⟨h2.2.1, h2.2.2.1⟩
  have SZ : Hid (szX l2 + szX l3 ≤ 5000) := Lib.hid (by have h3 := h2.2.2.2; simp only [sumX, List.map_cons, List.map_nil, List.sum_cons, List.sum_nil] at h3; omega)
  clear h1 h2
  go_wp2_with (go_at_call 24; refine Hid.out ?_)
  refine Lib.hid ?_
  refine (new_any A0 n0 c0 l0 _ N0.out R0.out (by omega)).mono ?_
  rintro e wn ⟨y, ⟨hm, s, rfl, hS⟩ | ⟨hm, rfl⟩⟩
  all_goals
    have R0 := Lib.hid (R0.out.ext y)
    have HT := Lib.hid (Utf8Tabs_below HT.out y)
    have R1 := Lib.hid (R1.out.ext y)
    have R2 := Lib.hid (R2.out.ext y)
    have R3 := Lib.hid (R3.out.ext y)
    replace hx := ext_trans hx y
    clear y hm
  rotate_left
  · skip
    go_wp2_with (go_at_call 61; refine Hid.out ?_)
    refine Lib.hid ?_
    refine (known22_any _ HT.out).mono ?_
    rintro e w2 ⟨rfl, y⟩
    replace hx := ext_trans hx y
    go_wp2_with (fail)
    go_ret
    exact ⟨rfl, hx⟩
  have HS := Lib.hid hS
  clear hS
  have H64 : Hid (l0.length ≤ 64) := Lib.hid (by have := N0.out; have := G0.out; omega)
  have D1 : Hid (DocAt _ A1 n1 c1 d) := Lib.hid ⟨R1.out, N1.out, k1, C1.out, fun z hz => ⟨by have := G1.out.2 z hz; omega, (Q1.out z hz).2⟩, by have := G1.out; omega⟩
  have LD : Hid ((clsOf d).length = n1) := Lib.hid D1.out.clen
  have B1 := Lib.hid G1.out.1
  have LX2 : Hid (l2.length ≤ 5000) := Lib.hid (by have := szX_len l2; have := SZ.out; omega)
  have O2 : Hid (OpsC _ A2 n2 c2 l2) := Lib.hid ⟨⟨R2.out, N2.out, Q2.out, by have := LX2.out; have := N2.out; omega⟩, k2, m2, F2.out⟩
  have LX3 : Hid (l3.length ≤ 5000) := Lib.hid (by have := szX_len l3; have := SZ.out; omega)
  have O3 : Hid (OpsC _ A3 n3 c3 l3) := Lib.hid ⟨⟨R3.out, N3.out, Q3.out, by have := LX3.out; have := N3.out; omega⟩, k3, m3, F3.out⟩
  obtain ⟨r, hr⟩ : ∃ X, applyN l0 l2 (clsOf d) most = X := ⟨_, rfl⟩
  by_cases h0 : r = 0
  rotate_left
  · skip
    have h0' : (r == 0) = false := beq_eq_false_iff_ne.2 h0
    have h0'' : (r != 0) = true := by rw [bne, h0']; rfl
    have HR := Lib.hid hr
    clear hr
    go_wp2_with (go_at_call 38; refine Hid.out ?_)
    refine Lib.hid ?_
    refine (applyBad D1.out O2.out.at_ HS.out HT.out HR.out h0).mono ?_
    rintro e wn ⟨rfl, y⟩
    have HT := Lib.hid (Utf8Tabs_below HT.out y)
    have HS := Lib.hid (HS.out.ext y)
    have D1 := Lib.hid (D1.out.ext y)
    have O2 := Lib.hid (O2.out.ext y)
    have O3 := Lib.hid (O3.out.ext y)
    replace hx := ext_trans hx y
    clear y
    obtain ⟨r, hr⟩ : ∃ X, applyN l0 l3 (clsOf d) most = X := ⟨_, rfl⟩
    by_cases h0 : r = 0
    rotate_left
    · skip
      have h0' : (r == 0) = false := beq_eq_false_iff_ne.2 h0
      have h0'' : (r != 0) = true := by rw [bne, h0']; rfl
      have HR := Lib.hid hr
      clear hr
      go_wp2_with (go_at_call 38; refine Hid.out ?_)
      refine Lib.hid ?_
      refine (applyBad D1.out O3.out.at_ HS.out HT.out HR.out h0).mono ?_
      rintro e wn ⟨rfl, y⟩
      have HT := Lib.hid (Utf8Tabs_below HT.out y)
      have HS := Lib.hid (HS.out.ext y)
      have D1 := Lib.hid (D1.out.ext y)
      have O2 := Lib.hid (O2.out.ext y)
      have O3 := Lib.hid (O3.out.ext y)
      replace hx := ext_trans hx y
      clear y
      go_wp2_with (go_at_call 61; refine Hid.out ?_)
      refine Lib.hid ?_
      refine (known22_any _ HT.out).mono ?_
      rintro e w2 ⟨rfl, y⟩
      replace hx := ext_trans hx y
      go_wp2_with (fail)
      go_ret
      exact ⟨rfl, hx⟩
    subst h0
    have Wb := Lib.hid hr
    obtain ⟨Nb, hin⟩ := apply_in (by have := O3.out.at_.len; have := O3.out.at_.b; omega) (by rw [LD.out]; have := B1.out; have := SZ.out; omega) hr
    have Ib := Lib.hid hin
    clear hr hin
    go_wp2_with (go_at_call 38; refine Hid.out ?_)
    refine Lib.hid ?_
    refine (applyDocI (N := Nb) (us := units (osOf l3)) D1.out O3.out.at_ HS.out HT.out H64.out Ib.out.n Wb.out Ib.out.at_ rfl).mono ?_
    rintro e wn ⟨A6, c6, M2, rfl, h_1, m_1, b_1, d_1, y⟩
    have HT := Lib.hid (Utf8Tabs_below HT.out y)
    have HS := Lib.hid (HS.out.ext y)
    have D1 := Lib.hid (D1.out.ext y)
    have O2 := Lib.hid (O2.out.ext y)
    have O3 := Lib.hid (O3.out.ext y)
    replace hx := ext_trans hx y
    have D_M2 := Lib.hid d_1
    have E_M2 := Lib.hid h_1
    have M_M2 := Lib.hid m_1
    clear d_1 h_1 m_1 b_1
    clear y
    have L_M2 : Hid ((clsOf M2).length ≤ (clsOf d).length + szX l3) := Lib.hid (by rw [E_M2.out]; exact Ib.out.len)
    go_wp2_with (go_at_call 61; refine Hid.out ?_)
    refine Lib.hid ?_
    refine (known22_any _ HT.out).mono ?_
    rintro e w2 ⟨rfl, y⟩
    replace hx := ext_trans hx y
    go_wp2_with (fail)
    go_ret
    exact ⟨rfl, hx⟩
  subst h0
  have Wa := Lib.hid hr
  obtain ⟨Na, hin⟩ := apply_in (by have := O2.out.at_.len; have := O2.out.at_.b; omega) (by rw [LD.out]; have := B1.out; have := SZ.out; omega) hr
  have Ia := Lib.hid hin
  clear hr hin
  go_wp2_with (go_at_call 38; refine Hid.out ?_)
  refine Lib.hid ?_
  refine (applyDocI (N := Na) (us := units (osOf l2)) D1.out O2.out.at_ HS.out HT.out H64.out Ia.out.n Wa.out Ia.out.at_ rfl).mono ?_
  rintro e wn ⟨A5, c5, M1, rfl, h_1, m_1, b_1, d_1, y⟩
  have HT := Lib.hid (Utf8Tabs_below HT.out y)
  have HS := Lib.hid (HS.out.ext y)
  have D1 := Lib.hid (D1.out.ext y)
  have O2 := Lib.hid (O2.out.ext y)
  have O3 := Lib.hid (O3.out.ext y)
  replace hx := ext_trans hx y
  have D_M1 := Lib.hid d_1
  have E_M1 := Lib.hid h_1
  have M_M1 := Lib.hid m_1
  clear d_1 h_1 m_1 b_1
  clear y
  have L_M1 : Hid ((clsOf M1).length ≤ (clsOf d).length + szX l2) := Lib.hid (by rw [E_M1.out]; exact Ia.out.len)
  obtain ⟨r, hr⟩ : ∃ X, applyN l0 l3 (clsOf d) most = X := ⟨_, rfl⟩
  by_cases h0 : r = 0
  rotate_left
  · skip
    have h0' : (r == 0) = false := beq_eq_false_iff_ne.2 h0
    have h0'' : (r != 0) = true := by rw [bne, h0']; rfl
    have HR := Lib.hid hr
    clear hr
    go_wp2_with (go_at_call 38; refine Hid.out ?_)
    refine Lib.hid ?_
    refine (applyBad D1.out O3.out.at_ HS.out HT.out HR.out h0).mono ?_
    rintro e wn ⟨rfl, y⟩
    have HT := Lib.hid (Utf8Tabs_below HT.out y)
    have HS := Lib.hid (HS.out.ext y)
    have D1 := Lib.hid (D1.out.ext y)
    have O2 := Lib.hid (O2.out.ext y)
    have O3 := Lib.hid (O3.out.ext y)
    have D_M1 := Lib.hid (D_M1.out.ext y)
    replace hx := ext_trans hx y
    clear y
    go_wp2_with (go_at_call 61; refine Hid.out ?_)
    refine Lib.hid ?_
    refine (known22_any _ HT.out).mono ?_
    rintro e w2 ⟨rfl, y⟩
    replace hx := ext_trans hx y
    go_wp2_with (fail)
    go_ret
    exact ⟨rfl, hx⟩
  subst h0
  have Wb := Lib.hid hr
  obtain ⟨Nb, hin⟩ := apply_in (by have := O3.out.at_.len; have := O3.out.at_.b; omega) (by rw [LD.out]; have := B1.out; have := SZ.out; omega) hr
  have Ib := Lib.hid hin
  clear hr hin
  go_wp2_with (go_at_call 38; refine Hid.out ?_)
  refine Lib.hid ?_
  refine (applyDocI (N := Nb) (us := units (osOf l3)) D1.out O3.out.at_ HS.out HT.out H64.out Ib.out.n Wb.out Ib.out.at_ rfl).mono ?_
  rintro e wn ⟨A6, c6, M2, rfl, h_1, m_1, b_1, d_1, y⟩
  have HT := Lib.hid (Utf8Tabs_below HT.out y)
  have HS := Lib.hid (HS.out.ext y)
  have D1 := Lib.hid (D1.out.ext y)
  have O2 := Lib.hid (O2.out.ext y)
  have O3 := Lib.hid (O3.out.ext y)
  have D_M1 := Lib.hid (D_M1.out.ext y)
  replace hx := ext_trans hx y
  have D_M2 := Lib.hid d_1
  have E_M2 := Lib.hid h_1
  have M_M2 := Lib.hid m_1
  clear d_1 h_1 m_1 b_1
  clear y
  have L_M2 : Hid ((clsOf M2).length ≤ (clsOf d).length + szX l3) := Lib.hid (by rw [E_M2.out]; exact Ib.out.len)
  have SM : Hid ((clsOf M1).length + (runesU (units (osOf l3))).length ≤ 10000 ∧ (clsOf M2).length + (runesU (units (osOf l2))).length ≤ 10000 ∧ makesU (units (osOf l2)) + makesU (units (osOf l3)) ≤ 536870912) := Lib.hid (by
    have h1 := Ia.out.len
    have h2 := Ib.out.len
    rw [← E_M1.out, LD.out] at h1
    rw [← E_M2.out, LD.out] at h2
    have h3 := runes_sz l2
    have h4 := runes_sz l3
    have h5 := Ia.out.makes
    have h6 := Ib.out.makes
    have := SZ.out
    have := B1.out
    omega)
  have FPA : Hid (FitU l0 (traU true (nf (units (osOf l2))) (nf (units (osOf l3)))) (clsOf M1).length 10000 ∧ (app l0 (traU true (nf (units (osOf l2))) (nf (units (osOf l3)))) (clsOf M1)).length ≤ 10000) := Lib.hid (by
    have h := meet_fit true Ia.out.fit Ib.out.fit (by rw [← E_M1.out]; exact SM.out.1) SM.out.2.2
    rw [← E_M1.out] at h
    exact h)
  have FQA : Hid (FitU l0 (traU false (nf (units (osOf l3))) (nf (units (osOf l2)))) (clsOf M2).length 10000 ∧ (app l0 (traU false (nf (units (osOf l3))) (nf (units (osOf l2)))) (clsOf M2)).length ≤ 10000) := Lib.hid (by
    have h := meet_fit false Ib.out.fit Ia.out.fit (by rw [← E_M2.out]; exact SM.out.2.1) (by have := SM.out.2.2; omega)
    rw [← E_M2.out] at h
    exact h)
  have BO : Hid (app l0 (traU true (nf (units (osOf l2))) (nf (units (osOf l3)))) (clsOf M1) = app l0 (traU false (nf (units (osOf l3))) (nf (units (osOf l2)))) (clsOf M2)) := Lib.hid (by rw [E_M1.out, E_M2.out]; exact meet_both Ia.out.fit Ib.out.fit Ia.out.rise)
  have ZN2 : Hid (szN l2 ≤ 50000) := Lib.hid (by have := szN_le l2; have := SZ.out; omega)
  have ZN3 : Hid (szN l3 ≤ 50000) := Lib.hid (by have := szN_le l3; have := SZ.out; omega)
  go_wp2_with (go_at_call 62; refine Hid.out ?_)
  refine Lib.hid ?_
  refine (transformOk_any s l0 _ _ _ _ _ _ l2 l3 true _ O2.out O3.out HS.out H64.out HT.out Ia.out.may Ib.out.may ZN2.out ZN3.out FPA.out.1.tb FPA.out.1.mb).mono ?_
  rintro e wn ⟨A7, c7, pp, rfl, h_1, o_1, y⟩
  have HT := Lib.hid (Utf8Tabs_below HT.out y)
  have HS := Lib.hid (HS.out.ext y)
  have D1 := Lib.hid (D1.out.ext y)
  have O2 := Lib.hid (O2.out.ext y)
  have O3 := Lib.hid (O3.out.ext y)
  have D_M1 := Lib.hid (D_M1.out.ext y)
  have D_M2 := Lib.hid (D_M2.out.ext y)
  replace hx := ext_trans hx y
  have E_pp := Lib.hid h_1
  have O_pp := Lib.hid o_1
  clear h_1 o_1
  clear y
  go_wp2_with (go_at_call 62; refine Hid.out ?_)
  refine Lib.hid ?_
  refine (transformOk_any s l0 _ _ _ _ _ _ l3 l2 false _ O3.out O2.out HS.out H64.out HT.out Ib.out.may Ia.out.may ZN3.out ZN2.out FQA.out.1.tb FQA.out.1.mb).mono ?_
  rintro e wn ⟨A9, c9, qq, rfl, h_1, o_1, y⟩
  have HT := Lib.hid (Utf8Tabs_below HT.out y)
  have HS := Lib.hid (HS.out.ext y)
  have D1 := Lib.hid (D1.out.ext y)
  have O2 := Lib.hid (O2.out.ext y)
  have O3 := Lib.hid (O3.out.ext y)
  have D_M1 := Lib.hid (D_M1.out.ext y)
  have D_M2 := Lib.hid (D_M2.out.ext y)
  have O_pp := Lib.hid (O_pp.out.ext y)
  replace hx := ext_trans hx y
  have E_qq := Lib.hid h_1
  have O_qq := Lib.hid o_1
  clear h_1 o_1
  clear y
  go_wp2_with (go_at_call 72; refine Hid.out ?_)
  refine Lib.hid ?_
  refine (isNormal O_pp.out.at_ E_pp.out (by have h1 := units_length (us := traU true (nf (units (osOf l2))) (nf (units (osOf l3)))); have h2 := FPA.out.1.t; have h3 := FPA.out.1.m; have h4 := FPA.out.1.nm; omega) (fun u hu => vU_mU (FPA.out.1.v u hu))).mono ?_
  rintro e wn ⟨rfl, y⟩
  have HT := Lib.hid (Utf8Tabs_below HT.out y)
  have HS := Lib.hid (HS.out.ext y)
  have D1 := Lib.hid (D1.out.ext y)
  have O2 := Lib.hid (O2.out.ext y)
  have O3 := Lib.hid (O3.out.ext y)
  have D_M1 := Lib.hid (D_M1.out.ext y)
  have D_M2 := Lib.hid (D_M2.out.ext y)
  have O_pp := Lib.hid (O_pp.out.ext y)
  have O_qq := Lib.hid (O_qq.out.ext y)
  replace hx := ext_trans hx y
  clear y
  go_wp2_with (go_at_call 72; refine Hid.out ?_)
  refine Lib.hid ?_
  refine (isNormal O_qq.out.at_ E_qq.out (by have h1 := units_length (us := traU false (nf (units (osOf l3))) (nf (units (osOf l2)))); have h2 := FQA.out.1.t; have h3 := FQA.out.1.m; have h4 := FQA.out.1.nm; omega) (fun u hu => vU_mU (FQA.out.1.v u hu))).mono ?_
  rintro e wn ⟨rfl, y⟩
  have HT := Lib.hid (Utf8Tabs_below HT.out y)
  have HS := Lib.hid (HS.out.ext y)
  have D1 := Lib.hid (D1.out.ext y)
  have O2 := Lib.hid (O2.out.ext y)
  have O3 := Lib.hid (O3.out.ext y)
  have D_M1 := Lib.hid (D_M1.out.ext y)
  have D_M2 := Lib.hid (D_M2.out.ext y)
  have O_pp := Lib.hid (O_pp.out.ext y)
  have O_qq := Lib.hid (O_qq.out.ext y)
  replace hx := ext_trans hx y
  clear y
  obtain ⟨U, hU⟩ : ∃ X, app l0 (traU true (nf (units (osOf l2))) (nf (units (osOf l3)))) (clsOf M1) = X := ⟨_, rfl⟩
  have HU := Lib.hid hU
  have HV : Hid (app l0 (traU false (nf (units (osOf l3))) (nf (units (osOf l2)))) (clsOf M2) = U) := Lib.hid (BO.out.symm.trans hU)
  clear hU
  have MP := Lib.hid (made_most (most := most) E_pp.out (by have := O_pp.out.at_.len; have := O_pp.out.at_.b; omega) M_M1.out FPA.out.1 (by omega) FPA.out.2 (by have h1 := Ia.out.an; have h2 := Ia.out.le; rw [← E_M1.out] at h1; omega))
  have MQ := Lib.hid (made_most (most := most) E_qq.out (by have := O_qq.out.at_.len; have := O_qq.out.at_.b; omega) M_M2.out FQA.out.1 (by omega) FQA.out.2 (by have h1 := Ib.out.an; have h2 := Ib.out.le; rw [← E_M2.out] at h1; omega))
  rw [HU.out] at MP
  rw [HV.out] at MQ
  have ZS : Hid ((clsOf d).length + szX l2 + szX l3 ≤ 10000) := Lib.hid (by rw [LD.out]; have := B1.out; have := SZ.out; omega)
  by_cases hu : (U.length : Int) ≤ most
  rotate_left
  · skip
    have hp := MP.out.2 (by omega)
    have hq := MQ.out.2 (by omega)
    go_wp2_with (go_at_call 38; refine Hid.out ?_)
    refine Lib.hid ?_
    refine (applyBad D_M1.out O_pp.out.at_ HS.out HT.out hp (by decide)).mono ?_
    rintro e wn ⟨rfl, y⟩
    have HT := Lib.hid (Utf8Tabs_below HT.out y)
    have HS := Lib.hid (HS.out.ext y)
    have D1 := Lib.hid (D1.out.ext y)
    have O2 := Lib.hid (O2.out.ext y)
    have O3 := Lib.hid (O3.out.ext y)
    have D_M1 := Lib.hid (D_M1.out.ext y)
    have D_M2 := Lib.hid (D_M2.out.ext y)
    have O_pp := Lib.hid (O_pp.out.ext y)
    have O_qq := Lib.hid (O_qq.out.ext y)
    replace hx := ext_trans hx y
    clear y
    go_wp2_with (go_at_call 38; refine Hid.out ?_)
    refine Lib.hid ?_
    refine (applyBad D_M2.out O_qq.out.at_ HS.out HT.out hq (by decide)).mono ?_
    rintro e wn ⟨rfl, y⟩
    have HT := Lib.hid (Utf8Tabs_below HT.out y)
    have HS := Lib.hid (HS.out.ext y)
    have D1 := Lib.hid (D1.out.ext y)
    have O2 := Lib.hid (O2.out.ext y)
    have O3 := Lib.hid (O3.out.ext y)
    have D_M1 := Lib.hid (D_M1.out.ext y)
    have D_M2 := Lib.hid (D_M2.out.ext y)
    have O_pp := Lib.hid (O_pp.out.ext y)
    have O_qq := Lib.hid (O_qq.out.ext y)
    replace hx := ext_trans hx y
    clear y
    go_wp2_with (go_at_call 70; refine Hid.out ?_)
    refine Lib.hid ?_
    have HM := mergeOk_any s l0 _ _ _ _ _ _ _ _ _ d l2 l3 most _ D1.out O2.out O3.out HS.out H64.out HT.out Ia.out.to Ib.out.to ZN2.out ZN3.out ZS.out
    rw [← E_M1.out, HU.out] at HM
    refine HM.mono ?_
    clear HM
    rintro e wn ⟨y, ⟨hm, _⟩ | ⟨hm, rfl⟩⟩
    · exact absurd hm (by omega)
    have HT := Lib.hid (Utf8Tabs_below HT.out y)
    have HS := Lib.hid (HS.out.ext y)
    have D1 := Lib.hid (D1.out.ext y)
    have O2 := Lib.hid (O2.out.ext y)
    have O3 := Lib.hid (O3.out.ext y)
    have D_M1 := Lib.hid (D_M1.out.ext y)
    have D_M2 := Lib.hid (D_M2.out.ext y)
    have O_pp := Lib.hid (O_pp.out.ext y)
    have O_qq := Lib.hid (O_qq.out.ext y)
    replace hx := ext_trans hx y
    clear y
    go_wp2_with (go_at_call 61; refine Hid.out ?_)
    refine Lib.hid ?_
    refine (known22_any _ HT.out).mono ?_
    rintro e w2 ⟨rfl, y⟩
    replace hx := ext_trans hx y
    go_wp2_with (fail)
    go_ret
    exact ⟨rfl, hx⟩
  obtain ⟨Np, p1, p2, p3, p4⟩ := MP.out.1 hu
  obtain ⟨Nq, q1, q2, q3, q4⟩ := MQ.out.1 hu
  clear MP MQ
  go_wp2_with (go_at_call 38; refine Hid.out ?_)
  refine Lib.hid ?_
  refine (applyDocI (N := Np) (us := traU true (nf (units (osOf l2))) (nf (units (osOf l3)))) D_M1.out O_pp.out.at_ HS.out HT.out H64.out p1 p2 p3 (p4.trans HU.out.symm)).mono ?_
  rintro e wn ⟨A8, c8, M3, rfl, h_1, m_1, b_1, d_1, y⟩
  have HT := Lib.hid (Utf8Tabs_below HT.out y)
  have HS := Lib.hid (HS.out.ext y)
  have D1 := Lib.hid (D1.out.ext y)
  have O2 := Lib.hid (O2.out.ext y)
  have O3 := Lib.hid (O3.out.ext y)
  have D_M1 := Lib.hid (D_M1.out.ext y)
  have D_M2 := Lib.hid (D_M2.out.ext y)
  have O_pp := Lib.hid (O_pp.out.ext y)
  have O_qq := Lib.hid (O_qq.out.ext y)
  replace hx := ext_trans hx y
  rw [HU.out] at h_1
  have D_M3 := Lib.hid d_1
  have E_M3 := Lib.hid h_1
  have M_M3 := Lib.hid m_1
  clear d_1 h_1 m_1 b_1
  clear y
  go_wp2_with (go_at_call 38; refine Hid.out ?_)
  refine Lib.hid ?_
  refine (applyDocI (N := Nq) (us := traU false (nf (units (osOf l3))) (nf (units (osOf l2)))) D_M2.out O_qq.out.at_ HS.out HT.out H64.out q1 q2 q3 (q4.trans HV.out.symm)).mono ?_
  rintro e wn ⟨A10, c10, M4, rfl, h_1, m_1, b_1, d_1, y⟩
  have HT := Lib.hid (Utf8Tabs_below HT.out y)
  have HS := Lib.hid (HS.out.ext y)
  have D1 := Lib.hid (D1.out.ext y)
  have O2 := Lib.hid (O2.out.ext y)
  have O3 := Lib.hid (O3.out.ext y)
  have D_M1 := Lib.hid (D_M1.out.ext y)
  have D_M2 := Lib.hid (D_M2.out.ext y)
  have O_pp := Lib.hid (O_pp.out.ext y)
  have O_qq := Lib.hid (O_qq.out.ext y)
  have D_M3 := Lib.hid (D_M3.out.ext y)
  replace hx := ext_trans hx y
  rw [HV.out] at h_1
  have D_M4 := Lib.hid d_1
  have E_M4 := Lib.hid h_1
  clear d_1 h_1 m_1 b_1
  clear y
  go_wp2_with (go_at_call 70; refine Hid.out ?_)
  refine Lib.hid ?_
  have HM := mergeOk_any s l0 _ _ _ _ _ _ _ _ _ d l2 l3 most _ D1.out O2.out O3.out HS.out H64.out HT.out Ia.out.to Ib.out.to ZN2.out ZN3.out ZS.out
  rw [← E_M1.out, HU.out] at HM
  refine HM.mono ?_
  clear HM
  rintro e wn ⟨y, ⟨hm, A11, c11, M5, rfl, h_1, m_1, d_1⟩ | ⟨hm, rfl⟩⟩
  rotate_left
  · exact absurd hu (by omega)
  have HT := Lib.hid (Utf8Tabs_below HT.out y)
  have HS := Lib.hid (HS.out.ext y)
  have D1 := Lib.hid (D1.out.ext y)
  have O2 := Lib.hid (O2.out.ext y)
  have O3 := Lib.hid (O3.out.ext y)
  have D_M1 := Lib.hid (D_M1.out.ext y)
  have D_M2 := Lib.hid (D_M2.out.ext y)
  have O_pp := Lib.hid (O_pp.out.ext y)
  have O_qq := Lib.hid (O_qq.out.ext y)
  have D_M3 := Lib.hid (D_M3.out.ext y)
  have D_M4 := Lib.hid (D_M4.out.ext y)
  replace hx := ext_trans hx y
  have D_M5 := Lib.hid d_1
  have E_M5 := Lib.hid h_1
  clear d_1 h_1 m_1 y hm
  go_wp2_with (go_at_call 69; refine Hid.out ?_)
  refine Lib.hid ?_
  refine (sameD D_M3.out D_M4.out (decide_eq_true (E_M3.out.trans E_M4.out.symm))).mono ?_
  rintro e wn ⟨rfl, y⟩
  have HT := Lib.hid (Utf8Tabs_below HT.out y)
  have HS := Lib.hid (HS.out.ext y)
  have D1 := Lib.hid (D1.out.ext y)
  have O2 := Lib.hid (O2.out.ext y)
  have O3 := Lib.hid (O3.out.ext y)
  have D_M1 := Lib.hid (D_M1.out.ext y)
  have D_M2 := Lib.hid (D_M2.out.ext y)
  have O_pp := Lib.hid (O_pp.out.ext y)
  have O_qq := Lib.hid (O_qq.out.ext y)
  have D_M3 := Lib.hid (D_M3.out.ext y)
  have D_M4 := Lib.hid (D_M4.out.ext y)
  have D_M5 := Lib.hid (D_M5.out.ext y)
  replace hx := ext_trans hx y
  clear y
  go_wp2_with (go_at_call 69; refine Hid.out ?_)
  refine Lib.hid ?_
  refine (sameD D_M3.out D_M5.out (decide_eq_true (E_M3.out.trans E_M5.out.symm))).mono ?_
  rintro e wn ⟨rfl, y⟩
  have HT := Lib.hid (Utf8Tabs_below HT.out y)
  have HS := Lib.hid (HS.out.ext y)
  have D1 := Lib.hid (D1.out.ext y)
  have O2 := Lib.hid (O2.out.ext y)
  have O3 := Lib.hid (O3.out.ext y)
  have D_M1 := Lib.hid (D_M1.out.ext y)
  have D_M2 := Lib.hid (D_M2.out.ext y)
  have O_pp := Lib.hid (O_pp.out.ext y)
  have O_qq := Lib.hid (O_qq.out.ext y)
  have D_M3 := Lib.hid (D_M3.out.ext y)
  have D_M4 := Lib.hid (D_M4.out.ext y)
  have D_M5 := Lib.hid (D_M5.out.ext y)
  replace hx := ext_trans hx y
  clear y
  have LST : Hid (∃ (k : Nat) (c : ClS), M3.length = k + 1 ∧ M3[k]? = some c ∧ c.c.r = 10) := Lib.hid (by
    obtain ⟨_, _, t, c, ht, hc⟩ := mayD_iff.1 M_M3.out
    have h1 : (clsOf M3).length = t.length + 1 := by rw [ht]; simp
    rw [clsOf_len] at h1
    have h2 : M3[t.length]? = some (M3[t.length]'(by omega)) := List.getElem?_eq_getElem (by omega)
    refine ⟨t.length, _, h1, h2, ?_⟩
    have h3 := clsOf_at h2
    rw [ht] at h3
    simp only [List.getElem?_append_right (Nat.le_refl _), Nat.sub_self, List.getElem?_cons_zero, Option.some.injEq] at h3
    rw [← h3]; exact hc)
  obtain ⟨k, cl, hk1, hk2, hk3⟩ := LST.out
  obtain ⟨ad, o, hA8, had, _, hx1, hc1⟩ := D_M3.out.rd.1.el (i := k) (by omega)
  obtain rfl : cl = o := Option.some.inj (hk2.symm.trans hx1)
  obtain ⟨⟨r, st⟩, As, cs⟩ := cl
  have hr : r = 10 := hk3
  subst hr
  obtain ⟨z0, -⟩ := cl_cells hc1
  have LB : Hid (M3.length ≤ 20000) := Lib.hid (by have := D_M3.out.len; have := D_M3.out.b; omega)
  have e3 : (M3.length : Int) - 1 = (k : Int) := by omega
  have hw3 : IntKind.i64.wrap ((M3.length : Int) - 1) = (k : Int) := by rw [e3]; exact IntWalk.i64_in _ (by have := LB.out; omega)
  have hlt : (k : Int) < (M3.length : Int) := by omega
  have hlt2 : k < M3.length := by omega
  clear e3 hk1 hk2 hk3 hc1 hx1 had
  subst hA8
  go_wp2_with (go_at_call 61; refine Hid.out ?_)
  refine Lib.hid ?_
  refine (known22_any _ HT.out).mono ?_
  rintro e w2 ⟨rfl, y⟩
  replace hx := ext_trans hx y
  go_wp2_with (fail)
  go_ret
  exact ⟨rfl, hx⟩
end Go.Proofs.YtbdkbfoplpociaaGreatDoor
