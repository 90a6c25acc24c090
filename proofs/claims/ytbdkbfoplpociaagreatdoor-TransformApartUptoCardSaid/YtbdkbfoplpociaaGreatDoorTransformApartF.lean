/- Merged texts: TransformApart. -/
import Derived.Test.YtbdkbfoplpociaaGreatDoorF1
import Derived.Test.YtbdkbfoplpociaaGreatDoorK30
import Derived.Test.YtbdkbfoplpociaaGreatDoorF8
import Derived.Test.YtbdkbfoplpociaaGreatDoorF9
import Derived.Test.YtbdkbfoplpociaaGreatDoorK33
import Derived.Test.YtbdkbfoplpociaaGreatDoorK31
import Derived.Test.YtbdkbfoplpociaaGreatDoorF6
import Derived.Test.YtbdkbfoplpociaaGreatDoorF5
import Derived.Test.YtbdkbfoplpociaaGreatDoorK35
import Derived.Test.YtbdkbfoplpociaaGreatDoorK34
import Derived.Test.YtbdkbfoplpociaaGreatDoorApartLawF
import Derived.Test.YtbdkbfoplpociaaGreatDoorK20
namespace Go.Proofs.YtbdkbfoplpociaaGreatDoor
open Go.RowKit
set_option linter.unusedVariables false
set_option linter.unusedSimpArgs false

set_option maxRecDepth 100000 in
set_option maxHeartbeats 12800000 in
theorem transformApart_any (A0 A1 A2 A3 : Option Addr) (n0 n1 n2 n3 c0 c1 c2 c3 : Nat) (l0 : List Ky) (d : List ClS) (l2 l3 : List OpS) (first : Bool) (w : World)
    (e0 : n0 = l0.length) (r0 : RdKy w w.heap.size A0 l0) (b0 : n0 ≤ 1048576) (e1 : n1 = d.length) (r1 : RdCl w w.heap.size A1 d) (b1 : n1 ≤ 1048576) (k1 : n1 ≤ c1) (q1 : ∀ x ∈ d, x.c.s.length ≤ 100000000 ∧ okVr x.c.s) (g1 : ∀ x ∈ d, x.c.s.length ≤ x.cs ∧ x.cs ≤ maxLen)
    (e2 : n2 = l2.length) (r2 : RdOp w w.heap.size A2 l2) (b2 : n2 ≤ 1048576) (k2 : n2 ≤ c2) (m2 : c2 ≤ maxLen) (q2 : ∀ o ∈ l2, okOp o.o) (z2 : szX l2 ≤ 2305850000000000000) (f2 : ∀ o ∈ l2, capO o)
    (e3 : n3 = l3.length) (r3 : RdOp w w.heap.size A3 l3) (b3 : n3 ≤ 1048576) (k3 : n3 ≤ c3) (m3 : c3 ≤ maxLen) (q3 : ∀ o ∈ l3, okOp o.o) (z3 : szX l3 ≤ 2305850000000000000) (f3 : ∀ o ∈ l3, capO o)
    (hT : Lib.Utf8Tabs 1 2 w) :
    Calls Tryz.prog 14 #[.slice A0 n0 c0, .slice A1 n1 c1, .slice A2 n2 c2, .slice A3 n3 c3, .bool first] w fun e w' => e = .returned (.bool true) ∧ Below w.heap.size w w' := by
  have N0 := Lib.hid e0
  have R0 := Lib.hid r0
  have HT := Lib.hid hT
  have hx := Below.refl w.heap.size w
  have N1 := Lib.hid e1
  have R1 := Lib.hid r1
  have Q1 := Lib.hid q1
  have C1 := Lib.hid g1
  have N2 := Lib.hid e2
  have R2 := Lib.hid r2
  have Q2 := Lib.hid q2
  have Z2 := Lib.hid z2
  have F2 := Lib.hid f2
  have N3 := Lib.hid e3
  have R3 := Lib.hid r3
  have Q3 := Lib.hid q3
  have Z3 := Lib.hid z3
  have F3 := Lib.hid f3
  clear e0 r0 hT e1 r1 q1 g1 e2 r2 q2 z2 f2 e3 r3 q3 z3 f3
  go_enter Tryz.func14, Tryz.ntmps14
  have ra : Rd SX.enc 1 _ _ _ [⟨A2, c2, l2⟩, ⟨A3, c3, l3⟩] := Rd.new (enc := SX.enc) (size := 1) (fun _ => rfl) w 23 [⟨A2, c2, l2⟩, ⟨A3, c3, l3⟩] (cs := #[.slice A2 n2 c2, .slice A3 n3 c3]) (by simp [SX.enc, ← N2.out, ← N3.out]) rfl
  have y := ext_alloc w (.cells #[.slice A2 n2 c2, .slice A3 n3 c3] 23)
  have R0 := Lib.hid (R0.out.ext y)
  have HT := Lib.hid (Utf8Tabs_below HT.out y)
  have R1 := Lib.hid (R1.out.ext y)
  have R2 := Lib.hid (R2.out.ext y)
  have R3 := Lib.hid (R3.out.ext y)
  replace hx := ext_trans hx y
  clear y
  go_wp2_with (go_at_call 60; refine Hid.out ?_)
  refine Lib.hid ?_
  refine (great22_any A0 A1 (some ⟨w.heap.size, 0, none⟩) n0 c0 n1 c1 2 2 d [⟨A2, c2, l2⟩, ⟨A3, c3, l3⟩] _ rfl ra (by omega) (by omega) (fun x hx => by
    simp only [List.mem_cons, List.not_mem_nil, or_false] at hx
    rcases hx with rfl | rfl
    · exact ⟨R2.out, by have := N2.out; simp only; omega⟩
    · exact ⟨R3.out, by have := N3.out; simp only; omega⟩) (by simp only [sumX, List.map_cons, List.map_nil, List.sum_cons, List.sum_nil]; have := Z2.out; have := Z3.out; omega) (fun x hx => by
    simp only [List.mem_cons, List.not_mem_nil, or_false] at hx
    rcases hx with rfl | rfl
    · have := Z2.out; simp only; omega
    · have := Z3.out; simp only; omega) N1.out R1.out (by omega) (fun z hz => by have := (Q1.out z hz).1; omega)).mono ?_
  rintro e wn ⟨gb, rfl, h1, dr, hd⟩
  have y := drew_ext hd
  clear hd ra
  have R0 := Lib.hid (R0.out.ext y)
  have HT := Lib.hid (Utf8Tabs_below HT.out y)
  have R1 := Lib.hid (R1.out.ext y)
  have R2 := Lib.hid (R2.out.ext y)
  have R3 := Lib.hid (R3.out.ext y)
  replace hx := ext_trans hx y
  clear y
  cases gb
  case true =>
    clear h1
    go_wp2_with (go_at_call 61; refine Hid.out ?_)
    refine Lib.hid ?_
    refine (known22_any _ HT.out).mono ?_
    rintro e w2 ⟨rfl, y⟩
    replace hx := ext_trans hx y
    go_wp2_with (fail)
    go_ret
    exact ⟨rfl, hx⟩
  have h2 := h1 rfl
  have G0 := Lib.hid h2.1
  have G1 : Hid (n1 ≤ 400 ∧ ∀ c ∈ d, c.c.s.length ≤ 64) := Lib.hid ⟨h2.2.1, h2.2.2.1⟩
  have SZ : Hid (szX l2 + szX l3 ≤ 5000) := Lib.hid (by have h3 := h2.2.2.2; simp only [sumX, List.map_cons, List.map_nil, List.sum_cons, List.sum_nil] at h3; omega)
  clear h1 h2
  have LX2 : Hid (l2.length ≤ 5000) := Lib.hid (by have := szX_len l2; have := SZ.out; omega)
  have O2 : Hid (OpsC _ A2 n2 c2 l2) := Lib.hid ⟨⟨R2.out, N2.out, Q2.out, by have := LX2.out; have := N2.out; omega⟩, k2, m2, F2.out⟩
  have LX3 : Hid (l3.length ≤ 5000) := Lib.hid (by have := szX_len l3; have := SZ.out; omega)
  have O3 : Hid (OpsC _ A3 n3 c3 l3) := Lib.hid ⟨⟨R3.out, N3.out, Q3.out, by have := LX3.out; have := N3.out; omega⟩, k3, m3, F3.out⟩
  obtain ⟨m, hm⟩ : ∃ X, mayO l0 l2 = X := ⟨_, rfl⟩
  have HM := Lib.hid hm
  clear hm
  go_wp2_with (go_at_call 22; refine Hid.out ?_)
  refine Lib.hid ?_
  refine (mayKeysD N0.out R0.out (by omega) O2.out.at_ (by have := SZ.out; omega) HT.out HM.out).mono ?_
  rintro e wn ⟨rfl, y⟩
  have R0 := Lib.hid (R0.out.ext y)
  have HT := Lib.hid (Utf8Tabs_below HT.out y)
  have R1 := Lib.hid (R1.out.ext y)
  have O2 := Lib.hid (O2.out.ext y)
  have O3 := Lib.hid (O3.out.ext y)
  replace hx := ext_trans hx y
  clear y
  by_cases h0 : m = 0
  rotate_left
  · skip
    have h0' : (m == 0) = false := beq_eq_false_iff_ne.2 h0
    have h0'' : (m != 0) = true := by rw [bne, h0']; rfl
    clear h0 HM
    go_wp2_with (go_at_call 61; refine Hid.out ?_)
    refine Lib.hid ?_
    refine (known22_any _ HT.out).mono ?_
    rintro e w2 ⟨rfl, y⟩
    replace hx := ext_trans hx y
    go_wp2_with (fail)
    go_ret
    exact ⟨rfl, hx⟩
  subst h0
  have TM2 : Hid (takesU (units (osOf l2)) ≤ 536870912 ∧ makesU (units (osOf l2)) ≤ 536870912) := Lib.hid (by
    obtain ⟨g, t, m⟩ := mayO_zero HM.out
    obtain ⟨s1, s2⟩ := sums_units l2 (good_isOp g)
    rw [takes_sum g (by have := LX2.out; omega)] at t
    rw [makes_sum g (by have := LX2.out; omega)] at m
    omega)
  have TP : Hid (takesP l2 = (takesU (units (osOf l2)) : Int)) := Lib.hid (by
    obtain ⟨g, t, m⟩ := mayO_zero HM.out
    obtain ⟨s1, s2⟩ := sums_units l2 (good_isOp g)
    rw [takes_sum g (by have := LX2.out; omega), s1])
  obtain ⟨tk, htk⟩ : ∃ X, takesU (units (osOf l2)) = X := ⟨_, rfl⟩
  have HTK := Lib.hid htk
  rw [htk] at TP TM2
  clear htk
  obtain ⟨nn, hnn⟩ : ∃ X : Nat, tk + 1 = X := ⟨_, rfl⟩
  have HNN := Lib.hid hnn
  have hw1 : IntKind.i64.wrap ((tk : Int) + 1) = (nn : Int) := by rw [show ((tk : Int) + 1) = (nn : Int) by omega]; exact IntWalk.i64_in _ (by have := TM2.out; omega)
  clear hnn
  go_wp2_with (go_at_call 24; refine Hid.out ?_)
  refine Lib.hid ?_
  refine (new_any A0 n0 c0 l0 _ N0.out R0.out (by omega)).mono ?_
  rintro e wn ⟨y, ⟨hm, s, rfl, hS⟩ | ⟨hm, rfl⟩⟩
  all_goals
    have R0 := Lib.hid (R0.out.ext y)
    have HT := Lib.hid (Utf8Tabs_below HT.out y)
    have R1 := Lib.hid (R1.out.ext y)
    have O2 := Lib.hid (O2.out.ext y)
    have O3 := Lib.hid (O3.out.ext y)
    replace hx := ext_trans hx y
    clear y hm
  rotate_left
  · skip
    go_wp2_with (go_at_call 28; refine Hid.out ?_)
    refine Lib.hid ?_
    refine (takes15_any _ _ _ l2 _ O2.out.at_.len O2.out.at_.rd.1 (by omega)).mono ?_
    rw [TP.out]
    rintro e wn ⟨rfl, dr, hd⟩
    have y := drew_ext hd
    clear hd
    have R0 := Lib.hid (R0.out.ext y)
    have HT := Lib.hid (Utf8Tabs_below HT.out y)
    have R1 := Lib.hid (R1.out.ext y)
    have O2 := Lib.hid (O2.out.ext y)
    have O3 := Lib.hid (O3.out.ext y)
    replace hx := ext_trans hx y
    clear y
    go_wp2_with (go_at_call 61; refine Hid.out ?_)
    refine Lib.hid ?_
    refine (known22_any _ HT.out).mono ?_
    rintro e w2 ⟨rfl, y⟩
    replace hx := ext_trans hx y
    go_wp2_with (fail)
    go_ret
    exact ⟨rfl, hx⟩
  have HS := Lib.hid hS
  clear hS
  have H64 : Hid (l0.length ≤ 64) := Lib.hid (by have := N0.out; have := G0.out; omega)
  have D1 : Hid (DocAt _ A1 n1 c1 d) := Lib.hid ⟨R1.out, N1.out, k1, C1.out, fun z hz => ⟨by have := G1.out.2 z hz; omega, (Q1.out z hz).2⟩, by have := G1.out; omega⟩
  have LD : Hid ((clsOf d).length = n1) := Lib.hid D1.out.clen
  have B1 := Lib.hid G1.out.1
  go_wp2_with (go_at_call 28; refine Hid.out ?_)
  refine Lib.hid ?_
  refine (takes15_any _ _ _ l2 _ O2.out.at_.len O2.out.at_.rd.1 (by omega)).mono ?_
  rw [TP.out]
  rintro e wn ⟨rfl, dr, hd⟩
  have y := drew_ext hd
  clear hd
  have HT := Lib.hid (Utf8Tabs_below HT.out y)
  have O2 := Lib.hid (O2.out.ext y)
  have O3 := Lib.hid (O3.out.ext y)
  have HS := Lib.hid (HS.out.ext y)
  have D1 := Lib.hid (D1.out.ext y)
  replace hx := ext_trans hx y
  clear y
  obtain ⟨md, hmd⟩ : ∃ X, mayD l0 (clsOf d) = X := ⟨_, rfl⟩
  have MD := Lib.hid hmd
  clear hmd
  go_wp2_with (go_at_call 68; refine Hid.out ?_)
  refine Lib.hid ?_
  refine (mayDoc D1.out HS.out HT.out MD.out).mono ?_
  rintro e wn ⟨rfl, y⟩
  have HT := Lib.hid (Utf8Tabs_below HT.out y)
  have O2 := Lib.hid (O2.out.ext y)
  have O3 := Lib.hid (O3.out.ext y)
  have HS := Lib.hid (HS.out.ext y)
  have D1 := Lib.hid (D1.out.ext y)
  replace hx := ext_trans hx y
  clear y
  by_cases h0 : md = 0
  rotate_left
  · skip
    have h0' : (md == 0) = false := beq_eq_false_iff_ne.2 h0
    have h0'' : (md != 0) = true := by rw [bne, h0']; rfl
    clear h0 MD
    go_wp2_with (go_at_call 61; refine Hid.out ?_)
    refine Lib.hid ?_
    refine (known22_any _ HT.out).mono ?_
    rintro e w2 ⟨rfl, y⟩
    replace hx := ext_trans hx y
    go_wp2_with (fail)
    go_ret
    exact ⟨rfl, hx⟩
  subst h0
  by_cases hnd : (n1 : Int) < (nn : Int)
  · skip
    go_wp2_with (go_at_call 61; refine Hid.out ?_)
    refine Lib.hid ?_
    refine (known22_any _ HT.out).mono ?_
    rintro e w2 ⟨rfl, y⟩
    replace hx := ext_trans hx y
    go_wp2_with (fail)
    go_ret
    exact ⟨rfl, hx⟩
  have LE : Hid (nn ≤ n1 ∧ n1 ≤ 400) := Lib.hid (by have := B1.out; omega)
  have yb := ext_alloc wn (.cells #[.int .u8 1, .int .i64 (nn : Int), .slice none 0 0, .slice none 0 0, .slice none 0 0] 40)
  have ob : OwOs (wn.alloc (.cells #[.int .u8 1, .int .i64 (nn : Int), .slice none 0 0, .slice none 0 0, .slice none 0 0] 40)) wn.heap.size (.slice (some ⟨wn.heap.size, 0, none⟩) 1 1) [(⟨opR (nn : Int) [], none, 0, none, 0, none, 0⟩ : OpS)] := Ow.new (enc := OpS.enc) (size := 5) OpS.enc_len wn 40 [(⟨opR (nn : Int) [], none, 0, none, 0, none, 0⟩ : OpS)] rfl rfl (by unfold maxLen; omega) (Nat.le_refl _) rfl
  go_wp2_with (first
    | (at_builtin; refine app_os (m := l3) rfl (.tmp 66) (.tmp 67) rfl rfl ob _ A3 c3 n3 rfl N3.out (O3.out.at_.rd.ext yb).1 (by have := N3.out; have := O3.out.at_.b; simp only [List.length_singleton]; omega) (by simp) ?_; intro v2 wa hown hgr hv; obtain ⟨A8, c8, hv8, hc8, hm8⟩ := hown.form; subst hv8; obtain ⟨nl, hnl⟩ : ∃ X, ([(⟨opR (nn : Int) [], none, 0, none, 0, none, 0⟩ : OpS)] ++ l3).length = X := ⟨_, rfl⟩; rw [hnl])
    | (go_at_call 38; refine Hid.out ?_))
  refine Lib.hid ?_
  have y : Below wn.heap.size wn wa := below_app yb (by simp) ob (Nat.le_refl _) hgr
  have O8 : Hid (OpsC wa A8 nl c8 ((⟨opR (nn : Int) [], none, 0, none, 0, none, 0⟩ : OpS) :: l3)) := Lib.hid (O3.out.cons y hown (by rw [← hnl, N3.out]; simp) ⟨Rd.nil, Rd.nil, Rd.nil⟩ (ok_small _ rfl rfl (by simp [opR])) cap_zeroR (by have := LX3.out; have := N3.out; omega))
  clear yb ob hown hgr hv hc8 hm8
  have HT := Lib.hid (Utf8Tabs_below HT.out y)
  have O2 := Lib.hid (O2.out.ext y)
  have O3 := Lib.hid (O3.out.ext y)
  have HS := Lib.hid (HS.out.ext y)
  have D1 := Lib.hid (D1.out.ext y)
  replace hx := ext_trans hx y
  clear y
  obtain ⟨cc, hcc⟩ : ∃ X, (⟨opR (nn : Int) [], none, 0, none, 0, none, 0⟩ : OpS) :: l3 = X := ⟨_, rfl⟩
  rw [hcc] at O8
  have UC : Hid (units (osOf cc) = List.replicate nn (.ret []) ++ units (osOf l3)) := Lib.hid (by rw [← hcc]; show unitsO (opR (nn : Int) []) ++ units (osOf l3) = _; rw [unitsO_R]; rfl)
  have SC : Hid (szX cc ≤ 1 + szX l3) := Lib.hid (by rw [← hcc]; exact Nat.le_refl _)
  clear hcc
  obtain ⟨r, hr⟩ : ∃ X, applyN l0 l2 (clsOf d) 10000 = X := ⟨_, rfl⟩
  by_cases h0 : r = 0
  rotate_left
  · skip
    have h0' : (r == 0) = false := beq_eq_false_iff_ne.2 h0
    have h0'' : (r != 0) = true := by rw [bne, h0']; rfl
    have HR := Lib.hid hr
    clear hr
    go_wp2_with (go_at_call 38; refine Hid.out ?_)
    refine Lib.hid ?_
    refine (applyBad D1.out O2.out.at_ HS.out HT.out HR.out h0).mono ?_
    rintro e wn ⟨rfl, y⟩
    have HT := Lib.hid (Utf8Tabs_below HT.out y)
    have O2 := Lib.hid (O2.out.ext y)
    have O3 := Lib.hid (O3.out.ext y)
    have HS := Lib.hid (HS.out.ext y)
    have D1 := Lib.hid (D1.out.ext y)
    have O8 := Lib.hid (O8.out.ext y)
    replace hx := ext_trans hx y
    clear y
    obtain ⟨r, hr⟩ : ∃ X, applyN l0 cc (clsOf d) 10000 = X := ⟨_, rfl⟩
    by_cases h0 : r = 0
    rotate_left
    · skip
      have h0' : (r == 0) = false := beq_eq_false_iff_ne.2 h0
      have h0'' : (r != 0) = true := by rw [bne, h0']; rfl
      have HR := Lib.hid hr
      clear hr
      go_wp2_with (go_at_call 38; refine Hid.out ?_)
      refine Lib.hid ?_
      refine (applyBad D1.out O8.out.at_ HS.out HT.out HR.out h0).mono ?_
      rintro e wn ⟨rfl, y⟩
      have HT := Lib.hid (Utf8Tabs_below HT.out y)
      have O2 := Lib.hid (O2.out.ext y)
      have O3 := Lib.hid (O3.out.ext y)
      have HS := Lib.hid (HS.out.ext y)
      have D1 := Lib.hid (D1.out.ext y)
      have O8 := Lib.hid (O8.out.ext y)
      replace hx := ext_trans hx y
      clear y
      go_wp2_with (go_at_call 61; refine Hid.out ?_)
      refine Lib.hid ?_
      refine (known22_any _ HT.out).mono ?_
      rintro e w2 ⟨rfl, y⟩
      replace hx := ext_trans hx y
      go_wp2_with (fail)
      go_ret
      exact ⟨rfl, hx⟩
    subst h0
    have Wb := Lib.hid hr
    obtain ⟨Nb, hin⟩ := apply_in (by have := O8.out.at_.len; have := O8.out.at_.b; omega) (by rw [LD.out]; have := B1.out; have := SC.out; have := SZ.out; omega) hr
    have Ib := Lib.hid hin
    clear hr hin
    go_wp2_with (go_at_call 38; refine Hid.out ?_)
    refine Lib.hid ?_
    refine (applyDocI (N := Nb) (us := units (osOf cc)) D1.out O8.out.at_ HS.out HT.out H64.out Ib.out.n Wb.out Ib.out.at_ rfl).mono ?_
    rintro e wn ⟨A6, c6, M2, rfl, h_1, m_1, b_1, d_1, y⟩
    have HT := Lib.hid (Utf8Tabs_below HT.out y)
    have O2 := Lib.hid (O2.out.ext y)
    have O3 := Lib.hid (O3.out.ext y)
    have HS := Lib.hid (HS.out.ext y)
    have D1 := Lib.hid (D1.out.ext y)
    have O8 := Lib.hid (O8.out.ext y)
    replace hx := ext_trans hx y
    have D_M2 := Lib.hid d_1
    have E_M2 := Lib.hid h_1
    have M_M2 := Lib.hid m_1
    clear d_1 h_1 m_1 b_1
    clear y
    have L_M2 : Hid ((clsOf M2).length ≤ (clsOf d).length + szX cc) := Lib.hid (by rw [E_M2.out]; exact Ib.out.len)
    go_wp2_with (go_at_call 61; refine Hid.out ?_)
    refine Lib.hid ?_
    refine (known22_any _ HT.out).mono ?_
    rintro e w2 ⟨rfl, y⟩
    replace hx := ext_trans hx y
    go_wp2_with (fail)
    go_ret
    exact ⟨rfl, hx⟩
  subst h0
  have Wa := Lib.hid hr
  obtain ⟨Na, hin⟩ := apply_in (by have := O2.out.at_.len; have := O2.out.at_.b; omega) (by rw [LD.out]; have := B1.out; have := SZ.out; omega) hr
  have Ia := Lib.hid hin
  clear hr hin
  go_wp2_with (go_at_call 38; refine Hid.out ?_)
  refine Lib.hid ?_
  refine (applyDocI (N := Na) (us := units (osOf l2)) D1.out O2.out.at_ HS.out HT.out H64.out Ia.out.n Wa.out Ia.out.at_ rfl).mono ?_
  rintro e wn ⟨A5, c5, M1, rfl, h_1, m_1, b_1, d_1, y⟩
  have HT := Lib.hid (Utf8Tabs_below HT.out y)
  have O2 := Lib.hid (O2.out.ext y)
  have O3 := Lib.hid (O3.out.ext y)
  have HS := Lib.hid (HS.out.ext y)
  have D1 := Lib.hid (D1.out.ext y)
  have O8 := Lib.hid (O8.out.ext y)
  replace hx := ext_trans hx y
  have D_M1 := Lib.hid d_1
  have E_M1 := Lib.hid h_1
  have M_M1 := Lib.hid m_1
  clear d_1 h_1 m_1 b_1
  clear y
  have L_M1 : Hid ((clsOf M1).length ≤ (clsOf d).length + szX l2) := Lib.hid (by rw [E_M1.out]; exact Ia.out.len)
  obtain ⟨r, hr⟩ : ∃ X, applyN l0 cc (clsOf d) 10000 = X := ⟨_, rfl⟩
  by_cases h0 : r = 0
  rotate_left
  · skip
    have h0' : (r == 0) = false := beq_eq_false_iff_ne.2 h0
    have h0'' : (r != 0) = true := by rw [bne, h0']; rfl
    have HR := Lib.hid hr
    clear hr
    go_wp2_with (go_at_call 38; refine Hid.out ?_)
    refine Lib.hid ?_
    refine (applyBad D1.out O8.out.at_ HS.out HT.out HR.out h0).mono ?_
    rintro e wn ⟨rfl, y⟩
    have HT := Lib.hid (Utf8Tabs_below HT.out y)
    have O2 := Lib.hid (O2.out.ext y)
    have O3 := Lib.hid (O3.out.ext y)
    have HS := Lib.hid (HS.out.ext y)
    have D1 := Lib.hid (D1.out.ext y)
    have O8 := Lib.hid (O8.out.ext y)
    have D_M1 := Lib.hid (D_M1.out.ext y)
    replace hx := ext_trans hx y
    clear y
    go_wp2_with (go_at_call 61; refine Hid.out ?_)
    refine Lib.hid ?_
    refine (known22_any _ HT.out).mono ?_
    rintro e w2 ⟨rfl, y⟩
    replace hx := ext_trans hx y
    go_wp2_with (fail)
    go_ret
    exact ⟨rfl, hx⟩
  subst h0
  have Wb := Lib.hid hr
  obtain ⟨Nb, hin⟩ := apply_in (by have := O8.out.at_.len; have := O8.out.at_.b; omega) (by rw [LD.out]; have := B1.out; have := SC.out; have := SZ.out; omega) hr
  have Ib := Lib.hid hin
  clear hr hin
  go_wp2_with (go_at_call 38; refine Hid.out ?_)
  refine Lib.hid ?_
  refine (applyDocI (N := Nb) (us := units (osOf cc)) D1.out O8.out.at_ HS.out HT.out H64.out Ib.out.n Wb.out Ib.out.at_ rfl).mono ?_
  rintro e wn ⟨A6, c6, M2, rfl, h_1, m_1, b_1, d_1, y⟩
  have HT := Lib.hid (Utf8Tabs_below HT.out y)
  have O2 := Lib.hid (O2.out.ext y)
  have O3 := Lib.hid (O3.out.ext y)
  have HS := Lib.hid (HS.out.ext y)
  have D1 := Lib.hid (D1.out.ext y)
  have O8 := Lib.hid (O8.out.ext y)
  have D_M1 := Lib.hid (D_M1.out.ext y)
  replace hx := ext_trans hx y
  have D_M2 := Lib.hid d_1
  have E_M2 := Lib.hid h_1
  have M_M2 := Lib.hid m_1
  clear d_1 h_1 m_1 b_1
  clear y
  have L_M2 : Hid ((clsOf M2).length ≤ (clsOf d).length + szX cc) := Lib.hid (by rw [E_M2.out]; exact Ib.out.len)
  obtain ⟨G, hG⟩ := apart_law first (l := l0) (ua := units (osOf l2)) (ub := units (osOf l3)) (d := clsOf d) (n := nn) (by rw [HTK.out]; have := HNN.out; omega) (by rw [LD.out]; exact LE.out.1) Ia.out.fit (by rw [← UC.out]; exact Ib.out.fit) Ia.out.rise
  rw [← UC.out, ← E_M1.out, ← E_M2.out, clsOf_len M1, clsOf_len M2, LD.out] at hG
  have HG := Lib.hid hG
  clear hG
  have SM : Hid (M1.length ≤ n1 + szX l2 ∧ M2.length ≤ n1 + szX cc ∧ makesU (units (osOf l2)) ≤ 10000 ∧ makesU (units (osOf cc)) ≤ 20000) := Lib.hid (by
    have a1 := Ia.out.len
    have a2 := Ib.out.len
    have b1 := app_len l0 (units (osOf l2)) (clsOf d) Ia.out.fit.t
    have b2 := app_len l0 (units (osOf cc)) (clsOf d) Ib.out.fit.t
    have c1 := Ia.out.fit.t
    have c2 := Ib.out.fit.t
    rw [← E_M1.out, clsOf_len, LD.out] at a1 b1
    rw [← E_M2.out, clsOf_len, LD.out] at a2 b2
    rw [LD.out] at c1 c2
    have := SZ.out
    have := SC.out
    have := B1.out
    omega)
  have FP : Hid (FitU l0 (traU first (nf (units (osOf l2))) (nf (units (osOf cc)))) (clsOf M1).length 10000) := Lib.hid (by
    have h := tra_fit (N := 10000) first (fit_nf Ia.out.fit) (fit_nf Ib.out.fit) (by rw [app_nf, ← E_M1.out, clsOf_len]; have := SM.out; have := SC.out; have := SZ.out; have := B1.out; omega) (by rw [app_nf, ← E_M1.out]; have := HG.out.2.2.2.1; have := SM.out; have := SC.out; have := SZ.out; have := B1.out; omega) (by omega) (by have h1 := nf_makes (units (osOf l2)); have h2 := nf_makes (units (osOf cc)); have := SM.out; omega)
    rw [app_nf, ← E_M1.out] at h
    exact h)
  have BO : Hid (app l0 (traU first (nf (units (osOf l2))) (nf (units (osOf cc)))) (clsOf M1) = app l0 (traU (!first) (nf (units (osOf cc))) (nf (units (osOf l2)))) (clsOf M2)) := Lib.hid (by rw [E_M1.out, E_M2.out]; exact apart_both first Ia.out.fit Ib.out.fit Ia.out.rise)
  have FQ : Hid (FitU l0 (traU (!first) (nf (units (osOf cc))) (nf (units (osOf l2)))) (clsOf M2).length 10000) := Lib.hid (by
    have h := tra_fit (N := 10000) (!first) (fit_nf Ib.out.fit) (fit_nf Ia.out.fit) (by rw [app_nf, ← E_M2.out, clsOf_len]; have := SM.out; have := SC.out; have := SZ.out; have := B1.out; omega) (by rw [app_nf, ← E_M2.out, ← BO.out]; have := HG.out.2.2.2.1; have := SM.out; have := SC.out; have := SZ.out; have := B1.out; omega) (by omega) (by have h1 := nf_makes (units (osOf l2)); have h2 := nf_makes (units (osOf cc)); have := SM.out; omega)
    rw [app_nf, ← E_M2.out] at h
    exact h)
  have EQ : Hid (mkU (traU (!first) (nf (units (osOf cc))) (nf (units (osOf l2)))) = mkU (units (osOf l2))) := Lib.hid (by rw [UC.out, apart_q _ (by rw [HTK.out]; have := HNN.out; omega), mkU_nf])
  have ZN2 : Hid (szN l2 ≤ 50000) := Lib.hid (by have := szN_le l2; have := SZ.out; omega)
  have ZNc : Hid (szN cc ≤ 50000) := Lib.hid (by have := szN_le cc; have := SZ.out; have := SC.out; omega)
  have UL_l2 : Hid ((units (osOf l2)).length ≤ 4000000000) := Lib.hid (by have h := Ia.out.ul; rw [LD.out] at h; have := B1.out; have := SZ.out; omega)
  go_wp2_with (go_at_call 62; refine Hid.out ?_)
  refine Lib.hid ?_
  refine (transformOk_any s l0 _ _ _ _ _ _ l2 cc first _ O2.out O8.out HS.out H64.out HT.out Ia.out.may Ib.out.may ZN2.out ZNc.out FP.out.tb FP.out.mb).mono ?_
  rintro e wn ⟨A7, c7, pp, rfl, h_1, o_1, y⟩
  have HT := Lib.hid (Utf8Tabs_below HT.out y)
  have O2 := Lib.hid (O2.out.ext y)
  have O3 := Lib.hid (O3.out.ext y)
  have HS := Lib.hid (HS.out.ext y)
  have D1 := Lib.hid (D1.out.ext y)
  have O8 := Lib.hid (O8.out.ext y)
  have D_M1 := Lib.hid (D_M1.out.ext y)
  have D_M2 := Lib.hid (D_M2.out.ext y)
  replace hx := ext_trans hx y
  have E_pp := Lib.hid h_1
  have O_pp := Lib.hid o_1
  clear h_1 o_1
  clear y
  go_wp2_with (go_at_call 62; refine Hid.out ?_)
  refine Lib.hid ?_
  refine (transformOk_any s l0 _ _ _ _ _ _ cc l2 (!first) _ O8.out O2.out HS.out H64.out HT.out Ib.out.may Ia.out.may ZNc.out ZN2.out FQ.out.tb FQ.out.mb).mono ?_
  rintro e wn ⟨A9, c9, qq, rfl, h_1, o_1, y⟩
  have HT := Lib.hid (Utf8Tabs_below HT.out y)
  have O2 := Lib.hid (O2.out.ext y)
  have O3 := Lib.hid (O3.out.ext y)
  have HS := Lib.hid (HS.out.ext y)
  have D1 := Lib.hid (D1.out.ext y)
  have O8 := Lib.hid (O8.out.ext y)
  have D_M1 := Lib.hid (D_M1.out.ext y)
  have D_M2 := Lib.hid (D_M2.out.ext y)
  have O_pp := Lib.hid (O_pp.out.ext y)
  replace hx := ext_trans hx y
  have E_qq := Lib.hid h_1
  have O_qq := Lib.hid o_1
  clear h_1 o_1
  clear y
  go_wp2_with (go_at_call 67; refine Hid.out ?_)
  refine Lib.hid ?_
  refine (normDoc O2.out.at_ Ia.out.isop (by have := szN_le l2; have := SZ.out; omega) (fun o ho => by have h1 := szX_mem ho; unfold szO at h1; have := SZ.out; omega) UL_l2.out).mono ?_
  rintro e wn ⟨A10, c10, nz, rfl, h_1, o_1, y⟩
  have HT := Lib.hid (Utf8Tabs_below HT.out y)
  have O2 := Lib.hid (O2.out.ext y)
  have O3 := Lib.hid (O3.out.ext y)
  have HS := Lib.hid (HS.out.ext y)
  have D1 := Lib.hid (D1.out.ext y)
  have O8 := Lib.hid (O8.out.ext y)
  have D_M1 := Lib.hid (D_M1.out.ext y)
  have D_M2 := Lib.hid (D_M2.out.ext y)
  have O_pp := Lib.hid (O_pp.out.ext y)
  have O_qq := Lib.hid (O_qq.out.ext y)
  replace hx := ext_trans hx y
  have E_nz := Lib.hid h_1
  have O_nz := Lib.hid o_1
  clear h_1 o_1
  clear y
  go_wp2_with (go_at_call 26; refine Hid.out ?_)
  refine Lib.hid ?_
  refine (same15D O_qq.out.at_ O_nz.out (decide_eq_true (E_qq.out.trans (EQ.out.trans E_nz.out.symm)))).mono ?_
  rintro e wn ⟨rfl, y⟩
  have HT := Lib.hid (Utf8Tabs_below HT.out y)
  have O2 := Lib.hid (O2.out.ext y)
  have O3 := Lib.hid (O3.out.ext y)
  have HS := Lib.hid (HS.out.ext y)
  have D1 := Lib.hid (D1.out.ext y)
  have O8 := Lib.hid (O8.out.ext y)
  have D_M1 := Lib.hid (D_M1.out.ext y)
  have D_M2 := Lib.hid (D_M2.out.ext y)
  have O_pp := Lib.hid (O_pp.out.ext y)
  have O_qq := Lib.hid (O_qq.out.ext y)
  have O_nz := Lib.hid (O_nz.out.ext y)
  replace hx := ext_trans hx y
  clear y
  have Y_M3 := Lib.hid (made_in (N := 10000) (most := 10000) E_pp.out (by have := O_pp.out.at_.len; have := O_pp.out.at_.b; omega) M_M1.out FP.out (by omega) (by omega))
  go_wp2_with (go_at_call 38; refine Hid.out ?_)
  refine Lib.hid ?_
  refine (applyDocI (N := 10000) (us := traU first (nf (units (osOf l2))) (nf (units (osOf cc)))) D_M1.out O_pp.out.at_ HS.out HT.out H64.out (by omega) Y_M3.out.1 Y_M3.out.2.1 Y_M3.out.2.2).mono ?_
  rintro e wn ⟨A11, c11, M3, rfl, h_1, m_1, b_1, d_1, y⟩
  have HT := Lib.hid (Utf8Tabs_below HT.out y)
  have O2 := Lib.hid (O2.out.ext y)
  have O3 := Lib.hid (O3.out.ext y)
  have HS := Lib.hid (HS.out.ext y)
  have D1 := Lib.hid (D1.out.ext y)
  have O8 := Lib.hid (O8.out.ext y)
  have D_M1 := Lib.hid (D_M1.out.ext y)
  have D_M2 := Lib.hid (D_M2.out.ext y)
  have O_pp := Lib.hid (O_pp.out.ext y)
  have O_qq := Lib.hid (O_qq.out.ext y)
  have O_nz := Lib.hid (O_nz.out.ext y)
  replace hx := ext_trans hx y
  have D_M3 := Lib.hid d_1
  have E_M3 := Lib.hid h_1
  have M_M3 := Lib.hid m_1
  clear d_1 h_1 m_1 b_1
  clear y
  have Y_M4 := Lib.hid (made_in (N := 10000) (most := 10000) E_qq.out (by have := O_qq.out.at_.len; have := O_qq.out.at_.b; omega) M_M2.out FQ.out (by omega) (by omega))
  go_wp2_with (go_at_call 38; refine Hid.out ?_)
  refine Lib.hid ?_
  refine (applyDocI (N := 10000) (us := traU (!first) (nf (units (osOf cc))) (nf (units (osOf l2)))) D_M2.out O_qq.out.at_ HS.out HT.out H64.out (by omega) Y_M4.out.1 Y_M4.out.2.1 Y_M4.out.2.2).mono ?_
  rintro e wn ⟨A12, c12, M4, rfl, h_1, m_1, b_1, d_1, y⟩
  have HT := Lib.hid (Utf8Tabs_below HT.out y)
  have O2 := Lib.hid (O2.out.ext y)
  have O3 := Lib.hid (O3.out.ext y)
  have HS := Lib.hid (HS.out.ext y)
  have D1 := Lib.hid (D1.out.ext y)
  have O8 := Lib.hid (O8.out.ext y)
  have D_M1 := Lib.hid (D_M1.out.ext y)
  have D_M2 := Lib.hid (D_M2.out.ext y)
  have O_pp := Lib.hid (O_pp.out.ext y)
  have O_qq := Lib.hid (O_qq.out.ext y)
  have O_nz := Lib.hid (O_nz.out.ext y)
  have D_M3 := Lib.hid (D_M3.out.ext y)
  replace hx := ext_trans hx y
  have D_M4 := Lib.hid d_1
  have E_M4 := Lib.hid h_1
  have M_M4 := Lib.hid m_1
  clear d_1 h_1 m_1 b_1
  clear y
  rw [← E_M3.out, clsOf_len M3] at HG
  have ES : Hid (clsOf M3 = clsOf M4) := Lib.hid (E_M3.out.trans (BO.out.trans E_M4.out.symm))
  obtain ⟨gi, hgi⟩ : ∃ X : Int, (M1.length : Int) - (n1 : Int) = X := ⟨_, rfl⟩
  have hw2 : IntKind.i64.wrap ((M1.length : Int) - (n1 : Int)) = gi := by rw [hgi]; exact IntWalk.i64_in _ (by have := SM.out; have := SC.out; have := SZ.out; have := B1.out; omega)
  have hw3 : IntKind.i64.wrap ((nn : Int) + gi) = (G : Int) := by rw [show ((nn : Int) + gi) = (G : Int) by have := HG.out.1; omega]; exact IntWalk.i64_in _ (by have := HG.out; have := SM.out; have := SC.out; have := SZ.out; have := B1.out; clear hw2; omega)
  clear hgi
  obtain ⟨AU, hAU⟩ : ∃ X, advS A11 c11 G 2 = X := ⟨_, rfl⟩
  obtain ⟨nU, hnU⟩ : ∃ X, M3.length - G = X := ⟨_, rfl⟩
  obtain ⟨cU, hcU⟩ : ∃ X, c11 - G = X := ⟨_, rfl⟩
  obtain ⟨AY, hAY⟩ : ∃ X, advS A6 c6 nn 2 = X := ⟨_, rfl⟩
  obtain ⟨nY, hnY⟩ : ∃ X, M2.length - nn = X := ⟨_, rfl⟩
  obtain ⟨cY, hcY⟩ : ∃ X, c6 - nn = X := ⟨_, rfl⟩
  have CP3 := D_M3.out.cap
  have CP2 := D_M2.out.cap
  have CP1 := D_M1.out.cap
  have sl1 : ∀ W, (Instr.slice 55 (.slice A11 M3.length c11) (some (.int .i64 (G : Int))) none none).run Tryz.prog W = .ok (.slice AU nU cU) W := sl_from Tryz.slCl Tryz.elCl size_cl rfl hAU hnU hcU HG.out.2.2.2.2.1 CP3
  have sl2 : ∀ W, (Instr.slice 55 (.slice A6 M2.length c6) (some (.int .i64 (nn : Int))) none none).run Tryz.prog W = .ok (.slice AY nY cY) W := sl_from Tryz.slCl Tryz.elCl size_cl rfl hAY hnY hcY HG.out.2.2.1 CP2
  have sl3 : ∀ W, (Instr.slice 55 (.slice A11 M3.length c11) none (some (.int .i64 (G : Int))) none).run Tryz.prog W = .ok (.slice A11 G c11) W := sl_to (l := G) Tryz.slCl Tryz.elCl size_cl rfl (Nat.le_trans HG.out.2.2.2.2.1 CP3)
  have sl4 : ∀ W, (Instr.slice 55 (.slice A5 M1.length c5) none (some (.int .i64 (G : Int))) none).run Tryz.prog W = .ok (.slice A5 G c5) W := sl_to (l := G) Tryz.slCl Tryz.elCl size_cl rfl (Nat.le_trans HG.out.2.1 CP1)
  have DU : Hid (DocAt _ AU nU cU (M3.drop G)) := Lib.hid (D_M3.out.drop hAU HG.out.2.2.2.2.1 hnU hcU)
  have DY : Hid (DocAt _ AY nY cY (M2.drop nn)) := Lib.hid (D_M2.out.drop hAY HG.out.2.2.1 hnY hcY)
  have DV : Hid (DocAt _ A11 G c11 (M3.take G)) := Lib.hid (D_M3.out.take HG.out.2.2.2.2.1)
  have DX : Hid (DocAt _ A5 G c5 (M1.take G)) := Lib.hid (D_M1.out.take HG.out.2.1)
  have e1 : Hid (clsOf (M3.drop G) = clsOf (M2.drop nn)) := Lib.hid (by rw [clsOf_drop, clsOf_drop]; exact HG.out.2.2.2.2.2.1)
  have e2 : Hid (clsOf (M3.take G) = clsOf (M1.take G)) := Lib.hid (by rw [clsOf_take, clsOf_take]; exact HG.out.2.2.2.2.2.2)
  clear hAU hnU hcU hAY hnY hcY CP1 CP2 CP3
  have hw2' : wrap64 ((M1.length : Int) - (n1 : Int)) = gi := by rw [← hw2, IntWalk.i64_left]
  have hw3' : wrap64 ((nn : Int) + gi) = (G : Int) := by rw [← hw3, IntWalk.i64_left]
  go_wp2_with (fail)
  go_region_held3 (fun w' => True) (go_keep) (first
    | (go_at_call 69
       with_reducible refine (sameD (D_M3.out.ext (up_drew (Below.refl _ _))) (D_M4.out.ext (up_drew (Below.refl _ _))) (decide_eq_true ES.out)).mono ?_
       rintro e wa ⟨rfl, ya⟩
       have YA : Hid (Below wn.heap.size wn wa) := Lib.hid (ext_trans (up_drew (Below.refl _ _)) ya)
       clear ya)
    | (go_at_call 69
       with_reducible refine (sameD (DU.out.ext YA.out) (DY.out.ext YA.out) (decide_eq_true e1.out)).mono ?_
       rintro e wb ⟨rfl, yb⟩
       have YB : Hid (Below wn.heap.size wn wb) := Lib.hid (ext_trans YA.out yb)
       clear yb)
    | (go_at_call 69
       with_reducible refine (sameD (DV.out.ext YB.out) (DX.out.ext YB.out) (decide_eq_true e2.out)).mono ?_
       rintro e wc ⟨rfl, yc⟩
       have YC : Hid (Below wn.heap.size wn wc) := Lib.hid (ext_trans YB.out yc)
       clear yc)
    | (go_at_call 61
       with_reducible refine (known22_any _ (Utf8Tabs_below HT.out YC.out)).mono ?_
       rintro e wd ⟨rfl, yd⟩
       have YD : Hid (Below wn.heap.size wn wd) := Lib.hid (ext_trans YC.out yd)
       clear yd))
  have y := ext_trans hx YD.out
  clear YA YB YC YD
  go_wp2_with (fail)
  go_ret
  exact ⟨rfl, y⟩
end Go.Proofs.YtbdkbfoplpociaaGreatDoor
