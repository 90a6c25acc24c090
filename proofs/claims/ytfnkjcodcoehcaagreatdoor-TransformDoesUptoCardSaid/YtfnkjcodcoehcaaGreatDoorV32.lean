/- Merged texts: TransformDoesI. -/
import Derived.Test.YtfnkjcodcoehcaaGreatDoorV16
import Derived.Test.YtfnkjcodcoehcaaGreatDoorV18
import Derived.Test.YtfnkjcodcoehcaaGreatDoorV15
import Derived.Test.YtfnkjcodcoehcaaGreatDoorV24
import Derived.Test.YtfnkjcodcoehcaaGreatDoorV25
import Derived.Test.YtfnkjcodcoehcaaGreatDoorV28
import Derived.Test.YtfnkjcodcoehcaaGreatDoorV29
import Derived.Test.YtfnkjcodcoehcaaGreatDoorV7
import Derived.Test.YtfnkjcodcoehcaaGreatDoorV30
import Derived.Test.YtfnkjcodcoehcaaGreatDoorV2
import Derived.Test.YtfnkjcodcoehcaaGreatDoorV14
namespace Go.Proofs.YtfnkjcodcoehcaaGreatDoor
open Go.RowKit
set_option linter.unusedVariables false
set_option linter.unusedSimpArgs false

set_option maxRecDepth 100000 in
set_option maxHeartbeats 12800000 in
theorem transformDoes_in (A0 A1 A2 : Option Addr) (n0 n1 n2 c0 c1 c2 : Nat) (l0 : List Ky) (l1 l2 : List OpS) (p : Int) (first : Bool) (w : World)
    (e0 : n0 = l0.length) (r0 : RdKy w w.heap.size A0 l0) (b0 : n0 ≤ 1048576)
    (e1 : n1 = l1.length) (r1 : RdOp w w.heap.size A1 l1) (b1 : n1 ≤ 1048576) (k1 : n1 ≤ c1) (m1 : c1 ≤ maxLen) (q1 : ∀ o ∈ l1, okOp o.o) (z1 : szX l1 ≤ 2305850000000000000) (f1 : ∀ o ∈ l1, capO o)
    (e2 : n2 = l2.length) (r2 : RdOp w w.heap.size A2 l2) (b2 : n2 ≤ 1048576) (k2 : n2 ≤ c2) (m2 : c2 ≤ maxLen) (q2 : ∀ o ∈ l2, okOp o.o) (z2 : szX l2 ≤ 2305850000000000000) (f2 : ∀ o ∈ l2, capO o)
    (hp : ¬ p < 0 ∧ ¬ 536870912 < p) (hT : Lib.Utf8Tabs 1 2 w) :
    Calls Tryz.prog 7 #[.slice A0 n0 c0, .slice A1 n1 c1, .slice A2 n2 c2, .bool first, .int .i64 p] w fun e w' => e = .returned (.bool true) ∧ Below w.heap.size w w' := by
 obtain ⟨pn, rfl⟩ : ∃ pn : Nat, p = (pn : Int) := ⟨p.toNat, by omega⟩
 have hq0 : ¬ (pn : Int) < 0 := hp.1
 have hq1 : ¬ (536870912 : Int) < (pn : Int) := hp.2
 have HP : Hid (pn ≤ 536870912) := Lib.hid (by omega)
 clear hp
 have N0 := Lib.hid e0
 have R0 := Lib.hid r0
 have HT := Lib.hid hT
 have hx := Below.refl w.heap.size w
 have N1 := Lib.hid e1
 have R1 := Lib.hid r1
 have Q1 := Lib.hid q1
 have Z1 := Lib.hid z1
 have F1 := Lib.hid f1
 have N2 := Lib.hid e2
 have R2 := Lib.hid r2
 have Q2 := Lib.hid q2
 have Z2 := Lib.hid z2
 have F2 := Lib.hid f2
 clear e0 r0 hT e1 r1 q1 z1 f1 e2 r2 q2 z2 f2
 go_enter Tryz.func7, Tryz.ntmps7
 have ra : Rd SX.enc 1 _ _ _ [⟨A1, c1, l1⟩, ⟨A2, c2, l2⟩] := Rd.new (enc := SX.enc) (size := 1) (fun _ => rfl) w 44 [⟨A1, c1, l1⟩, ⟨A2, c2, l2⟩] (cs := #[.slice A1 n1 c1, .slice A2 n2 c2]) (by simp [SX.enc, ← N1.out, ← N2.out]) rfl
 have y := ext_alloc w (.cells #[.slice A1 n1 c1, .slice A2 n2 c2] 44)
 have R0 := Lib.hid (R0.out.ext y)
 have HT := Lib.hid (Utf8Tabs_below HT.out y)
 have R1 := Lib.hid (R1.out.ext y)
 have R2 := Lib.hid (R2.out.ext y)
 replace hx := ext_trans hx y
 clear y
 go_wp2_with (go_at_call 46; refine Hid.out ?_)
 refine Lib.hid ?_
 refine (great22_any A0 none (some ⟨w.heap.size, 0, none⟩) n0 c0 0 0 2 2 [] [⟨A1, c1, l1⟩, ⟨A2, c2, l2⟩] _ rfl ra (by omega) (by omega) (fun x hx => by
  simp only [List.mem_cons, List.not_mem_nil, or_false] at hx
  rcases hx with rfl | rfl
  ·exact ⟨R1.out, by have := N1.out; simp only; omega⟩
  ·exact ⟨R2.out, by have := N2.out; simp only; omega⟩) (by simp only [sumX, List.map_cons, List.map_nil, List.sum_cons, List.sum_nil]; have := Z1.out; have := Z2.out; omega) (fun x hx => by
  simp only [List.mem_cons, List.not_mem_nil, or_false] at hx
  rcases hx with rfl | rfl
  ·have := Z1.out; simp only; omega
  ·have := Z2.out; simp only; omega) rfl ⟨Rd.nil, fun z hz => by cases hz⟩ (by omega) (fun z hz => by cases hz)).mono ?_
 rintro e wn ⟨gb, rfl, h1, dr, hd⟩
 have y := drew_ext hd
 clear hd ra
 have R0 := Lib.hid (R0.out.ext y)
 have HT := Lib.hid (Utf8Tabs_below HT.out y)
 have R1 := Lib.hid (R1.out.ext y)
 have R2 := Lib.hid (R2.out.ext y)
 replace hx := ext_trans hx y
 clear y
 cases gb
 case true =>
  clear h1
  go_wp2_with (go_at_call 47; refine Hid.out ?_)
  refine Lib.hid ?_
  refine (known22_any _ HT.out).mono ?_
  rintro e w2 ⟨rfl, y⟩
  replace hx := ext_trans hx y
  go_wp2_with (fail)
  go_ret
  exact ⟨rfl, hx⟩
 have h2 := h1 rfl
 have G0 := Lib.hid h2.1
 have SZ : Hid (szX l1 + szX l2 ≤ 5000) := Lib.hid (by have h3 := h2.2.2.2; simp only [sumX, List.map_cons, List.map_nil, List.sum_cons, List.sum_nil] at h3; omega)
 clear h1 h2
 go_wp2_with (go_at_call 13; refine Hid.out ?_)
 refine Lib.hid ?_
 refine (new_any A0 n0 c0 l0 _ N0.out R0.out (by omega)).mono ?_
 rintro e wn ⟨y, ⟨hm, s, rfl, hS⟩ | ⟨hm, rfl⟩⟩
 all_goals
  have R0 := Lib.hid (R0.out.ext y)
  have HT := Lib.hid (Utf8Tabs_below HT.out y)
  have R1 := Lib.hid (R1.out.ext y)
  have R2 := Lib.hid (R2.out.ext y)
  replace hx := ext_trans hx y
  have HM := Lib.hid hm
  clear y hm
 rotate_left
 ·skip
  go_wp2_with (go_at_call 14; refine Hid.out ?_)
  refine Lib.hid ?_
  refine (mayR4_any A0 n0 c0 l0 _ N0.out R0.out (by omega)).mono ?_
  rw [HM.out]
  rintro e wn ⟨rfl, y⟩
  have R0 := Lib.hid (R0.out.ext y)
  have HT := Lib.hid (Utf8Tabs_below HT.out y)
  have R1 := Lib.hid (R1.out.ext y)
  have R2 := Lib.hid (R2.out.ext y)
  replace hx := ext_trans hx y
  clear y
  go_wp2_with (go_at_call 47; refine Hid.out ?_)
  refine Lib.hid ?_
  refine (known22_any _ HT.out).mono ?_
  rintro e w2 ⟨rfl, y⟩
  replace hx := ext_trans hx y
  go_wp2_with (fail)
  go_ret
  exact ⟨rfl, hx⟩
 have HS := Lib.hid hS
 clear hS
 have H64 : Hid (l0.length ≤ 64) := Lib.hid (by have := N0.out; have := G0.out; omega)
 have LX1 : Hid (l1.length ≤ 5000) := Lib.hid (by have := szX_len l1; have := SZ.out; omega)
 have O1 : Hid (OpsC _ A1 n1 c1 l1) := Lib.hid ⟨⟨R1.out, N1.out, Q1.out, by have := LX1.out; have := N1.out; omega⟩, k1, m1, F1.out⟩
 have LX2 : Hid (l2.length ≤ 5000) := Lib.hid (by have := szX_len l2; have := SZ.out; omega)
 have O2 : Hid (OpsC _ A2 n2 c2 l2) := Lib.hid ⟨⟨R2.out, N2.out, Q2.out, by have := LX2.out; have := N2.out; omega⟩, k2, m2, F2.out⟩
 go_wp2_with (go_at_call 32; refine Hid.out ?_)
 refine Lib.hid ?_
 refine (copy15D O1.out.at_).mono ?_
 rintro e wn ⟨A5, c5, P, rfl, h_1, o_1, y⟩
 have R0 := Lib.hid (R0.out.ext y)
 have HT := Lib.hid (Utf8Tabs_below HT.out y)
 have HS := Lib.hid (HS.out.ext y)
 have O1 := Lib.hid (O1.out.ext y)
 have O2 := Lib.hid (O2.out.ext y)
 replace hx := ext_trans hx y
 have O_P := Lib.hid o_1
 have E_P := Lib.hid h_1
 clear o_1 h_1
 clear y
 obtain ⟨nn, hn3⟩ : ∃ X, P.length = X := ⟨_, rfl⟩
 have N3 : nn = n1 := by rw [← hn3]; exact ((len_os E_P.out).trans O1.out.at_.len.symm)
 rw [hn3] at O_P ⊢
 clear hn3
 have n3e := N3.symm
 subst n3e
 clear N3
 go_wp2_with (go_at_call 32; refine Hid.out ?_)
 refine Lib.hid ?_
 refine (copy15D O2.out.at_).mono ?_
 rintro e wn ⟨A6, c6, Y, rfl, h_1, o_1, y⟩
 have R0 := Lib.hid (R0.out.ext y)
 have HT := Lib.hid (Utf8Tabs_below HT.out y)
 have HS := Lib.hid (HS.out.ext y)
 have O1 := Lib.hid (O1.out.ext y)
 have O2 := Lib.hid (O2.out.ext y)
 have O_P := Lib.hid (O_P.out.ext y)
 replace hx := ext_trans hx y
 have O_Y := Lib.hid o_1
 have E_Y := Lib.hid h_1
 clear o_1 h_1
 clear y
 obtain ⟨nn, hn3⟩ : ∃ X, Y.length = X := ⟨_, rfl⟩
 have N3 : nn = n2 := by rw [← hn3]; exact ((len_os E_Y.out).trans O2.out.at_.len.symm)
 rw [hn3] at O_Y ⊢
 clear hn3
 have n3e := N3.symm
 subst n3e
 clear N3
 obtain ⟨ma, hma⟩ : ∃ X, mayO l0 l1 = X := ⟨_, rfl⟩
 obtain ⟨mb, hmb⟩ : ∃ X, mayO l0 l2 = X := ⟨_, rfl⟩
 have M1 := Lib.hid hma
 have M2 := Lib.hid hmb
 have M3 : Hid (mayO l0 P = ma) := Lib.hid (by rw [mayO_os2 E_P.out]; exact hma)
 have M4 : Hid (mayO l0 Y = mb) := Lib.hid (by rw [mayO_os2 E_Y.out]; exact hmb)
 have V1 : Hid (ma = 0 ∨ ma = 3 ∨ ma = 4) := Lib.hid (hma ▸ mayO_vals22 l0 l1)
 have V2 : Hid (mb = 0 ∨ mb = 3 ∨ mb = 4) := Lib.hid (hmb ▸ mayO_vals22 l0 l2)
 clear hma hmb
 have ZP : Hid (szN P ≤ 50000) := Lib.hid (by have := szN_le P; have := szX_os E_P.out; have := SZ.out; omega)
 have ZY : Hid (szN Y ≤ 50000) := Lib.hid (by have := szN_le Y; have := szX_os E_Y.out; have := SZ.out; omega)
 have Z1 : Hid (szN l1 ≤ 50000) := Lib.hid (by have := szN_le l1; have := SZ.out; omega)
 have Z2 : Hid (szN l2 ≤ 50000) := Lib.hid (by have := szN_le l2; have := SZ.out; omega)
 obtain ⟨NN, hNN⟩ : ∃ X, posU first (nf (units (osOf l1))) pn = X := ⟨_, rfl⟩
 have HN1 := Lib.hid hNN
 have HNP : Hid (posU first (nf (units (osOf P))) pn = NN) := Lib.hid (by rw [E_P.out]; exact hNN)
 clear hNN
 have hnn : ((NN : Int) != (NN : Int)) = false := bne_self_eq_false _
 obtain ⟨wm1, hwm⟩ : ∃ X, X = wn := ⟨_, rfl⟩
 subst hwm
 have R0_1 := R0
 have HT_1 := HT
 have HS_1 := HS
 have O1_1 := O1
 have O2_1 := O2
 have O_P_1 := O_P
 have O_Y_1 := O_Y
 have hx_1 := hx
 by_cases h03 : ma = 0 ∧ mb = 3
 ·skip
  obtain ⟨h1, h2⟩ := h03
  subst h1
  subst h2
  go_wp2_with (go_at_call 48; refine Hid.out ?_)
  refine Lib.hid ?_
  refine (transformBad_any s l0 A5 A6 n1 c5 n2 c6 P Y first _ O_P.out.at_ O_Y.out.at_ HS.out HT.out (r := 3) (by unfold mayC; rw [M3.out, M4.out]; decide) (by decide)).mono ?_
  rintro e wn ⟨rfl, y⟩
  have R0 := Lib.hid (R0.out.ext y)
  have HT := Lib.hid (Utf8Tabs_below HT.out y)
  have HS := Lib.hid (HS.out.ext y)
  have O1 := Lib.hid (O1.out.ext y)
  have O2 := Lib.hid (O2.out.ext y)
  have O_P := Lib.hid (O_P.out.ext y)
  have O_Y := Lib.hid (O_Y.out.ext y)
  replace hx := ext_trans hx y
  clear y
  go_wp2_with (go_at_call 49; refine Hid.out ?_)
  refine Lib.hid ?_
  refine (position_any s l0 A5 n1 c5 P pn first _ O_P.out HS.out HT.out M3.out (by have := ZP.out; omega) HP.out).mono ?_
  rintro e wn ⟨rfl, y⟩
  have R0 := Lib.hid (R0.out.ext y)
  have HT := Lib.hid (Utf8Tabs_below HT.out y)
  have HS := Lib.hid (HS.out.ext y)
  have O1 := Lib.hid (O1.out.ext y)
  have O2 := Lib.hid (O2.out.ext y)
  have O_P := Lib.hid (O_P.out.ext y)
  have O_Y := Lib.hid (O_Y.out.ext y)
  replace hx := ext_trans hx y
  rw [HNP.out]
  clear y
  go_wp2_with (go_at_call 43; refine Hid.out ?_)
  refine Lib.hid ?_
  refine (mayKeysD N0.out R0.out (by omega) O1.out.at_ (by have := SZ.out; omega) HT.out M1.out).mono ?_
  rintro e wn ⟨rfl, y⟩
  have R0 := Lib.hid (R0.out.ext y)
  have HT := Lib.hid (Utf8Tabs_below HT.out y)
  have HS := Lib.hid (HS.out.ext y)
  have O1 := Lib.hid (O1.out.ext y)
  have O2 := Lib.hid (O2.out.ext y)
  have O_P := Lib.hid (O_P.out.ext y)
  have O_Y := Lib.hid (O_Y.out.ext y)
  replace hx := ext_trans hx y
  clear y
  go_wp2_with (go_at_call 43; refine Hid.out ?_)
  refine Lib.hid ?_
  refine (mayKeysD N0.out R0.out (by omega) O2.out.at_ (by have := SZ.out; omega) HT.out M2.out).mono ?_
  rintro e wn ⟨rfl, y⟩
  have R0 := Lib.hid (R0.out.ext y)
  have HT := Lib.hid (Utf8Tabs_below HT.out y)
  have HS := Lib.hid (HS.out.ext y)
  have O1 := Lib.hid (O1.out.ext y)
  have O2 := Lib.hid (O2.out.ext y)
  have O_P := Lib.hid (O_P.out.ext y)
  have O_Y := Lib.hid (O_Y.out.ext y)
  replace hx := ext_trans hx y
  clear y
  go_wp2_with (go_at_call 50; refine Hid.out ?_)
  refine Lib.hid ?_
  refine (pos22_any first pn O1.out M1.out (by have := Z1.out; omega) HP.out).mono ?_
  rintro e wn ⟨rfl, y⟩
  have R0 := Lib.hid (R0.out.ext y)
  have HT := Lib.hid (Utf8Tabs_below HT.out y)
  have HS := Lib.hid (HS.out.ext y)
  have O1 := Lib.hid (O1.out.ext y)
  have O2 := Lib.hid (O2.out.ext y)
  have O_P := Lib.hid (O_P.out.ext y)
  have O_Y := Lib.hid (O_Y.out.ext y)
  replace hx := ext_trans hx y
  rw [HN1.out]
  clear y
  go_wp2_with (go_at_call 47; refine Hid.out ?_)
  refine Lib.hid ?_
  refine (known22_any _ HT.out).mono ?_
  rintro e w2 ⟨rfl, y⟩
  replace hx := ext_trans hx y
  go_wp2_with (fail)
  go_ret
  exact ⟨rfl, hx⟩
 by_cases h04 : ma = 0 ∧ mb = 4
 ·skip
  obtain ⟨h1, h2⟩ := h04
  subst h1
  subst h2
  go_wp2_with (go_at_call 48; refine Hid.out ?_)
  refine Lib.hid ?_
  refine (transformBad_any s l0 A5 A6 n1 c5 n2 c6 P Y first _ O_P.out.at_ O_Y.out.at_ HS.out HT.out (r := 4) (by unfold mayC; rw [M3.out, M4.out]; decide) (by decide)).mono ?_
  rintro e wn ⟨rfl, y⟩
  have R0 := Lib.hid (R0.out.ext y)
  have HT := Lib.hid (Utf8Tabs_below HT.out y)
  have HS := Lib.hid (HS.out.ext y)
  have O1 := Lib.hid (O1.out.ext y)
  have O2 := Lib.hid (O2.out.ext y)
  have O_P := Lib.hid (O_P.out.ext y)
  have O_Y := Lib.hid (O_Y.out.ext y)
  replace hx := ext_trans hx y
  clear y
  go_wp2_with (go_at_call 49; refine Hid.out ?_)
  refine Lib.hid ?_
  refine (position_any s l0 A5 n1 c5 P pn first _ O_P.out HS.out HT.out M3.out (by have := ZP.out; omega) HP.out).mono ?_
  rintro e wn ⟨rfl, y⟩
  have R0 := Lib.hid (R0.out.ext y)
  have HT := Lib.hid (Utf8Tabs_below HT.out y)
  have HS := Lib.hid (HS.out.ext y)
  have O1 := Lib.hid (O1.out.ext y)
  have O2 := Lib.hid (O2.out.ext y)
  have O_P := Lib.hid (O_P.out.ext y)
  have O_Y := Lib.hid (O_Y.out.ext y)
  replace hx := ext_trans hx y
  rw [HNP.out]
  clear y
  go_wp2_with (go_at_call 43; refine Hid.out ?_)
  refine Lib.hid ?_
  refine (mayKeysD N0.out R0.out (by omega) O1.out.at_ (by have := SZ.out; omega) HT.out M1.out).mono ?_
  rintro e wn ⟨rfl, y⟩
  have R0 := Lib.hid (R0.out.ext y)
  have HT := Lib.hid (Utf8Tabs_below HT.out y)
  have HS := Lib.hid (HS.out.ext y)
  have O1 := Lib.hid (O1.out.ext y)
  have O2 := Lib.hid (O2.out.ext y)
  have O_P := Lib.hid (O_P.out.ext y)
  have O_Y := Lib.hid (O_Y.out.ext y)
  replace hx := ext_trans hx y
  clear y
  go_wp2_with (go_at_call 43; refine Hid.out ?_)
  refine Lib.hid ?_
  refine (mayKeysD N0.out R0.out (by omega) O2.out.at_ (by have := SZ.out; omega) HT.out M2.out).mono ?_
  rintro e wn ⟨rfl, y⟩
  have R0 := Lib.hid (R0.out.ext y)
  have HT := Lib.hid (Utf8Tabs_below HT.out y)
  have HS := Lib.hid (HS.out.ext y)
  have O1 := Lib.hid (O1.out.ext y)
  have O2 := Lib.hid (O2.out.ext y)
  have O_P := Lib.hid (O_P.out.ext y)
  have O_Y := Lib.hid (O_Y.out.ext y)
  replace hx := ext_trans hx y
  clear y
  go_wp2_with (go_at_call 50; refine Hid.out ?_)
  refine Lib.hid ?_
  refine (pos22_any first pn O1.out M1.out (by have := Z1.out; omega) HP.out).mono ?_
  rintro e wn ⟨rfl, y⟩
  have R0 := Lib.hid (R0.out.ext y)
  have HT := Lib.hid (Utf8Tabs_below HT.out y)
  have HS := Lib.hid (HS.out.ext y)
  have O1 := Lib.hid (O1.out.ext y)
  have O2 := Lib.hid (O2.out.ext y)
  have O_P := Lib.hid (O_P.out.ext y)
  have O_Y := Lib.hid (O_Y.out.ext y)
  replace hx := ext_trans hx y
  rw [HN1.out]
  clear y
  go_wp2_with (go_at_call 47; refine Hid.out ?_)
  refine Lib.hid ?_
  refine (known22_any _ HT.out).mono ?_
  rintro e w2 ⟨rfl, y⟩
  replace hx := ext_trans hx y
  go_wp2_with (fail)
  go_ret
  exact ⟨rfl, hx⟩
 by_cases h30 : ma = 3 ∧ mb = 0
 ·skip
  obtain ⟨h1, h2⟩ := h30
  subst h1
  subst h2
  go_wp2_with (go_at_call 48; refine Hid.out ?_)
  refine Lib.hid ?_
  refine (transformBad_any s l0 A5 A6 n1 c5 n2 c6 P Y first _ O_P.out.at_ O_Y.out.at_ HS.out HT.out (r := 3) (by unfold mayC; rw [M3.out, M4.out]; decide) (by decide)).mono ?_
  rintro e wn ⟨rfl, y⟩
  have R0 := Lib.hid (R0.out.ext y)
  have HT := Lib.hid (Utf8Tabs_below HT.out y)
  have HS := Lib.hid (HS.out.ext y)
  have O1 := Lib.hid (O1.out.ext y)
  have O2 := Lib.hid (O2.out.ext y)
  have O_P := Lib.hid (O_P.out.ext y)
  have O_Y := Lib.hid (O_Y.out.ext y)
  replace hx := ext_trans hx y
  clear y
  go_wp2_with (go_at_call 49; refine Hid.out ?_)
  refine Lib.hid ?_
  refine (posBad_any s l0 A5 n1 c5 P (pn : Int) first _ O_P.out.at_ HS.out HT.out (r := 3) M3.out (by decide)).mono ?_
  rintro e wn ⟨rfl, y⟩
  have R0 := Lib.hid (R0.out.ext y)
  have HT := Lib.hid (Utf8Tabs_below HT.out y)
  have HS := Lib.hid (HS.out.ext y)
  have O1 := Lib.hid (O1.out.ext y)
  have O2 := Lib.hid (O2.out.ext y)
  have O_P := Lib.hid (O_P.out.ext y)
  have O_Y := Lib.hid (O_Y.out.ext y)
  replace hx := ext_trans hx y
  clear y
  go_wp2_with (go_at_call 43; refine Hid.out ?_)
  refine Lib.hid ?_
  refine (mayKeysD N0.out R0.out (by omega) O1.out.at_ (by have := SZ.out; omega) HT.out M1.out).mono ?_
  rintro e wn ⟨rfl, y⟩
  have R0 := Lib.hid (R0.out.ext y)
  have HT := Lib.hid (Utf8Tabs_below HT.out y)
  have HS := Lib.hid (HS.out.ext y)
  have O1 := Lib.hid (O1.out.ext y)
  have O2 := Lib.hid (O2.out.ext y)
  have O_P := Lib.hid (O_P.out.ext y)
  have O_Y := Lib.hid (O_Y.out.ext y)
  replace hx := ext_trans hx y
  clear y
  go_wp2_with (go_at_call 43; refine Hid.out ?_)
  refine Lib.hid ?_
  refine (mayKeysD N0.out R0.out (by omega) O2.out.at_ (by have := SZ.out; omega) HT.out M2.out).mono ?_
  rintro e wn ⟨rfl, y⟩
  have R0 := Lib.hid (R0.out.ext y)
  have HT := Lib.hid (Utf8Tabs_below HT.out y)
  have HS := Lib.hid (HS.out.ext y)
  have O1 := Lib.hid (O1.out.ext y)
  have O2 := Lib.hid (O2.out.ext y)
  have O_P := Lib.hid (O_P.out.ext y)
  have O_Y := Lib.hid (O_Y.out.ext y)
  replace hx := ext_trans hx y
  clear y
  go_wp2_with (go_at_call 47; refine Hid.out ?_)
  refine Lib.hid ?_
  refine (known22_any _ HT.out).mono ?_
  rintro e w2 ⟨rfl, y⟩
  replace hx := ext_trans hx y
  go_wp2_with (fail)
  go_ret
  exact ⟨rfl, hx⟩
 by_cases h33 : ma = 3 ∧ mb = 3
 ·skip
  obtain ⟨h1, h2⟩ := h33
  subst h1
  subst h2
  go_wp2_with (go_at_call 48; refine Hid.out ?_)
  refine Lib.hid ?_
  refine (transformBad_any s l0 A5 A6 n1 c5 n2 c6 P Y first _ O_P.out.at_ O_Y.out.at_ HS.out HT.out (r := 3) (by unfold mayC; rw [M3.out, M4.out]; decide) (by decide)).mono ?_
  rintro e wn ⟨rfl, y⟩
  have R0 := Lib.hid (R0.out.ext y)
  have HT := Lib.hid (Utf8Tabs_below HT.out y)
  have HS := Lib.hid (HS.out.ext y)
  have O1 := Lib.hid (O1.out.ext y)
  have O2 := Lib.hid (O2.out.ext y)
  have O_P := Lib.hid (O_P.out.ext y)
  have O_Y := Lib.hid (O_Y.out.ext y)
  replace hx := ext_trans hx y
  clear y
  go_wp2_with (go_at_call 49; refine Hid.out ?_)
  refine Lib.hid ?_
  refine (posBad_any s l0 A5 n1 c5 P (pn : Int) first _ O_P.out.at_ HS.out HT.out (r := 3) M3.out (by decide)).mono ?_
  rintro e wn ⟨rfl, y⟩
  have R0 := Lib.hid (R0.out.ext y)
  have HT := Lib.hid (Utf8Tabs_below HT.out y)
  have HS := Lib.hid (HS.out.ext y)
  have O1 := Lib.hid (O1.out.ext y)
  have O2 := Lib.hid (O2.out.ext y)
  have O_P := Lib.hid (O_P.out.ext y)
  have O_Y := Lib.hid (O_Y.out.ext y)
  replace hx := ext_trans hx y
  clear y
  go_wp2_with (go_at_call 43; refine Hid.out ?_)
  refine Lib.hid ?_
  refine (mayKeysD N0.out R0.out (by omega) O1.out.at_ (by have := SZ.out; omega) HT.out M1.out).mono ?_
  rintro e wn ⟨rfl, y⟩
  have R0 := Lib.hid (R0.out.ext y)
  have HT := Lib.hid (Utf8Tabs_below HT.out y)
  have HS := Lib.hid (HS.out.ext y)
  have O1 := Lib.hid (O1.out.ext y)
  have O2 := Lib.hid (O2.out.ext y)
  have O_P := Lib.hid (O_P.out.ext y)
  have O_Y := Lib.hid (O_Y.out.ext y)
  replace hx := ext_trans hx y
  clear y
  go_wp2_with (go_at_call 43; refine Hid.out ?_)
  refine Lib.hid ?_
  refine (mayKeysD N0.out R0.out (by omega) O2.out.at_ (by have := SZ.out; omega) HT.out M2.out).mono ?_
  rintro e wn ⟨rfl, y⟩
  have R0 := Lib.hid (R0.out.ext y)
  have HT := Lib.hid (Utf8Tabs_below HT.out y)
  have HS := Lib.hid (HS.out.ext y)
  have O1 := Lib.hid (O1.out.ext y)
  have O2 := Lib.hid (O2.out.ext y)
  have O_P := Lib.hid (O_P.out.ext y)
  have O_Y := Lib.hid (O_Y.out.ext y)
  replace hx := ext_trans hx y
  clear y
  go_wp2_with (go_at_call 47; refine Hid.out ?_)
  refine Lib.hid ?_
  refine (known22_any _ HT.out).mono ?_
  rintro e w2 ⟨rfl, y⟩
  replace hx := ext_trans hx y
  go_wp2_with (fail)
  go_ret
  exact ⟨rfl, hx⟩
 by_cases h34 : ma = 3 ∧ mb = 4
 ·skip
  obtain ⟨h1, h2⟩ := h34
  subst h1
  subst h2
  go_wp2_with (go_at_call 48; refine Hid.out ?_)
  refine Lib.hid ?_
  refine (transformBad_any s l0 A5 A6 n1 c5 n2 c6 P Y first _ O_P.out.at_ O_Y.out.at_ HS.out HT.out (r := 3) (by unfold mayC; rw [M3.out, M4.out]; decide) (by decide)).mono ?_
  rintro e wn ⟨rfl, y⟩
  have R0 := Lib.hid (R0.out.ext y)
  have HT := Lib.hid (Utf8Tabs_below HT.out y)
  have HS := Lib.hid (HS.out.ext y)
  have O1 := Lib.hid (O1.out.ext y)
  have O2 := Lib.hid (O2.out.ext y)
  have O_P := Lib.hid (O_P.out.ext y)
  have O_Y := Lib.hid (O_Y.out.ext y)
  replace hx := ext_trans hx y
  clear y
  go_wp2_with (go_at_call 49; refine Hid.out ?_)
  refine Lib.hid ?_
  refine (posBad_any s l0 A5 n1 c5 P (pn : Int) first _ O_P.out.at_ HS.out HT.out (r := 3) M3.out (by decide)).mono ?_
  rintro e wn ⟨rfl, y⟩
  have R0 := Lib.hid (R0.out.ext y)
  have HT := Lib.hid (Utf8Tabs_below HT.out y)
  have HS := Lib.hid (HS.out.ext y)
  have O1 := Lib.hid (O1.out.ext y)
  have O2 := Lib.hid (O2.out.ext y)
  have O_P := Lib.hid (O_P.out.ext y)
  have O_Y := Lib.hid (O_Y.out.ext y)
  replace hx := ext_trans hx y
  clear y
  go_wp2_with (go_at_call 43; refine Hid.out ?_)
  refine Lib.hid ?_
  refine (mayKeysD N0.out R0.out (by omega) O1.out.at_ (by have := SZ.out; omega) HT.out M1.out).mono ?_
  rintro e wn ⟨rfl, y⟩
  have R0 := Lib.hid (R0.out.ext y)
  have HT := Lib.hid (Utf8Tabs_below HT.out y)
  have HS := Lib.hid (HS.out.ext y)
  have O1 := Lib.hid (O1.out.ext y)
  have O2 := Lib.hid (O2.out.ext y)
  have O_P := Lib.hid (O_P.out.ext y)
  have O_Y := Lib.hid (O_Y.out.ext y)
  replace hx := ext_trans hx y
  clear y
  go_wp2_with (go_at_call 43; refine Hid.out ?_)
  refine Lib.hid ?_
  refine (mayKeysD N0.out R0.out (by omega) O2.out.at_ (by have := SZ.out; omega) HT.out M2.out).mono ?_
  rintro e wn ⟨rfl, y⟩
  have R0 := Lib.hid (R0.out.ext y)
  have HT := Lib.hid (Utf8Tabs_below HT.out y)
  have HS := Lib.hid (HS.out.ext y)
  have O1 := Lib.hid (O1.out.ext y)
  have O2 := Lib.hid (O2.out.ext y)
  have O_P := Lib.hid (O_P.out.ext y)
  have O_Y := Lib.hid (O_Y.out.ext y)
  replace hx := ext_trans hx y
  clear y
  go_wp2_with (go_at_call 47; refine Hid.out ?_)
  refine Lib.hid ?_
  refine (known22_any _ HT.out).mono ?_
  rintro e w2 ⟨rfl, y⟩
  replace hx := ext_trans hx y
  go_wp2_with (fail)
  go_ret
  exact ⟨rfl, hx⟩
 by_cases h40 : ma = 4 ∧ mb = 0
 ·skip
  obtain ⟨h1, h2⟩ := h40
  subst h1
  subst h2
  go_wp2_with (go_at_call 48; refine Hid.out ?_)
  refine Lib.hid ?_
  refine (transformBad_any s l0 A5 A6 n1 c5 n2 c6 P Y first _ O_P.out.at_ O_Y.out.at_ HS.out HT.out (r := 4) (by unfold mayC; rw [M3.out, M4.out]; decide) (by decide)).mono ?_
  rintro e wn ⟨rfl, y⟩
  have R0 := Lib.hid (R0.out.ext y)
  have HT := Lib.hid (Utf8Tabs_below HT.out y)
  have HS := Lib.hid (HS.out.ext y)
  have O1 := Lib.hid (O1.out.ext y)
  have O2 := Lib.hid (O2.out.ext y)
  have O_P := Lib.hid (O_P.out.ext y)
  have O_Y := Lib.hid (O_Y.out.ext y)
  replace hx := ext_trans hx y
  clear y
  go_wp2_with (go_at_call 49; refine Hid.out ?_)
  refine Lib.hid ?_
  refine (posBad_any s l0 A5 n1 c5 P (pn : Int) first _ O_P.out.at_ HS.out HT.out (r := 4) M3.out (by decide)).mono ?_
  rintro e wn ⟨rfl, y⟩
  have R0 := Lib.hid (R0.out.ext y)
  have HT := Lib.hid (Utf8Tabs_below HT.out y)
  have HS := Lib.hid (HS.out.ext y)
  have O1 := Lib.hid (O1.out.ext y)
  have O2 := Lib.hid (O2.out.ext y)
  have O_P := Lib.hid (O_P.out.ext y)
  have O_Y := Lib.hid (O_Y.out.ext y)
  replace hx := ext_trans hx y
  clear y
  go_wp2_with (go_at_call 43; refine Hid.out ?_)
  refine Lib.hid ?_
  refine (mayKeysD N0.out R0.out (by omega) O1.out.at_ (by have := SZ.out; omega) HT.out M1.out).mono ?_
  rintro e wn ⟨rfl, y⟩
  have R0 := Lib.hid (R0.out.ext y)
  have HT := Lib.hid (Utf8Tabs_below HT.out y)
  have HS := Lib.hid (HS.out.ext y)
  have O1 := Lib.hid (O1.out.ext y)
  have O2 := Lib.hid (O2.out.ext y)
  have O_P := Lib.hid (O_P.out.ext y)
  have O_Y := Lib.hid (O_Y.out.ext y)
  replace hx := ext_trans hx y
  clear y
  go_wp2_with (go_at_call 43; refine Hid.out ?_)
  refine Lib.hid ?_
  refine (mayKeysD N0.out R0.out (by omega) O2.out.at_ (by have := SZ.out; omega) HT.out M2.out).mono ?_
  rintro e wn ⟨rfl, y⟩
  have R0 := Lib.hid (R0.out.ext y)
  have HT := Lib.hid (Utf8Tabs_below HT.out y)
  have HS := Lib.hid (HS.out.ext y)
  have O1 := Lib.hid (O1.out.ext y)
  have O2 := Lib.hid (O2.out.ext y)
  have O_P := Lib.hid (O_P.out.ext y)
  have O_Y := Lib.hid (O_Y.out.ext y)
  replace hx := ext_trans hx y
  clear y
  go_wp2_with (go_at_call 47; refine Hid.out ?_)
  refine Lib.hid ?_
  refine (known22_any _ HT.out).mono ?_
  rintro e w2 ⟨rfl, y⟩
  replace hx := ext_trans hx y
  go_wp2_with (fail)
  go_ret
  exact ⟨rfl, hx⟩
 by_cases h43 : ma = 4 ∧ mb = 3
 ·skip
  obtain ⟨h1, h2⟩ := h43
  subst h1
  subst h2
  go_wp2_with (go_at_call 48; refine Hid.out ?_)
  refine Lib.hid ?_
  refine (transformBad_any s l0 A5 A6 n1 c5 n2 c6 P Y first _ O_P.out.at_ O_Y.out.at_ HS.out HT.out (r := 3) (by unfold mayC; rw [M3.out, M4.out]; decide) (by decide)).mono ?_
  rintro e wn ⟨rfl, y⟩
  have R0 := Lib.hid (R0.out.ext y)
  have HT := Lib.hid (Utf8Tabs_below HT.out y)
  have HS := Lib.hid (HS.out.ext y)
  have O1 := Lib.hid (O1.out.ext y)
  have O2 := Lib.hid (O2.out.ext y)
  have O_P := Lib.hid (O_P.out.ext y)
  have O_Y := Lib.hid (O_Y.out.ext y)
  replace hx := ext_trans hx y
  clear y
  go_wp2_with (go_at_call 49; refine Hid.out ?_)
  refine Lib.hid ?_
  refine (posBad_any s l0 A5 n1 c5 P (pn : Int) first _ O_P.out.at_ HS.out HT.out (r := 4) M3.out (by decide)).mono ?_
  rintro e wn ⟨rfl, y⟩
  have R0 := Lib.hid (R0.out.ext y)
  have HT := Lib.hid (Utf8Tabs_below HT.out y)
  have HS := Lib.hid (HS.out.ext y)
  have O1 := Lib.hid (O1.out.ext y)
  have O2 := Lib.hid (O2.out.ext y)
  have O_P := Lib.hid (O_P.out.ext y)
  have O_Y := Lib.hid (O_Y.out.ext y)
  replace hx := ext_trans hx y
  clear y
  go_wp2_with (go_at_call 43; refine Hid.out ?_)
  refine Lib.hid ?_
  refine (mayKeysD N0.out R0.out (by omega) O1.out.at_ (by have := SZ.out; omega) HT.out M1.out).mono ?_
  rintro e wn ⟨rfl, y⟩
  have R0 := Lib.hid (R0.out.ext y)
  have HT := Lib.hid (Utf8Tabs_below HT.out y)
  have HS := Lib.hid (HS.out.ext y)
  have O1 := Lib.hid (O1.out.ext y)
  have O2 := Lib.hid (O2.out.ext y)
  have O_P := Lib.hid (O_P.out.ext y)
  have O_Y := Lib.hid (O_Y.out.ext y)
  replace hx := ext_trans hx y
  clear y
  go_wp2_with (go_at_call 43; refine Hid.out ?_)
  refine Lib.hid ?_
  refine (mayKeysD N0.out R0.out (by omega) O2.out.at_ (by have := SZ.out; omega) HT.out M2.out).mono ?_
  rintro e wn ⟨rfl, y⟩
  have R0 := Lib.hid (R0.out.ext y)
  have HT := Lib.hid (Utf8Tabs_below HT.out y)
  have HS := Lib.hid (HS.out.ext y)
  have O1 := Lib.hid (O1.out.ext y)
  have O2 := Lib.hid (O2.out.ext y)
  have O_P := Lib.hid (O_P.out.ext y)
  have O_Y := Lib.hid (O_Y.out.ext y)
  replace hx := ext_trans hx y
  clear y
  go_wp2_with (go_at_call 47; refine Hid.out ?_)
  refine Lib.hid ?_
  refine (known22_any _ HT.out).mono ?_
  rintro e w2 ⟨rfl, y⟩
  replace hx := ext_trans hx y
  go_wp2_with (fail)
  go_ret
  exact ⟨rfl, hx⟩
 by_cases h44 : ma = 4 ∧ mb = 4
 ·skip
  obtain ⟨h1, h2⟩ := h44
  subst h1
  subst h2
  go_wp2_with (go_at_call 48; refine Hid.out ?_)
  refine Lib.hid ?_
  refine (transformBad_any s l0 A5 A6 n1 c5 n2 c6 P Y first _ O_P.out.at_ O_Y.out.at_ HS.out HT.out (r := 4) (by unfold mayC; rw [M3.out, M4.out]; decide) (by decide)).mono ?_
  rintro e wn ⟨rfl, y⟩
  have R0 := Lib.hid (R0.out.ext y)
  have HT := Lib.hid (Utf8Tabs_below HT.out y)
  have HS := Lib.hid (HS.out.ext y)
  have O1 := Lib.hid (O1.out.ext y)
  have O2 := Lib.hid (O2.out.ext y)
  have O_P := Lib.hid (O_P.out.ext y)
  have O_Y := Lib.hid (O_Y.out.ext y)
  replace hx := ext_trans hx y
  clear y
  go_wp2_with (go_at_call 49; refine Hid.out ?_)
  refine Lib.hid ?_
  refine (posBad_any s l0 A5 n1 c5 P (pn : Int) first _ O_P.out.at_ HS.out HT.out (r := 4) M3.out (by decide)).mono ?_
  rintro e wn ⟨rfl, y⟩
  have R0 := Lib.hid (R0.out.ext y)
  have HT := Lib.hid (Utf8Tabs_below HT.out y)
  have HS := Lib.hid (HS.out.ext y)
  have O1 := Lib.hid (O1.out.ext y)
  have O2 := Lib.hid (O2.out.ext y)
  have O_P := Lib.hid (O_P.out.ext y)
  have O_Y := Lib.hid (O_Y.out.ext y)
  replace hx := ext_trans hx y
  clear y
  go_wp2_with (go_at_call 43; refine Hid.out ?_)
  refine Lib.hid ?_
  refine (mayKeysD N0.out R0.out (by omega) O1.out.at_ (by have := SZ.out; omega) HT.out M1.out).mono ?_
  rintro e wn ⟨rfl, y⟩
  have R0 := Lib.hid (R0.out.ext y)
  have HT := Lib.hid (Utf8Tabs_below HT.out y)
  have HS := Lib.hid (HS.out.ext y)
  have O1 := Lib.hid (O1.out.ext y)
  have O2 := Lib.hid (O2.out.ext y)
  have O_P := Lib.hid (O_P.out.ext y)
  have O_Y := Lib.hid (O_Y.out.ext y)
  replace hx := ext_trans hx y
  clear y
  go_wp2_with (go_at_call 43; refine Hid.out ?_)
  refine Lib.hid ?_
  refine (mayKeysD N0.out R0.out (by omega) O2.out.at_ (by have := SZ.out; omega) HT.out M2.out).mono ?_
  rintro e wn ⟨rfl, y⟩
  have R0 := Lib.hid (R0.out.ext y)
  have HT := Lib.hid (Utf8Tabs_below HT.out y)
  have HS := Lib.hid (HS.out.ext y)
  have O1 := Lib.hid (O1.out.ext y)
  have O2 := Lib.hid (O2.out.ext y)
  have O_P := Lib.hid (O_P.out.ext y)
  have O_Y := Lib.hid (O_Y.out.ext y)
  replace hx := ext_trans hx y
  clear y
  go_wp2_with (go_at_call 47; refine Hid.out ?_)
  refine Lib.hid ?_
  refine (known22_any _ HT.out).mono ?_
  rintro e w2 ⟨rfl, y⟩
  replace hx := ext_trans hx y
  go_wp2_with (fail)
  go_ret
  exact ⟨rfl, hx⟩
 have hz : ma = 0 ∧ mb = 0 := by
  have := V1.out; have := V2.out; omega
 clear h03 h04 h30 h33 h34 h40 h43 h44
 obtain ⟨h1, h2⟩ := hz
 subst h1
 subst h2
 go_wp2_with (go_at_call 48; refine Hid.out ?_)
 refine Lib.hid ?_
 refine (transformAll_any s l0 A5 A6 n1 c5 n2 c6 P Y first _ O_P.out O_Y.out HS.out H64.out HT.out M3.out M4.out ZP.out ZY.out).mono ?_
 rintro e wn ⟨z, hz, y, hzb, ⟨hsm, A7, c7, rfl, oz, wz⟩ | ⟨hbad, rfl⟩⟩
 ·skip
  have R0 := Lib.hid (R0.out.ext y)
  have HT := Lib.hid (Utf8Tabs_below HT.out y)
  have HS := Lib.hid (HS.out.ext y)
  have O1 := Lib.hid (O1.out.ext y)
  have O2 := Lib.hid (O2.out.ext y)
  have O_P := Lib.hid (O_P.out.ext y)
  have O_Y := Lib.hid (O_Y.out.ext y)
  replace hx := ext_trans hx y
  have W_K := Lib.hid wz
  have O_7 := Lib.hid oz
  have E_7 := Lib.hid hz
  have YB := Lib.hid y
  clear wz oz hz y hsm hzb
  obtain ⟨n7, hn7⟩ : ∃ X, z.length = X := ⟨_, rfl⟩
  have N7 := Lib.hid hn7
  have S_7 : Hid (∀ o ∈ z, o.o.r.length ≤ 100000000 ∧ o.o.s.length ≤ 100000000 ∧ o.o.p.length ≤ 100000000) := Lib.hid (fun o ho => (O_7.out.at_.ok o ho).2.2)
  rw [hn7] at W_K O_7 ⊢
  clear hn7
  have B7 : Hid (n7 ≤ 1000000) := Lib.hid O_7.out.at_.b
  go_wp2_with (go_at_call 49; refine Hid.out ?_)
  refine Lib.hid ?_
  refine (position_any s l0 A5 n1 c5 P pn first _ O_P.out HS.out HT.out M3.out (by have := ZP.out; omega) HP.out).mono ?_
  rintro e wn ⟨rfl, y⟩
  have W_K := Lib.hid (W_K.out.below y)
  have YB := Lib.hid (ext_trans YB.out y)
  have R0 := Lib.hid (R0.out.ext y)
  have HT := Lib.hid (Utf8Tabs_below HT.out y)
  have HS := Lib.hid (HS.out.ext y)
  have O1 := Lib.hid (O1.out.ext y)
  have O2 := Lib.hid (O2.out.ext y)
  have O_P := Lib.hid (O_P.out.ext y)
  have O_Y := Lib.hid (O_Y.out.ext y)
  have O_7 := Lib.hid (O_7.out.ext y)
  replace hx := ext_trans hx y
  rw [HNP.out]
  clear y
  go_wp2_with (go_at_call 43; refine Hid.out ?_)
  refine Lib.hid ?_
  refine (mayKeysD N0.out R0.out (by omega) O1.out.at_ (by have := SZ.out; omega) HT.out M1.out).mono ?_
  rintro e wn ⟨rfl, y⟩
  have W_K := Lib.hid (W_K.out.below y)
  have YB := Lib.hid (ext_trans YB.out y)
  have R0 := Lib.hid (R0.out.ext y)
  have HT := Lib.hid (Utf8Tabs_below HT.out y)
  have HS := Lib.hid (HS.out.ext y)
  have O1 := Lib.hid (O1.out.ext y)
  have O2 := Lib.hid (O2.out.ext y)
  have O_P := Lib.hid (O_P.out.ext y)
  have O_Y := Lib.hid (O_Y.out.ext y)
  have O_7 := Lib.hid (O_7.out.ext y)
  replace hx := ext_trans hx y
  clear y
  go_wp2_with (go_at_call 43; refine Hid.out ?_)
  refine Lib.hid ?_
  refine (mayKeysD N0.out R0.out (by omega) O2.out.at_ (by have := SZ.out; omega) HT.out M2.out).mono ?_
  rintro e wn ⟨rfl, y⟩
  have W_K := Lib.hid (W_K.out.below y)
  have YB := Lib.hid (ext_trans YB.out y)
  have R0 := Lib.hid (R0.out.ext y)
  have HT := Lib.hid (Utf8Tabs_below HT.out y)
  have HS := Lib.hid (HS.out.ext y)
  have O1 := Lib.hid (O1.out.ext y)
  have O2 := Lib.hid (O2.out.ext y)
  have O_P := Lib.hid (O_P.out.ext y)
  have O_Y := Lib.hid (O_Y.out.ext y)
  have O_7 := Lib.hid (O_7.out.ext y)
  replace hx := ext_trans hx y
  clear y
  go_wp2_with (go_at_call 50; refine Hid.out ?_)
  refine Lib.hid ?_
  refine (pos22_any first pn O1.out M1.out (by have := Z1.out; omega) HP.out).mono ?_
  rintro e wn ⟨rfl, y⟩
  have W_K := Lib.hid (W_K.out.below y)
  have YB := Lib.hid (ext_trans YB.out y)
  have R0 := Lib.hid (R0.out.ext y)
  have HT := Lib.hid (Utf8Tabs_below HT.out y)
  have HS := Lib.hid (HS.out.ext y)
  have O1 := Lib.hid (O1.out.ext y)
  have O2 := Lib.hid (O2.out.ext y)
  have O_P := Lib.hid (O_P.out.ext y)
  have O_Y := Lib.hid (O_Y.out.ext y)
  have O_7 := Lib.hid (O_7.out.ext y)
  replace hx := ext_trans hx y
  rw [HN1.out]
  clear y
  go_wp2_with (go_at_call 51; refine Hid.out ?_)
  refine Lib.hid ?_
  refine (small22_any 3000 O1.out O2.out M1.out M2.out (by omega)).mono ?_
  rintro e wn ⟨b1, rfl, hb1, y⟩
  have W_K := Lib.hid (W_K.out.below y)
  have YB := Lib.hid (ext_trans YB.out y)
  have R0 := Lib.hid (R0.out.ext y)
  have HT := Lib.hid (Utf8Tabs_below HT.out y)
  have HS := Lib.hid (HS.out.ext y)
  have O1 := Lib.hid (O1.out.ext y)
  have O2 := Lib.hid (O2.out.ext y)
  have O_P := Lib.hid (O_P.out.ext y)
  have O_Y := Lib.hid (O_Y.out.ext y)
  have O_7 := Lib.hid (O_7.out.ext y)
  replace hx := ext_trans hx y
  have HB1 := Lib.hid hb1
  clear hb1
  clear y
  cases b1
  ·skip
   clear HB1
   clear O_7
   go_wp2_with (fail)
   go_loopg [154] n7 (fun g iv wr => ∃ m : Nat, m ≤ n7 ∧ g = n7 - m ∧ iv = .int .i64 (m : Int) ∧ Hid (WrO wr wm1.heap.size A7 n7 c7 z) ∧ Below wm1.heap.size wm1 wr)
   case atStart => exact ⟨0, Nat.zero_le _, rfl, rfl, W_K, YB.out⟩
   case round =>
    obtain ⟨m, hm, hg, rfl, HW, y⟩ := hrel
    have HG := Lib.hid hg
    clear hg
    by_cases hlt : m < n7
    ·have hlt' : (m : Int) < (n7 : Int) := by omega
     obtain ⟨ad, x, had, hxm, hc⟩ := HW.out.el hlt
     subst had
     have HX := Lib.hid hxm
     have SB := Lib.hid (S_7.out x (List.mem_of_getElem? hxm))
     obtain ⟨⟨ok, on, r8, s8, p8⟩, Ar, cr, As, cs, Ap, cp⟩ := x
     try simp only at SB
     have hw2 : IntKind.i64.wrap ((m : Int) + 1) = (m : Int) + 1 := IntWalk.i64_in _ (by have := B7.out; omega)
     have HLT := Lib.hid hlt
     clear hxm hc hlt
     obtain ⟨kR, hk8⟩ : ∃ X, r8.length = X := ⟨_, rfl⟩
     have KR := Lib.hid hk8
     have BR : Hid (kR ≤ 100000000) := Lib.hid (by have := SB.out; have := KR.out; omega)
     clear hk8
     obtain ⟨kP, hk8⟩ : ∃ X, p8.length = X := ⟨_, rfl⟩
     have KP := Lib.hid hk8
     have BP : Hid (kP ≤ 100000000) := Lib.hid (by have := SB.out; have := KP.out; omega)
     clear hk8
     obtain ⟨wv, hwv⟩ : ∃ X, X = wr := ⟨_, rfl⟩
     subst hwv
     obtain ⟨-, -, z2, -, -⟩ := op_cells (HW.out.cells HLT.out HX.out)
     simp only at z2
     rw [KR.out] at z2
     go_wp2_with (fail)
     clear z2
     go_loopg [163] kR (fun g iv wr => ∃ j : Nat, j ≤ kR ∧ g = kR - j ∧ iv = .int .i64 (j : Int) ∧ Hid (WrO wr wm1.heap.size (some ad) n7 c7 z) ∧ Below wm1.heap.size wm1 wr)
     case atStart => exact ⟨0, Nat.zero_le _, rfl, rfl, HW, y⟩
     case round =>
      clear HW y
      obtain ⟨j, hj, hg, rfl, HW, y⟩ := hrel
      have HG2 := Lib.hid hg
      clear hg
      by_cases hlj : j < kR
      ·have hlj' : (j : Int) < (kR : Int) := by omega
       obtain ⟨g9, q9, hAs, hb9, c9, f9, hS9⟩ := HW.out.keyR HX.out (j := j) (by have := KR.out; simp only; omega)
       obtain ⟨-, -, z2, -, -⟩ := op_cells (HW.out.cells HLT.out HX.out)
       simp only at hAs z2
       subst hAs
       rw [KR.out] at z2
       have hw3 : IntKind.i64.wrap ((j : Int) + 1) = (j : Int) + 1 := IntWalk.i64_in _ (by have := BR.out; omega)
       obtain ⟨q8, hq8⟩ : ∃ X, IntKind.i32.wrap (q9 + 1) = X := ⟨_, rfl⟩
       have HS9 := Lib.hid (hS9 q8)
       have YC := Lib.hid (setCell_up y hb9 (j) (.int .i32 q8))
       clear hS9
       go_wp2_with (fail)
       go_roundg (kR - (j + 1))
       case measure => have := HG2.out; clear hw2 hw3; omega
       case rel => exact ⟨j + 1, by clear hw2 hw3; omega, rfl, by go_num, HS9, YC.out⟩
      have hlj' : ¬ (j : Int) < (kR : Int) := by omega
      obtain ⟨wv, hwv⟩ : ∃ X, X = wr := ⟨_, rfl⟩
      subst hwv
      obtain ⟨-, -, -, -, z4⟩ := op_cells (HW.out.cells HLT.out HX.out)
      simp only at z4
      rw [KP.out] at z4
      go_wp2_with (fail)
      clear z4
      go_loopg [183] kP (fun g iv wr => ∃ j : Nat, j ≤ kP ∧ g = kP - j ∧ iv = .int .i64 (j : Int) ∧ Hid (WrO wr wm1.heap.size (some ad) n7 c7 z) ∧ Below wm1.heap.size wm1 wr)
      case atStart => exact ⟨0, Nat.zero_le _, rfl, rfl, HW, y⟩
      case round =>
       clear HW y
       obtain ⟨j, hj, hg, rfl, HW, y⟩ := hrel
       have HG2 := Lib.hid hg
       clear hg
       by_cases hlj : j < kP
       ·have hlj' : (j : Int) < (kP : Int) := by omega
        obtain ⟨g9, q9, hAs, hb9, c9, f9, hS9⟩ := HW.out.keyP HX.out (j := j) (by have := KP.out; simp only; omega)
        obtain ⟨-, -, -, -, z4⟩ := op_cells (HW.out.cells HLT.out HX.out)
        simp only at hAs z4
        subst hAs
        rw [KP.out] at z4
        have hw3 : IntKind.i64.wrap ((j : Int) + 1) = (j : Int) + 1 := IntWalk.i64_in _ (by have := BP.out; omega)
        obtain ⟨q8, hq8⟩ : ∃ X, IntKind.i64.wrap (q9 + 1) = X := ⟨_, rfl⟩
        have HS9 := Lib.hid (hS9 q8)
        have YC := Lib.hid (setCell_up y hb9 (j * 6) (.int .i64 q8))
        clear hS9
        go_wp2_with (fail)
        go_roundg (kP - (j + 1))
        case measure => have := HG2.out; clear hw2 hw3; omega
        case rel => exact ⟨j + 1, by clear hw2 hw3; omega, rfl, by go_num, HS9, YC.out⟩
       have hlj' : ¬ (j : Int) < (kP : Int) := by omega
       go_wp2_with (fail)
       go_roundg (n7 - (m + 1))
       case measure => have := HG.out; have := HLT.out; clear hw2; omega
       case rel => exact ⟨m + 1, by have := HLT.out; clear hw2; omega, rfl, by go_num, HW, y⟩
    have hlt' : ¬ (m : Int) < (n7 : Int) := by omega
    clear HG
    obtain ⟨wn, hwv⟩ : ∃ X, X = wr := ⟨_, rfl⟩
    subst hwv
    go_wp2_with (fail)
    clear W_K YB HW
    clear R0
    clear HT
    clear HS
    clear O1
    clear O2
    clear O_P
    clear O_Y
    clear hx
    have R0 := Lib.hid (R0_1.out.ext y)
    have HT := Lib.hid (Utf8Tabs_below HT_1.out y)
    have HS := Lib.hid (HS_1.out.ext y)
    have O1 := Lib.hid (O1_1.out.ext y)
    have O2 := Lib.hid (O2_1.out.ext y)
    have O_P := Lib.hid (O_P_1.out.ext y)
    have O_Y := Lib.hid (O_Y_1.out.ext y)
    have hx := ext_trans hx_1 y
    clear R0_1
    clear HT_1
    clear HS_1
    clear O1_1
    clear O2_1
    clear O_P_1
    clear O_Y_1
    clear hx_1
    clear y hlt hlt'
    go_wp2_with (go_at_call 22; refine Hid.out ?_)
    refine Lib.hid ?_
    refine (same15D O_P.out.at_ O1.out.at_ (decide_eq_true E_P.out)).mono ?_
    rintro e wn ⟨rfl, y⟩
    have R0 := Lib.hid (R0.out.ext y)
    have HT := Lib.hid (Utf8Tabs_below HT.out y)
    have HS := Lib.hid (HS.out.ext y)
    have O1 := Lib.hid (O1.out.ext y)
    have O2 := Lib.hid (O2.out.ext y)
    have O_P := Lib.hid (O_P.out.ext y)
    have O_Y := Lib.hid (O_Y.out.ext y)
    replace hx := ext_trans hx y
    clear y
    go_wp2_with (go_at_call 22; refine Hid.out ?_)
    refine Lib.hid ?_
    refine (same15D O_Y.out.at_ O2.out.at_ (decide_eq_true E_Y.out)).mono ?_
    rintro e wn ⟨rfl, y⟩
    have R0 := Lib.hid (R0.out.ext y)
    have HT := Lib.hid (Utf8Tabs_below HT.out y)
    have HS := Lib.hid (HS.out.ext y)
    have O1 := Lib.hid (O1.out.ext y)
    have O2 := Lib.hid (O2.out.ext y)
    have O_P := Lib.hid (O_P.out.ext y)
    have O_Y := Lib.hid (O_Y.out.ext y)
    replace hx := ext_trans hx y
    clear y
    go_wp2_with (go_at_call 47; refine Hid.out ?_)
    refine Lib.hid ?_
    refine (known22_any _ HT.out).mono ?_
    rintro e w2 ⟨rfl, y⟩
    replace hx := ext_trans hx y
    go_wp2_with (fail)
    go_ret
    exact ⟨rfl, hx⟩
  replace HB1 := Lib.hid (HB1.out rfl)
  go_wp2_with (go_at_call 52; refine Hid.out ?_)
  refine Lib.hid ?_
  refine (tran22_any first O1.out O2.out M1.out M2.out (by have := Z1.out; omega) (by have := Z2.out; omega) (by have := HB1.out.1; omega) (by have := HB1.out.2; omega)).mono ?_
  rintro e wn ⟨A8, c8, X8, rfl, h8, o8, p8, y⟩
  have W_K := Lib.hid (W_K.out.below y)
  have YB := Lib.hid (ext_trans YB.out y)
  have R0 := Lib.hid (R0.out.ext y)
  have HT := Lib.hid (Utf8Tabs_below HT.out y)
  have HS := Lib.hid (HS.out.ext y)
  have O1 := Lib.hid (O1.out.ext y)
  have O2 := Lib.hid (O2.out.ext y)
  have O_P := Lib.hid (O_P.out.ext y)
  have O_Y := Lib.hid (O_Y.out.ext y)
  have O_7 := Lib.hid (O_7.out.ext y)
  replace hx := ext_trans hx y
  have R_8 := Lib.hid (rd_made o8 p8)
  have E_8 : Hid (osOf z = osOf X8) := Lib.hid (by rw [h8, E_7.out, E_P.out, E_Y.out])
  clear y h8 o8 p8
  have LN8 := Lib.hid (len_os E_8.out)
  have S_8 : Hid (∀ o ∈ X8, o.o.r.length ≤ 100000000 ∧ o.o.s.length ≤ 100000000 ∧ o.o.p.length ≤ 100000000) := Lib.hid (os_all22 (P := fun o => o.r.length ≤ 100000000 ∧ o.s.length ≤ 100000000 ∧ o.p.length ≤ 100000000) E_8.out S_7.out)
  obtain ⟨n8, hn8⟩ : ∃ X, X8.length = X := ⟨_, rfl⟩
  have N8 := Lib.hid hn8
  rw [hn8]
  have N87 : Hid (n8 = n7) := Lib.hid (by rw [← hn8, ← LN8.out, N7.out])
  clear hn8
  go_wp2_with (go_at_call 22; refine Hid.out ?_)
  refine Lib.hid ?_
  refine (same15_any A7 A8 n7 n8 c7 c8 z X8 _ N7.out.symm N8.out.symm O_7.out.at_.rd R_8.out (by have := B7.out; omega) (by have := B7.out; have := N87.out; omega) S_7.out S_8.out).mono ?_
  rw [decide_eq_true E_8.out]
  rintro e wn ⟨rfl, y⟩
  have W_K := Lib.hid (W_K.out.below y)
  have YB := Lib.hid (ext_trans YB.out y)
  have R0 := Lib.hid (R0.out.ext y)
  have HT := Lib.hid (Utf8Tabs_below HT.out y)
  have HS := Lib.hid (HS.out.ext y)
  have O1 := Lib.hid (O1.out.ext y)
  have O2 := Lib.hid (O2.out.ext y)
  have O_P := Lib.hid (O_P.out.ext y)
  have O_Y := Lib.hid (O_Y.out.ext y)
  have O_7 := Lib.hid (O_7.out.ext y)
  have R_8 := Lib.hid (R_8.out.ext y)
  replace hx := ext_trans hx y
  clear y
  clear E_8 LN8 S_8 R_8 N8 N87 HB1
  clear O_7
  go_wp2_with (fail)
  go_loopg [154] n7 (fun g iv wr => ∃ m : Nat, m ≤ n7 ∧ g = n7 - m ∧ iv = .int .i64 (m : Int) ∧ Hid (WrO wr wm1.heap.size A7 n7 c7 z) ∧ Below wm1.heap.size wm1 wr)
  case atStart => exact ⟨0, Nat.zero_le _, rfl, rfl, W_K, YB.out⟩
  case round =>
   obtain ⟨m, hm, hg, rfl, HW, y⟩ := hrel
   have HG := Lib.hid hg
   clear hg
   by_cases hlt : m < n7
   ·have hlt' : (m : Int) < (n7 : Int) := by omega
    obtain ⟨ad, x, had, hxm, hc⟩ := HW.out.el hlt
    subst had
    have HX := Lib.hid hxm
    have SB := Lib.hid (S_7.out x (List.mem_of_getElem? hxm))
    obtain ⟨⟨ok, on, r8, s8, p8⟩, Ar, cr, As, cs, Ap, cp⟩ := x
    try simp only at SB
    have hw2 : IntKind.i64.wrap ((m : Int) + 1) = (m : Int) + 1 := IntWalk.i64_in _ (by have := B7.out; omega)
    have HLT := Lib.hid hlt
    clear hxm hc hlt
    obtain ⟨kR, hk8⟩ : ∃ X, r8.length = X := ⟨_, rfl⟩
    have KR := Lib.hid hk8
    have BR : Hid (kR ≤ 100000000) := Lib.hid (by have := SB.out; have := KR.out; omega)
    clear hk8
    obtain ⟨kP, hk8⟩ : ∃ X, p8.length = X := ⟨_, rfl⟩
    have KP := Lib.hid hk8
    have BP : Hid (kP ≤ 100000000) := Lib.hid (by have := SB.out; have := KP.out; omega)
    clear hk8
    obtain ⟨wv, hwv⟩ : ∃ X, X = wr := ⟨_, rfl⟩
    subst hwv
    obtain ⟨-, -, z2, -, -⟩ := op_cells (HW.out.cells HLT.out HX.out)
    simp only at z2
    rw [KR.out] at z2
    go_wp2_with (fail)
    clear z2
    go_loopg [163] kR (fun g iv wr => ∃ j : Nat, j ≤ kR ∧ g = kR - j ∧ iv = .int .i64 (j : Int) ∧ Hid (WrO wr wm1.heap.size (some ad) n7 c7 z) ∧ Below wm1.heap.size wm1 wr)
    case atStart => exact ⟨0, Nat.zero_le _, rfl, rfl, HW, y⟩
    case round =>
     clear HW y
     obtain ⟨j, hj, hg, rfl, HW, y⟩ := hrel
     have HG2 := Lib.hid hg
     clear hg
     by_cases hlj : j < kR
     ·have hlj' : (j : Int) < (kR : Int) := by omega
      obtain ⟨g9, q9, hAs, hb9, c9, f9, hS9⟩ := HW.out.keyR HX.out (j := j) (by have := KR.out; simp only; omega)
      obtain ⟨-, -, z2, -, -⟩ := op_cells (HW.out.cells HLT.out HX.out)
      simp only at hAs z2
      subst hAs
      rw [KR.out] at z2
      have hw3 : IntKind.i64.wrap ((j : Int) + 1) = (j : Int) + 1 := IntWalk.i64_in _ (by have := BR.out; omega)
      obtain ⟨q8, hq8⟩ : ∃ X, IntKind.i32.wrap (q9 + 1) = X := ⟨_, rfl⟩
      have HS9 := Lib.hid (hS9 q8)
      have YC := Lib.hid (setCell_up y hb9 (j) (.int .i32 q8))
      clear hS9
      go_wp2_with (fail)
      go_roundg (kR - (j + 1))
      case measure => have := HG2.out; clear hw2 hw3; omega
      case rel => exact ⟨j + 1, by clear hw2 hw3; omega, rfl, by go_num, HS9, YC.out⟩
     have hlj' : ¬ (j : Int) < (kR : Int) := by omega
     obtain ⟨wv, hwv⟩ : ∃ X, X = wr := ⟨_, rfl⟩
     subst hwv
     obtain ⟨-, -, -, -, z4⟩ := op_cells (HW.out.cells HLT.out HX.out)
     simp only at z4
     rw [KP.out] at z4
     go_wp2_with (fail)
     clear z4
     go_loopg [183] kP (fun g iv wr => ∃ j : Nat, j ≤ kP ∧ g = kP - j ∧ iv = .int .i64 (j : Int) ∧ Hid (WrO wr wm1.heap.size (some ad) n7 c7 z) ∧ Below wm1.heap.size wm1 wr)
     case atStart => exact ⟨0, Nat.zero_le _, rfl, rfl, HW, y⟩
     case round =>
      clear HW y
      obtain ⟨j, hj, hg, rfl, HW, y⟩ := hrel
      have HG2 := Lib.hid hg
      clear hg
      by_cases hlj : j < kP
      ·have hlj' : (j : Int) < (kP : Int) := by omega
       obtain ⟨g9, q9, hAs, hb9, c9, f9, hS9⟩ := HW.out.keyP HX.out (j := j) (by have := KP.out; simp only; omega)
       obtain ⟨-, -, -, -, z4⟩ := op_cells (HW.out.cells HLT.out HX.out)
       simp only at hAs z4
       subst hAs
       rw [KP.out] at z4
       have hw3 : IntKind.i64.wrap ((j : Int) + 1) = (j : Int) + 1 := IntWalk.i64_in _ (by have := BP.out; omega)
       obtain ⟨q8, hq8⟩ : ∃ X, IntKind.i64.wrap (q9 + 1) = X := ⟨_, rfl⟩
       have HS9 := Lib.hid (hS9 q8)
       have YC := Lib.hid (setCell_up y hb9 (j * 6) (.int .i64 q8))
       clear hS9
       go_wp2_with (fail)
       go_roundg (kP - (j + 1))
       case measure => have := HG2.out; clear hw2 hw3; omega
       case rel => exact ⟨j + 1, by clear hw2 hw3; omega, rfl, by go_num, HS9, YC.out⟩
      have hlj' : ¬ (j : Int) < (kP : Int) := by omega
      go_wp2_with (fail)
      go_roundg (n7 - (m + 1))
      case measure => have := HG.out; have := HLT.out; clear hw2; omega
      case rel => exact ⟨m + 1, by have := HLT.out; clear hw2; omega, rfl, by go_num, HW, y⟩
   have hlt' : ¬ (m : Int) < (n7 : Int) := by omega
   clear HG
   obtain ⟨wn, hwv⟩ : ∃ X, X = wr := ⟨_, rfl⟩
   subst hwv
   go_wp2_with (fail)
   clear W_K YB HW
   clear R0
   clear HT
   clear HS
   clear O1
   clear O2
   clear O_P
   clear O_Y
   clear hx
   have R0 := Lib.hid (R0_1.out.ext y)
   have HT := Lib.hid (Utf8Tabs_below HT_1.out y)
   have HS := Lib.hid (HS_1.out.ext y)
   have O1 := Lib.hid (O1_1.out.ext y)
   have O2 := Lib.hid (O2_1.out.ext y)
   have O_P := Lib.hid (O_P_1.out.ext y)
   have O_Y := Lib.hid (O_Y_1.out.ext y)
   have hx := ext_trans hx_1 y
   clear R0_1
   clear HT_1
   clear HS_1
   clear O1_1
   clear O2_1
   clear O_P_1
   clear O_Y_1
   clear hx_1
   clear y hlt hlt'
   go_wp2_with (go_at_call 22; refine Hid.out ?_)
   refine Lib.hid ?_
   refine (same15D O_P.out.at_ O1.out.at_ (decide_eq_true E_P.out)).mono ?_
   rintro e wn ⟨rfl, y⟩
   have R0 := Lib.hid (R0.out.ext y)
   have HT := Lib.hid (Utf8Tabs_below HT.out y)
   have HS := Lib.hid (HS.out.ext y)
   have O1 := Lib.hid (O1.out.ext y)
   have O2 := Lib.hid (O2.out.ext y)
   have O_P := Lib.hid (O_P.out.ext y)
   have O_Y := Lib.hid (O_Y.out.ext y)
   replace hx := ext_trans hx y
   clear y
   go_wp2_with (go_at_call 22; refine Hid.out ?_)
   refine Lib.hid ?_
   refine (same15D O_Y.out.at_ O2.out.at_ (decide_eq_true E_Y.out)).mono ?_
   rintro e wn ⟨rfl, y⟩
   have R0 := Lib.hid (R0.out.ext y)
   have HT := Lib.hid (Utf8Tabs_below HT.out y)
   have HS := Lib.hid (HS.out.ext y)
   have O1 := Lib.hid (O1.out.ext y)
   have O2 := Lib.hid (O2.out.ext y)
   have O_P := Lib.hid (O_P.out.ext y)
   have O_Y := Lib.hid (O_Y.out.ext y)
   replace hx := ext_trans hx y
   clear y
   go_wp2_with (go_at_call 47; refine Hid.out ?_)
   refine Lib.hid ?_
   refine (known22_any _ HT.out).mono ?_
   rintro e w2 ⟨rfl, y⟩
   replace hx := ext_trans hx y
   go_wp2_with (fail)
   go_ret
   exact ⟨rfl, hx⟩
 ·skip
  have R0 := Lib.hid (R0.out.ext y)
  have HT := Lib.hid (Utf8Tabs_below HT.out y)
  have HS := Lib.hid (HS.out.ext y)
  have O1 := Lib.hid (O1.out.ext y)
  have O2 := Lib.hid (O2.out.ext y)
  have O_P := Lib.hid (O_P.out.ext y)
  have O_Y := Lib.hid (O_Y.out.ext y)
  replace hx := ext_trans hx y
  have HZ := Lib.hid hz
  have HZB := Lib.hid hzb
  have HBD := Lib.hid hbad
  clear y hz hzb hbad
  go_wp2_with (go_at_call 49; refine Hid.out ?_)
  refine Lib.hid ?_
  refine (position_any s l0 A5 n1 c5 P pn first _ O_P.out HS.out HT.out M3.out (by have := ZP.out; omega) HP.out).mono ?_
  rintro e wn ⟨rfl, y⟩
  have R0 := Lib.hid (R0.out.ext y)
  have HT := Lib.hid (Utf8Tabs_below HT.out y)
  have HS := Lib.hid (HS.out.ext y)
  have O1 := Lib.hid (O1.out.ext y)
  have O2 := Lib.hid (O2.out.ext y)
  have O_P := Lib.hid (O_P.out.ext y)
  have O_Y := Lib.hid (O_Y.out.ext y)
  replace hx := ext_trans hx y
  rw [HNP.out]
  clear y
  go_wp2_with (go_at_call 43; refine Hid.out ?_)
  refine Lib.hid ?_
  refine (mayKeysD N0.out R0.out (by omega) O1.out.at_ (by have := SZ.out; omega) HT.out M1.out).mono ?_
  rintro e wn ⟨rfl, y⟩
  have R0 := Lib.hid (R0.out.ext y)
  have HT := Lib.hid (Utf8Tabs_below HT.out y)
  have HS := Lib.hid (HS.out.ext y)
  have O1 := Lib.hid (O1.out.ext y)
  have O2 := Lib.hid (O2.out.ext y)
  have O_P := Lib.hid (O_P.out.ext y)
  have O_Y := Lib.hid (O_Y.out.ext y)
  replace hx := ext_trans hx y
  clear y
  go_wp2_with (go_at_call 43; refine Hid.out ?_)
  refine Lib.hid ?_
  refine (mayKeysD N0.out R0.out (by omega) O2.out.at_ (by have := SZ.out; omega) HT.out M2.out).mono ?_
  rintro e wn ⟨rfl, y⟩
  have R0 := Lib.hid (R0.out.ext y)
  have HT := Lib.hid (Utf8Tabs_below HT.out y)
  have HS := Lib.hid (HS.out.ext y)
  have O1 := Lib.hid (O1.out.ext y)
  have O2 := Lib.hid (O2.out.ext y)
  have O_P := Lib.hid (O_P.out.ext y)
  have O_Y := Lib.hid (O_Y.out.ext y)
  replace hx := ext_trans hx y
  clear y
  go_wp2_with (go_at_call 50; refine Hid.out ?_)
  refine Lib.hid ?_
  refine (pos22_any first pn O1.out M1.out (by have := Z1.out; omega) HP.out).mono ?_
  rintro e wn ⟨rfl, y⟩
  have R0 := Lib.hid (R0.out.ext y)
  have HT := Lib.hid (Utf8Tabs_below HT.out y)
  have HS := Lib.hid (HS.out.ext y)
  have O1 := Lib.hid (O1.out.ext y)
  have O2 := Lib.hid (O2.out.ext y)
  have O_P := Lib.hid (O_P.out.ext y)
  have O_Y := Lib.hid (O_Y.out.ext y)
  replace hx := ext_trans hx y
  rw [HN1.out]
  clear y
  go_wp2_with (go_at_call 51; refine Hid.out ?_)
  refine Lib.hid ?_
  refine (small22_any 3000 O1.out O2.out M1.out M2.out (by omega)).mono ?_
  rintro e wn ⟨b1, rfl, hb1, y⟩
  have R0 := Lib.hid (R0.out.ext y)
  have HT := Lib.hid (Utf8Tabs_below HT.out y)
  have HS := Lib.hid (HS.out.ext y)
  have O1 := Lib.hid (O1.out.ext y)
  have O2 := Lib.hid (O2.out.ext y)
  have O_P := Lib.hid (O_P.out.ext y)
  have O_Y := Lib.hid (O_Y.out.ext y)
  replace hx := ext_trans hx y
  have HB1 := Lib.hid hb1
  clear hb1
  clear y
  cases b1
  ·skip
   clear HB1
   obtain ⟨wq, hwq⟩ : ∃ X, X = wn := ⟨_, rfl⟩
   subst hwq
   go_wp2_with (fail)
   go_loopg [154] 0 (fun g iv wr => iv = .int .i64 0 ∧ wr = wq)
   case atStart => exact ⟨rfl, rfl⟩
   case round =>
    obtain ⟨rfl, rfl⟩ := hrel
    obtain ⟨wn, hwq⟩ : ∃ X, X = wr := ⟨_, rfl⟩
    subst hwq
    go_wp2_with (go_at_call 22; refine Hid.out ?_)
    refine Lib.hid ?_
    refine (same15D O_P.out.at_ O1.out.at_ (decide_eq_true E_P.out)).mono ?_
    rintro e wn ⟨rfl, y⟩
    have R0 := Lib.hid (R0.out.ext y)
    have HT := Lib.hid (Utf8Tabs_below HT.out y)
    have HS := Lib.hid (HS.out.ext y)
    have O1 := Lib.hid (O1.out.ext y)
    have O2 := Lib.hid (O2.out.ext y)
    have O_P := Lib.hid (O_P.out.ext y)
    have O_Y := Lib.hid (O_Y.out.ext y)
    replace hx := ext_trans hx y
    clear y
    go_wp2_with (go_at_call 22; refine Hid.out ?_)
    refine Lib.hid ?_
    refine (same15D O_Y.out.at_ O2.out.at_ (decide_eq_true E_Y.out)).mono ?_
    rintro e wn ⟨rfl, y⟩
    have R0 := Lib.hid (R0.out.ext y)
    have HT := Lib.hid (Utf8Tabs_below HT.out y)
    have HS := Lib.hid (HS.out.ext y)
    have O1 := Lib.hid (O1.out.ext y)
    have O2 := Lib.hid (O2.out.ext y)
    have O_P := Lib.hid (O_P.out.ext y)
    have O_Y := Lib.hid (O_Y.out.ext y)
    replace hx := ext_trans hx y
    clear y
    go_wp2_with (go_at_call 47; refine Hid.out ?_)
    refine Lib.hid ?_
    refine (known22_any _ HT.out).mono ?_
    rintro e w2 ⟨rfl, y⟩
    replace hx := ext_trans hx y
    go_wp2_with (fail)
    go_ret
    exact ⟨rfl, hx⟩
  replace HB1 := Lib.hid (HB1.out rfl)
  exfalso
  obtain ⟨c1, c2⟩ := HB1.out
  have c9 := HZ.out
  rw [E_P.out, E_Y.out] at c9
  have c5 := tra_size first (nf (units (osOf l2))) (nf (units (osOf l1)))
  have d1 := nf_takes (units (osOf l2))
  have d2 := nf_makes (units (osOf l2))
  have d3 := nf_makes (units (osOf l1))
  have c6 := tm_len22 (units (osOf l1))
  have c7 := tm_len22 (units (osOf l2))
  have c8 := tra_mU first (nf_all (P := mU l0) trivial (good_mU (mayO_zero M1.out).1)) (nf_all (P := mU l0) trivial (good_mU (mayO_zero M2.out).1))
  obtain ⟨g1, g2, _⟩ := made_sums c9 c8 (by omega) (by omega) (by have := HZB.out; omega)
  have := HBD.out
  omega
end Go.Proofs.YtfnkjcodcoehcaaGreatDoor
