/- Merged texts. -/
import Derived.Test.YtfnkjcodcoehcaaGreatDoorX36
import Derived.Test.YtfnkjcodcoehcaaGreatDoorX37
import Derived.Test.YtfnkjcodcoehcaaGreatDoorCards
import Derived.Test.YtfnkjcodcoehcaaGreatDoorTie
import Derived.ProofKit
import Derived.Deep.Slices
import Derived.JoinedCond
import Derived.OpenShut
import Derived.Deep.DeepHandedRow
import Derived.Lib.LaidTab
namespace Go.Proofs.YtfnkjcodcoehcaaGreatDoor
set_option maxRecDepth 100000
set_option maxHeartbeats 12800000
open Go.RowKit
open Go.Lib (hid Utf8Tabs)
set_option linter.unusedVariables false
set_option linter.unusedSimpArgs false
theorem Z4i (A0 A1 A2 A3 : Option Addr) (n0 n1 n2 n3 c0 c1 c2 c3 : Nat) (l0 : List Ky) (d : List ClS) (l2 l3 : List OpS) (most : Int) (w : World)
 (e0 : n0 = l0.length) (r0 : RdKy w w.heap.size A0 l0) (b0 : n0 ≤ 1048576) (e1 : n1 = d.length) (r1 : RdCl w w.heap.size A1 d) (b1 : n1 ≤ 1048576) (k1 : n1 ≤ c1) (q1 : ∀ x ∈ d, x.c.s.length ≤ 100000000 ∧ okVr x.c.s) (g1 : ∀ x ∈ d, x.c.s.length ≤ x.cs ∧ x.cs ≤ maxLen) (t1 : ∀ x ∈ d, okVa x.c.s)
 (e2 : n2 = l2.length) (r2 : RdOp w w.heap.size A2 l2) (b2 : n2 ≤ 1048576) (k2 : n2 ≤ c2) (m2 : c2 ≤ maxLen) (q2 : ∀ o ∈ l2, okOp o.o) (z2 : szX l2 ≤ 2305850000000000000) (f2 : ∀ o ∈ l2, capO o)
 (e3 : n3 = l3.length) (r3 : RdOp w w.heap.size A3 l3) (b3 : n3 ≤ 1048576) (k3 : n3 ≤ c3) (m3 : c3 ≤ maxLen) (q3 : ∀ o ∈ l3, okOp o.o) (z3 : szX l3 ≤ 2305850000000000000) (f3 : ∀ o ∈ l3, capO o)
 (hT : Utf8Tabs 1 2 w) :
 Calls Tryz.prog 8 #[.slice A0 n0 c0, .slice A1 n1 c1, .slice A2 n2 c2, .slice A3 n3 c3, .int .i64 most] w fun e w' => e = .returned (.bool true) ∧ Below w.heap.size w w' := by
 have T1 := hid t1
 clear t1
 have N0 := hid e0
 have R0 := hid r0
 have HT := hid hT
 have hx := Below.refl w.heap.size w
 have N1 := hid e1
 have R1 := hid r1
 have Q1 := hid q1
 have C1 := hid g1
 have N2 := hid e2
 have R2 := hid r2
 have Q2 := hid q2
 have Z2 := hid z2
 have F2 := hid f2
 have N3 := hid e3
 have R3 := hid r3
 have Q3 := hid q3
 have Z3 := hid z3
 have F3 := hid f3
 clear e0 r0 hT e1 r1 q1 g1 e2 r2 q2 z2 f2 e3 r3 q3 z3 f3
 go_enter Tryz.func8, Tryz.ntmps8
 have ra : Rd SX.enc 1 _ _ _ [⟨A2, c2, l2⟩, ⟨A3, c3, l3⟩] := Rd.new (enc := SX.enc) (size := 1) (fun _ => rfl) w 44 [⟨A2, c2, l2⟩, ⟨A3, c3, l3⟩] (cs := #[.slice A2 n2 c2, .slice A3 n3 c3]) (by simp [SX.enc, ← N2.out, ← N3.out]) rfl
 have y := Z0b w (.cells #[.slice A2 n2 c2, .slice A3 n3 c3] 44)
 have R0 := hid (R0.out.ext y)
 have HT := hid (Utf8Tabs_below HT.out y)
 have R1 := hid (R1.out.ext y)
 have R2 := hid (R2.out.ext y)
 have R3 := hid (R3.out.ext y)
 replace hx := Z0a hx y
 clear y
 go_wp2_with (go_at_call 46; refine Hid.out ?_)
 refine hid ?_
 refine (Z9C A0 A1 (some ⟨w.heap.size, 0, none⟩) n0 c0 n1 c1 2 2 d [⟨A2, c2, l2⟩, ⟨A3, c3, l3⟩] _ rfl ra (by omega) (by omega) (fun x hx => by
  simp only [List.mem_cons, List.not_mem_nil, or_false] at hx
  rcases hx with rfl | rfl
  ·exact ⟨R2.out, by have := N2.out; simp only; omega⟩
  ·exact ⟨R3.out, by have := N3.out; simp only; omega⟩) (by simp only [sumX, List.map_cons, List.map_nil, List.sum_cons, List.sum_nil]; have := Z2.out; have := Z3.out; omega) (fun x hx => by
  simp only [List.mem_cons, List.not_mem_nil, or_false] at hx
  rcases hx with rfl | rfl
  ·have := Z2.out; simp only; omega
  ·have := Z3.out; simp only; omega) N1.out R1.out (by omega) (fun z hz => by have := (Q1.out z hz).1; omega)).mono ?_
 rintro e wn ⟨gb, rfl, h1, dr, hd⟩
 have y := Y0b hd
 clear hd ra
 have R0 := hid (R0.out.ext y)
 have HT := hid (Utf8Tabs_below HT.out y)
 have R1 := hid (R1.out.ext y)
 have R2 := hid (R2.out.ext y)
 have R3 := hid (R3.out.ext y)
 replace hx := Z0a hx y
 clear y
 cases gb
 case true =>
  clear h1
  go_wp2_with (go_at_call 47; refine Hid.out ?_)
  refine hid ?_
  refine (Z18 _ HT.out).mono ?_
  rintro e w2 ⟨rfl, y⟩
  replace hx := Z0a hx y
  go_wp2_with (fail)
  go_ret
  exact ⟨rfl, hx⟩
 have h2 := h1 rfl
 have G0 := hid h2.1
 have G1 : Hid (n1 ≤ 400 ∧ ∀ c ∈ d, c.c.s.length ≤ 64) := hid ⟨h2.2.1, h2.2.2.1⟩
 have SZ : Hid (szX l2 + szX l3 ≤ 5000) := hid (by have h3 := h2.2.2.2; simp only [sumX, List.map_cons, List.map_nil, List.sum_cons, List.sum_nil] at h3; omega)
 clear h1 h2
 go_wp2_with (go_at_call 13; refine Hid.out ?_)
 refine hid ?_
 refine (Y16 A0 n0 c0 l0 _ N0.out R0.out (by omega)).mono ?_
 rintro e wn ⟨y, ⟨hm, s, rfl, hS⟩ | ⟨hm, rfl⟩⟩
 all_goals
  have R0 := hid (R0.out.ext y)
  have HT := hid (Utf8Tabs_below HT.out y)
  have R1 := hid (R1.out.ext y)
  have R2 := hid (R2.out.ext y)
  have R3 := hid (R3.out.ext y)
  replace hx := Z0a hx y
  have HM := hid hm
  clear y hm
 rotate_left
 ·skip
  go_wp2_with (go_at_call 14; refine Hid.out ?_)
  refine hid ?_
  refine (Y11 A0 n0 c0 l0 _ N0.out R0.out (by omega)).mono ?_
  rw [HM.out]
  rintro e wn ⟨rfl, y⟩
  have R0 := hid (R0.out.ext y)
  have HT := hid (Utf8Tabs_below HT.out y)
  have R1 := hid (R1.out.ext y)
  have R2 := hid (R2.out.ext y)
  have R3 := hid (R3.out.ext y)
  replace hx := Z0a hx y
  clear y
  go_wp2_with (go_at_call 47; refine Hid.out ?_)
  refine hid ?_
  refine (Z18 _ HT.out).mono ?_
  rintro e w2 ⟨rfl, y⟩
  replace hx := Z0a hx y
  go_wp2_with (fail)
  go_ret
  exact ⟨rfl, hx⟩
 have HS := hid hS
 clear hS
 have H64 : Hid (l0.length ≤ 64) := hid (by have := N0.out; have := G0.out; omega)
 have D1 : Hid (DocAt _ A1 n1 c1 d) := hid ⟨R1.out, N1.out, k1, C1.out, fun z hz => ⟨by have := G1.out.2 z hz; omega, (Q1.out z hz).2⟩, by have := G1.out; omega⟩
 have LD : Hid ((Z0e d).length = n1) := hid D1.out.clen
 have B1 := hid G1.out.1
 have LX2 : Hid (l2.length ≤ 5000) := hid (by have := Z7J l2; have := SZ.out; omega)
 have O2 : Hid (OpsC _ A2 n2 c2 l2) := hid ⟨⟨R2.out, N2.out, Q2.out, by have := LX2.out; have := N2.out; omega⟩, k2, m2, F2.out⟩
 have LX3 : Hid (l3.length ≤ 5000) := hid (by have := Z7J l3; have := SZ.out; omega)
 have O3 : Hid (OpsC _ A3 n3 c3 l3) := hid ⟨⟨R3.out, N3.out, Q3.out, by have := LX3.out; have := N3.out; omega⟩, k3, m3, F3.out⟩
 go_wp2_with (go_at_call 15; refine Hid.out ?_)
 refine hid ?_
 refine (Y5A D1.out).mono ?_
 rintro e wn ⟨A5, c5, P, rfl, h_1, d_1, y⟩
 have R0 := hid (R0.out.ext y)
 have HT := hid (Utf8Tabs_below HT.out y)
 have HS := hid (HS.out.ext y)
 have D1 := hid (D1.out.ext y)
 have O2 := hid (O2.out.ext y)
 have O3 := hid (O3.out.ext y)
 replace hx := Z0a hx y
 have D_P := hid d_1
 have E_P := hid h_1
 clear d_1 h_1
 clear y
 obtain ⟨nn, hn3⟩ : ∃ X, P.length = X := ⟨_, rfl⟩
 have N3 : nn = n1 := by rw [← hn3]; exact (by rw [← Z0s, E_P.out, LD.out])
 rw [hn3] at D_P ⊢
 clear hn3
 have n3e := N3.symm
 subst n3e
 clear N3
 go_wp2_with (go_at_call 32; refine Hid.out ?_)
 refine hid ?_
 refine (Y2M O2.out.at_).mono ?_
 rintro e wn ⟨A6, c6, XX, rfl, h_1, o_1, y⟩
 have R0 := hid (R0.out.ext y)
 have HT := hid (Utf8Tabs_below HT.out y)
 have HS := hid (HS.out.ext y)
 have D1 := hid (D1.out.ext y)
 have O2 := hid (O2.out.ext y)
 have O3 := hid (O3.out.ext y)
 have D_P := hid (D_P.out.ext y)
 replace hx := Z0a hx y
 have O_XX := hid o_1
 have E_XX := hid h_1
 clear o_1 h_1
 clear y
 obtain ⟨nn, hn3⟩ : ∃ X, XX.length = X := ⟨_, rfl⟩
 have N3 : nn = n2 := by rw [← hn3]; exact ((Z8t E_XX.out).trans O2.out.at_.len.symm)
 rw [hn3] at O_XX ⊢
 clear hn3
 have n3e := N3.symm
 subst n3e
 clear N3
 go_wp2_with (go_at_call 32; refine Hid.out ?_)
 refine hid ?_
 refine (Y2M O3.out.at_).mono ?_
 rintro e wn ⟨A7, c7, Y, rfl, h_1, o_1, y⟩
 have R0 := hid (R0.out.ext y)
 have HT := hid (Utf8Tabs_below HT.out y)
 have HS := hid (HS.out.ext y)
 have D1 := hid (D1.out.ext y)
 have O2 := hid (O2.out.ext y)
 have O3 := hid (O3.out.ext y)
 have D_P := hid (D_P.out.ext y)
 have O_XX := hid (O_XX.out.ext y)
 replace hx := Z0a hx y
 have O_Y := hid o_1
 have E_Y := hid h_1
 clear o_1 h_1
 clear y
 obtain ⟨nn, hn3⟩ : ∃ X, Y.length = X := ⟨_, rfl⟩
 have N3 : nn = n3 := by rw [← hn3]; exact ((Z8t E_Y.out).trans O3.out.at_.len.symm)
 rw [hn3] at O_Y ⊢
 clear hn3
 have n3e := N3.symm
 subst n3e
 clear N3
 obtain ⟨ra, hr⟩ : ∃ z, Z0F l0 l2 (Z0e d) 536870912 = z := ⟨_, rfl⟩
 have HR2 := hid hr
 have HRXX : Hid (Z0F l0 XX (Z0e P) 536870912 = ra) := hid (by rw [E_P.out, Z8s E_XX.out]; exact hr)
 clear hr
 have ZNXX : Hid (szN XX ≤ 50000) := hid (by have := Y0e XX; have := Z64 E_XX.out; have := SZ.out; omega)
 have ZX2 : Hid (szX l2 ≤ 5000) := hid (by have := SZ.out; omega)
 obtain ⟨rb, hr⟩ : ∃ z, Z0F l0 l3 (Z0e d) 536870912 = z := ⟨_, rfl⟩
 have HR3 := hid hr
 have HRY : Hid (Z0F l0 Y (Z0e P) 536870912 = rb) := hid (by rw [E_P.out, Z8s E_Y.out]; exact hr)
 clear hr
 have ZNY : Hid (szN Y ≤ 50000) := hid (by have := Y0e Y; have := Z64 E_Y.out; have := SZ.out; omega)
 have ZX3 : Hid (szX l3 ≤ 5000) := hid (by have := SZ.out; omega)
 by_cases h0 : ra = 0
 rotate_left
 ·skip
  have hrr : (ra == ra) = true := by simp
  have hrr' : (ra != ra) = false := by simp
  go_wp2_with (go_at_call 53; refine Hid.out ?_)
  refine hid ?_
  refine (Y28 s l0 A5 A6 A7 n1 c5 n2 c6 n3 c7 P XX Y most ra _ D_P.out O_XX.out.at_ O_Y.out.at_ HS.out H64.out HT.out HRXX.out h0).mono ?_
  rintro e wn ⟨rfl, y⟩
  have R0 := hid (R0.out.ext y)
  have HT := hid (Utf8Tabs_below HT.out y)
  have HS := hid (HS.out.ext y)
  have D1 := hid (D1.out.ext y)
  have O2 := hid (O2.out.ext y)
  have O3 := hid (O3.out.ext y)
  have D_P := hid (D_P.out.ext y)
  have O_XX := hid (O_XX.out.ext y)
  have O_Y := hid (O_Y.out.ext y)
  replace hx := Z0a hx y
  clear y
  obtain ⟨Nb, hs⟩ : ∃ Nb, Z0F l0 l3 (Z0e d) 536870912 = 0 → In l0 l3 (Z0e d) 536870912 Nb := by
   by_cases h : Z0F l0 l3 (Z0e d) 536870912 = 0
   ·obtain ⟨N, h2⟩ := Z4D (by have := LX3.out; omega) (by have := LD.out; have := B1.out; have := SZ.out; omega) h
    exact ⟨N, fun _ => h2⟩
   ·exact ⟨0, fun h2 => absurd h2 h⟩
  have HSS := hid hs
  clear hs
  go_wp2_with (go_at_call 54; refine Hid.out ?_)
  refine hid ?_
  refine (Z9y most N0.out R0.out G0.out D1.out B1.out O2.out.at_ O3.out.at_ T1.out ZX2.out ZX3.out HT.out HR2.out h0 HSS.out).mono ?_
  rintro e wn ⟨rfl, y⟩
  have R0 := hid (R0.out.ext y)
  have HT := hid (Utf8Tabs_below HT.out y)
  have HS := hid (HS.out.ext y)
  have D1 := hid (D1.out.ext y)
  have O2 := hid (O2.out.ext y)
  have O3 := hid (O3.out.ext y)
  have D_P := hid (D_P.out.ext y)
  have O_XX := hid (O_XX.out.ext y)
  have O_Y := hid (O_Y.out.ext y)
  replace hx := Z0a hx y
  clear y
  have ND : Hid (DocAt wn none 0 0 []) := hid ⟨⟨Rd.nil, fun z hz => by cases hz⟩, rfl, Nat.le_refl _, (fun z hz => by cases hz), (fun z hz => by cases hz), by omega⟩
  go_wp2_with (go_at_call 19; refine Hid.out ?_)
  refine hid ?_
  refine (Z3F ND.out ND.out (decide_eq_true rfl)).mono ?_
  rintro e wn ⟨rfl, y⟩
  have R0 := hid (R0.out.ext y)
  have HT := hid (Utf8Tabs_below HT.out y)
  have HS := hid (HS.out.ext y)
  have D1 := hid (D1.out.ext y)
  have O2 := hid (O2.out.ext y)
  have O3 := hid (O3.out.ext y)
  have D_P := hid (D_P.out.ext y)
  have O_XX := hid (O_XX.out.ext y)
  have O_Y := hid (O_Y.out.ext y)
  replace hx := Z0a hx y
  clear y
  clear ND
  go_wp2_with (go_at_call 19; refine Hid.out ?_)
  refine hid ?_
  refine (Z3F D_P.out D1.out (decide_eq_true E_P.out)).mono ?_
  rintro e wn ⟨rfl, y⟩
  have R0 := hid (R0.out.ext y)
  have HT := hid (Utf8Tabs_below HT.out y)
  have HS := hid (HS.out.ext y)
  have D1 := hid (D1.out.ext y)
  have O2 := hid (O2.out.ext y)
  have O3 := hid (O3.out.ext y)
  have D_P := hid (D_P.out.ext y)
  have O_XX := hid (O_XX.out.ext y)
  have O_Y := hid (O_Y.out.ext y)
  replace hx := Z0a hx y
  clear y
  go_wp2_with (go_at_call 22; refine Hid.out ?_)
  refine hid ?_
  refine (Z3k O_XX.out.at_ O2.out.at_ (decide_eq_true E_XX.out)).mono ?_
  rintro e wn ⟨rfl, y⟩
  have R0 := hid (R0.out.ext y)
  have HT := hid (Utf8Tabs_below HT.out y)
  have HS := hid (HS.out.ext y)
  have D1 := hid (D1.out.ext y)
  have O2 := hid (O2.out.ext y)
  have O3 := hid (O3.out.ext y)
  have D_P := hid (D_P.out.ext y)
  have O_XX := hid (O_XX.out.ext y)
  have O_Y := hid (O_Y.out.ext y)
  replace hx := Z0a hx y
  clear y
  go_wp2_with (go_at_call 22; refine Hid.out ?_)
  refine hid ?_
  refine (Z3k O_Y.out.at_ O3.out.at_ (decide_eq_true E_Y.out)).mono ?_
  rintro e wn ⟨rfl, y⟩
  have R0 := hid (R0.out.ext y)
  have HT := hid (Utf8Tabs_below HT.out y)
  have HS := hid (HS.out.ext y)
  have D1 := hid (D1.out.ext y)
  have O2 := hid (O2.out.ext y)
  have O3 := hid (O3.out.ext y)
  have D_P := hid (D_P.out.ext y)
  have O_XX := hid (O_XX.out.ext y)
  have O_Y := hid (O_Y.out.ext y)
  replace hx := Z0a hx y
  clear y
  go_wp2_with (go_at_call 47; refine Hid.out ?_)
  refine hid ?_
  refine (Z18 _ HT.out).mono ?_
  rintro e w2 ⟨rfl, y⟩
  replace hx := Z0a hx y
  go_wp2_with (fail)
  go_ret
  exact ⟨rfl, hx⟩
 subst h0
 obtain ⟨Na, hin⟩ := Z4D (by have := LX2.out; omega) (by have := LD.out; have := B1.out; have := SZ.out; omega) HR2.out
 have I2 := hid hin
 clear hin
 obtain ⟨Nc, hin⟩ := Z4D (x := XX) (d := Z0e P) (by have := Z8t E_XX.out; have := LX2.out; omega) (by have := Z64 E_XX.out; have := LD.out; have := B1.out; have := SZ.out; rw [E_P.out]; omega) HRXX.out
 have IX := hid hin
 clear hin
 by_cases h0 : rb = 0
 rotate_left
 ·skip
  have hrr : (rb == rb) = true := by simp
  have hrr' : (rb != rb) = false := by simp
  go_wp2_with (go_at_call 53; refine Hid.out ?_)
  refine hid ?_
  refine (Y29 s l0 A5 A6 A7 n1 c5 n2 c6 n3 c7 P XX Y most rb _ D_P.out O_XX.out.at_ O_Y.out.at_ HS.out H64.out HT.out IX.out HRY.out h0).mono ?_
  rintro e wn ⟨rfl, y⟩
  have R0 := hid (R0.out.ext y)
  have HT := hid (Utf8Tabs_below HT.out y)
  have HS := hid (HS.out.ext y)
  have D1 := hid (D1.out.ext y)
  have O2 := hid (O2.out.ext y)
  have O3 := hid (O3.out.ext y)
  have D_P := hid (D_P.out.ext y)
  have O_XX := hid (O_XX.out.ext y)
  have O_Y := hid (O_Y.out.ext y)
  replace hx := Z0a hx y
  clear y
  go_wp2_with (go_at_call 54; refine Hid.out ?_)
  refine hid ?_
  refine (Z9z most N0.out R0.out G0.out D1.out B1.out O2.out.at_ O3.out.at_ T1.out ZX2.out ZX3.out HT.out I2.out HR3.out h0).mono ?_
  rintro e wn ⟨rfl, y⟩
  have R0 := hid (R0.out.ext y)
  have HT := hid (Utf8Tabs_below HT.out y)
  have HS := hid (HS.out.ext y)
  have D1 := hid (D1.out.ext y)
  have O2 := hid (O2.out.ext y)
  have O3 := hid (O3.out.ext y)
  have D_P := hid (D_P.out.ext y)
  have O_XX := hid (O_XX.out.ext y)
  have O_Y := hid (O_Y.out.ext y)
  replace hx := Z0a hx y
  clear y
  have ND : Hid (DocAt wn none 0 0 []) := hid ⟨⟨Rd.nil, fun z hz => by cases hz⟩, rfl, Nat.le_refl _, (fun z hz => by cases hz), (fun z hz => by cases hz), by omega⟩
  go_wp2_with (go_at_call 19; refine Hid.out ?_)
  refine hid ?_
  refine (Z3F ND.out ND.out (decide_eq_true rfl)).mono ?_
  rintro e wn ⟨rfl, y⟩
  have R0 := hid (R0.out.ext y)
  have HT := hid (Utf8Tabs_below HT.out y)
  have HS := hid (HS.out.ext y)
  have D1 := hid (D1.out.ext y)
  have O2 := hid (O2.out.ext y)
  have O3 := hid (O3.out.ext y)
  have D_P := hid (D_P.out.ext y)
  have O_XX := hid (O_XX.out.ext y)
  have O_Y := hid (O_Y.out.ext y)
  replace hx := Z0a hx y
  clear y
  clear ND
  go_wp2_with (go_at_call 19; refine Hid.out ?_)
  refine hid ?_
  refine (Z3F D_P.out D1.out (decide_eq_true E_P.out)).mono ?_
  rintro e wn ⟨rfl, y⟩
  have R0 := hid (R0.out.ext y)
  have HT := hid (Utf8Tabs_below HT.out y)
  have HS := hid (HS.out.ext y)
  have D1 := hid (D1.out.ext y)
  have O2 := hid (O2.out.ext y)
  have O3 := hid (O3.out.ext y)
  have D_P := hid (D_P.out.ext y)
  have O_XX := hid (O_XX.out.ext y)
  have O_Y := hid (O_Y.out.ext y)
  replace hx := Z0a hx y
  clear y
  go_wp2_with (go_at_call 22; refine Hid.out ?_)
  refine hid ?_
  refine (Z3k O_XX.out.at_ O2.out.at_ (decide_eq_true E_XX.out)).mono ?_
  rintro e wn ⟨rfl, y⟩
  have R0 := hid (R0.out.ext y)
  have HT := hid (Utf8Tabs_below HT.out y)
  have HS := hid (HS.out.ext y)
  have D1 := hid (D1.out.ext y)
  have O2 := hid (O2.out.ext y)
  have O3 := hid (O3.out.ext y)
  have D_P := hid (D_P.out.ext y)
  have O_XX := hid (O_XX.out.ext y)
  have O_Y := hid (O_Y.out.ext y)
  replace hx := Z0a hx y
  clear y
  go_wp2_with (go_at_call 22; refine Hid.out ?_)
  refine hid ?_
  refine (Z3k O_Y.out.at_ O3.out.at_ (decide_eq_true E_Y.out)).mono ?_
  rintro e wn ⟨rfl, y⟩
  have R0 := hid (R0.out.ext y)
  have HT := hid (Utf8Tabs_below HT.out y)
  have HS := hid (HS.out.ext y)
  have D1 := hid (D1.out.ext y)
  have O2 := hid (O2.out.ext y)
  have O3 := hid (O3.out.ext y)
  have D_P := hid (D_P.out.ext y)
  have O_XX := hid (O_XX.out.ext y)
  have O_Y := hid (O_Y.out.ext y)
  replace hx := Z0a hx y
  clear y
  go_wp2_with (go_at_call 47; refine Hid.out ?_)
  refine hid ?_
  refine (Z18 _ HT.out).mono ?_
  rintro e w2 ⟨rfl, y⟩
  replace hx := Z0a hx y
  go_wp2_with (fail)
  go_ret
  exact ⟨rfl, hx⟩
 subst h0
 obtain ⟨Nb, hin⟩ := Z4D (by have := LX3.out; omega) (by have := LD.out; have := B1.out; have := SZ.out; omega) HR3.out
 have I3 := hid hin
 clear hin
 obtain ⟨Nd, hin⟩ := Z4D (x := Y) (d := Z0e P) (by have := Z8t E_Y.out; have := LX3.out; omega) (by have := Z64 E_Y.out; have := LD.out; have := B1.out; have := SZ.out; rw [E_P.out]; omega) HRY.out
 have IY := hid hin
 clear hin
 obtain ⟨U, hU⟩ : ∃ z, mrgU l0 (nf (Z0d (osOf l2))) (nf (Z0d (osOf l3))) (Z0e d) = z := ⟨_, rfl⟩
 have HU := hid hU
 clear hU
 have EQ : Hid (app l0 (traU true (nf (Z0d (osOf XX))) (nf (Z0d (osOf Y)))) (app l0 (Z0d (osOf XX)) (Z0e P)) = U) := hid (by
  have h := Y3d l0 (Z0e d) (nf (Z0d (osOf l2))) (nf (Z0d (osOf l3))) (Z0e d).length 0 (Nat.zero_add _).symm (Z4y I2.out.fit).t (Z4y I3.out.fit).t (Z4y I2.out.fit).f (Z4y I3.out.fit).f (Z3m (P := mU l0) trivial I2.out.mu) (Z3m (P := mU l0) trivial I3.out.mu) I2.out.rise
  rw [Z6T] at h
  rw [E_XX.out, E_Y.out, E_P.out, h]
  exact HU.out)
 have ZS : Hid ((Z0e P).length + szX XX + szX Y ≤ 10000) := hid (by have := Z64 E_XX.out; have := Z64 E_Y.out; have := LD.out; have := B1.out; have := SZ.out; rw [E_P.out]; omega)
 go_wp2_with (go_at_call 53; refine Hid.out ?_)
 refine hid ?_
 have HM := Z9p s l0 _ _ _ _ _ _ _ _ _ P XX Y most _ D_P.out O_XX.out O_Y.out HS.out H64.out HT.out IX.out IY.out ZNXX.out ZNY.out ZS.out
 rw [EQ.out] at HM
 refine HM.mono ?_
 clear HM
 rintro e wn ⟨y, ⟨hle, A8, c8, M, rfl, hM, hMm, dM⟩ | ⟨hgt, rfl⟩⟩
 ·skip
  have R0 := hid (R0.out.ext y)
  have HT := hid (Utf8Tabs_below HT.out y)
  have HS := hid (HS.out.ext y)
  have D1 := hid (D1.out.ext y)
  have O2 := hid (O2.out.ext y)
  have O3 := hid (O3.out.ext y)
  have D_P := hid (D_P.out.ext y)
  have O_XX := hid (O_XX.out.ext y)
  have O_Y := hid (O_Y.out.ext y)
  replace hx := Z0a hx y
  have D_M := hid dM
  have E_M := hid hM
  clear y dM hM hMm
  go_wp2_with (go_at_call 54; refine Hid.out ?_)
  refine hid ?_
  have HM := Z6A (c0 := c0) most N0.out R0.out G0.out D1.out B1.out O2.out O3.out T1.out ZX2.out ZX3.out HT.out I2.out I3.out
  rw [HU.out] at HM
  refine HM.mono ?_
  clear HM
  rintro e wn ⟨y, ⟨hle2, A9, c9, M2, rfl, hM2, o9, p9⟩ | ⟨hgt2, rfl⟩⟩
  rotate_left
  ·exact absurd hle (by omega)
  have R0 := hid (R0.out.ext y)
  have HT := hid (Utf8Tabs_below HT.out y)
  have HS := hid (HS.out.ext y)
  have D1 := hid (D1.out.ext y)
  have O2 := hid (O2.out.ext y)
  have O3 := hid (O3.out.ext y)
  have D_P := hid (D_P.out.ext y)
  have O_XX := hid (O_XX.out.ext y)
  have O_Y := hid (O_Y.out.ext y)
  have D_M := hid (D_M.out.ext y)
  replace hx := Z0a hx y
  have D_9 : Hid (DocAt wn A9 M2.length c9 M2) := hid (DocAt.made o9 p9 (fun x hx => by rw [hM2, ← E_M.out] at hx; obtain ⟨z, hz, rfl⟩ := Z9h hx; exact D_M.out.vr z hz) (by rw [← Z0s, hM2, ← E_M.out, Z0s]; exact D_M.out.b))
  have E_9 := hid hM2
  clear y o9 p9 hM2 hle hle2
  go_wp2_with (go_at_call 19; refine Hid.out ?_)
  refine hid ?_
  refine (Z3F D_M.out D_9.out (decide_eq_true (by rw [E_M.out, E_9.out]))).mono ?_
  rintro e wn ⟨rfl, y⟩
  have R0 := hid (R0.out.ext y)
  have HT := hid (Utf8Tabs_below HT.out y)
  have HS := hid (HS.out.ext y)
  have D1 := hid (D1.out.ext y)
  have O2 := hid (O2.out.ext y)
  have O3 := hid (O3.out.ext y)
  have D_P := hid (D_P.out.ext y)
  have O_XX := hid (O_XX.out.ext y)
  have O_Y := hid (O_Y.out.ext y)
  have D_M := hid (D_M.out.ext y)
  have D_9 := hid (D_9.out.ext y)
  replace hx := Z0a hx y
  clear y
  go_wp2_with (go_at_call 19; refine Hid.out ?_)
  refine hid ?_
  refine (Z3F D_P.out D1.out (decide_eq_true E_P.out)).mono ?_
  rintro e wn ⟨rfl, y⟩
  have R0 := hid (R0.out.ext y)
  have HT := hid (Utf8Tabs_below HT.out y)
  have HS := hid (HS.out.ext y)
  have D1 := hid (D1.out.ext y)
  have O2 := hid (O2.out.ext y)
  have O3 := hid (O3.out.ext y)
  have D_P := hid (D_P.out.ext y)
  have O_XX := hid (O_XX.out.ext y)
  have O_Y := hid (O_Y.out.ext y)
  replace hx := Z0a hx y
  clear y
  go_wp2_with (go_at_call 22; refine Hid.out ?_)
  refine hid ?_
  refine (Z3k O_XX.out.at_ O2.out.at_ (decide_eq_true E_XX.out)).mono ?_
  rintro e wn ⟨rfl, y⟩
  have R0 := hid (R0.out.ext y)
  have HT := hid (Utf8Tabs_below HT.out y)
  have HS := hid (HS.out.ext y)
  have D1 := hid (D1.out.ext y)
  have O2 := hid (O2.out.ext y)
  have O3 := hid (O3.out.ext y)
  have D_P := hid (D_P.out.ext y)
  have O_XX := hid (O_XX.out.ext y)
  have O_Y := hid (O_Y.out.ext y)
  replace hx := Z0a hx y
  clear y
  go_wp2_with (go_at_call 22; refine Hid.out ?_)
  refine hid ?_
  refine (Z3k O_Y.out.at_ O3.out.at_ (decide_eq_true E_Y.out)).mono ?_
  rintro e wn ⟨rfl, y⟩
  have R0 := hid (R0.out.ext y)
  have HT := hid (Utf8Tabs_below HT.out y)
  have HS := hid (HS.out.ext y)
  have D1 := hid (D1.out.ext y)
  have O2 := hid (O2.out.ext y)
  have O3 := hid (O3.out.ext y)
  have D_P := hid (D_P.out.ext y)
  have O_XX := hid (O_XX.out.ext y)
  have O_Y := hid (O_Y.out.ext y)
  replace hx := Z0a hx y
  clear y
  go_wp2_with (go_at_call 47; refine Hid.out ?_)
  refine hid ?_
  refine (Z18 _ HT.out).mono ?_
  rintro e w2 ⟨rfl, y⟩
  replace hx := Z0a hx y
  go_wp2_with (fail)
  go_ret
  exact ⟨rfl, hx⟩
 ·skip
  have R0 := hid (R0.out.ext y)
  have HT := hid (Utf8Tabs_below HT.out y)
  have HS := hid (HS.out.ext y)
  have D1 := hid (D1.out.ext y)
  have O2 := hid (O2.out.ext y)
  have O3 := hid (O3.out.ext y)
  have D_P := hid (D_P.out.ext y)
  have O_XX := hid (O_XX.out.ext y)
  have O_Y := hid (O_Y.out.ext y)
  replace hx := Z0a hx y
  clear y
  go_wp2_with (go_at_call 54; refine Hid.out ?_)
  refine hid ?_
  have HM := Z6A (c0 := c0) most N0.out R0.out G0.out D1.out B1.out O2.out O3.out T1.out ZX2.out ZX3.out HT.out I2.out I3.out
  rw [HU.out] at HM
  refine HM.mono ?_
  clear HM
  rintro e wn ⟨y, ⟨hle2, A9, c9, M2, rfl, hM2, o9, p9⟩ | ⟨hgt2, rfl⟩⟩
  ·exact absurd hle2 (by omega)
  have R0 := hid (R0.out.ext y)
  have HT := hid (Utf8Tabs_below HT.out y)
  have HS := hid (HS.out.ext y)
  have D1 := hid (D1.out.ext y)
  have O2 := hid (O2.out.ext y)
  have O3 := hid (O3.out.ext y)
  have D_P := hid (D_P.out.ext y)
  have O_XX := hid (O_XX.out.ext y)
  have O_Y := hid (O_Y.out.ext y)
  replace hx := Z0a hx y
  clear y hgt hgt2
  have ND : Hid (DocAt wn none 0 0 []) := hid ⟨⟨Rd.nil, fun z hz => by cases hz⟩, rfl, Nat.le_refl _, (fun z hz => by cases hz), (fun z hz => by cases hz), by omega⟩
  go_wp2_with (go_at_call 19; refine Hid.out ?_)
  refine hid ?_
  refine (Z3F ND.out ND.out (decide_eq_true rfl)).mono ?_
  rintro e wn ⟨rfl, y⟩
  have R0 := hid (R0.out.ext y)
  have HT := hid (Utf8Tabs_below HT.out y)
  have HS := hid (HS.out.ext y)
  have D1 := hid (D1.out.ext y)
  have O2 := hid (O2.out.ext y)
  have O3 := hid (O3.out.ext y)
  have D_P := hid (D_P.out.ext y)
  have O_XX := hid (O_XX.out.ext y)
  have O_Y := hid (O_Y.out.ext y)
  replace hx := Z0a hx y
  clear y
  clear ND
  go_wp2_with (go_at_call 19; refine Hid.out ?_)
  refine hid ?_
  refine (Z3F D_P.out D1.out (decide_eq_true E_P.out)).mono ?_
  rintro e wn ⟨rfl, y⟩
  have R0 := hid (R0.out.ext y)
  have HT := hid (Utf8Tabs_below HT.out y)
  have HS := hid (HS.out.ext y)
  have D1 := hid (D1.out.ext y)
  have O2 := hid (O2.out.ext y)
  have O3 := hid (O3.out.ext y)
  have D_P := hid (D_P.out.ext y)
  have O_XX := hid (O_XX.out.ext y)
  have O_Y := hid (O_Y.out.ext y)
  replace hx := Z0a hx y
  clear y
  go_wp2_with (go_at_call 22; refine Hid.out ?_)
  refine hid ?_
  refine (Z3k O_XX.out.at_ O2.out.at_ (decide_eq_true E_XX.out)).mono ?_
  rintro e wn ⟨rfl, y⟩
  have R0 := hid (R0.out.ext y)
  have HT := hid (Utf8Tabs_below HT.out y)
  have HS := hid (HS.out.ext y)
  have D1 := hid (D1.out.ext y)
  have O2 := hid (O2.out.ext y)
  have O3 := hid (O3.out.ext y)
  have D_P := hid (D_P.out.ext y)
  have O_XX := hid (O_XX.out.ext y)
  have O_Y := hid (O_Y.out.ext y)
  replace hx := Z0a hx y
  clear y
  go_wp2_with (go_at_call 22; refine Hid.out ?_)
  refine hid ?_
  refine (Z3k O_Y.out.at_ O3.out.at_ (decide_eq_true E_Y.out)).mono ?_
  rintro e wn ⟨rfl, y⟩
  have R0 := hid (R0.out.ext y)
  have HT := hid (Utf8Tabs_below HT.out y)
  have HS := hid (HS.out.ext y)
  have D1 := hid (D1.out.ext y)
  have O2 := hid (O2.out.ext y)
  have O3 := hid (O3.out.ext y)
  have D_P := hid (D_P.out.ext y)
  have O_XX := hid (O_XX.out.ext y)
  have O_Y := hid (O_Y.out.ext y)
  replace hx := Z0a hx y
  clear y
  go_wp2_with (go_at_call 47; refine Hid.out ?_)
  refine hid ?_
  refine (Z18 _ HT.out).mono ?_
  rintro e w2 ⟨rfl, y⟩
  replace hx := Z0a hx y
  go_wp2_with (fail)
  go_ret
  exact ⟨rfl, hx⟩
open Go.ChangeShapes Go.WideShapes Go.ChangeAt Go.RowKit Go.Deep
set_option linter.constructorNameAsVariable false
set_option maxRecDepth 20000
theorem Tryz.own : ownKnob Tryz.prog.godebug = none := by kernel_rfl
theorem Tryz.laidOut : laidOutB Tryz.prog = true := by kernel_rfl
theorem Tryz.undBool : Tryz.prog.underlying 4 = some .bool := by kernel_rfl
theorem Tryz.uI32 : Tryz.prog.underlying 21 = some (.int .i32) := by kernel_rfl
theorem Tryz.clU8 : Tryz.prog.cellsOf 5 = 1 := by kernel_rfl
theorem Tryz.clI32 : Tryz.prog.cellsOf 21 = 1 := by kernel_rfl
theorem Tryz.uTab : Tryz.prog.underlying 266 = some (.array 256 5) := by kernel_rfl
theorem Tryz.clTab : Tryz.prog.cellsOf 266 = 256 := by kernel_rfl
theorem Tryz.uAcc : Tryz.prog.underlying 269 = some (.array 16 268) := by kernel_rfl
theorem Tryz.uAccR : Tryz.prog.underlying 268 = some (.struct (Tryz.prog.fieldsOf 268)) := by kernel_rfl
theorem Tryz.clAccR : Tryz.prog.cellsOf 268 = 2 := by kernel_rfl
theorem Tryz.fdAccR : (Tryz.prog.fieldsOf 268).toList.map (fun f => (f.type, f.offset)) = [(5, 0), (5, 1)] := by kernel_rfl
theorem Tryz.gFirst : Tryz.prog.globalNamed "unicode/utf8.first" = some 1 := by kernel_rfl
theorem Tryz.gAcc : Tryz.prog.globalNamed "unicode/utf8.acceptRanges" = some 2 := by kernel_rfl
theorem Tryz.gtFirst : (Tryz.prog.globals[1]?).map (·.type) = some 266 := by kernel_rfl
theorem Tryz.gtAcc : (Tryz.prog.globals[2]?).map (·.type) = some 269 := by kernel_rfl
def Z4T : List (String × DataW Unit) := [("unicode/utf8.acceptRanges", Rows.laid_unicode_utf8_acceptRanges), ("unicode/utf8.first", Rows.laid_unicode_utf8_first)]
theorem Y5S : Rows.laid_unicode_utf8_first = Lib.firstData := by kernel_rfl
theorem accEq : (Rows.laid_unicode_utf8_acceptRanges : DataW Unit) = Lib.acceptData := by kernel_rfl
theorem Y6G {fs : Array Field} {l : List (TypeId × Nat)} (h : fs.toList.map (fun f => (f.type, f.offset)) = l) {i : Nat} {f : Field} (hf : fs[i]? = some f) : l[i]? = some (f.type, f.offset) := by
 rw [← h, List.getElem?_map, Array.getElem?_toList, hf]
 rfl
theorem tabs {W : World} (h : laidMetH Tryz.prog Z4T W) : Utf8Tabs 1 2 W := by
 have h' : laidMet Tryz.prog Z4T W := by
  unfold laidMetH at h
  rw [show (Z4T.filter fun x => x.2.handleName?.isSome) = [] from by kernel_rfl] at h
  exact h
 have r1 := Lib.laidMet.reads h' (n := "unicode/utf8.first") (d := Rows.laid_unicode_utf8_first) (by simp [Z4T])
 have r2 := Lib.laidMet.reads h' (n := "unicode/utf8.acceptRanges") (d := Rows.laid_unicode_utf8_acceptRanges) (by simp [Z4T])
 rw [Y5S] at r1
 rw [accEq] at r2
 refine ⟨fun c hc => ?_, fun i hi => ?_⟩
 ·obtain ⟨g, t, cs, fuel, p, hg, hty, hvar, hd⟩ := r1
  obtain rfl := Option.some.inj (Tryz.gFirst.symm.trans hg)
  obtain rfl := Option.some.inj (Tryz.gtFirst.symm.trans hty)
  have hcs := Lib.cells_of_tab Tryz.uTab Tryz.uU8 Tryz.clU8 Tryz.clTab hd
  rw [World.var?_cell hg hvar c, ← Array.getElem?_toList, hcs]
  simp [Lib.firstTab, hc]
 ·obtain ⟨g, t, cs, fuel, p, hg, hty, hvar, hd⟩ := r2
  obtain rfl := Option.some.inj (Tryz.gAcc.symm.trans hg)
  obtain rfl := Option.some.inj (Tryz.gtAcc.symm.trans hty)
  obtain ⟨fuel', d, q, hdi, he⟩ := Lib.array_elem Tryz.uAcc hd i hi
  simp only [List.getElem?_map, List.getElem?_range hi, Option.map_some, Option.some.injEq] at hdi
  subst hdi
  rw [Tryz.clAccR] at he
  have hcs := Lib.ints_of_struct Tryz.uAccR (fun j f hj => by
   have h2 := Y6G Tryz.fdAccR hj
   match j, h2 with
   | 0, h2 => injection h2 with h2; injection h2 with h2 h3; rw [← h2, ← h3]; exact ⟨Tryz.uU8, rfl, Tryz.clU8⟩
   | 1, h2 => injection h2 with h2; injection h2 with h2 h3; rw [← h2, ← h3]; exact ⟨Tryz.uU8, rfl, Tryz.clU8⟩
   | j + 2, h2 => simp at h2) (by rw [Tryz.clAccR]; kernel_rfl) he
  have e0 := congrArg (·[0]?) hcs
  have e1 := congrArg (·[1]?) hcs
  simp only [List.getElem?_take, List.getElem?_drop] at e0 e1
  constructor
  ·rw [World.var?_cell hg hvar (2 * i), ← Array.getElem?_toList]
   simpa [Nat.mul_comm] using e0
  ·rw [World.var?_cell hg hvar (2 * i + 1), ← Array.getElem?_toList]
   simpa [Nat.mul_comm] using e1
def Y6H (cs : Array Value) : Obj → Obj
 | .cells _ t frozen => .cells cs t frozen
 | o => o
noncomputable def laidWorld (os : Os) : World :=
 { World.holding Tryz.prog os ⟨#[], #[], []⟩ with heap := ((World.holding Tryz.prog os ⟨#[], #[], []⟩).heap.modify 1 (Y6H (Lib.firstTab.map (Value.int .u8)).toArray)).modify 2 (Y6H ((List.range 16).flatMap fun i => [Value.int .u8 (Lib.accLo i), Value.int .u8 (Lib.accHi i)]).toArray) }
section
variable {H : Type} {enc : TypeId × Value → H} {P : Program} {W W' : World}
theorem Z4U (hl : laidOutB P = true) (hb : Below W.heap.size W W') : ∀ (ts : List TypeId) (vs : List Value) (ds : List (DataW H)) (ps : List MemPlace), (∀ t ∈ ts, P.readableRec t = true ∧ t < P.types.size) →
 DataW.TrodAll enc P W 0 (fun _ => true) true ts vs ds ps → (∀ x ∈ ps, x.block < W.heap.size) → DataW.TrodAll enc P W' 0 (fun b => decide (b < W.heap.size)) true ts vs ds ps
 | [], vs, ds, ps, _, h, _ => by
   obtain ⟨rfl, rfl, rfl⟩ := trodAll_nil h
   exact trodAll_mk0
 | t :: ts, vs, ds, ps, ht, h, hp => by
   obtain ⟨v, vs', d, ds', p, q, rfl, rfl, rfl, h0, r⟩ := trodAll_cons h
   have h1 := ht t (by simp)
   exact trodAll_cons_mk (Below.trod hl h1.1 h1.2 h0 hb (fun x hx => hp x (List.mem_append_left _ hx)))
    (Z4U hl hb ts vs' ds' q (fun u hu => ht u (List.mem_cons_of_mem _ hu)) r (fun x hx => hp x (List.mem_append_right _ hx)))
theorem Y4Q {f : Func} {s : ChangeSpec} {args : Array Value} {ds gs : List (DataW H)} {before : List MemPlace} {tb : TypeId}
 (hW : DataW.Whole enc P f.params.toList s.vars false W args.toList ds gs before) (hv : s.vars = []) (hr : f.resultTypes = #[tb]) (hu : P.underlying tb = some .bool)
 (hspec : s.fn H ds = { results := [.lit (.bool true)], args := ds }) (hl : laidOutB P = true) (hrr : f.params.toList.all (fun t => P.readableRec t && decide (t < P.types.size)) = true) (hb : Below W.heap.size W W') :
 s.post enc P f false true false false W args (.bool true) W' := by
 have hW0 := hW
 obtain ⟨p, q, hA, hV, rfl, _, _⟩ := hW
 rw [hv] at hV
 obtain ⟨rfl, rfl⟩ := trodVars_none hV
 have hlt : ∀ x ∈ p ++ [], x.block < W.heap.size := fun x hx => hW0.lt x hx
 rw [List.append_nil] at hlt
 refine ⟨ds, [], p ++ [], [], p, [], hW0, ?_, ?_, ?_, World.keptBut_mono (fun x hx => ⟨by simpa using hx, by simpa using hx⟩) (hb.frame (· ∈ p)), fun h => by cases h⟩
 ·rw [hr, List.append_nil, hspec]
  exact trodAll_mk1 (shut_bool hu true)
 ·rw [List.append_nil, hspec]
  exact Z4U hl hb _ _ _ _ (fun t ht => by have := List.all_eq_true.1 hrr t ht; simpa using this) hA hlt
 ·rw [hv, List.append_nil, hspec]
  rfl
end
section
variable {H : Type} {enc : TypeId × Value → H} {w : World} {base : Nat} {spare : Nat → Bool} {held : Bool} {fuel : Nat} {cs : List Value} {x : DataW H × List MemPlace}
end
open Go.ChangeShapes Go.WideShapes Go.ChangeAt Go.RowKit Go.Deep
set_option linter.unusedVariables false
set_option linter.constructorNameAsVariable false
set_option maxRecDepth 20000
theorem Tryz.qV : Tryz.prog.underlying 41 = some (.struct (Tryz.prog.fieldsOf 41)) := by kernel_rfl
theorem Tryz.qFd : (Tryz.prog.fieldsOf 41).toList.map (fun f => (f.type, f.offset)) = [(5, 0), (2, 1), (39, 2), (9, 3)] := by kernel_rfl
theorem Tryz.qI64 : Tryz.prog.underlying 2 = some (.int .i64) := by kernel_rfl
theorem Tryz.qU8 : Tryz.prog.underlying 5 = some (.int .u8) := by kernel_rfl
theorem Tryz.qU64 : Tryz.prog.underlying 39 = some (.int .u64) := by kernel_rfl
theorem Tryz.qBool : Tryz.prog.underlying 4 = some .bool := by kernel_rfl
theorem Tryz.qStr : Tryz.prog.underlying 9 = some .string := by kernel_rfl
theorem Tryz.qcV : Tryz.prog.cellsOf 41 = 4 := by kernel_rfl
theorem Tryz.qcI64 : Tryz.prog.cellsOf 2 = 1 := by kernel_rfl
theorem Tryz.qcU8 : Tryz.prog.cellsOf 5 = 1 := by kernel_rfl
theorem Tryz.qcU64 : Tryz.prog.cellsOf 39 = 1 := by kernel_rfl
theorem Tryz.qcStr : Tryz.prog.cellsOf 9 = 1 := by kernel_rfl
theorem wf_u8 {n : Int} (h : (Lit.int .u8 n).wf = true) : 0 ≤ n ∧ n ≤ 255 := by
 simp [Lit.wf] at h
 have h1 : IntKind.u8.min = 0 := by decide
 have h2 : IntKind.u8.max = 255 := by decide
 rw [h1, h2] at h
 exact h
theorem Y6I {n : Int} (h : (Lit.int .u64 n).wf = true) : 0 ≤ n ∧ n ≤ 18446744073709551615 := by
 simp [Lit.wf] at h
 have h1 : IntKind.u64.min = 0 := by decide
 have h2 : IntKind.u64.max = 18446744073709551615 := by decide
 rw [h1, h2] at h
 exact h
theorem Y6J {n : Int} (h : (Lit.int .i64 n).wf = true) : -9223372036854775808 ≤ n ∧ n ≤ 9223372036854775807 := by
 simp [Lit.wf] at h
 have h1 : IntKind.i64.min = -9223372036854775808 := by decide
 rw [h1] at h
 exact h
theorem Z0W {fs : Array Field} {l : List (TypeId × Nat)} (h : fs.toList.map (fun f => (f.type, f.offset)) = l) {i : Nat} {t o : Nat} (hi : l[i]? = some (t, o)) : ∃ f, fs[i]? = some f ∧ f.type = t ∧ f.offset = o := by
 rw [← h, List.getElem?_map] at hi
 rw [Array.getElem?_toList] at hi
 cases hf : fs[i]? with
 | none => rw [hf] at hi; simp at hi
 | some f => rw [hf] at hi; simp at hi; exact ⟨f, rfl, hi.1, hi.2⟩
section
variable {H : Type} {enc : TypeId × Value → H} {w : World} {base : Nat} {spare : Nat → Bool} {held : Bool} {fuel : Nat} {cs : List Value} {x : DataW H × List MemPlace}
end
theorem Z8O {H : Type} {enc : TypeId × Value → H} {P : Program} {w : World} {base : Nat} {spare : Nat → Bool} {held : Bool} {t0 t1 t2 t3 t4 : TypeId} {args : Array Value} {ds : List (DataW H)} {ps : List MemPlace} (h : DataW.TrodAll enc P w base spare held [t0, t1, t2, t3, t4] args.toList ds ps) :
 ∃ v0 v1 v2 v3 v4 d0 d1 d2 d3 d4 p0 p1 p2 p3 p4, args = #[v0, v1, v2, v3, v4] ∧ ds = [d0, d1, d2, d3, d4] ∧ ps = p0 ++ p1 ++ p2 ++ p3 ++ p4 ∧ DataW.Trod enc P w base spare held t0 v0 d0 p0 ∧ DataW.Trod enc P w base spare held t1 v1 d1 p1 ∧ DataW.Trod enc P w base spare held t2 v2 d2 p2 ∧ DataW.Trod enc P w base spare held t3 v3 d3 p3 ∧ DataW.Trod enc P w base spare held t4 v4 d4 p4 := by
 obtain ⟨v0, _, d0, _, p0, _, hargs, rfl, rfl, h0, r0⟩ := trodAll_cons h
 obtain ⟨v1, _, d1, _, p1, _, rfl, rfl, rfl, h1, r1⟩ := trodAll_cons r0
 obtain ⟨v2, _, d2, _, p2, _, rfl, rfl, rfl, h2, r2⟩ := trodAll_cons r1
 obtain ⟨v3, _, d3, _, p3, _, rfl, rfl, rfl, h3, r3⟩ := trodAll_cons r2
 obtain ⟨v4, _, d4, _, p4, _, rfl, rfl, rfl, h4, r4⟩ := trodAll_cons r3
 obtain ⟨rfl, rfl, rfl⟩ := trodAll_nil r4
 exact ⟨v0, v1, v2, v3, v4, d0, d1, d2, d3, d4, p0, p1, p2, p3, p4, by cases args; simp_all, rfl, by simp, h0, h1, h2, h3, h4⟩
end Go.Proofs.YtfnkjcodcoehcaaGreatDoor
