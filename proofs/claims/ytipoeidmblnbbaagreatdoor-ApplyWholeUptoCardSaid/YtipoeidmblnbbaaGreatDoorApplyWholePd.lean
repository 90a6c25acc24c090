/- The walk of rubriclaw19.ApplyWhole. Printed by wip/gen_r4z.py. -/
import Derived.Test.YtipoeidmblnbbaaGreatDoorPk26
import Derived.Test.YtipoeidmblnbbaaGreatDoorPk30
import Derived.Test.YtipoeidmblnbbaaGreatDoorPk32
import Derived.Test.YtipoeidmblnbbaaGreatDoorPk27
namespace Go.Proofs.YtipoeidmblnbbaaGreatDoor
open Go.RowKit
set_option linter.unusedVariables false
set_option linter.unusedSimpArgs false

theorem app_nothing (l : List Ky) (d : List Cl) : app l [] d = d := rfl
set_option maxRecDepth 100000 in
set_option maxHeartbeats 12800000 in
theorem applyWhole_any (A0 A1 A2 : Option Addr) (n0 n1 n2 c0 c1 c2 : Nat) (l0 : List Ky) (d : List ClS) (l2 : List OpS) (most : Int) (w : World)
    (e0 : n0 = l0.length) (e1 : n1 = d.length) (e2 : n2 = l2.length) (r0 : RdKy w w.heap.size A0 l0) (r1 : RdCl w w.heap.size A1 d) (r2 : RdOp w w.heap.size A2 l2) (b0 : n0 ≤ 1048576) (b1 : n1 ≤ 1048576) (b2 : n2 ≤ 1048576) (k1 : n1 ≤ c1)
    (q1 : ∀ x ∈ d, x.c.s.length ≤ 100000000 ∧ okVr x.c.s) (g1 : ∀ x ∈ d, x.c.s.length ≤ x.cs ∧ x.cs ≤ maxLen) (q2 : ∀ o ∈ l2, okOp o.o) (z2 : szX l2 ≤ 4611686018427387904) (hT : Lib.Utf8Tabs 1 2 w) :
    Calls Tryz.prog 9 #[.slice A0 n0 c0, .slice A1 n1 c1, .slice A2 n2 c2, .int .i64 most] w fun e w' => e = .returned (.bool true) ∧ Below w.heap.size w w' := by
  have N0 := Lib.hid e0
  have R0 := Lib.hid r0
  have HT := Lib.hid hT
  have N1 := Lib.hid e1
  have R1 := Lib.hid r1
  have Q1 := Lib.hid q1
  have C1 := Lib.hid g1
  have N2 := Lib.hid e2
  have R2 := Lib.hid r2
  have Q2 := Lib.hid q2
  have Z2 := Lib.hid z2
  have hx := Below.refl w.heap.size w
  clear e0 r0 hT e1 r1 q1 g1 e2 r2 q2 z2
  go_enter Tryz.func9, Tryz.ntmps9
  have ra : Rd SX.enc 1 _ _ _ [⟨A2, c2, l2⟩] := Rd.new (enc := SX.enc) (size := 1) (fun _ => rfl) w 34 [⟨A2, c2, l2⟩] (cs := #[.slice A2 n2 c2]) (by simp [SX.enc, ← N2.out]) rfl
  have y := ext_alloc w (.cells #[.slice A2 n2 c2] 34)
  have R0 := Lib.hid (R0.out.ext y)
  have R1 := Lib.hid (R1.out.ext y)
  have R2 := Lib.hid (R2.out.ext y)
  have HT := Lib.hid (Utf8Tabs_below HT.out y)
  replace hx := ext_trans hx y
  clear y
  go_wp2_with (go_at_call 28; refine Hid.out ?_)
  refine Lib.hid ?_
  refine (great19_any A0 A1 (some ⟨w.heap.size, 0, none⟩) n0 c0 n1 c1 1 1 d [⟨A2, c2, l2⟩] _ rfl ra (by omega) (by omega) (fun x hx => by
    simp only [List.mem_cons, List.not_mem_nil, or_false] at hx
    subst hx
    exact ⟨R2.out, by have := N2.out; simp only; omega⟩) (by simpa [sumX] using Z2.out) N1.out R1.out (by omega) (fun z hz => by have := (Q1.out z hz).1; omega)).mono ?_
  rintro e wn ⟨gb, rfl, h1, dr, hd⟩
  have y := drew_ext hd
  clear hd ra
  have R0 := Lib.hid (R0.out.ext y)
  have R1 := Lib.hid (R1.out.ext y)
  have R2 := Lib.hid (R2.out.ext y)
  have HT := Lib.hid (Utf8Tabs_below HT.out y)
  replace hx := ext_trans hx y
  clear y
  cases gb
  case true =>
    clear h1
    go_wp2_with (go_at_call 29; refine Hid.out ?_)
    refine Lib.hid ?_
    refine (known19_any _ HT.out).mono ?_
    rintro e w2 ⟨rfl, y⟩
    replace hx := ext_trans hx y
    go_wp2_with (fail)
    go_ret
    exact ⟨rfl, hx⟩
  have h2 := h1 rfl
  have G0 := Lib.hid h2.1
  have G1 : Hid (n1 ≤ 400 ∧ ∀ c ∈ d, c.c.s.length ≤ 64) := Lib.hid ⟨h2.2.1, h2.2.2.1⟩
  have B1 := Lib.hid h2.2.1
  have G3 : Hid (szX l2 ≤ 5000) := Lib.hid (by simpa [sumX] using h2.2.2.2)
  clear h1 h2
  go_wp2_with (go_at_call 13; refine Hid.out ?_)
  refine Lib.hid ?_
  refine (new_any A0 n0 c0 l0 _ N0.out R0.out (by omega)).mono ?_
  rintro e wn ⟨y, ⟨hm, s, rfl, hS⟩ | ⟨hm, rfl⟩⟩
  all_goals
    have R0 := Lib.hid (R0.out.ext y)
    have R1 := Lib.hid (R1.out.ext y)
    have R2 := Lib.hid (R2.out.ext y)
    have HT := Lib.hid (Utf8Tabs_below HT.out y)
    replace hx := ext_trans hx y
    clear y hm
  rotate_left
  · skip
    go_wp2_with (go_at_call 29; refine Hid.out ?_)
    refine Lib.hid ?_
    refine (known19_any _ HT.out).mono ?_
    rintro e w2 ⟨rfl, y⟩
    replace hx := ext_trans hx y
    go_wp2_with (fail)
    go_ret
    exact ⟨rfl, hx⟩
  have HS := Lib.hid hS
  clear hS
  have D1 : Hid (DocAt _ A1 n1 c1 d) := Lib.hid ⟨R1.out, N1.out, k1, C1.out, fun z hz => ⟨by have := G1.out.2 z hz; omega, (Q1.out z hz).2⟩, by have := B1.out; omega⟩
  have H64 : Hid (l0.length ≤ 64) := Lib.hid (by rw [← N0.out]; exact G0.out)
  have LD : Hid ((clsOf d).length = n1) := Lib.hid D1.out.clen
  have NB2 : Hid (n2 ≤ 5000) := Lib.hid (by have := szX_len l2; have := G3.out; have := N2.out; omega)
  have O2 : Hid (OpsAt _ A2 n2 l2) := Lib.hid ⟨R2.out, N2.out, Q2.out, by have := NB2.out; omega⟩
  obtain ⟨md, hmd⟩ : ∃ X, mayD l0 (clsOf d) = X := ⟨_, rfl⟩
  have MD := Lib.hid hmd
  clear hmd
  go_wp2_with (go_at_call 14; refine Hid.out ?_)
  refine Lib.hid ?_
  refine (mayDoc D1.out HS.out HT.out MD.out).mono ?_
  rintro e wn ⟨rfl, y⟩
  have HT := Lib.hid (Utf8Tabs_below HT.out y)
  have HS := Lib.hid (HS.out.ext y)
  have D1 := Lib.hid (D1.out.ext y)
  have O2 := Lib.hid (O2.out.ext y)
  replace hx := ext_trans hx y
  clear y
  by_cases h0 : md = 0
  rotate_left
  · have h0' : (md == 0) = false := beq_eq_false_iff_ne.2 h0
    go_wp2_with (go_at_call 29; refine Hid.out ?_)
    refine Lib.hid ?_
    refine (known19_any _ HT.out).mono ?_
    rintro e w2 ⟨rfl, y⟩
    replace hx := ext_trans hx y
    go_wp2_with (fail)
    go_ret
    exact ⟨rfl, hx⟩
  subst h0
  have P1 : Hid (1 ≤ n1) := Lib.hid (by obtain ⟨_, _, t, c, h, _⟩ := mayD_iff.1 MD.out; have := LD.out; rw [h] at this; simp at this; omega)
  skip
  have Z0 : Hid (applyN l0 [] (clsOf d) ((n1 : Nat) : Int) = 0) := Lib.hid (zero_applyN MD.out (by rw [LD.out]; exact units_fits (x := []) (by simp) (by have := B1.out; omega) (fun z hz => by cases hz) ⟨fun u hu => (by cases hu), Nat.zero_le _, P1.out, Nat.le_refl _, rfl, by simp [osOf, units, takesU, makesU], Nat.zero_le _, Nat.zero_le _⟩))
  go_wp2_with (go_at_call 17; refine Hid.out ?_)
  refine Lib.hid ?_
  refine (applyDoc (most := n1) (us := []) (x := []) (B := none) (n2 := 0) D1.out ⟨⟨Rd.nil, fun z hz => by cases hz⟩, rfl, (fun z hz => by cases hz), by omega⟩ HS.out HT.out H64.out (by have := B1.out; omega) Z0.out rfl).mono ?_
  rintro e wn ⟨A5, c5, M0, rfl, h_0, m_0, b_0, d_0, y⟩
  have HT := Lib.hid (Utf8Tabs_below HT.out y)
  have HS := Lib.hid (HS.out.ext y)
  have D1 := Lib.hid (D1.out.ext y)
  have O2 := Lib.hid (O2.out.ext y)
  replace hx := ext_trans hx y
  have D_M0 := Lib.hid d_0
  have E_M0 : Hid (clsOf M0 = clsOf d) := Lib.hid h_0
  clear d_0 h_0 m_0 b_0
  clear y
  go_wp2_with (go_at_call 19; refine Hid.out ?_)
  refine Lib.hid ?_
  refine (sameD D_M0.out D1.out (decide_eq_true E_M0.out)).mono ?_
  rintro e wn ⟨rfl, y⟩
  have HT := Lib.hid (Utf8Tabs_below HT.out y)
  have HS := Lib.hid (HS.out.ext y)
  have D1 := Lib.hid (D1.out.ext y)
  have O2 := Lib.hid (O2.out.ext y)
  have D_M0 := Lib.hid (D_M0.out.ext y)
  replace hx := ext_trans hx y
  clear y
  obtain ⟨r, hr⟩ : ∃ X, applyN l0 l2 (clsOf d) most = X := ⟨_, rfl⟩
  by_cases h0 : r = 0
  rotate_left
  · skip
    have h0' : (r == 0) = false := beq_eq_false_iff_ne.2 h0
    go_wp2_with (go_at_call 17; refine Hid.out ?_)
    refine Lib.hid ?_
    refine (applyBad D1.out O2.out HS.out HT.out hr h0).mono ?_
    rintro e wn ⟨rfl, y⟩
    have HT := Lib.hid (Utf8Tabs_below HT.out y)
    have HS := Lib.hid (HS.out.ext y)
    have D1 := Lib.hid (D1.out.ext y)
    have O2 := Lib.hid (O2.out.ext y)
    replace hx := ext_trans hx y
    clear y
    clear hr
    go_wp2_with (go_at_call 29; refine Hid.out ?_)
    refine Lib.hid ?_
    refine (known19_any _ HT.out).mono ?_
    rintro e w2 ⟨rfl, y⟩
    replace hx := ext_trans hx y
    go_wp2_with (fail)
    go_ret
    exact ⟨rfl, hx⟩
  subst h0
  obtain ⟨N, hN1, hN2, hN3⟩ := whole_most (by have := N2.out; omega) G3.out (by rw [LD.out]; exact B1.out) hr
  have W1 := Lib.hid hN1
  have W2 := Lib.hid hN2
  have W3 := Lib.hid hN3
  have W4 := Lib.hid hr
  obtain ⟨hg, hf⟩ := fits_units (n := (clsOf d).length) (most := N) (by have := N2.out; omega) (by omega) (applyN_zero hN3).2
  have FF := Lib.hid hf
  have IS := Lib.hid (good_isOp hg)
  clear hr hN1 hN2 hN3 hg hf
  go_wp2_with (go_at_call 17; refine Hid.out ?_)
  refine Lib.hid ?_
  refine (applyDocI (N := N) (us := units (osOf l2)) D1.out O2.out HS.out HT.out H64.out W1.out W4.out W3.out rfl).mono ?_
  rintro e wn ⟨A6, c6, M1, rfl, h_1, m_1, b_1, d_1, y⟩
  have HT := Lib.hid (Utf8Tabs_below HT.out y)
  have HS := Lib.hid (HS.out.ext y)
  have D1 := Lib.hid (D1.out.ext y)
  have O2 := Lib.hid (O2.out.ext y)
  replace hx := ext_trans hx y
  have D_M1 := Lib.hid d_1
  have E_M1 := Lib.hid h_1
  have M_M1 := Lib.hid m_1
  have B_M1 := Lib.hid b_1
  clear d_1 h_1 m_1 b_1
  clear y
  have TOLD : Hid (Told (ofM (osOf l2)) (units (osOf l2))) := Lib.hid (ofM_told _ (fun o ho => by
    obtain ⟨z, hz, rfl⟩ := List.mem_map.1 ho
    exact IS.out z hz) (by have h1 := units_length (us := units (osOf l2)); have h2 := FF.out.tb; have h3 := FF.out.mb; omega))
  have OKU : Hid (∀ u ∈ units (osOf l2), okUn u) := Lib.hid (fun u hu => by
    obtain ⟨o, ho, hu⟩ := units_mem.1 hu
    exact okUn_of (Q2.out o ho) u hu)
  have MBB : Hid (MkB (ofM (osOf l2)) (2 * szX l2) 5000) := Lib.hid (ofM_bnd l2 (fun o ho => by
    have h1 := szX_mem ho
    unfold szO at h1
    have h2 := G3.out
    omega))
  go_wp2_with (go_at_call 31; refine Hid.out ?_)
  refine Lib.hid ?_
  refine ((normOf_any A2 n2 c2 l2 _ N2.out O2.out.rd (by have := G3.out; omega)).mono fun e w' hN => hN.op TOLD.out OKU.out MBB.out (by have := G3.out; omega) (by omega)).mono ?_
  rintro e wn ⟨A7, c7, x3, rfl, h3, o3, y⟩
  have HT := Lib.hid (Utf8Tabs_below HT.out y)
  have HS := Lib.hid (HS.out.ext y)
  have D1 := Lib.hid (D1.out.ext y)
  have O2 := Lib.hid (O2.out.ext y)
  have D_M1 := Lib.hid (D_M1.out.ext y)
  replace hx := ext_trans hx y
  have O3 := Lib.hid o3
  have E3 := Lib.hid h3
  clear o3 h3 y
  have Z3 : Hid (applyN l0 x3 (clsOf d) ((N : Nat) : Int) = 0 ∧ app l0 (units (osOf x3)) (clsOf d) = app l0 (units (osOf l2)) (clsOf d)) := Lib.hid (made_apply (most := N) E3.out TOLD.out (by have := O3.out.b; have := O3.out.len; omega) (by have := W1.out; omega) MD.out FF.out)
  have Z4 : Hid (applyN l0 x3 (clsOf d) most = 0) := Lib.hid (applyN_up Z3.out.1 W2.out)
  go_wp2_with (go_at_call 17; refine Hid.out ?_)
  refine Lib.hid ?_
  refine (applyDocI (N := N) (us := units (osOf l2)) D1.out O3.out HS.out HT.out H64.out W1.out Z4.out Z3.out.1 Z3.out.2).mono ?_
  rintro e wn ⟨A8, c8, M2, rfl, h_2, m_2, b_2, d_2, y⟩
  have HT := Lib.hid (Utf8Tabs_below HT.out y)
  have HS := Lib.hid (HS.out.ext y)
  have D1 := Lib.hid (D1.out.ext y)
  have O2 := Lib.hid (O2.out.ext y)
  have D_M1 := Lib.hid (D_M1.out.ext y)
  have O3 := Lib.hid (O3.out.ext y)
  replace hx := ext_trans hx y
  have D_M2 := Lib.hid d_2
  have E_M2 := Lib.hid h_2
  clear d_2 h_2 m_2 b_2
  clear y
  have EE : Hid (clsOf M1 = clsOf M2) := Lib.hid (by rw [E_M1.out, E_M2.out])
  have LE : Hid ((M1.length : Int) = (n1 : Int) + growX l2) := Lib.hid (by
    have h := app_len l0 (units (osOf l2)) (clsOf d) FF.out.t
    rw [← E_M1.out, clsOf_len, LD.out] at h
    rw [growX_units IS.out]; omega)
  have ML : ¬ most < (M1.length : Int) := by have := B_M1.out; have := W2.out; omega
  have ML' : decide (most < (M1.length : Int)) = false := decide_eq_false ML
  go_wp2_with (go_at_call 19; refine Hid.out ?_)
  refine Lib.hid ?_
  refine (sameD D_M1.out D_M2.out (decide_eq_true EE.out)).mono ?_
  rintro e wn ⟨rfl, y⟩
  have HT := Lib.hid (Utf8Tabs_below HT.out y)
  have HS := Lib.hid (HS.out.ext y)
  have D1 := Lib.hid (D1.out.ext y)
  have O2 := Lib.hid (O2.out.ext y)
  have D_M1 := Lib.hid (D_M1.out.ext y)
  have O3 := Lib.hid (O3.out.ext y)
  have D_M2 := Lib.hid (D_M2.out.ext y)
  replace hx := ext_trans hx y
  clear y
  go_wp2_with (go_at_call 14; refine Hid.out ?_)
  refine Lib.hid ?_
  refine (mayDoc D_M1.out HS.out HT.out M_M1.out).mono ?_
  rintro e wn ⟨rfl, y⟩
  have HT := Lib.hid (Utf8Tabs_below HT.out y)
  have HS := Lib.hid (HS.out.ext y)
  have D1 := Lib.hid (D1.out.ext y)
  have O2 := Lib.hid (O2.out.ext y)
  have D_M1 := Lib.hid (D_M1.out.ext y)
  have O3 := Lib.hid (O3.out.ext y)
  have D_M2 := Lib.hid (D_M2.out.ext y)
  replace hx := ext_trans hx y
  clear y
  have GT := Lib.hid (fun i => growX_take IS.out i)
  have TB : Hid (takesU (units (osOf l2)) ≤ 400 ∧ makesU (units (osOf l2)) ≤ 10400) := Lib.hid (by have h1 := FF.out.t; have h2 := FF.out.m; rw [LD.out] at h1 h2; have := B1.out; have := W1.out; omega)
  go_wp2_with (fail)
  clear ML ML'
  go_loopg [17, 104] n2 (fun g av iv wr => ∃ (m : Nat), m ≤ n2 ∧ g = n2 - m ∧ av = .int .i64 ((n1 : Int) + growX (l2.take m)) ∧ iv = .int .i64 (m : Int) ∧ ∃ dr, wr = wn.drewN dr)
  case atStart => exact ⟨0, by omega, rfl, by rw [List.take_zero, growX_nil, Int.add_zero], rfl, 0, rfl⟩
  case round =>
    obtain ⟨m, hm, hg, rfl, rfl, dr, rfl⟩ := hrel
    have HG := Lib.hid hg
    clear hg
    by_cases hlt : m < n2
    · skip
      have hl1 : m < l2.length := by have := N2.out; omega
      obtain ⟨ad, x, hA, had, _, hx1, hc1⟩ := (O2.out.rd.ext (ext_drew wn dr)).1.el hl1
      have TK : Hid (growX (l2.take (m + 1)) = growX (l2.take m) + growO x.o) := Lib.hid (by rw [List.take_add_one, hx1]; show growX (l2.take m ++ [x]) = _; rw [growX_append, growX_cons, growX_nil, Int.add_zero])
      have IX := Lib.hid (IS.out x (List.mem_of_getElem? hx1))
      have GA := Lib.hid (GT.out m)
      have GB := Lib.hid (GT.out (m + 1))
      obtain ⟨G, hG⟩ : ∃ X, growX (l2.take m) = X := ⟨_, rfl⟩
      rw [hG] at TK GA ⊢
      clear hG
      obtain ⟨⟨k, nn, r, s2, q⟩, Ar, cr, As, cs, Ap, cp⟩ := x
      obtain ⟨f0, f1, f2, f3, f4⟩ := op_cells hc1
      have hlt' : (m : Int) < (n2 : Int) := by omega
      have hw2 : IntKind.i64.wrap ((m:Int) + 1) = (m : Int) + 1 := IntWalk.i64_in _ (by have := NB2.out; omega)
      clear hx1 hc1 had hl1
      subst hA
      by_cases hk2 : k = 2
      · skip
        subst hk2
        have NG : Hid ((n1 : Int) + growX (l2.take (m + 1)) = (n1 : Int) + G + (r.length : Int)) := Lib.hid (by rw [TK.out]; show (n1 : Int) + (G + (r.length : Int)) = _; omega)
        have hr : -9223372036854775808 ≤ (n1 : Int) + G + (r.length : Int) ∧ (n1 : Int) + G + (r.length : Int) ≤ 9223372036854775807 := by have h1 := NG.out; have h2 := GB.out; have h3 := TB.out; have := B1.out; omega
        have hw3 : IntKind.i64.wrap ((n1 : Int) + G + (r.length : Int)) = (n1 : Int) + G + (r.length : Int) := IntWalk.i64_in _ hr
        have hw3' : wrap64 ((n1 : Int) + G + (r.length : Int)) = (n1 : Int) + G + (r.length : Int) := w64_in _ hr
        clear hr
        go_wp2_with (fail)
        go_roundg (n2 - (m + 1))
        case measure => have := HG.out; omega
        case rel => exact ⟨m + 1, by omega, rfl, by rw [NG.out], by go_num, _, rfl⟩
      by_cases hk3 : k = 3
      · skip
        subst hk3
        have NG : Hid ((n1 : Int) + growX (l2.take (m + 1)) = (n1 : Int) + G - nn) := Lib.hid (by rw [TK.out]; show (n1 : Int) + (G + (-nn)) = _; omega)
        have hr : -9223372036854775808 ≤ (n1 : Int) + G - nn ∧ (n1 : Int) + G - nn ≤ 9223372036854775807 := by have h1 := NG.out; have h2 := GB.out; have h3 := TB.out; have := B1.out; omega
        have hw3 : IntKind.i64.wrap ((n1 : Int) + G - nn) = (n1 : Int) + G - nn := IntWalk.i64_in _ hr
        have hw3' : wrap64 ((n1 : Int) + G - nn) = (n1 : Int) + G - nn := w64_in _ hr
        clear hr
        go_wp2_with (fail)
        go_roundg (n2 - (m + 1))
        case measure => have := HG.out; omega
        case rel => exact ⟨m + 1, by omega, rfl, by rw [NG.out], by go_num, _, rfl⟩
      have hk1 : k = 1 := by
        rcases isOp_kind IX.out with h | h | h
        · exact absurd h hk2
        · exact absurd h hk3
        · exact h
      subst hk1
      have NG : Hid ((n1 : Int) + growX (l2.take (m + 1)) = (n1 : Int) + G) := Lib.hid (by rw [TK.out]; show (n1 : Int) + (G + 0) = _; omega)
      go_wp2_with (fail)
      go_roundg (n2 - (m + 1))
      case measure => have := HG.out; omega
      case rel => exact ⟨m + 1, by omega, rfl, by rw [NG.out], by go_num, _, rfl⟩
    · skip
      have hlt' : ¬ (m : Int) < (n2 : Int) := by omega
      have LE2 : (n1 : Int) + growX (l2.take m) = (M1.length : Int) := by rw [List.take_of_length_le (by have := N2.out; omega)]; exact LE.out.symm
      rw [LE2]
      have y := ext_drew wn dr
      generalize wn.drewN dr = wq at *
      have HT := Lib.hid (Utf8Tabs_below HT.out y)
      have HS := Lib.hid (HS.out.ext y)
      have D1 := Lib.hid (D1.out.ext y)
      have O2 := Lib.hid (O2.out.ext y)
      have D_M1 := Lib.hid (D_M1.out.ext y)
      have O3 := Lib.hid (O3.out.ext y)
      have D_M2 := Lib.hid (D_M2.out.ext y)
      replace hx := ext_trans hx y
      clear y LE2
      go_wp2_with (go_at_call 29; refine Hid.out ?_)
      refine Lib.hid ?_
      refine (known19_any _ HT.out).mono ?_
      rintro e w2 ⟨rfl, y⟩
      replace hx := ext_trans hx y
      go_wp2_with (fail)
      go_ret
      exact ⟨rfl, hx⟩
end Go.Proofs.YtipoeidmblnbbaaGreatDoor
