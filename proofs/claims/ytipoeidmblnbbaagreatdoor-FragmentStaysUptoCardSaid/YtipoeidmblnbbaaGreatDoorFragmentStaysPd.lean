/- The walk of rubriclaw26.FragmentStays. Printed by wip/gen_frag.py. -/
import Derived.Test.YtipoeidmblnbbaaGreatDoorPk26
import Derived.Test.YtipoeidmblnbbaaGreatDoorPk27
namespace Go.Proofs.YtipoeidmblnbbaaGreatDoor
open Go.RowKit
set_option linter.unusedVariables false
set_option linter.unusedSimpArgs false

set_option maxRecDepth 100000 in
set_option maxHeartbeats 12800000 in
theorem fragmentStays_any (A0 A1 A2 : Option Addr) (n0 n1 n2 c0 c1 c2 : Nat) (l0 : List Ky) (d f : List ClS) (i j p : Int) (w : World)
    (e0 : n0 = l0.length) (e1 : n1 = d.length) (e2 : n2 = f.length) (r0 : RdKy w w.heap.size A0 l0) (r1 : RdCl w w.heap.size A1 d) (r2 : RdCl w w.heap.size A2 f) (b0 : n0 ≤ 1048576) (b1 : n1 ≤ 1048576) (b2 : n2 ≤ 1048576) (k1 : n1 ≤ c1) (k2 : n2 ≤ c2)
    (q1 : ∀ x ∈ d, x.c.s.length ≤ 100000000 ∧ okVr x.c.s) (g1 : ∀ x ∈ d, x.c.s.length ≤ x.cs ∧ x.cs ≤ maxLen) (q2 : ∀ x ∈ f, x.c.s.length ≤ 100000000 ∧ okVr x.c.s) (g2 : ∀ x ∈ f, x.c.s.length ≤ x.cs ∧ x.cs ≤ maxLen) (hT : Lib.Utf8Tabs 1 2 w) :
    Calls Tryz.prog 3 #[.slice A0 n0 c0, .slice A1 n1 c1, .slice A2 n2 c2, .int .i64 i, .int .i64 j, .int .i64 p] w fun e w' => e = .returned (.bool true) ∧ Below w.heap.size w w' := by
  have N0 := Lib.hid e0
  have R0 := Lib.hid r0
  have HT := Lib.hid hT
  have hx := Below.refl w.heap.size w
  have N1 := Lib.hid e1
  have R1 := Lib.hid r1
  have Q1 := Lib.hid q1
  have C1 := Lib.hid g1
  have N2 := Lib.hid e2
  have R2 := Lib.hid r2
  have Q2 := Lib.hid q2
  have C2 := Lib.hid g2
  clear e0 r0 hT e1 r1 q1 g1 e2 r2 q2 g2
  go_enter Tryz.func3, Tryz.ntmps3
  by_cases h64 : (64 : Int) < (n0 : Int)
  · skip
    go_wp2_with (go_at_call 12; refine Hid.out ?_)
    refine Lib.hid ?_
    refine (known26_any _ HT.out).mono ?_
    rintro e w2 ⟨rfl, y⟩
    replace hx := ext_trans hx y
    go_wp2_with (fail)
    go_ret
    exact ⟨rfl, hx⟩
  go_wp2_with (go_at_call 11; refine Hid.out ?_)
  refine Lib.hid ?_
  refine (great18_any A1 n1 c1 d 300 _ N1.out R1.out (by omega) (fun z hz => by have := (Q1.out z hz).1; omega)).mono ?_
  rintro e wn ⟨g, rfl, hgr, dr, hd⟩
  have y := drew_ext hd
  clear hd
  have R0 := Lib.hid (R0.out.ext y)
  have HT := Lib.hid (Utf8Tabs_below HT.out y)
  have R1 := Lib.hid (R1.out.ext y)
  have R2 := Lib.hid (R2.out.ext y)
  replace hx := ext_trans hx y
  clear y
  cases g
  case true =>
    clear hgr
    go_wp2_with (go_at_call 12; refine Hid.out ?_)
    refine Lib.hid ?_
    refine (known26_any _ HT.out).mono ?_
    rintro e w2 ⟨rfl, y⟩
    replace hx := ext_trans hx y
    go_wp2_with (fail)
    go_ret
    exact ⟨rfl, hx⟩
  have G1 : Hid (n1 ≤ 300 ∧ ∀ z ∈ d, z.c.s.length ≤ 64) := Lib.hid ⟨by have := (hgr rfl).1; omega, (hgr rfl).2⟩
  clear hgr
  go_wp2_with (go_at_call 11; refine Hid.out ?_)
  refine Lib.hid ?_
  refine (great18_any A2 n2 c2 f 200 _ N2.out R2.out (by omega) (fun z hz => by have := (Q2.out z hz).1; omega)).mono ?_
  rintro e wn ⟨g, rfl, hgr, dr, hd⟩
  have y := drew_ext hd
  clear hd
  have R0 := Lib.hid (R0.out.ext y)
  have HT := Lib.hid (Utf8Tabs_below HT.out y)
  have R1 := Lib.hid (R1.out.ext y)
  have R2 := Lib.hid (R2.out.ext y)
  replace hx := ext_trans hx y
  clear y
  cases g
  case true =>
    clear hgr
    go_wp2_with (go_at_call 12; refine Hid.out ?_)
    refine Lib.hid ?_
    refine (known26_any _ HT.out).mono ?_
    rintro e w2 ⟨rfl, y⟩
    replace hx := ext_trans hx y
    go_wp2_with (fail)
    go_ret
    exact ⟨rfl, hx⟩
  have G2 : Hid (n2 ≤ 200 ∧ ∀ z ∈ f, z.c.s.length ≤ 64) := Lib.hid ⟨by have := (hgr rfl).1; omega, (hgr rfl).2⟩
  clear hgr
  go_wp2_with (go_at_call 13; refine Hid.out ?_)
  refine Lib.hid ?_
  refine (new_any A0 n0 c0 l0 _ N0.out R0.out (by omega)).mono ?_
  rintro e wn ⟨y, ⟨hm, s, rfl, hS⟩ | ⟨hm, rfl⟩⟩
  all_goals
    have R0 := Lib.hid (R0.out.ext y)
    have HT := Lib.hid (Utf8Tabs_below HT.out y)
    have R1 := Lib.hid (R1.out.ext y)
    have R2 := Lib.hid (R2.out.ext y)
    replace hx := ext_trans hx y
    clear y hm
  rotate_left
  · skip
    go_wp2_with (go_at_call 12; refine Hid.out ?_)
    refine Lib.hid ?_
    refine (known26_any _ HT.out).mono ?_
    rintro e w2 ⟨rfl, y⟩
    replace hx := ext_trans hx y
    go_wp2_with (fail)
    go_ret
    exact ⟨rfl, hx⟩
  have HS := Lib.hid hS
  clear hS
  have D1 : Hid (DocAt _ A1 n1 c1 d) := Lib.hid ⟨R1.out, N1.out, k1, C1.out, fun z hz => ⟨by have := G1.out.2 z hz; omega, (Q1.out z hz).2⟩, by have := G1.out.1; omega⟩
  have S1 : Hid (∀ z ∈ clsOf d, z.s.length ≤ 64) := Lib.hid (fun c hc => by
    obtain ⟨z, hz, rfl⟩ := cls_mem hc
    exact G1.out.2 z hz)
  have D2 : Hid (DocAt _ A2 n2 c2 f) := Lib.hid ⟨R2.out, N2.out, k2, C2.out, fun z hz => ⟨by have := G2.out.2 z hz; omega, (Q2.out z hz).2⟩, by have := G2.out.1; omega⟩
  have S2 : Hid (∀ z ∈ clsOf f, z.s.length ≤ 64) := Lib.hid (fun c hc => by
    obtain ⟨z, hz, rfl⟩ := cls_mem hc
    exact G2.out.2 z hz)
  have H64 : Hid (l0.length ≤ 64) := Lib.hid (by have := N0.out; omega)
  obtain ⟨md, hmd⟩ : ∃ X, mayD l0 (clsOf d) = X := ⟨_, rfl⟩
  have MD := Lib.hid hmd
  clear hmd
  go_wp2_with (go_at_call 14; refine Hid.out ?_)
  refine Lib.hid ?_
  refine (mayDoc D1.out HS.out HT.out MD.out).mono ?_
  rintro e wn ⟨rfl, y⟩
  have HT := Lib.hid (Utf8Tabs_below HT.out y)
  have HS := Lib.hid (HS.out.ext y)
  have D1 := Lib.hid (D1.out.ext y)
  have D2 := Lib.hid (D2.out.ext y)
  replace hx := ext_trans hx y
  clear y
  by_cases h0 : md = 0
  rotate_left
  · have h0' : (md == 0) = false := beq_eq_false_iff_ne.2 h0
    go_wp2_with (go_at_call 12; refine Hid.out ?_)
    refine Lib.hid ?_
    refine (known26_any _ HT.out).mono ?_
    rintro e w2 ⟨rfl, y⟩
    replace hx := ext_trans hx y
    go_wp2_with (fail)
    go_ret
    exact ⟨rfl, hx⟩
  subst h0
  have LD : Hid ((clsOf d).length = n1) := Lib.hid D1.out.clen
  have B1 : Hid (n1 ≤ 300 ∧ 1 ≤ n1) := Lib.hid ⟨G1.out.1, by obtain ⟨_, _, t, c, h, _⟩ := mayD_iff.1 MD.out; have := LD.out; rw [h] at this; simp at this; omega⟩
  go_wp2_with (go_at_call 15; refine Hid.out ?_)
  refine Lib.hid ?_
  refine (cutDoc D1.out i j).mono ?_
  rintro e wn ⟨A3, c3, L3, rfl, h3, d3, y⟩
  have HT := Lib.hid (Utf8Tabs_below HT.out y)
  have HS := Lib.hid (HS.out.ext y)
  have D1 := Lib.hid (D1.out.ext y)
  have D2 := Lib.hid (D2.out.ext y)
  replace hx := ext_trans hx y
  have D3 := Lib.hid d3
  have E3 := Lib.hid h3
  clear d3 h3
  clear y
  have M3 : Hid (mayD l0 (clsOf L3 ++ [⟨10, []⟩]) = 0) := Lib.hid (by rw [E3.out]; exact cutD_may MD.out (by rw [LD.out]; have := B1.out; omega))
  obtain ⟨n3, hn3⟩ : ∃ X, L3.length = X := ⟨_, rfl⟩
  have N3 : Hid ((cutC (clsOf d) i j).length = n3) := Lib.hid (by rw [← E3.out, clsOf_len, hn3])
  rw [hn3] at D3 ⊢
  clear hn3
  by_cases g0 : i < 0
  · skip
    have g0' : ¬ (0 ≤ i) := by omega
    have hz : n3 = 0 := by
      rw [← N3.out]
      unfold cutC
      rw [if_pos (by rw [LD.out]; omega)]; rfl
    subst hz
    go_wp2_with (go_at_call 16; refine Hid.out ?_)
    refine Lib.hid ?_
    refine (fragDoc D3.out HS.out HT.out M3.out).mono ?_
    rintro e wn ⟨rfl, y⟩
    have HT := Lib.hid (Utf8Tabs_below HT.out y)
    have HS := Lib.hid (HS.out.ext y)
    have D1 := Lib.hid (D1.out.ext y)
    have D2 := Lib.hid (D2.out.ext y)
    have D3 := Lib.hid (D3.out.ext y)
    replace hx := ext_trans hx y
    clear y
    by_cases hc : p < 0
    · skip
      go_wp2_with (go_at_call 12; refine Hid.out ?_)
      refine Lib.hid ?_
      refine (known26_any _ HT.out).mono ?_
      rintro e w2 ⟨rfl, y⟩
      replace hx := ext_trans hx y
      go_wp2_with (fail)
      go_ret
      exact ⟨rfl, hx⟩
    by_cases hc : (n1 : Int) ≤ p
    · skip
      go_wp2_with (go_at_call 12; refine Hid.out ?_)
      refine Lib.hid ?_
      refine (known26_any _ HT.out).mono ?_
      rintro e w2 ⟨rfl, y⟩
      replace hx := ext_trans hx y
      go_wp2_with (fail)
      go_ret
      exact ⟨rfl, hx⟩
    by_cases hn2 : n2 = 0
    · subst hn2
      go_wp2_with (go_at_call 12; refine Hid.out ?_)
      refine Lib.hid ?_
      refine (known26_any _ HT.out).mono ?_
      rintro e w2 ⟨rfl, y⟩
      replace hx := ext_trans hx y
      go_wp2_with (fail)
      go_ret
      exact ⟨rfl, hx⟩
    have hn2' : ((n2 : Int) == 0) = false := beq_eq_false_iff_ne.2 (by omega)
    obtain ⟨pn, rfl⟩ : ∃ m : Nat, p = m := ⟨p.toNat, by omega⟩
    have P1 : Hid (pn < n1) := Lib.hid (by omega)
    have F2 : Hid (clsOf f ≠ []) := Lib.hid (fun h => by have h2 := D2.out.clen; rw [h] at h2; simp at h2; omega)
    go_wp2_with (go_at_call 18; refine Hid.out ?_)
    refine Lib.hid ?_
    refine (pasteDoc D2.out S2.out pn (by have := P1.out; have := B1.out; omega)).mono ?_
    rintro e wn ⟨A4, c4, x4, rfl, h4, o4, y⟩
    have HT := Lib.hid (Utf8Tabs_below HT.out y)
    have HS := Lib.hid (HS.out.ext y)
    have D1 := Lib.hid (D1.out.ext y)
    have D2 := Lib.hid (D2.out.ext y)
    have D3 := Lib.hid (D3.out.ext y)
    replace hx := ext_trans hx y
    have O4 := Lib.hid o4
    have E4 := Lib.hid h4
    clear o4 h4
    clear y
    obtain ⟨mf, hmf⟩ : ∃ X, mayD l0 (clsOf f ++ [⟨10, []⟩]) = X := ⟨_, rfl⟩
    have MF := Lib.hid hmf
    clear hmf
    by_cases h0 : mf = 0
    · skip
      subst h0
      have Z : Hid (applyN l0 x4 (clsOf d) ((10000 : Nat) : Int) = 0 ∧ app l0 (units (osOf x4)) (clsOf d) = app l0 (pasteU pn (clsOf f)) (clsOf d)) := Lib.hid (made_apply (most := 10000) E4.out (paste_told pn (clsOf f) (by have := P1.out; have := B1.out; omega)) (by have := O4.out.b; have := O4.out.len; omega) (by omega) MD.out (paste_fit (by rw [LD.out]; exact P1.out) (by rw [LD.out, D2.out.clen]; have := B1.out; have := G2.out.1; omega) (by omega) (frag_iff.1 MF.out).2))
      go_wp2_with (go_at_call 17; refine Hid.out ?_)
      refine Lib.hid ?_
      refine (applyDoc (most := 10000) D1.out O4.out HS.out HT.out H64.out (by omega) Z.out.1 Z.out.2).mono ?_
      rintro e wn ⟨A5, c5, M, rfl, h5, m5, l5, d5, y⟩
      have HT := Lib.hid (Utf8Tabs_below HT.out y)
      have HS := Lib.hid (HS.out.ext y)
      have D1 := Lib.hid (D1.out.ext y)
      have D2 := Lib.hid (D2.out.ext y)
      have D3 := Lib.hid (D3.out.ext y)
      have O4 := Lib.hid (O4.out.ext y)
      replace hx := ext_trans hx y
      have D5 := Lib.hid d5
      have M5 := Lib.hid m5
      clear d5 h5 m5 l5
      clear y
      go_wp2_with (go_at_call 16; refine Hid.out ?_)
      refine Lib.hid ?_
      refine (fragDoc D2.out HS.out HT.out MF.out).mono ?_
      rintro e wn ⟨rfl, y⟩
      have HT := Lib.hid (Utf8Tabs_below HT.out y)
      have HS := Lib.hid (HS.out.ext y)
      have D1 := Lib.hid (D1.out.ext y)
      have D2 := Lib.hid (D2.out.ext y)
      have D3 := Lib.hid (D3.out.ext y)
      have O4 := Lib.hid (O4.out.ext y)
      have D5 := Lib.hid (D5.out.ext y)
      replace hx := ext_trans hx y
      clear y
      go_wp2_with (go_at_call 14; refine Hid.out ?_)
      refine Lib.hid ?_
      refine (mayDoc D5.out HS.out HT.out M5.out).mono ?_
      rintro e wn ⟨rfl, y⟩
      have HT := Lib.hid (Utf8Tabs_below HT.out y)
      have HS := Lib.hid (HS.out.ext y)
      have D1 := Lib.hid (D1.out.ext y)
      have D2 := Lib.hid (D2.out.ext y)
      have D3 := Lib.hid (D3.out.ext y)
      have O4 := Lib.hid (O4.out.ext y)
      have D5 := Lib.hid (D5.out.ext y)
      replace hx := ext_trans hx y
      clear y
      go_wp2_with (go_at_call 12; refine Hid.out ?_)
      refine Lib.hid ?_
      refine (known26_any _ HT.out).mono ?_
      rintro e w2 ⟨rfl, y⟩
      replace hx := ext_trans hx y
      go_wp2_with (fail)
      go_ret
      exact ⟨rfl, hx⟩
    · skip
      obtain ⟨r, hr⟩ : ∃ X, applyN l0 x4 (clsOf d) ((10000 : Nat) : Int) = X := ⟨_, rfl⟩
      have hr0 : r ≠ 0 := fun e => by
        have h1 := paste_ok (most := 10000) E4.out (by have := P1.out; have := B1.out; omega) F2.out (by have := O4.out.b; have := O4.out.len; omega) (by omega) (hr.trans e)
        exact h0 (MF.out.symm.trans (frag_iff.2 ⟨by rw [D2.out.clen]; have := G2.out.1; omega, h1⟩))
      have HR := Lib.hid hr
      have hr0' : (r == 0) = false := beq_eq_false_iff_ne.2 hr0
      have hr1 : (r != 0) = true := by rw [bne, hr0']; rfl
      have h0' : (mf == 0) = false := beq_eq_false_iff_ne.2 h0
      clear hr
      go_wp2_with (go_at_call 17; refine Hid.out ?_)
      refine Lib.hid ?_
      refine (applyBad D1.out O4.out HS.out HT.out HR.out hr0).mono ?_
      rintro e wn ⟨rfl, y⟩
      have HT := Lib.hid (Utf8Tabs_below HT.out y)
      have HS := Lib.hid (HS.out.ext y)
      have D1 := Lib.hid (D1.out.ext y)
      have D2 := Lib.hid (D2.out.ext y)
      have D3 := Lib.hid (D3.out.ext y)
      have O4 := Lib.hid (O4.out.ext y)
      replace hx := ext_trans hx y
      clear y
      go_wp2_with (go_at_call 16; refine Hid.out ?_)
      refine Lib.hid ?_
      refine (fragDoc D2.out HS.out HT.out MF.out).mono ?_
      rintro e wn ⟨rfl, y⟩
      have HT := Lib.hid (Utf8Tabs_below HT.out y)
      have HS := Lib.hid (HS.out.ext y)
      have D1 := Lib.hid (D1.out.ext y)
      have D2 := Lib.hid (D2.out.ext y)
      have D3 := Lib.hid (D3.out.ext y)
      have O4 := Lib.hid (O4.out.ext y)
      replace hx := ext_trans hx y
      clear y
      go_wp2_with (go_at_call 12; refine Hid.out ?_)
      refine Lib.hid ?_
      refine (known26_any _ HT.out).mono ?_
      rintro e w2 ⟨rfl, y⟩
      replace hx := ext_trans hx y
      go_wp2_with (fail)
      go_ret
      exact ⟨rfl, hx⟩
  by_cases g1 : j < i
  · skip
    have g1' : ¬ (i ≤ j) := by omega
    have hz : n3 = 0 := by
      rw [← N3.out]
      unfold cutC
      rw [if_pos (by rw [LD.out]; omega)]; rfl
    subst hz
    go_wp2_with (go_at_call 16; refine Hid.out ?_)
    refine Lib.hid ?_
    refine (fragDoc D3.out HS.out HT.out M3.out).mono ?_
    rintro e wn ⟨rfl, y⟩
    have HT := Lib.hid (Utf8Tabs_below HT.out y)
    have HS := Lib.hid (HS.out.ext y)
    have D1 := Lib.hid (D1.out.ext y)
    have D2 := Lib.hid (D2.out.ext y)
    have D3 := Lib.hid (D3.out.ext y)
    replace hx := ext_trans hx y
    clear y
    by_cases hc : p < 0
    · skip
      go_wp2_with (go_at_call 12; refine Hid.out ?_)
      refine Lib.hid ?_
      refine (known26_any _ HT.out).mono ?_
      rintro e w2 ⟨rfl, y⟩
      replace hx := ext_trans hx y
      go_wp2_with (fail)
      go_ret
      exact ⟨rfl, hx⟩
    by_cases hc : (n1 : Int) ≤ p
    · skip
      go_wp2_with (go_at_call 12; refine Hid.out ?_)
      refine Lib.hid ?_
      refine (known26_any _ HT.out).mono ?_
      rintro e w2 ⟨rfl, y⟩
      replace hx := ext_trans hx y
      go_wp2_with (fail)
      go_ret
      exact ⟨rfl, hx⟩
    by_cases hn2 : n2 = 0
    · subst hn2
      go_wp2_with (go_at_call 12; refine Hid.out ?_)
      refine Lib.hid ?_
      refine (known26_any _ HT.out).mono ?_
      rintro e w2 ⟨rfl, y⟩
      replace hx := ext_trans hx y
      go_wp2_with (fail)
      go_ret
      exact ⟨rfl, hx⟩
    have hn2' : ((n2 : Int) == 0) = false := beq_eq_false_iff_ne.2 (by omega)
    obtain ⟨pn, rfl⟩ : ∃ m : Nat, p = m := ⟨p.toNat, by omega⟩
    have P1 : Hid (pn < n1) := Lib.hid (by omega)
    have F2 : Hid (clsOf f ≠ []) := Lib.hid (fun h => by have h2 := D2.out.clen; rw [h] at h2; simp at h2; omega)
    go_wp2_with (go_at_call 18; refine Hid.out ?_)
    refine Lib.hid ?_
    refine (pasteDoc D2.out S2.out pn (by have := P1.out; have := B1.out; omega)).mono ?_
    rintro e wn ⟨A4, c4, x4, rfl, h4, o4, y⟩
    have HT := Lib.hid (Utf8Tabs_below HT.out y)
    have HS := Lib.hid (HS.out.ext y)
    have D1 := Lib.hid (D1.out.ext y)
    have D2 := Lib.hid (D2.out.ext y)
    have D3 := Lib.hid (D3.out.ext y)
    replace hx := ext_trans hx y
    have O4 := Lib.hid o4
    have E4 := Lib.hid h4
    clear o4 h4
    clear y
    obtain ⟨mf, hmf⟩ : ∃ X, mayD l0 (clsOf f ++ [⟨10, []⟩]) = X := ⟨_, rfl⟩
    have MF := Lib.hid hmf
    clear hmf
    by_cases h0 : mf = 0
    · skip
      subst h0
      have Z : Hid (applyN l0 x4 (clsOf d) ((10000 : Nat) : Int) = 0 ∧ app l0 (units (osOf x4)) (clsOf d) = app l0 (pasteU pn (clsOf f)) (clsOf d)) := Lib.hid (made_apply (most := 10000) E4.out (paste_told pn (clsOf f) (by have := P1.out; have := B1.out; omega)) (by have := O4.out.b; have := O4.out.len; omega) (by omega) MD.out (paste_fit (by rw [LD.out]; exact P1.out) (by rw [LD.out, D2.out.clen]; have := B1.out; have := G2.out.1; omega) (by omega) (frag_iff.1 MF.out).2))
      go_wp2_with (go_at_call 17; refine Hid.out ?_)
      refine Lib.hid ?_
      refine (applyDoc (most := 10000) D1.out O4.out HS.out HT.out H64.out (by omega) Z.out.1 Z.out.2).mono ?_
      rintro e wn ⟨A5, c5, M, rfl, h5, m5, l5, d5, y⟩
      have HT := Lib.hid (Utf8Tabs_below HT.out y)
      have HS := Lib.hid (HS.out.ext y)
      have D1 := Lib.hid (D1.out.ext y)
      have D2 := Lib.hid (D2.out.ext y)
      have D3 := Lib.hid (D3.out.ext y)
      have O4 := Lib.hid (O4.out.ext y)
      replace hx := ext_trans hx y
      have D5 := Lib.hid d5
      have M5 := Lib.hid m5
      clear d5 h5 m5 l5
      clear y
      go_wp2_with (go_at_call 16; refine Hid.out ?_)
      refine Lib.hid ?_
      refine (fragDoc D2.out HS.out HT.out MF.out).mono ?_
      rintro e wn ⟨rfl, y⟩
      have HT := Lib.hid (Utf8Tabs_below HT.out y)
      have HS := Lib.hid (HS.out.ext y)
      have D1 := Lib.hid (D1.out.ext y)
      have D2 := Lib.hid (D2.out.ext y)
      have D3 := Lib.hid (D3.out.ext y)
      have O4 := Lib.hid (O4.out.ext y)
      have D5 := Lib.hid (D5.out.ext y)
      replace hx := ext_trans hx y
      clear y
      go_wp2_with (go_at_call 14; refine Hid.out ?_)
      refine Lib.hid ?_
      refine (mayDoc D5.out HS.out HT.out M5.out).mono ?_
      rintro e wn ⟨rfl, y⟩
      have HT := Lib.hid (Utf8Tabs_below HT.out y)
      have HS := Lib.hid (HS.out.ext y)
      have D1 := Lib.hid (D1.out.ext y)
      have D2 := Lib.hid (D2.out.ext y)
      have D3 := Lib.hid (D3.out.ext y)
      have O4 := Lib.hid (O4.out.ext y)
      have D5 := Lib.hid (D5.out.ext y)
      replace hx := ext_trans hx y
      clear y
      go_wp2_with (go_at_call 12; refine Hid.out ?_)
      refine Lib.hid ?_
      refine (known26_any _ HT.out).mono ?_
      rintro e w2 ⟨rfl, y⟩
      replace hx := ext_trans hx y
      go_wp2_with (fail)
      go_ret
      exact ⟨rfl, hx⟩
    · skip
      obtain ⟨r, hr⟩ : ∃ X, applyN l0 x4 (clsOf d) ((10000 : Nat) : Int) = X := ⟨_, rfl⟩
      have hr0 : r ≠ 0 := fun e => by
        have h1 := paste_ok (most := 10000) E4.out (by have := P1.out; have := B1.out; omega) F2.out (by have := O4.out.b; have := O4.out.len; omega) (by omega) (hr.trans e)
        exact h0 (MF.out.symm.trans (frag_iff.2 ⟨by rw [D2.out.clen]; have := G2.out.1; omega, h1⟩))
      have HR := Lib.hid hr
      have hr0' : (r == 0) = false := beq_eq_false_iff_ne.2 hr0
      have hr1 : (r != 0) = true := by rw [bne, hr0']; rfl
      have h0' : (mf == 0) = false := beq_eq_false_iff_ne.2 h0
      clear hr
      go_wp2_with (go_at_call 17; refine Hid.out ?_)
      refine Lib.hid ?_
      refine (applyBad D1.out O4.out HS.out HT.out HR.out hr0).mono ?_
      rintro e wn ⟨rfl, y⟩
      have HT := Lib.hid (Utf8Tabs_below HT.out y)
      have HS := Lib.hid (HS.out.ext y)
      have D1 := Lib.hid (D1.out.ext y)
      have D2 := Lib.hid (D2.out.ext y)
      have D3 := Lib.hid (D3.out.ext y)
      have O4 := Lib.hid (O4.out.ext y)
      replace hx := ext_trans hx y
      clear y
      go_wp2_with (go_at_call 16; refine Hid.out ?_)
      refine Lib.hid ?_
      refine (fragDoc D2.out HS.out HT.out MF.out).mono ?_
      rintro e wn ⟨rfl, y⟩
      have HT := Lib.hid (Utf8Tabs_below HT.out y)
      have HS := Lib.hid (HS.out.ext y)
      have D1 := Lib.hid (D1.out.ext y)
      have D2 := Lib.hid (D2.out.ext y)
      have D3 := Lib.hid (D3.out.ext y)
      have O4 := Lib.hid (O4.out.ext y)
      replace hx := ext_trans hx y
      clear y
      go_wp2_with (go_at_call 12; refine Hid.out ?_)
      refine Lib.hid ?_
      refine (known26_any _ HT.out).mono ?_
      rintro e w2 ⟨rfl, y⟩
      replace hx := ext_trans hx y
      go_wp2_with (fail)
      go_ret
      exact ⟨rfl, hx⟩
  by_cases g2 : (n1 : Int) < j
  · skip
    have g2' : ¬ (j ≤ (n1 : Int)) := by omega
    have hz : n3 = 0 := by
      rw [← N3.out]
      unfold cutC
      rw [if_pos (by rw [LD.out]; omega)]; rfl
    subst hz
    go_wp2_with (go_at_call 16; refine Hid.out ?_)
    refine Lib.hid ?_
    refine (fragDoc D3.out HS.out HT.out M3.out).mono ?_
    rintro e wn ⟨rfl, y⟩
    have HT := Lib.hid (Utf8Tabs_below HT.out y)
    have HS := Lib.hid (HS.out.ext y)
    have D1 := Lib.hid (D1.out.ext y)
    have D2 := Lib.hid (D2.out.ext y)
    have D3 := Lib.hid (D3.out.ext y)
    replace hx := ext_trans hx y
    clear y
    by_cases hc : p < 0
    · skip
      go_wp2_with (go_at_call 12; refine Hid.out ?_)
      refine Lib.hid ?_
      refine (known26_any _ HT.out).mono ?_
      rintro e w2 ⟨rfl, y⟩
      replace hx := ext_trans hx y
      go_wp2_with (fail)
      go_ret
      exact ⟨rfl, hx⟩
    by_cases hc : (n1 : Int) ≤ p
    · skip
      go_wp2_with (go_at_call 12; refine Hid.out ?_)
      refine Lib.hid ?_
      refine (known26_any _ HT.out).mono ?_
      rintro e w2 ⟨rfl, y⟩
      replace hx := ext_trans hx y
      go_wp2_with (fail)
      go_ret
      exact ⟨rfl, hx⟩
    by_cases hn2 : n2 = 0
    · subst hn2
      go_wp2_with (go_at_call 12; refine Hid.out ?_)
      refine Lib.hid ?_
      refine (known26_any _ HT.out).mono ?_
      rintro e w2 ⟨rfl, y⟩
      replace hx := ext_trans hx y
      go_wp2_with (fail)
      go_ret
      exact ⟨rfl, hx⟩
    have hn2' : ((n2 : Int) == 0) = false := beq_eq_false_iff_ne.2 (by omega)
    obtain ⟨pn, rfl⟩ : ∃ m : Nat, p = m := ⟨p.toNat, by omega⟩
    have P1 : Hid (pn < n1) := Lib.hid (by omega)
    have F2 : Hid (clsOf f ≠ []) := Lib.hid (fun h => by have h2 := D2.out.clen; rw [h] at h2; simp at h2; omega)
    go_wp2_with (go_at_call 18; refine Hid.out ?_)
    refine Lib.hid ?_
    refine (pasteDoc D2.out S2.out pn (by have := P1.out; have := B1.out; omega)).mono ?_
    rintro e wn ⟨A4, c4, x4, rfl, h4, o4, y⟩
    have HT := Lib.hid (Utf8Tabs_below HT.out y)
    have HS := Lib.hid (HS.out.ext y)
    have D1 := Lib.hid (D1.out.ext y)
    have D2 := Lib.hid (D2.out.ext y)
    have D3 := Lib.hid (D3.out.ext y)
    replace hx := ext_trans hx y
    have O4 := Lib.hid o4
    have E4 := Lib.hid h4
    clear o4 h4
    clear y
    obtain ⟨mf, hmf⟩ : ∃ X, mayD l0 (clsOf f ++ [⟨10, []⟩]) = X := ⟨_, rfl⟩
    have MF := Lib.hid hmf
    clear hmf
    by_cases h0 : mf = 0
    · skip
      subst h0
      have Z : Hid (applyN l0 x4 (clsOf d) ((10000 : Nat) : Int) = 0 ∧ app l0 (units (osOf x4)) (clsOf d) = app l0 (pasteU pn (clsOf f)) (clsOf d)) := Lib.hid (made_apply (most := 10000) E4.out (paste_told pn (clsOf f) (by have := P1.out; have := B1.out; omega)) (by have := O4.out.b; have := O4.out.len; omega) (by omega) MD.out (paste_fit (by rw [LD.out]; exact P1.out) (by rw [LD.out, D2.out.clen]; have := B1.out; have := G2.out.1; omega) (by omega) (frag_iff.1 MF.out).2))
      go_wp2_with (go_at_call 17; refine Hid.out ?_)
      refine Lib.hid ?_
      refine (applyDoc (most := 10000) D1.out O4.out HS.out HT.out H64.out (by omega) Z.out.1 Z.out.2).mono ?_
      rintro e wn ⟨A5, c5, M, rfl, h5, m5, l5, d5, y⟩
      have HT := Lib.hid (Utf8Tabs_below HT.out y)
      have HS := Lib.hid (HS.out.ext y)
      have D1 := Lib.hid (D1.out.ext y)
      have D2 := Lib.hid (D2.out.ext y)
      have D3 := Lib.hid (D3.out.ext y)
      have O4 := Lib.hid (O4.out.ext y)
      replace hx := ext_trans hx y
      have D5 := Lib.hid d5
      have M5 := Lib.hid m5
      clear d5 h5 m5 l5
      clear y
      go_wp2_with (go_at_call 16; refine Hid.out ?_)
      refine Lib.hid ?_
      refine (fragDoc D2.out HS.out HT.out MF.out).mono ?_
      rintro e wn ⟨rfl, y⟩
      have HT := Lib.hid (Utf8Tabs_below HT.out y)
      have HS := Lib.hid (HS.out.ext y)
      have D1 := Lib.hid (D1.out.ext y)
      have D2 := Lib.hid (D2.out.ext y)
      have D3 := Lib.hid (D3.out.ext y)
      have O4 := Lib.hid (O4.out.ext y)
      have D5 := Lib.hid (D5.out.ext y)
      replace hx := ext_trans hx y
      clear y
      go_wp2_with (go_at_call 14; refine Hid.out ?_)
      refine Lib.hid ?_
      refine (mayDoc D5.out HS.out HT.out M5.out).mono ?_
      rintro e wn ⟨rfl, y⟩
      have HT := Lib.hid (Utf8Tabs_below HT.out y)
      have HS := Lib.hid (HS.out.ext y)
      have D1 := Lib.hid (D1.out.ext y)
      have D2 := Lib.hid (D2.out.ext y)
      have D3 := Lib.hid (D3.out.ext y)
      have O4 := Lib.hid (O4.out.ext y)
      have D5 := Lib.hid (D5.out.ext y)
      replace hx := ext_trans hx y
      clear y
      go_wp2_with (go_at_call 12; refine Hid.out ?_)
      refine Lib.hid ?_
      refine (known26_any _ HT.out).mono ?_
      rintro e w2 ⟨rfl, y⟩
      replace hx := ext_trans hx y
      go_wp2_with (fail)
      go_ret
      exact ⟨rfl, hx⟩
    · skip
      obtain ⟨r, hr⟩ : ∃ X, applyN l0 x4 (clsOf d) ((10000 : Nat) : Int) = X := ⟨_, rfl⟩
      have hr0 : r ≠ 0 := fun e => by
        have h1 := paste_ok (most := 10000) E4.out (by have := P1.out; have := B1.out; omega) F2.out (by have := O4.out.b; have := O4.out.len; omega) (by omega) (hr.trans e)
        exact h0 (MF.out.symm.trans (frag_iff.2 ⟨by rw [D2.out.clen]; have := G2.out.1; omega, h1⟩))
      have HR := Lib.hid hr
      have hr0' : (r == 0) = false := beq_eq_false_iff_ne.2 hr0
      have hr1 : (r != 0) = true := by rw [bne, hr0']; rfl
      have h0' : (mf == 0) = false := beq_eq_false_iff_ne.2 h0
      clear hr
      go_wp2_with (go_at_call 17; refine Hid.out ?_)
      refine Lib.hid ?_
      refine (applyBad D1.out O4.out HS.out HT.out HR.out hr0).mono ?_
      rintro e wn ⟨rfl, y⟩
      have HT := Lib.hid (Utf8Tabs_below HT.out y)
      have HS := Lib.hid (HS.out.ext y)
      have D1 := Lib.hid (D1.out.ext y)
      have D2 := Lib.hid (D2.out.ext y)
      have D3 := Lib.hid (D3.out.ext y)
      have O4 := Lib.hid (O4.out.ext y)
      replace hx := ext_trans hx y
      clear y
      go_wp2_with (go_at_call 16; refine Hid.out ?_)
      refine Lib.hid ?_
      refine (fragDoc D2.out HS.out HT.out MF.out).mono ?_
      rintro e wn ⟨rfl, y⟩
      have HT := Lib.hid (Utf8Tabs_below HT.out y)
      have HS := Lib.hid (HS.out.ext y)
      have D1 := Lib.hid (D1.out.ext y)
      have D2 := Lib.hid (D2.out.ext y)
      have D3 := Lib.hid (D3.out.ext y)
      have O4 := Lib.hid (O4.out.ext y)
      replace hx := ext_trans hx y
      clear y
      go_wp2_with (go_at_call 12; refine Hid.out ?_)
      refine Lib.hid ?_
      refine (known26_any _ HT.out).mono ?_
      rintro e w2 ⟨rfl, y⟩
      replace hx := ext_trans hx y
      go_wp2_with (fail)
      go_ret
      exact ⟨rfl, hx⟩
  have g0' : 0 ≤ i := by omega
  have g1' : i ≤ j := by omega
  have g2' : j ≤ (n1 : Int) := by omega
  have hz : (n3 : Int) = j - i := by
    have h := N3.out
    unfold cutC at h
    rw [if_neg (by rw [LD.out]; omega), List.length_take, List.length_drop, LD.out] at h
    omega
  have hr : -9223372036854775808 ≤ j - i ∧ j - i ≤ 9223372036854775807 := by have := B1.out; omega
  have hw : IntKind.i64.wrap (j - i) = (n3 : Int) := by rw [IntWalk.i64_in _ hr]; exact hz.symm
  have hw' : wrap64 (j - i) = (n3 : Int) := by rw [w64_in _ hr]; exact hz.symm
  clear hr hz g0 g1 g2
  go_wp2_with (go_at_call 16; refine Hid.out ?_)
  refine Lib.hid ?_
  refine (fragDoc D3.out HS.out HT.out M3.out).mono ?_
  rintro e wn ⟨rfl, y⟩
  have HT := Lib.hid (Utf8Tabs_below HT.out y)
  have HS := Lib.hid (HS.out.ext y)
  have D1 := Lib.hid (D1.out.ext y)
  have D2 := Lib.hid (D2.out.ext y)
  have D3 := Lib.hid (D3.out.ext y)
  replace hx := ext_trans hx y
  clear y
  by_cases hc : p < 0
  · skip
    go_wp2_with (go_at_call 12; refine Hid.out ?_)
    refine Lib.hid ?_
    refine (known26_any _ HT.out).mono ?_
    rintro e w2 ⟨rfl, y⟩
    replace hx := ext_trans hx y
    go_wp2_with (fail)
    go_ret
    exact ⟨rfl, hx⟩
  by_cases hc : (n1 : Int) ≤ p
  · skip
    go_wp2_with (go_at_call 12; refine Hid.out ?_)
    refine Lib.hid ?_
    refine (known26_any _ HT.out).mono ?_
    rintro e w2 ⟨rfl, y⟩
    replace hx := ext_trans hx y
    go_wp2_with (fail)
    go_ret
    exact ⟨rfl, hx⟩
  by_cases hn2 : n2 = 0
  · subst hn2
    go_wp2_with (go_at_call 12; refine Hid.out ?_)
    refine Lib.hid ?_
    refine (known26_any _ HT.out).mono ?_
    rintro e w2 ⟨rfl, y⟩
    replace hx := ext_trans hx y
    go_wp2_with (fail)
    go_ret
    exact ⟨rfl, hx⟩
  have hn2' : ((n2 : Int) == 0) = false := beq_eq_false_iff_ne.2 (by omega)
  obtain ⟨pn, rfl⟩ : ∃ m : Nat, p = m := ⟨p.toNat, by omega⟩
  have P1 : Hid (pn < n1) := Lib.hid (by omega)
  have F2 : Hid (clsOf f ≠ []) := Lib.hid (fun h => by have h2 := D2.out.clen; rw [h] at h2; simp at h2; omega)
  go_wp2_with (go_at_call 18; refine Hid.out ?_)
  refine Lib.hid ?_
  refine (pasteDoc D2.out S2.out pn (by have := P1.out; have := B1.out; omega)).mono ?_
  rintro e wn ⟨A4, c4, x4, rfl, h4, o4, y⟩
  have HT := Lib.hid (Utf8Tabs_below HT.out y)
  have HS := Lib.hid (HS.out.ext y)
  have D1 := Lib.hid (D1.out.ext y)
  have D2 := Lib.hid (D2.out.ext y)
  have D3 := Lib.hid (D3.out.ext y)
  replace hx := ext_trans hx y
  have O4 := Lib.hid o4
  have E4 := Lib.hid h4
  clear o4 h4
  clear y
  obtain ⟨mf, hmf⟩ : ∃ X, mayD l0 (clsOf f ++ [⟨10, []⟩]) = X := ⟨_, rfl⟩
  have MF := Lib.hid hmf
  clear hmf
  by_cases h0 : mf = 0
  · skip
    subst h0
    have Z : Hid (applyN l0 x4 (clsOf d) ((10000 : Nat) : Int) = 0 ∧ app l0 (units (osOf x4)) (clsOf d) = app l0 (pasteU pn (clsOf f)) (clsOf d)) := Lib.hid (made_apply (most := 10000) E4.out (paste_told pn (clsOf f) (by have := P1.out; have := B1.out; omega)) (by have := O4.out.b; have := O4.out.len; omega) (by omega) MD.out (paste_fit (by rw [LD.out]; exact P1.out) (by rw [LD.out, D2.out.clen]; have := B1.out; have := G2.out.1; omega) (by omega) (frag_iff.1 MF.out).2))
    go_wp2_with (go_at_call 17; refine Hid.out ?_)
    refine Lib.hid ?_
    refine (applyDoc (most := 10000) D1.out O4.out HS.out HT.out H64.out (by omega) Z.out.1 Z.out.2).mono ?_
    rintro e wn ⟨A5, c5, M, rfl, h5, m5, l5, d5, y⟩
    have HT := Lib.hid (Utf8Tabs_below HT.out y)
    have HS := Lib.hid (HS.out.ext y)
    have D1 := Lib.hid (D1.out.ext y)
    have D2 := Lib.hid (D2.out.ext y)
    have D3 := Lib.hid (D3.out.ext y)
    have O4 := Lib.hid (O4.out.ext y)
    replace hx := ext_trans hx y
    have D5 := Lib.hid d5
    have M5 := Lib.hid m5
    clear d5 h5 m5 l5
    clear y
    go_wp2_with (go_at_call 16; refine Hid.out ?_)
    refine Lib.hid ?_
    refine (fragDoc D2.out HS.out HT.out MF.out).mono ?_
    rintro e wn ⟨rfl, y⟩
    have HT := Lib.hid (Utf8Tabs_below HT.out y)
    have HS := Lib.hid (HS.out.ext y)
    have D1 := Lib.hid (D1.out.ext y)
    have D2 := Lib.hid (D2.out.ext y)
    have D3 := Lib.hid (D3.out.ext y)
    have O4 := Lib.hid (O4.out.ext y)
    have D5 := Lib.hid (D5.out.ext y)
    replace hx := ext_trans hx y
    clear y
    go_wp2_with (go_at_call 14; refine Hid.out ?_)
    refine Lib.hid ?_
    refine (mayDoc D5.out HS.out HT.out M5.out).mono ?_
    rintro e wn ⟨rfl, y⟩
    have HT := Lib.hid (Utf8Tabs_below HT.out y)
    have HS := Lib.hid (HS.out.ext y)
    have D1 := Lib.hid (D1.out.ext y)
    have D2 := Lib.hid (D2.out.ext y)
    have D3 := Lib.hid (D3.out.ext y)
    have O4 := Lib.hid (O4.out.ext y)
    have D5 := Lib.hid (D5.out.ext y)
    replace hx := ext_trans hx y
    clear y
    go_wp2_with (go_at_call 12; refine Hid.out ?_)
    refine Lib.hid ?_
    refine (known26_any _ HT.out).mono ?_
    rintro e w2 ⟨rfl, y⟩
    replace hx := ext_trans hx y
    go_wp2_with (fail)
    go_ret
    exact ⟨rfl, hx⟩
  · skip
    obtain ⟨r, hr⟩ : ∃ X, applyN l0 x4 (clsOf d) ((10000 : Nat) : Int) = X := ⟨_, rfl⟩
    have hr0 : r ≠ 0 := fun e => by
      have h1 := paste_ok (most := 10000) E4.out (by have := P1.out; have := B1.out; omega) F2.out (by have := O4.out.b; have := O4.out.len; omega) (by omega) (hr.trans e)
      exact h0 (MF.out.symm.trans (frag_iff.2 ⟨by rw [D2.out.clen]; have := G2.out.1; omega, h1⟩))
    have HR := Lib.hid hr
    have hr0' : (r == 0) = false := beq_eq_false_iff_ne.2 hr0
    have hr1 : (r != 0) = true := by rw [bne, hr0']; rfl
    have h0' : (mf == 0) = false := beq_eq_false_iff_ne.2 h0
    clear hr
    go_wp2_with (go_at_call 17; refine Hid.out ?_)
    refine Lib.hid ?_
    refine (applyBad D1.out O4.out HS.out HT.out HR.out hr0).mono ?_
    rintro e wn ⟨rfl, y⟩
    have HT := Lib.hid (Utf8Tabs_below HT.out y)
    have HS := Lib.hid (HS.out.ext y)
    have D1 := Lib.hid (D1.out.ext y)
    have D2 := Lib.hid (D2.out.ext y)
    have D3 := Lib.hid (D3.out.ext y)
    have O4 := Lib.hid (O4.out.ext y)
    replace hx := ext_trans hx y
    clear y
    go_wp2_with (go_at_call 16; refine Hid.out ?_)
    refine Lib.hid ?_
    refine (fragDoc D2.out HS.out HT.out MF.out).mono ?_
    rintro e wn ⟨rfl, y⟩
    have HT := Lib.hid (Utf8Tabs_below HT.out y)
    have HS := Lib.hid (HS.out.ext y)
    have D1 := Lib.hid (D1.out.ext y)
    have D2 := Lib.hid (D2.out.ext y)
    have D3 := Lib.hid (D3.out.ext y)
    have O4 := Lib.hid (O4.out.ext y)
    replace hx := ext_trans hx y
    clear y
    go_wp2_with (go_at_call 12; refine Hid.out ?_)
    refine Lib.hid ?_
    refine (known26_any _ HT.out).mono ?_
    rintro e w2 ⟨rfl, y⟩
    replace hx := ext_trans hx y
    go_wp2_with (fail)
    go_ret
    exact ⟨rfl, hx⟩
end Go.Proofs.YtipoeidmblnbbaaGreatDoor
