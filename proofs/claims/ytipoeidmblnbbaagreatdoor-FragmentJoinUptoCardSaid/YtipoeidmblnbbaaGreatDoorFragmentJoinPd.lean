/- The walk of rubriclaw26.FragmentJoin. Printed by wip/gen_frag.py. -/
import Derived.Test.YtipoeidmblnbbaaGreatDoorPk26
import Derived.Test.YtipoeidmblnbbaaGreatDoorPk27
import Derived.Test.YtipoeidmblnbbaaGreatDoorPk29
namespace Go.Proofs.YtipoeidmblnbbaaGreatDoor
open Go.RowKit
set_option linter.unusedVariables false
set_option linter.unusedSimpArgs false

set_option maxRecDepth 100000 in
set_option maxHeartbeats 12800000 in
theorem fragmentJoin_any (A0 A1 : Option Addr) (n0 n1 c0 c1 : Nat) (l0 : List Ky) (d : List ClS) (i m j p : Int) (w : World)
    (e0 : n0 = l0.length) (e1 : n1 = d.length) (r0 : RdKy w w.heap.size A0 l0) (r1 : RdCl w w.heap.size A1 d) (b0 : n0 ≤ 1048576) (b1 : n1 ≤ 1048576) (k1 : n1 ≤ c1)
    (q1 : ∀ x ∈ d, x.c.s.length ≤ 100000000 ∧ okVr x.c.s) (g1 : ∀ x ∈ d, x.c.s.length ≤ x.cs ∧ x.cs ≤ maxLen) (hT : Lib.Utf8Tabs 1 2 w) :
    Calls Tryz.prog 4 #[.slice A0 n0 c0, .slice A1 n1 c1, .int .i64 i, .int .i64 m, .int .i64 j, .int .i64 p] w fun e w' => e = .returned (.bool true) ∧ Below w.heap.size w w' := by
  have N0 := Lib.hid e0
  have R0 := Lib.hid r0
  have HT := Lib.hid hT
  have hx := Below.refl w.heap.size w
  have N1 := Lib.hid e1
  have R1 := Lib.hid r1
  have Q1 := Lib.hid q1
  have C1 := Lib.hid g1
  clear e0 r0 hT e1 r1 q1 g1
  go_enter Tryz.func4, Tryz.ntmps4
  by_cases h64 : (64 : Int) < (n0 : Int)
  · skip
    go_wp2_with (go_at_call 12; refine Hid.out ?_)
    refine Lib.hid ?_
    refine (known26_any _ HT.out).mono ?_
    rintro e w2 ⟨rfl, y⟩
    replace hx := ext_trans hx y
    go_wp2_with (fail)
    go_ret
    exact ⟨rfl, hx⟩
  go_wp2_with (go_at_call 11; refine Hid.out ?_)
  refine Lib.hid ?_
  refine (great18_any A1 n1 c1 d 300 _ N1.out R1.out (by omega) (fun z hz => by have := (Q1.out z hz).1; omega)).mono ?_
  rintro e wn ⟨g, rfl, hgr, dr, hd⟩
  have y := drew_ext hd
  clear hd
  have R0 := Lib.hid (R0.out.ext y)
  have HT := Lib.hid (Utf8Tabs_below HT.out y)
  have R1 := Lib.hid (R1.out.ext y)
  replace hx := ext_trans hx y
  clear y
  cases g
  case true =>
    clear hgr
    go_wp2_with (go_at_call 12; refine Hid.out ?_)
    refine Lib.hid ?_
    refine (known26_any _ HT.out).mono ?_
    rintro e w2 ⟨rfl, y⟩
    replace hx := ext_trans hx y
    go_wp2_with (fail)
    go_ret
    exact ⟨rfl, hx⟩
  have G1 : Hid (n1 ≤ 300 ∧ ∀ z ∈ d, z.c.s.length ≤ 64) := Lib.hid ⟨by have := (hgr rfl).1; omega, (hgr rfl).2⟩
  clear hgr
  by_cases gd0 : i < 0
  · skip
    go_wp2_with (go_at_call 12; refine Hid.out ?_)
    refine Lib.hid ?_
    refine (known26_any _ HT.out).mono ?_
    rintro e w2 ⟨rfl, y⟩
    replace hx := ext_trans hx y
    go_wp2_with (fail)
    go_ret
    exact ⟨rfl, hx⟩
  by_cases gd1 : m < i
  · skip
    go_wp2_with (go_at_call 12; refine Hid.out ?_)
    refine Lib.hid ?_
    refine (known26_any _ HT.out).mono ?_
    rintro e w2 ⟨rfl, y⟩
    replace hx := ext_trans hx y
    go_wp2_with (fail)
    go_ret
    exact ⟨rfl, hx⟩
  by_cases gd2 : j < m
  · skip
    go_wp2_with (go_at_call 12; refine Hid.out ?_)
    refine Lib.hid ?_
    refine (known26_any _ HT.out).mono ?_
    rintro e w2 ⟨rfl, y⟩
    replace hx := ext_trans hx y
    go_wp2_with (fail)
    go_ret
    exact ⟨rfl, hx⟩
  by_cases gd3 : (n1 : Int) < j
  · skip
    go_wp2_with (go_at_call 12; refine Hid.out ?_)
    refine Lib.hid ?_
    refine (known26_any _ HT.out).mono ?_
    rintro e w2 ⟨rfl, y⟩
    replace hx := ext_trans hx y
    go_wp2_with (fail)
    go_ret
    exact ⟨rfl, hx⟩
  by_cases gd4 : p < 0
  · skip
    go_wp2_with (go_at_call 12; refine Hid.out ?_)
    refine Lib.hid ?_
    refine (known26_any _ HT.out).mono ?_
    rintro e w2 ⟨rfl, y⟩
    replace hx := ext_trans hx y
    go_wp2_with (fail)
    go_ret
    exact ⟨rfl, hx⟩
  by_cases gd5 : (n1 : Int) ≤ p
  · skip
    go_wp2_with (go_at_call 12; refine Hid.out ?_)
    refine Lib.hid ?_
    refine (known26_any _ HT.out).mono ?_
    rintro e w2 ⟨rfl, y⟩
    replace hx := ext_trans hx y
    go_wp2_with (fail)
    go_ret
    exact ⟨rfl, hx⟩
  go_wp2_with (go_at_call 13; refine Hid.out ?_)
  refine Lib.hid ?_
  refine (new_any A0 n0 c0 l0 _ N0.out R0.out (by omega)).mono ?_
  rintro e wn ⟨y, ⟨hm, s, rfl, hS⟩ | ⟨hm, rfl⟩⟩
  all_goals
    have R0 := Lib.hid (R0.out.ext y)
    have HT := Lib.hid (Utf8Tabs_below HT.out y)
    have R1 := Lib.hid (R1.out.ext y)
    replace hx := ext_trans hx y
    clear y hm
  rotate_left
  · skip
    go_wp2_with (go_at_call 12; refine Hid.out ?_)
    refine Lib.hid ?_
    refine (known26_any _ HT.out).mono ?_
    rintro e w2 ⟨rfl, y⟩
    replace hx := ext_trans hx y
    go_wp2_with (fail)
    go_ret
    exact ⟨rfl, hx⟩
  have HS := Lib.hid hS
  clear hS
  have D1 : Hid (DocAt _ A1 n1 c1 d) := Lib.hid ⟨R1.out, N1.out, k1, C1.out, fun z hz => ⟨by have := G1.out.2 z hz; omega, (Q1.out z hz).2⟩, by have := G1.out.1; omega⟩
  have S1 : Hid (∀ z ∈ clsOf d, z.s.length ≤ 64) := Lib.hid (fun c hc => by
    obtain ⟨z, hz, rfl⟩ := cls_mem hc
    exact G1.out.2 z hz)
  have H64 : Hid (l0.length ≤ 64) := Lib.hid (by have := N0.out; omega)
  obtain ⟨md, hmd⟩ : ∃ X, mayD l0 (clsOf d) = X := ⟨_, rfl⟩
  have MD := Lib.hid hmd
  clear hmd
  go_wp2_with (go_at_call 14; refine Hid.out ?_)
  refine Lib.hid ?_
  refine (mayDoc D1.out HS.out HT.out MD.out).mono ?_
  rintro e wn ⟨rfl, y⟩
  have HT := Lib.hid (Utf8Tabs_below HT.out y)
  have HS := Lib.hid (HS.out.ext y)
  have D1 := Lib.hid (D1.out.ext y)
  replace hx := ext_trans hx y
  clear y
  by_cases h0 : md = 0
  rotate_left
  · have h0' : (md == 0) = false := beq_eq_false_iff_ne.2 h0
    go_wp2_with (go_at_call 12; refine Hid.out ?_)
    refine Lib.hid ?_
    refine (known26_any _ HT.out).mono ?_
    rintro e w2 ⟨rfl, y⟩
    replace hx := ext_trans hx y
    go_wp2_with (fail)
    go_ret
    exact ⟨rfl, hx⟩
  subst h0
  have LD : Hid ((clsOf d).length = n1) := Lib.hid D1.out.clen
  have B1 : Hid (n1 ≤ 300 ∧ 1 ≤ n1) := Lib.hid ⟨G1.out.1, by obtain ⟨_, _, t, c, h, _⟩ := mayD_iff.1 MD.out; have := LD.out; rw [h] at this; simp at this; omega⟩
  obtain ⟨a, rfl⟩ : ∃ k : Nat, i = k := ⟨i.toNat, by omega⟩
  obtain ⟨b, rfl⟩ : ∃ k : Nat, m = k := ⟨m.toNat, by omega⟩
  obtain ⟨e, rfl⟩ : ∃ k : Nat, j = k := ⟨j.toNat, by omega⟩
  obtain ⟨q, rfl⟩ : ∃ k : Nat, p = k := ⟨p.toNat, by omega⟩
  have ORD : Hid (a ≤ b ∧ b ≤ e ∧ e ≤ n1 ∧ q < n1) := Lib.hid ⟨by omega, by omega, by omega, by omega⟩
  clear gd0 gd1 gd2 gd3 gd4 gd5
  go_wp2_with (go_at_call 15; refine Hid.out ?_)
  refine Lib.hid ?_
  refine (cutDoc D1.out (a : Int) (b : Int)).mono ?_
  rintro e wn ⟨A3, c3, F, rfl, h_F, d_F, y⟩
  have HT := Lib.hid (Utf8Tabs_below HT.out y)
  have HS := Lib.hid (HS.out.ext y)
  have D1 := Lib.hid (D1.out.ext y)
  replace hx := ext_trans hx y
  have D_F := Lib.hid d_F
  have E_F := Lib.hid h_F
  clear d_F h_F
  clear y
  have S_F : Hid (∀ z ∈ clsOf F, z.s.length ≤ 64) := Lib.hid (fun z hz => S1.out z (cutC_mem (E_F.out ▸ hz)))
  go_wp2_with (go_at_call 15; refine Hid.out ?_)
  refine Lib.hid ?_
  refine (cutDoc D1.out (b : Int) (e : Int)).mono ?_
  rintro e wn ⟨A4, c4, G, rfl, h_G, d_G, y⟩
  have HT := Lib.hid (Utf8Tabs_below HT.out y)
  have HS := Lib.hid (HS.out.ext y)
  have D1 := Lib.hid (D1.out.ext y)
  have D_F := Lib.hid (D_F.out.ext y)
  replace hx := ext_trans hx y
  have D_G := Lib.hid d_G
  have E_G := Lib.hid h_G
  clear d_G h_G
  clear y
  have S_G : Hid (∀ z ∈ clsOf G, z.s.length ≤ 64) := Lib.hid (fun z hz => S1.out z (cutC_mem (E_G.out ▸ hz)))
  go_wp2_with (go_at_call 15; refine Hid.out ?_)
  refine Lib.hid ?_
  refine (cutDoc D1.out (a : Int) (e : Int)).mono ?_
  rintro e wn ⟨A5, c5, H, rfl, h_H, d_H, y⟩
  have HT := Lib.hid (Utf8Tabs_below HT.out y)
  have HS := Lib.hid (HS.out.ext y)
  have D1 := Lib.hid (D1.out.ext y)
  have D_F := Lib.hid (D_F.out.ext y)
  have D_G := Lib.hid (D_G.out.ext y)
  replace hx := ext_trans hx y
  have D_H := Lib.hid d_H
  have E_H := Lib.hid h_H
  clear d_H h_H
  clear y
  have S_H : Hid (∀ z ∈ clsOf H, z.s.length ≤ 64) := Lib.hid (fun z hz => S1.out z (cutC_mem (E_H.out ▸ hz)))
  have LF : Hid (F.length = b - a) := Lib.hid (by rw [← clsOf_len, E_F.out]; exact cutC_length ORD.out.1 (by rw [LD.out]; have := ORD.out; omega))
  have LG : Hid (G.length = e - b) := Lib.hid (by rw [← clsOf_len, E_G.out]; exact cutC_length ORD.out.2.1 (by rw [LD.out]; exact ORD.out.2.2.1))
  have LH : Hid (H.length = e - a) := Lib.hid (by rw [← clsOf_len, E_H.out]; exact cutC_length (by have := ORD.out; omega) (by rw [LD.out]; exact ORD.out.2.2.1))
  have JN : Hid (clsOf F ++ clsOf G = clsOf H) := Lib.hid (by rw [E_F.out, E_G.out, E_H.out]; exact cut_join ORD.out.1 ORD.out.2.1 (by rw [LD.out]; exact ORD.out.2.2.1))
  go_wp2_with (go_at_call 20; refine Hid.out ?_)
  refine Lib.hid ?_
  refine (copyDoc D_F.out).mono ?_
  rintro e wn ⟨A6, c6, P, rfl, hP, oP, pP, yc⟩
  have OP := Lib.hid oP
  have PP := Lib.hid pP
  have EP := Lib.hid hP
  have LP : Hid (P.length = F.length) := Lib.hid (by rw [← clsOf_len, hP, clsOf_len])
  have RG := Lib.hid (D_G.out.rd.1.ext yc)
  clear oP pP hP
  have LB : Hid (P.length + G.length ≤ 400) := Lib.hid (by have := LP.out; have := LF.out; have := LG.out; have := ORD.out; have := B1.out; omega)
  go_wp2_with (first
    | (at_builtin; refine app_cs (m := G) rfl (.tmp 95) (.tmp 96) rfl rfl OP.out _ A4 c4 G.length rfl rfl RG.out (by have := LB.out; omega) yc.size ?_; intro v' wa hown' hgr hv'; obtain ⟨A7, c7, hv7, _, _⟩ := hown'.form; subst hv7)
    | (go_at_call 19; refine Hid.out ?_))
  refine Lib.hid ?_
  have y := below_app yc yc.size OP.out (Nat.le_refl _) hgr
  have HT := Lib.hid (Utf8Tabs_below HT.out y)
  have HS := Lib.hid (HS.out.ext y)
  have D1 := Lib.hid (D1.out.ext y)
  have D_F := Lib.hid (D_F.out.ext y)
  have D_G := Lib.hid (D_G.out.ext y)
  have D_H := Lib.hid (D_H.out.ext y)
  replace hx := ext_trans hx y
  have VP : Hid (∀ x ∈ clsOf P, x.s.length ≤ 1000000 ∧ okVr x.s) := Lib.hid (by
    rw [EP.out]
    intro x hm
    obtain ⟨z, hz, rfl⟩ := cls_mem hm
    exact D_F.out.vr z hz)
  have DA := Lib.hid (DocAt.append hown' PP.out D_G.out VP.out hgr hv' (by rw [List.length_append]; have := LB.out; omega))
  have EA : Hid (clsOf (P ++ G) = clsOf H) := Lib.hid (by rw [← JN.out, ← EP.out]; unfold clsOf; rw [List.map_append])
  have LA : Hid ((P ++ G).length = P.length + G.length) := Lib.hid (List.length_append)
  clear hown' hgr hv' yc y RG
  rw [LA.out] at DA
  refine (sameD DA.out D_H.out (decide_eq_true EA.out)).mono ?_
  rintro e wn ⟨rfl, y⟩
  have HT := Lib.hid (Utf8Tabs_below HT.out y)
  have HS := Lib.hid (HS.out.ext y)
  have D1 := Lib.hid (D1.out.ext y)
  have D_F := Lib.hid (D_F.out.ext y)
  have D_G := Lib.hid (D_G.out.ext y)
  have D_H := Lib.hid (D_H.out.ext y)
  have DA := Lib.hid (DA.out.ext y)
  replace hx := ext_trans hx y
  clear y
  go_wp2_with (go_at_call 18; refine Hid.out ?_)
  refine Lib.hid ?_
  refine (pasteDoc D_G.out S_G.out q (by have := ORD.out; have := B1.out; omega)).mono ?_
  rintro e wn ⟨A8, c8, x1, rfl, h_x1, o_x1, y⟩
  have HT := Lib.hid (Utf8Tabs_below HT.out y)
  have HS := Lib.hid (HS.out.ext y)
  have D1 := Lib.hid (D1.out.ext y)
  have D_F := Lib.hid (D_F.out.ext y)
  have D_G := Lib.hid (D_G.out.ext y)
  have D_H := Lib.hid (D_H.out.ext y)
  replace hx := ext_trans hx y
  have O_x1 := Lib.hid o_x1
  have E_x1 := Lib.hid h_x1
  clear o_x1 h_x1
  clear y
  have Z1 : Hid (applyN l0 x1 (clsOf d) ((10000 : Nat) : Int) = 0 ∧ app l0 (units (osOf x1)) (clsOf d) = app l0 (pasteU q (clsOf G)) (clsOf d)) := Lib.hid (made_apply (most := 10000) E_x1.out (paste_told q (clsOf G) (by have := ORD.out; have := B1.out; omega)) (by have := O_x1.out.b; have := O_x1.out.len; omega) (by have := B1.out; omega) MD.out (paste_fit (by rw [LD.out]; have := ORD.out; omega) (by rw [LD.out]; rw [clsOf_len]; have := LG.out; have := ORD.out; have := B1.out; omega) (by omega) (by rw [E_G.out]; exact cut_ok MD.out _ _)))
  go_wp2_with (go_at_call 17; refine Hid.out ?_)
  refine Lib.hid ?_
  refine (applyDoc (most := 10000) D1.out O_x1.out HS.out HT.out H64.out (by have := B1.out; omega) Z1.out.1 Z1.out.2).mono ?_
  rintro e wn ⟨A9, c9, M1, rfl, h_M1, m_M1, b_M1, d_M1, y⟩
  have HT := Lib.hid (Utf8Tabs_below HT.out y)
  have HS := Lib.hid (HS.out.ext y)
  have D1 := Lib.hid (D1.out.ext y)
  have D_F := Lib.hid (D_F.out.ext y)
  have D_G := Lib.hid (D_G.out.ext y)
  have D_H := Lib.hid (D_H.out.ext y)
  have O_x1 := Lib.hid (O_x1.out.ext y)
  replace hx := ext_trans hx y
  have D_M1 := Lib.hid d_M1
  have E_M1 := Lib.hid h_M1
  have M_M1 := Lib.hid m_M1
  have B_M1 := Lib.hid b_M1
  clear d_M1 h_M1 m_M1 b_M1
  clear y
  have LM : Hid ((clsOf M1).length = n1 + G.length) := Lib.hid (by rw [E_M1.out, app_paste l0 q _ _ (by rw [LD.out]; have := ORD.out; omega), List.length_append, List.length_append, List.length_take, List.length_drop, LD.out, clsOf_len]; have := ORD.out; omega)
  go_wp2_with (go_at_call 18; refine Hid.out ?_)
  refine Lib.hid ?_
  refine (pasteDoc D_F.out S_F.out q (by have := ORD.out; have := B1.out; omega)).mono ?_
  rintro e wn ⟨B8, k8, x2, rfl, h_x2, o_x2, y⟩
  have HT := Lib.hid (Utf8Tabs_below HT.out y)
  have HS := Lib.hid (HS.out.ext y)
  have D1 := Lib.hid (D1.out.ext y)
  have D_F := Lib.hid (D_F.out.ext y)
  have D_G := Lib.hid (D_G.out.ext y)
  have D_H := Lib.hid (D_H.out.ext y)
  have O_x1 := Lib.hid (O_x1.out.ext y)
  have D_M1 := Lib.hid (D_M1.out.ext y)
  replace hx := ext_trans hx y
  have O_x2 := Lib.hid o_x2
  have E_x2 := Lib.hid h_x2
  clear o_x2 h_x2
  clear y
  have Z2 : Hid (applyN l0 x2 (clsOf M1) ((10000 : Nat) : Int) = 0 ∧ app l0 (units (osOf x2)) (clsOf M1) = app l0 (pasteU q (clsOf F)) (clsOf M1)) := Lib.hid (made_apply (most := 10000) E_x2.out (paste_told q (clsOf F) (by have := ORD.out; have := B1.out; omega)) (by have := O_x2.out.b; have := O_x2.out.len; omega) (by have := B1.out; omega) M_M1.out (paste_fit (by rw [LM.out]; have := ORD.out; omega) (by rw [LM.out, clsOf_len]; have := LF.out; have := LG.out; have := ORD.out; have := B1.out; omega) (by omega) (by rw [E_F.out]; exact cut_ok MD.out _ _)))
  go_wp2_with (go_at_call 17; refine Hid.out ?_)
  refine Lib.hid ?_
  refine (applyDoc (most := 10000) D_M1.out O_x2.out HS.out HT.out H64.out (by have := B1.out; omega) Z2.out.1 Z2.out.2).mono ?_
  rintro e wn ⟨B9, k9, M2, rfl, h_M2, m_M2, b_M2, d_M2, y⟩
  have HT := Lib.hid (Utf8Tabs_below HT.out y)
  have HS := Lib.hid (HS.out.ext y)
  have D1 := Lib.hid (D1.out.ext y)
  have D_F := Lib.hid (D_F.out.ext y)
  have D_G := Lib.hid (D_G.out.ext y)
  have D_H := Lib.hid (D_H.out.ext y)
  have O_x1 := Lib.hid (O_x1.out.ext y)
  have D_M1 := Lib.hid (D_M1.out.ext y)
  have O_x2 := Lib.hid (O_x2.out.ext y)
  replace hx := ext_trans hx y
  have D_M2 := Lib.hid d_M2
  have E_M2 := Lib.hid h_M2
  have M_M2 := Lib.hid m_M2
  have B_M2 := Lib.hid b_M2
  clear d_M2 h_M2 m_M2 b_M2
  clear y
  go_wp2_with (go_at_call 18; refine Hid.out ?_)
  refine Lib.hid ?_
  refine (pasteDoc D_H.out S_H.out q (by have := ORD.out; have := B1.out; omega)).mono ?_
  rintro e wn ⟨C8, j8, x3, rfl, h_x3, o_x3, y⟩
  have HT := Lib.hid (Utf8Tabs_below HT.out y)
  have HS := Lib.hid (HS.out.ext y)
  have D1 := Lib.hid (D1.out.ext y)
  have D_F := Lib.hid (D_F.out.ext y)
  have D_G := Lib.hid (D_G.out.ext y)
  have D_H := Lib.hid (D_H.out.ext y)
  have O_x1 := Lib.hid (O_x1.out.ext y)
  have D_M1 := Lib.hid (D_M1.out.ext y)
  have O_x2 := Lib.hid (O_x2.out.ext y)
  have D_M2 := Lib.hid (D_M2.out.ext y)
  replace hx := ext_trans hx y
  have O_x3 := Lib.hid o_x3
  have E_x3 := Lib.hid h_x3
  clear o_x3 h_x3
  clear y
  have Z3 : Hid (applyN l0 x3 (clsOf d) ((10000 : Nat) : Int) = 0 ∧ app l0 (units (osOf x3)) (clsOf d) = app l0 (pasteU q (clsOf H)) (clsOf d)) := Lib.hid (made_apply (most := 10000) E_x3.out (paste_told q (clsOf H) (by have := ORD.out; have := B1.out; omega)) (by have := O_x3.out.b; have := O_x3.out.len; omega) (by have := B1.out; omega) MD.out (paste_fit (by rw [LD.out]; have := ORD.out; omega) (by rw [LD.out]; rw [clsOf_len]; have := LH.out; have := ORD.out; have := B1.out; omega) (by omega) (by rw [E_H.out]; exact cut_ok MD.out _ _)))
  go_wp2_with (go_at_call 17; refine Hid.out ?_)
  refine Lib.hid ?_
  refine (applyDoc (most := 10000) D1.out O_x3.out HS.out HT.out H64.out (by have := B1.out; omega) Z3.out.1 Z3.out.2).mono ?_
  rintro e wn ⟨C9, j9, M3, rfl, h_M3, m_M3, b_M3, d_M3, y⟩
  have HT := Lib.hid (Utf8Tabs_below HT.out y)
  have HS := Lib.hid (HS.out.ext y)
  have D1 := Lib.hid (D1.out.ext y)
  have D_F := Lib.hid (D_F.out.ext y)
  have D_G := Lib.hid (D_G.out.ext y)
  have D_H := Lib.hid (D_H.out.ext y)
  have O_x1 := Lib.hid (O_x1.out.ext y)
  have D_M1 := Lib.hid (D_M1.out.ext y)
  have O_x2 := Lib.hid (O_x2.out.ext y)
  have D_M2 := Lib.hid (D_M2.out.ext y)
  have O_x3 := Lib.hid (O_x3.out.ext y)
  replace hx := ext_trans hx y
  have D_M3 := Lib.hid d_M3
  have E_M3 := Lib.hid h_M3
  have M_M3 := Lib.hid m_M3
  have B_M3 := Lib.hid b_M3
  clear d_M3 h_M3 m_M3 b_M3
  clear y
  have EM : Hid (clsOf M2 = clsOf M3) := Lib.hid (by rw [E_M2.out, E_M1.out, E_M3.out, paste_both l0 _ _ (by rw [LD.out]; have := ORD.out; omega), JN.out])
  obtain ⟨iF, hiF⟩ : ∃ X, linesC (clsOf F) = X := ⟨_, rfl⟩
  have IF := Lib.hid hiF
  clear hiF
  obtain ⟨iG, hiG⟩ : ∃ X, linesC (clsOf G) = X := ⟨_, rfl⟩
  have IG := Lib.hid hiG
  clear hiG
  obtain ⟨iH, hiH⟩ : ∃ X, linesC (clsOf H) = X := ⟨_, rfl⟩
  have IH := Lib.hid hiH
  clear hiH
  go_wp2_with (go_at_call 21; refine Hid.out ?_)
  refine Lib.hid ?_
  refine (part26_any A3 F.length c3 F _ rfl D_F.out.rd.1 (by have := D_F.out.b; omega)).mono ?_
  rw [IF.out]
  rintro e wn ⟨rfl, dr, hd⟩
  have y := drew_ext hd
  clear hd
  have HT := Lib.hid (Utf8Tabs_below HT.out y)
  have HS := Lib.hid (HS.out.ext y)
  have D1 := Lib.hid (D1.out.ext y)
  have D_F := Lib.hid (D_F.out.ext y)
  have D_G := Lib.hid (D_G.out.ext y)
  have D_H := Lib.hid (D_H.out.ext y)
  have O_x1 := Lib.hid (O_x1.out.ext y)
  have D_M1 := Lib.hid (D_M1.out.ext y)
  have O_x2 := Lib.hid (O_x2.out.ext y)
  have D_M2 := Lib.hid (D_M2.out.ext y)
  have O_x3 := Lib.hid (O_x3.out.ext y)
  have D_M3 := Lib.hid (D_M3.out.ext y)
  replace hx := ext_trans hx y
  clear y
  go_wp2_with (go_at_call 21; refine Hid.out ?_)
  refine Lib.hid ?_
  refine (part26_any A4 G.length c4 G _ rfl D_G.out.rd.1 (by have := D_G.out.b; omega)).mono ?_
  rw [IG.out]
  rintro e wn ⟨rfl, dr, hd⟩
  have y := drew_ext hd
  clear hd
  have HT := Lib.hid (Utf8Tabs_below HT.out y)
  have HS := Lib.hid (HS.out.ext y)
  have D1 := Lib.hid (D1.out.ext y)
  have D_F := Lib.hid (D_F.out.ext y)
  have D_G := Lib.hid (D_G.out.ext y)
  have D_H := Lib.hid (D_H.out.ext y)
  have O_x1 := Lib.hid (O_x1.out.ext y)
  have D_M1 := Lib.hid (D_M1.out.ext y)
  have O_x2 := Lib.hid (O_x2.out.ext y)
  have D_M2 := Lib.hid (D_M2.out.ext y)
  have O_x3 := Lib.hid (O_x3.out.ext y)
  have D_M3 := Lib.hid (D_M3.out.ext y)
  replace hx := ext_trans hx y
  clear y
  go_wp2_with (go_at_call 21; refine Hid.out ?_)
  refine Lib.hid ?_
  refine (part26_any A5 H.length c5 H _ rfl D_H.out.rd.1 (by have := D_H.out.b; omega)).mono ?_
  rw [IH.out]
  rintro e wn ⟨rfl, dr, hd⟩
  have y := drew_ext hd
  clear hd
  have HT := Lib.hid (Utf8Tabs_below HT.out y)
  have HS := Lib.hid (HS.out.ext y)
  have D1 := Lib.hid (D1.out.ext y)
  have D_F := Lib.hid (D_F.out.ext y)
  have D_G := Lib.hid (D_G.out.ext y)
  have D_H := Lib.hid (D_H.out.ext y)
  have O_x1 := Lib.hid (O_x1.out.ext y)
  have D_M1 := Lib.hid (D_M1.out.ext y)
  have O_x2 := Lib.hid (O_x2.out.ext y)
  have D_M2 := Lib.hid (D_M2.out.ext y)
  have O_x3 := Lib.hid (O_x3.out.ext y)
  have D_M3 := Lib.hid (D_M3.out.ext y)
  replace hx := ext_trans hx y
  clear y
  have IJ : Hid (iF + iG = iH) := Lib.hid (by rw [← IF.out, ← IG.out, ← IH.out, ← JN.out, lines_append])
  have IB : Hid (iH ≤ 400) := Lib.hid (by rw [← IH.out]; have h := List.length_filter_le (fun c : Cl => c.r == 10) (clsOf H); rw [clsOf_len, LH.out] at h; have := ORD.out; have := B1.out; unfold linesC; omega)
  have hr1 : -9223372036854775808 ≤ (iF : Int) + (iG : Int) ∧ (iF : Int) + (iG : Int) ≤ 9223372036854775807 := by have := IJ.out; have := IB.out; omega
  have hr2 : -9223372036854775808 ≤ (F.length : Int) + (G.length : Int) ∧ (F.length : Int) + (G.length : Int) ≤ 9223372036854775807 := by have := LB.out; have := LP.out; omega
  have ej : (iF : Int) + (iG : Int) = (iH : Int) := by have := IJ.out; omega
  have el : (F.length : Int) + (G.length : Int) = (H.length : Int) := by have := LF.out; have := LG.out; have := LH.out; have := ORD.out; omega
  have w1 : IntKind.i64.wrap ((iF : Int) + (iG : Int)) = (iH : Int) := by rw [IntWalk.i64_in _ hr1]; exact ej
  have w1' : wrap64 ((iF : Int) + (iG : Int)) = (iH : Int) := by rw [w64_in _ hr1]; exact ej
  have w2 : IntKind.i64.wrap ((F.length : Int) + (G.length : Int)) = (H.length : Int) := by rw [IntWalk.i64_in _ hr2]; exact el
  have w2' : wrap64 ((F.length : Int) + (G.length : Int)) = (H.length : Int) := by rw [w64_in _ hr2]; exact el
  clear hr1 hr2 ej el
  go_wp2_with (go_at_call 19; refine Hid.out ?_)
  refine Lib.hid ?_
  refine (sameD D_M2.out D_M3.out (decide_eq_true EM.out)).mono ?_
  rintro e wn ⟨rfl, y⟩
  have HT := Lib.hid (Utf8Tabs_below HT.out y)
  have HS := Lib.hid (HS.out.ext y)
  have D1 := Lib.hid (D1.out.ext y)
  have D_F := Lib.hid (D_F.out.ext y)
  have D_G := Lib.hid (D_G.out.ext y)
  have D_H := Lib.hid (D_H.out.ext y)
  have O_x1 := Lib.hid (O_x1.out.ext y)
  have D_M1 := Lib.hid (D_M1.out.ext y)
  have O_x2 := Lib.hid (O_x2.out.ext y)
  have D_M2 := Lib.hid (D_M2.out.ext y)
  have O_x3 := Lib.hid (O_x3.out.ext y)
  have D_M3 := Lib.hid (D_M3.out.ext y)
  replace hx := ext_trans hx y
  clear y
  go_wp2_with (go_at_call 12; refine Hid.out ?_)
  refine Lib.hid ?_
  refine (known26_any _ HT.out).mono ?_
  rintro e w2 ⟨rfl, y⟩
  replace hx := ext_trans hx y
  go_wp2_with (fail)
  go_ret
  exact ⟨rfl, hx⟩
end Go.Proofs.YtipoeidmblnbbaaGreatDoor
