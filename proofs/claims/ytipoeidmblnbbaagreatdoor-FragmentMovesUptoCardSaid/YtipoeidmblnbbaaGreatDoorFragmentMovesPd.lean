/- The walk of rubriclaw26.FragmentMoves. Printed by wip/gen_frag.py. -/
import Derived.Test.YtipoeidmblnbbaaGreatDoorPk26
import Derived.Test.YtipoeidmblnbbaaGreatDoorPk27
import Derived.Test.YtipoeidmblnbbaaGreatDoorPk29
namespace Go.Proofs.YtipoeidmblnbbaaGreatDoor
open Go.RowKit
set_option linter.unusedVariables false
set_option linter.unusedSimpArgs false

set_option maxRecDepth 100000 in
set_option maxHeartbeats 12800000 in
theorem fragmentMoves_any (A0 A1 : Option Addr) (n0 n1 c0 c1 : Nat) (l0 : List Ky) (d : List ClS) (i j p : Int) (w : World)
    (e0 : n0 = l0.length) (e1 : n1 = d.length) (r0 : RdKy w w.heap.size A0 l0) (r1 : RdCl w w.heap.size A1 d) (b0 : n0 ≤ 1048576) (b1 : n1 ≤ 1048576) (k1 : n1 ≤ c1)
    (q1 : ∀ x ∈ d, x.c.s.length ≤ 100000000 ∧ okVr x.c.s) (g1 : ∀ x ∈ d, x.c.s.length ≤ x.cs ∧ x.cs ≤ maxLen) (hT : Lib.Utf8Tabs 1 2 w) :
    Calls Tryz.prog 5 #[.slice A0 n0 c0, .slice A1 n1 c1, .int .i64 i, .int .i64 j, .int .i64 p] w fun e w' => e = .returned (.bool true) ∧ Below w.heap.size w w' := by
  have N0 := Lib.hid e0
  have R0 := Lib.hid r0
  have HT := Lib.hid hT
  have hx := Below.refl w.heap.size w
  have N1 := Lib.hid e1
  have R1 := Lib.hid r1
  have Q1 := Lib.hid q1
  have C1 := Lib.hid g1
  clear e0 r0 hT e1 r1 q1 g1
  go_enter Tryz.func5, Tryz.ntmps5
  by_cases h64 : (64 : Int) < (n0 : Int)
  · skip
    go_wp2_with (go_at_call 12; refine Hid.out ?_)
    refine Lib.hid ?_
    refine (known26_any _ HT.out).mono ?_
    rintro e w2 ⟨rfl, y⟩
    replace hx := ext_trans hx y
    go_wp2_with (fail)
    go_ret
    exact ⟨rfl, hx⟩
  go_wp2_with (go_at_call 11; refine Hid.out ?_)
  refine Lib.hid ?_
  refine (great18_any A1 n1 c1 d 300 _ N1.out R1.out (by omega) (fun z hz => by have := (Q1.out z hz).1; omega)).mono ?_
  rintro e wn ⟨g, rfl, hgr, dr, hd⟩
  have y := drew_ext hd
  clear hd
  have R0 := Lib.hid (R0.out.ext y)
  have HT := Lib.hid (Utf8Tabs_below HT.out y)
  have R1 := Lib.hid (R1.out.ext y)
  replace hx := ext_trans hx y
  clear y
  cases g
  case true =>
    clear hgr
    go_wp2_with (go_at_call 12; refine Hid.out ?_)
    refine Lib.hid ?_
    refine (known26_any _ HT.out).mono ?_
    rintro e w2 ⟨rfl, y⟩
    replace hx := ext_trans hx y
    go_wp2_with (fail)
    go_ret
    exact ⟨rfl, hx⟩
  have G1 : Hid (n1 ≤ 300 ∧ ∀ z ∈ d, z.c.s.length ≤ 64) := Lib.hid ⟨by have := (hgr rfl).1; omega, (hgr rfl).2⟩
  clear hgr
  by_cases gd0 : i < 0
  · skip
    go_wp2_with (go_at_call 12; refine Hid.out ?_)
    refine Lib.hid ?_
    refine (known26_any _ HT.out).mono ?_
    rintro e w2 ⟨rfl, y⟩
    replace hx := ext_trans hx y
    go_wp2_with (fail)
    go_ret
    exact ⟨rfl, hx⟩
  by_cases gd1 : j < i
  · skip
    go_wp2_with (go_at_call 12; refine Hid.out ?_)
    refine Lib.hid ?_
    refine (known26_any _ HT.out).mono ?_
    rintro e w2 ⟨rfl, y⟩
    replace hx := ext_trans hx y
    go_wp2_with (fail)
    go_ret
    exact ⟨rfl, hx⟩
  by_cases gd2 : (n1 : Int) < j
  · skip
    go_wp2_with (go_at_call 12; refine Hid.out ?_)
    refine Lib.hid ?_
    refine (known26_any _ HT.out).mono ?_
    rintro e w2 ⟨rfl, y⟩
    replace hx := ext_trans hx y
    go_wp2_with (fail)
    go_ret
    exact ⟨rfl, hx⟩
  by_cases gd3 : p < 0
  · skip
    go_wp2_with (go_at_call 12; refine Hid.out ?_)
    refine Lib.hid ?_
    refine (known26_any _ HT.out).mono ?_
    rintro e w2 ⟨rfl, y⟩
    replace hx := ext_trans hx y
    go_wp2_with (fail)
    go_ret
    exact ⟨rfl, hx⟩
  by_cases gd4 : (n1 : Int) ≤ p
  · skip
    go_wp2_with (go_at_call 12; refine Hid.out ?_)
    refine Lib.hid ?_
    refine (known26_any _ HT.out).mono ?_
    rintro e w2 ⟨rfl, y⟩
    replace hx := ext_trans hx y
    go_wp2_with (fail)
    go_ret
    exact ⟨rfl, hx⟩
  go_wp2_with (go_at_call 13; refine Hid.out ?_)
  refine Lib.hid ?_
  refine (new_any A0 n0 c0 l0 _ N0.out R0.out (by omega)).mono ?_
  rintro e wn ⟨y, ⟨hm, s, rfl, hS⟩ | ⟨hm, rfl⟩⟩
  all_goals
    have R0 := Lib.hid (R0.out.ext y)
    have HT := Lib.hid (Utf8Tabs_below HT.out y)
    have R1 := Lib.hid (R1.out.ext y)
    replace hx := ext_trans hx y
    clear y hm
  rotate_left
  · skip
    go_wp2_with (go_at_call 12; refine Hid.out ?_)
    refine Lib.hid ?_
    refine (known26_any _ HT.out).mono ?_
    rintro e w2 ⟨rfl, y⟩
    replace hx := ext_trans hx y
    go_wp2_with (fail)
    go_ret
    exact ⟨rfl, hx⟩
  have HS := Lib.hid hS
  clear hS
  have D1 : Hid (DocAt _ A1 n1 c1 d) := Lib.hid ⟨R1.out, N1.out, k1, C1.out, fun z hz => ⟨by have := G1.out.2 z hz; omega, (Q1.out z hz).2⟩, by have := G1.out.1; omega⟩
  have S1 : Hid (∀ z ∈ clsOf d, z.s.length ≤ 64) := Lib.hid (fun c hc => by
    obtain ⟨z, hz, rfl⟩ := cls_mem hc
    exact G1.out.2 z hz)
  have H64 : Hid (l0.length ≤ 64) := Lib.hid (by have := N0.out; omega)
  obtain ⟨md, hmd⟩ : ∃ X, mayD l0 (clsOf d) = X := ⟨_, rfl⟩
  have MD := Lib.hid hmd
  clear hmd
  go_wp2_with (go_at_call 14; refine Hid.out ?_)
  refine Lib.hid ?_
  refine (mayDoc D1.out HS.out HT.out MD.out).mono ?_
  rintro e wn ⟨rfl, y⟩
  have HT := Lib.hid (Utf8Tabs_below HT.out y)
  have HS := Lib.hid (HS.out.ext y)
  have D1 := Lib.hid (D1.out.ext y)
  replace hx := ext_trans hx y
  clear y
  by_cases h0 : md = 0
  rotate_left
  · have h0' : (md == 0) = false := beq_eq_false_iff_ne.2 h0
    go_wp2_with (go_at_call 12; refine Hid.out ?_)
    refine Lib.hid ?_
    refine (known26_any _ HT.out).mono ?_
    rintro e w2 ⟨rfl, y⟩
    replace hx := ext_trans hx y
    go_wp2_with (fail)
    go_ret
    exact ⟨rfl, hx⟩
  subst h0
  have LD : Hid ((clsOf d).length = n1) := Lib.hid D1.out.clen
  have B1 : Hid (n1 ≤ 300 ∧ 1 ≤ n1) := Lib.hid ⟨G1.out.1, by obtain ⟨_, _, t, c, h, _⟩ := mayD_iff.1 MD.out; have := LD.out; rw [h] at this; simp at this; omega⟩
  obtain ⟨a, rfl⟩ : ∃ k : Nat, i = k := ⟨i.toNat, by omega⟩
  obtain ⟨b, rfl⟩ : ∃ k : Nat, j = k := ⟨j.toNat, by omega⟩
  obtain ⟨q, rfl⟩ : ∃ k : Nat, p = k := ⟨p.toNat, by omega⟩
  have ORD : Hid (a ≤ b ∧ b ≤ n1 ∧ q < n1) := Lib.hid ⟨by omega, by omega, by omega⟩
  clear gd0 gd1 gd2 gd3 gd4
  go_wp2_with (go_at_call 15; refine Hid.out ?_)
  refine Lib.hid ?_
  refine (cutDoc D1.out (a : Int) (b : Int)).mono ?_
  rintro e wn ⟨A3, c3, F, rfl, h_F, d_F, y⟩
  have HT := Lib.hid (Utf8Tabs_below HT.out y)
  have HS := Lib.hid (HS.out.ext y)
  have D1 := Lib.hid (D1.out.ext y)
  replace hx := ext_trans hx y
  have D_F := Lib.hid d_F
  have E_F := Lib.hid h_F
  clear d_F h_F
  clear y
  have S_F : Hid (∀ z ∈ clsOf F, z.s.length ≤ 64) := Lib.hid (fun z hz => S1.out z (cutC_mem (E_F.out ▸ hz)))
  have LF : Hid (F.length = b - a) := Lib.hid (by rw [← clsOf_len, E_F.out]; exact cutC_length ORD.out.1 (by rw [LD.out]; exact ORD.out.2.1))
  have MF : Hid (mayD l0 (clsOf F ++ [⟨10, []⟩]) = 0) := Lib.hid (by rw [E_F.out]; exact cutD_may MD.out (by rw [LD.out]; have := B1.out; omega))
  obtain ⟨nf, hnf⟩ : ∃ X, F.length = X := ⟨_, rfl⟩
  have NF := Lib.hid hnf
  rw [hnf] at D_F ⊢
  clear hnf
  have hr0 : -9223372036854775808 ≤ (b : Int) - (a : Int) ∧ (b : Int) - (a : Int) ≤ 9223372036854775807 := by have := ORD.out; have := B1.out; omega
  have e0 : (b : Int) - (a : Int) = (nf : Int) := by have := ORD.out; have := LF.out; have := NF.out; omega
  have w0 : IntKind.i64.wrap ((b : Int) - (a : Int)) = (nf : Int) := by rw [IntWalk.i64_in _ hr0]; exact e0
  have w0' : wrap64 ((b : Int) - (a : Int)) = (nf : Int) := by rw [w64_in _ hr0]; exact e0
  clear hr0 e0
  go_wp2_with (go_at_call 16; refine Hid.out ?_)
  refine Lib.hid ?_
  refine (fragDoc D_F.out HS.out HT.out MF.out).mono ?_
  rintro e wn ⟨rfl, y⟩
  have HT := Lib.hid (Utf8Tabs_below HT.out y)
  have HS := Lib.hid (HS.out.ext y)
  have D1 := Lib.hid (D1.out.ext y)
  have D_F := Lib.hid (D_F.out.ext y)
  replace hx := ext_trans hx y
  clear y
  go_wp2_with (go_at_call 18; refine Hid.out ?_)
  refine Lib.hid ?_
  refine (pasteDoc D_F.out S_F.out q (by have := ORD.out; have := B1.out; omega)).mono ?_
  rintro e wn ⟨A8, c8, x1, rfl, h_x1, o_x1, y⟩
  have HT := Lib.hid (Utf8Tabs_below HT.out y)
  have HS := Lib.hid (HS.out.ext y)
  have D1 := Lib.hid (D1.out.ext y)
  have D_F := Lib.hid (D_F.out.ext y)
  replace hx := ext_trans hx y
  have O_x1 := Lib.hid o_x1
  have E_x1 := Lib.hid h_x1
  clear o_x1 h_x1
  clear y
  have Z1 : Hid (applyN l0 x1 (clsOf d) ((10000 : Nat) : Int) = 0 ∧ app l0 (units (osOf x1)) (clsOf d) = app l0 (pasteU q (clsOf F)) (clsOf d)) := Lib.hid (made_apply (most := 10000) E_x1.out (paste_told q (clsOf F) (by have := ORD.out; have := B1.out; omega)) (by have := O_x1.out.b; have := O_x1.out.len; omega) (by have := B1.out; omega) MD.out (paste_fit (by rw [LD.out]; have := ORD.out; omega) (by rw [LD.out, clsOf_len]; have := LF.out; have := ORD.out; have := B1.out; omega) (by omega) (by rw [E_F.out]; exact cut_ok MD.out _ _)))
  go_wp2_with (go_at_call 17; refine Hid.out ?_)
  refine Lib.hid ?_
  refine (applyDoc (most := 10000) D1.out O_x1.out HS.out HT.out H64.out (by have := B1.out; omega) Z1.out.1 Z1.out.2).mono ?_
  rintro e wn ⟨A9, c9, M1, rfl, h_M1, m_M1, b_M1, d_M1, y⟩
  have HT := Lib.hid (Utf8Tabs_below HT.out y)
  have HS := Lib.hid (HS.out.ext y)
  have D1 := Lib.hid (D1.out.ext y)
  have D_F := Lib.hid (D_F.out.ext y)
  have O_x1 := Lib.hid (O_x1.out.ext y)
  replace hx := ext_trans hx y
  have D_M1 := Lib.hid d_M1
  have E_M1 := Lib.hid h_M1
  have M_M1 := Lib.hid m_M1
  have B_M1 := Lib.hid b_M1
  clear d_M1 h_M1 m_M1 b_M1
  clear y
  have EM : Hid (clsOf M1 = (clsOf d).take q ++ (clsOf F ++ (clsOf d).drop q)) := Lib.hid (by rw [E_M1.out, app_paste l0 q _ _ (by rw [LD.out]; have := ORD.out; omega)])
  have LM : Hid (M1.length = n1 + nf) := Lib.hid (by rw [← clsOf_len, EM.out, List.length_append, List.length_append, List.length_take, List.length_drop, LD.out, clsOf_len, NF.out]; have := ORD.out; omega)
  obtain ⟨nm, hnm⟩ : ∃ X, M1.length = X := ⟨_, rfl⟩
  have NM := Lib.hid hnm
  rw [hnm] at D_M1 LM ⊢
  clear hnm
  obtain ⟨q2, hq2⟩ : ∃ X, q + nf = X := ⟨_, rfl⟩
  obtain ⟨n5, hn5⟩ : ∃ X, n1 - q = X := ⟨_, rfl⟩
  obtain ⟨A10, hA10⟩ : ∃ X, advS A9 c9 q 2 = X := ⟨_, rfl⟩
  obtain ⟨A11, hA11⟩ : ∃ X, advS A9 c9 q2 2 = X := ⟨_, rfl⟩
  obtain ⟨A12, hA12⟩ : ∃ X, advS A1 c1 q 2 = X := ⟨_, rfl⟩
  obtain ⟨k10, hk10⟩ : ∃ X, c9 - q = X := ⟨_, rfl⟩
  obtain ⟨k11, hk11⟩ : ∃ X, c9 - q2 = X := ⟨_, rfl⟩
  obtain ⟨k12, hk12⟩ : ∃ X, c1 - q = X := ⟨_, rfl⟩
  have F1 : Hid (q ≤ nm ∧ q2 ≤ nm ∧ nm - q2 = n5 ∧ q ≤ q2 ∧ q2 - q = nf ∧ nm ≤ 700 ∧ nm ≤ c9 ∧ nm - q = nf + n5) := Lib.hid (by have h1 := LM.out; have h2 := ORD.out; have h3 := B1.out; have h4 := LF.out; have h5 := NF.out; have h6 := D_M1.out.cap; omega)
  have sl1 : ∀ W, (Instr.slice 23 (.slice A9 nm c9) none (some (.int .i64 (q : Int))) none).run Tryz.prog W = .ok (.slice A9 q c9) W := sl_to (l := q) Tryz.slCl Tryz.elCl size_cl rfl (by have := F1.out; omega)
  have sl2 : ∀ W, (Instr.slice 23 (.slice A1 n1 c1) none (some (.int .i64 (q : Int))) none).run Tryz.prog W = .ok (.slice A1 q c1) W := sl_to (l := q) Tryz.slCl Tryz.elCl size_cl rfl (by have := ORD.out; omega)
  have sl3 : ∀ W, (Instr.slice 23 (.slice A9 nm c9) (some (.int .i64 (q : Int))) (some (.int .i64 (q2 : Int))) none).run Tryz.prog W = .ok (.slice A10 nf k10) W := sl_both Tryz.slCl Tryz.elCl size_cl rfl rfl hA10 (by have := F1.out; omega) hk10 (by have := F1.out; omega) (by have := F1.out; omega)
  have sl4 : ∀ W, (Instr.slice 23 (.slice A9 nm c9) (some (.int .i64 (q2 : Int))) none none).run Tryz.prog W = .ok (.slice A11 n5 k11) W := sl_from Tryz.slCl Tryz.elCl size_cl rfl hA11 F1.out.2.2.1 hk11 F1.out.2.1 F1.out.2.2.2.2.2.2.1
  have sl5 : ∀ W, (Instr.slice 23 (.slice A1 n1 c1) (some (.int .i64 (q : Int))) none none).run Tryz.prog W = .ok (.slice A12 n5 k12) W := sl_from Tryz.slCl Tryz.elCl size_cl rfl hA12 hn5 hk12 (by have := ORD.out; omega) k1
  have T1 := Lib.hid (D_M1.out.take (k := q) (by have := F1.out; omega))
  have T2 := Lib.hid (D1.out.take (k := q) (by have := ORD.out; omega))
  have T4 := Lib.hid (D_M1.out.drop (n' := n5) hA11 F1.out.2.1 F1.out.2.2.1 hk11)
  have T5 := Lib.hid (D1.out.drop (n' := n5) hA12 (by have := ORD.out; omega) hn5 hk12)
  have T3 := Lib.hid ((D_M1.out.drop (n' := nf + n5) hA10 (by have := F1.out; omega) F1.out.2.2.2.2.2.2.2 hk10).take (k := nf) (by omega))
  have P1 : Hid (clsOf (M1.take q) = clsOf (d.take q)) := Lib.hid (by rw [clsOf_take, clsOf_take, EM.out, paste_take (by rw [LD.out]; have := ORD.out; omega)])
  have PD : Hid ((clsOf M1).drop q = clsOf F ++ (clsOf d).drop q) := Lib.hid (by rw [EM.out, paste_drop (by rw [LD.out]; have := ORD.out; omega)])
  have P2 : Hid (clsOf ((M1.drop q).take nf) = clsOf F) := Lib.hid (by rw [clsOf_take, clsOf_drop, PD.out, List.take_append_of_le_length (by rw [clsOf_len, NF.out]; exact Nat.le_refl _), List.take_of_length_le (by rw [clsOf_len, NF.out]; exact Nat.le_refl _)])
  have P3 : Hid (clsOf (M1.drop q2) = clsOf (d.drop q)) := Lib.hid (by rw [clsOf_drop, clsOf_drop, ← hq2, ← List.drop_drop, PD.out, List.drop_append_of_le_length (by rw [clsOf_len, NF.out]; exact Nat.le_refl _), List.drop_of_length_le (by rw [clsOf_len, NF.out]; exact Nat.le_refl _), List.nil_append])
  have hr1 : -9223372036854775808 ≤ (n1 : Int) + (nf : Int) ∧ (n1 : Int) + (nf : Int) ≤ 9223372036854775807 := by have := LM.out; have := F1.out; omega
  have hr2 : -9223372036854775808 ≤ (q : Int) + (nf : Int) ∧ (q : Int) + (nf : Int) ≤ 9223372036854775807 := by have := F1.out; omega
  have e1 : (n1 : Int) + (nf : Int) = (nm : Int) := by have := LM.out; omega
  have e2 : (q : Int) + (nf : Int) = (q2 : Int) := by omega
  have w1 : IntKind.i64.wrap ((n1 : Int) + (nf : Int)) = (nm : Int) := by rw [IntWalk.i64_in _ hr1]; exact e1
  have w1' : wrap64 ((n1 : Int) + (nf : Int)) = (nm : Int) := by rw [w64_in _ hr1]; exact e1
  have w2 : IntKind.i64.wrap ((q : Int) + (nf : Int)) = (q2 : Int) := by rw [IntWalk.i64_in _ hr2]; exact e2
  have w2' : wrap64 ((q : Int) + (nf : Int)) = (q2 : Int) := by rw [w64_in _ hr2]; exact e2
  clear hr1 hr2 e1 e2 hq2 hn5 hA10 hA11 hA12 hk10 hk11 hk12
  go_wp2_with (fail)
  go_region_held3 (fun w' => True) (go_keep) (first
    | (go_at_call 19
       with_reducible refine (sameD (T1.out.ext (up_drew (Below.refl _ _))) (T2.out.ext (up_drew (Below.refl _ _))) (decide_eq_true P1.out)).mono ?_
       rintro e wa ⟨rfl, ya⟩
       have YA : Hid (Below wn.heap.size wn wa) := Lib.hid (ext_trans (up_drew (Below.refl _ _)) ya)
       clear ya)
    | (go_at_call 19
       with_reducible refine (sameD (T3.out.ext YA.out) (D_F.out.ext YA.out) (decide_eq_true P2.out)).mono ?_
       rintro e wb ⟨rfl, yb⟩
       have YB : Hid (Below wn.heap.size wn wb) := Lib.hid (ext_trans YA.out yb)
       clear yb)
    | (go_at_call 19
       with_reducible refine (sameD (T4.out.ext YB.out) (T5.out.ext YB.out) (decide_eq_true P3.out)).mono ?_
       rintro e wc ⟨rfl, yc⟩
       have YC : Hid (Below wn.heap.size wn wc) := Lib.hid (ext_trans YB.out yc)
       clear yc))
  have y := YC.out
  clear YA YB YC sl1 sl2 sl3 sl4 sl5
  have HT := Lib.hid (Utf8Tabs_below HT.out y)
  have HS := Lib.hid (HS.out.ext y)
  have D1 := Lib.hid (D1.out.ext y)
  have D_F := Lib.hid (D_F.out.ext y)
  have O_x1 := Lib.hid (O_x1.out.ext y)
  have D_M1 := Lib.hid (D_M1.out.ext y)
  replace hx := ext_trans hx y
  clear y T1 T2 T3 T4 T5 P1 P2 P3 PD
  by_cases hbn : b = n1
  · have hbn' : ((b : Int) == (n1 : Int)) = true := by rw [hbn]; exact beq_self_eq_true _
    go_wp2_with (go_at_call 12; refine Hid.out ?_)
    refine Lib.hid ?_
    refine (known26_any _ HT.out).mono ?_
    rintro e w2 ⟨rfl, y⟩
    replace hx := ext_trans hx y
    go_wp2_with (fail)
    go_ret
    exact ⟨rfl, hx⟩
  by_cases hab : a = b
  · have hab' : ((a : Int) == (b : Int)) = true := by rw [hab]; exact beq_self_eq_true _
    go_wp2_with (go_at_call 12; refine Hid.out ?_)
    refine Lib.hid ?_
    refine (known26_any _ HT.out).mono ?_
    rintro e w2 ⟨rfl, y⟩
    replace hx := ext_trans hx y
    go_wp2_with (fail)
    go_ret
    exact ⟨rfl, hx⟩
  have hbn' : ((b : Int) == (n1 : Int)) = false := beq_eq_false_iff_ne.2 (by omega)
  have hab' : ((a : Int) == (b : Int)) = false := beq_eq_false_iff_ne.2 (by omega)
  have BL : Hid (b < n1 ∧ a < b ∧ 1 ≤ nf) := Lib.hid ⟨by have := ORD.out; omega, by have := ORD.out; omega, by have := ORD.out; have := LF.out; have := NF.out; omega⟩
  have GF : Hid (FitU l0 (goneU a nf) n1 n1) := Lib.hid (by
    obtain ⟨k, hk⟩ : ∃ k, nf = k + 1 := ⟨nf - 1, by have := BL.out; omega⟩
    rw [hk]
    exact gone_fit (by have := ORD.out; have := LF.out; have := NF.out; have := BL.out; omega) (by have := B1.out; omega))
  by_cases ha : a = 0
  · skip
    have ha' : ((a : Int) == 0) = true := by rw [ha]; rfl
    have HA0 := Lib.hid ha
    clear ha
    obtain ⟨AG, hAG⟩ : ∃ X, advS (some ⟨wc.heap.size, 0, none⟩) 2 1 5 = X := ⟨_, rfl⟩
    have sl6 : ∀ W, (Instr.slice 34 (.slice (some ⟨wc.heap.size, 0, none⟩) 2 2) (some (.int .i64 1)) none none).run Tryz.prog W = .ok (.slice AG 1 1) W := sl_from (k := 1) (n' := 1) Tryz.slOp Tryz.elOpD size_opD rfl hAG rfl rfl (by omega) (by omega)
    have y := ext_alloc wc (.cells #[.int .u8 1, .int .i64 (a : Int), .slice none 0 0, .slice none 0 0, .slice none 0 0, .int .u8 3, .int .i64 (nf : Int), .slice none 0 0, .slice none 0 0, .slice none 0 0] 46)
    have rG := rd_ops wc [(⟨opR (a : Int) [], none, 0, none, 0, none, 0⟩ : OpS), ⟨opD (nf : Int), none, 0, none, 0, none, 0⟩] (fun z hz => by
      simp only [List.mem_cons, List.not_mem_nil, or_false] at hz
      rcases hz with rfl | rfl <;> exact ⟨Rd.nil, Rd.nil, Rd.nil⟩) (cs := #[.int .u8 1, .int .i64 (a : Int), .slice none 0 0, .slice none 0 0, .slice none 0 0, .int .u8 3, .int .i64 (nf : Int), .slice none 0 0, .slice none 0 0, .slice none 0 0]) rfl (b := wc.heap.size) rfl
    have HT := Lib.hid (Utf8Tabs_below HT.out y)
    have HS := Lib.hid (HS.out.ext y)
    have D1 := Lib.hid (D1.out.ext y)
    have D_F := Lib.hid (D_F.out.ext y)
    have O_x1 := Lib.hid (O_x1.out.ext y)
    have D_M1 := Lib.hid (D_M1.out.ext y)
    replace hx := ext_trans hx y
    have OG : Hid (OpsAt _ AG 1 [(⟨opD (nf : Int), none, 0, none, 0, none, 0⟩ : OpS)]) := Lib.hid ⟨⟨hAG ▸ rG.1.advS (k := 1) (c := 2) (by simp) (by simp), fun z hz => rG.2 z (List.mem_cons_of_mem _ hz)⟩, rfl, (fun z hz => by
      simp only [List.mem_cons, List.not_mem_nil, or_false] at hz
      subst hz; exact ok_small _ rfl rfl (by simp [opR, opD])), by omega⟩
    have IG : Hid (∀ o ∈ [(⟨opD (nf : Int), none, 0, none, 0, none, 0⟩ : OpS)], isOp o.o) := Lib.hid (fun z hz => by
      simp only [List.mem_cons, List.not_mem_nil, or_false] at hz
      subst hz; exact opD_one BL.out.2.2)
    have UG : Hid (units (osOf [(⟨opD (nf : Int), none, 0, none, 0, none, 0⟩ : OpS)]) = goneU a nf) := Lib.hid (by
      rw [units_sing]
      show unitsO (opD (nf : Int)) = _
      rw [unitsO_D, HA0.out]; rfl)
    clear rG hAG
    have Z2 : Hid (applyN l0 [(⟨opD (nf : Int), none, 0, none, 0, none, 0⟩ : OpS)] (clsOf d) ((n1 : Nat) : Int) = 0) := Lib.hid (zero_applyN MD.out (by rw [LD.out]; exact units_fits (by have := OG.out.len; have := OG.out.b; omega) (by have := B1.out; omega) IG.out (by rw [UG.out]; exact GF.out)))
    go_wp2_with (go_at_call 17; refine Hid.out ?_)
    refine Lib.hid ?_
    refine (applyDoc (most := n1) (us := goneU a nf) D1.out OG.out HS.out HT.out H64.out (by have := B1.out; omega) Z2.out (by rw [UG.out])).mono ?_
    rintro e wn ⟨A13, c13, M2, rfl, h_2, m_2, b_2, d_2, y⟩
    have HT := Lib.hid (Utf8Tabs_below HT.out y)
    have HS := Lib.hid (HS.out.ext y)
    have D1 := Lib.hid (D1.out.ext y)
    have D_F := Lib.hid (D_F.out.ext y)
    have O_x1 := Lib.hid (O_x1.out.ext y)
    have D_M1 := Lib.hid (D_M1.out.ext y)
    have OG := Lib.hid (OG.out.ext y)
    replace hx := ext_trans hx y
    have D_M2 := Lib.hid d_2
    have E_M2 := Lib.hid h_2
    have M_M2 := Lib.hid m_2
    clear d_2 h_2 m_2 b_2
    clear y
    have EG : Hid (clsOf M2 = (clsOf d).take a ++ (clsOf d).drop b) := Lib.hid (by rw [E_M2.out, app_gone l0 (by rw [LD.out]; have := ORD.out; have := LF.out; have := NF.out; omega), show a + nf = b by have := ORD.out; have := LF.out; have := NF.out; omega])
    have L2 : Hid ((clsOf M2).length = n1 - nf) := Lib.hid (by rw [EG.out, List.length_append, List.length_take, List.length_drop, LD.out]; have := ORD.out; have := LF.out; have := NF.out; omega)
    go_wp2_with (go_at_call 18; refine Hid.out ?_)
    refine Lib.hid ?_
    refine (pasteDoc D_F.out S_F.out a (by have := ORD.out; have := B1.out; omega)).mono ?_
    rintro e wn ⟨B8, k8, x2, rfl, h_x2, o_x2, y⟩
    have HT := Lib.hid (Utf8Tabs_below HT.out y)
    have HS := Lib.hid (HS.out.ext y)
    have D1 := Lib.hid (D1.out.ext y)
    have D_F := Lib.hid (D_F.out.ext y)
    have O_x1 := Lib.hid (O_x1.out.ext y)
    have D_M1 := Lib.hid (D_M1.out.ext y)
    have OG := Lib.hid (OG.out.ext y)
    have D_M2 := Lib.hid (D_M2.out.ext y)
    replace hx := ext_trans hx y
    have O_x2 := Lib.hid o_x2
    have E_x2 := Lib.hid h_x2
    clear o_x2 h_x2
    clear y
    have Z3 : Hid (applyN l0 x2 (clsOf M2) ((n1 : Nat) : Int) = 0 ∧ app l0 (units (osOf x2)) (clsOf M2) = app l0 (pasteU a (clsOf F)) (clsOf M2)) := Lib.hid (made_apply (most := n1) E_x2.out (paste_told a (clsOf F) (by have := ORD.out; have := B1.out; omega)) (by have := O_x2.out.b; have := O_x2.out.len; omega) (by have := B1.out; omega) M_M2.out (paste_fit (by rw [L2.out]; have := ORD.out; have := LF.out; have := NF.out; have := BL.out; omega) (by rw [L2.out, clsOf_len, NF.out]; have := ORD.out; have := LF.out; have := NF.out; omega) (by have := B1.out; omega) (by rw [E_F.out]; exact cut_ok MD.out _ _)))
    go_wp2_with (go_at_call 17; refine Hid.out ?_)
    refine Lib.hid ?_
    refine (applyDoc (most := n1) D_M2.out O_x2.out HS.out HT.out H64.out (by have := B1.out; omega) Z3.out.1 Z3.out.2).mono ?_
    rintro e wn ⟨B9, k9, M3, rfl, h_M3, m_M3, b_M3, d_M3, y⟩
    have HT := Lib.hid (Utf8Tabs_below HT.out y)
    have HS := Lib.hid (HS.out.ext y)
    have D1 := Lib.hid (D1.out.ext y)
    have D_F := Lib.hid (D_F.out.ext y)
    have O_x1 := Lib.hid (O_x1.out.ext y)
    have D_M1 := Lib.hid (D_M1.out.ext y)
    have OG := Lib.hid (OG.out.ext y)
    have D_M2 := Lib.hid (D_M2.out.ext y)
    have O_x2 := Lib.hid (O_x2.out.ext y)
    replace hx := ext_trans hx y
    have D_M3 := Lib.hid d_M3
    have E_M3 := Lib.hid h_M3
    have M_M3 := Lib.hid m_M3
    have B_M3 := Lib.hid b_M3
    clear d_M3 h_M3 m_M3 b_M3
    clear y
    have EB : Hid (clsOf M3 = clsOf d) := Lib.hid (by rw [E_M3.out, EG.out, E_F.out]; exact gone_back l0 ORD.out.1 (by rw [LD.out]; exact ORD.out.2.1))
    go_wp2_with (go_at_call 19; refine Hid.out ?_)
    refine Lib.hid ?_
    refine (sameD D_M3.out D1.out (decide_eq_true EB.out)).mono ?_
    rintro e wn ⟨rfl, y⟩
    have HT := Lib.hid (Utf8Tabs_below HT.out y)
    have HS := Lib.hid (HS.out.ext y)
    have D1 := Lib.hid (D1.out.ext y)
    have D_F := Lib.hid (D_F.out.ext y)
    have O_x1 := Lib.hid (O_x1.out.ext y)
    have D_M1 := Lib.hid (D_M1.out.ext y)
    have OG := Lib.hid (OG.out.ext y)
    have D_M2 := Lib.hid (D_M2.out.ext y)
    have O_x2 := Lib.hid (O_x2.out.ext y)
    have D_M3 := Lib.hid (D_M3.out.ext y)
    replace hx := ext_trans hx y
    clear y
    go_wp2_with (go_at_call 12; refine Hid.out ?_)
    refine Lib.hid ?_
    refine (known26_any _ HT.out).mono ?_
    rintro e w2 ⟨rfl, y⟩
    replace hx := ext_trans hx y
    go_wp2_with (fail)
    go_ret
    exact ⟨rfl, hx⟩
  have ha' : ((a : Int) == 0) = false := beq_eq_false_iff_ne.2 (by omega)
  have y := ext_alloc wc (.cells #[.int .u8 1, .int .i64 (a : Int), .slice none 0 0, .slice none 0 0, .slice none 0 0, .int .u8 3, .int .i64 (nf : Int), .slice none 0 0, .slice none 0 0, .slice none 0 0] 46)
  have rG := rd_ops wc [(⟨opR (a : Int) [], none, 0, none, 0, none, 0⟩ : OpS), ⟨opD (nf : Int), none, 0, none, 0, none, 0⟩] (fun z hz => by
    simp only [List.mem_cons, List.not_mem_nil, or_false] at hz
    rcases hz with rfl | rfl <;> exact ⟨Rd.nil, Rd.nil, Rd.nil⟩) (cs := #[.int .u8 1, .int .i64 (a : Int), .slice none 0 0, .slice none 0 0, .slice none 0 0, .int .u8 3, .int .i64 (nf : Int), .slice none 0 0, .slice none 0 0, .slice none 0 0]) rfl (b := wc.heap.size) rfl
  have HT := Lib.hid (Utf8Tabs_below HT.out y)
  have HS := Lib.hid (HS.out.ext y)
  have D1 := Lib.hid (D1.out.ext y)
  have D_F := Lib.hid (D_F.out.ext y)
  have O_x1 := Lib.hid (O_x1.out.ext y)
  have D_M1 := Lib.hid (D_M1.out.ext y)
  replace hx := ext_trans hx y
  have OG : Hid (OpsAt _ (some ⟨wc.heap.size, 0, none⟩) 2 [(⟨opR (a : Int) [], none, 0, none, 0, none, 0⟩ : OpS), ⟨opD (nf : Int), none, 0, none, 0, none, 0⟩]) := Lib.hid ⟨rG, rfl, (fun z hz => by
    simp only [List.mem_cons, List.not_mem_nil, or_false] at hz
    rcases hz with rfl | rfl <;> exact ok_small _ rfl rfl (by simp [opR, opD])), by omega⟩
  have IG : Hid (∀ o ∈ [(⟨opR (a : Int) [], none, 0, none, 0, none, 0⟩ : OpS), ⟨opD (nf : Int), none, 0, none, 0, none, 0⟩], isOp o.o) := Lib.hid (fun z hz => by
    simp only [List.mem_cons, List.not_mem_nil, or_false] at hz
    rcases hz with rfl | rfl
    · exact opR_one (by omega)
    · exact opD_one BL.out.2.2)
  have UG : Hid (units (osOf [(⟨opR (a : Int) [], none, 0, none, 0, none, 0⟩ : OpS), ⟨opD (nf : Int), none, 0, none, 0, none, 0⟩]) = goneU a nf) := Lib.hid (by
    show unitsO (opR (a : Int) []) ++ (unitsO (opD (nf : Int)) ++ []) = _
    rw [unitsO_R, unitsO_D, List.append_nil]; rfl)
  clear rG
  have Z2 : Hid (applyN l0 [(⟨opR (a : Int) [], none, 0, none, 0, none, 0⟩ : OpS), ⟨opD (nf : Int), none, 0, none, 0, none, 0⟩] (clsOf d) ((n1 : Nat) : Int) = 0) := Lib.hid (zero_applyN MD.out (by rw [LD.out]; exact units_fits (by have := OG.out.len; have := OG.out.b; omega) (by have := B1.out; omega) IG.out (by rw [UG.out]; exact GF.out)))
  go_wp2_with (go_at_call 17; refine Hid.out ?_)
  refine Lib.hid ?_
  refine (applyDoc (most := n1) (us := goneU a nf) D1.out OG.out HS.out HT.out H64.out (by have := B1.out; omega) Z2.out (by rw [UG.out])).mono ?_
  rintro e wn ⟨A13, c13, M2, rfl, h_2, m_2, b_2, d_2, y⟩
  have HT := Lib.hid (Utf8Tabs_below HT.out y)
  have HS := Lib.hid (HS.out.ext y)
  have D1 := Lib.hid (D1.out.ext y)
  have D_F := Lib.hid (D_F.out.ext y)
  have O_x1 := Lib.hid (O_x1.out.ext y)
  have D_M1 := Lib.hid (D_M1.out.ext y)
  have OG := Lib.hid (OG.out.ext y)
  replace hx := ext_trans hx y
  have D_M2 := Lib.hid d_2
  have E_M2 := Lib.hid h_2
  have M_M2 := Lib.hid m_2
  clear d_2 h_2 m_2 b_2
  clear y
  have EG : Hid (clsOf M2 = (clsOf d).take a ++ (clsOf d).drop b) := Lib.hid (by rw [E_M2.out, app_gone l0 (by rw [LD.out]; have := ORD.out; have := LF.out; have := NF.out; omega), show a + nf = b by have := ORD.out; have := LF.out; have := NF.out; omega])
  have L2 : Hid ((clsOf M2).length = n1 - nf) := Lib.hid (by rw [EG.out, List.length_append, List.length_take, List.length_drop, LD.out]; have := ORD.out; have := LF.out; have := NF.out; omega)
  go_wp2_with (go_at_call 18; refine Hid.out ?_)
  refine Lib.hid ?_
  refine (pasteDoc D_F.out S_F.out a (by have := ORD.out; have := B1.out; omega)).mono ?_
  rintro e wn ⟨B8, k8, x2, rfl, h_x2, o_x2, y⟩
  have HT := Lib.hid (Utf8Tabs_below HT.out y)
  have HS := Lib.hid (HS.out.ext y)
  have D1 := Lib.hid (D1.out.ext y)
  have D_F := Lib.hid (D_F.out.ext y)
  have O_x1 := Lib.hid (O_x1.out.ext y)
  have D_M1 := Lib.hid (D_M1.out.ext y)
  have OG := Lib.hid (OG.out.ext y)
  have D_M2 := Lib.hid (D_M2.out.ext y)
  replace hx := ext_trans hx y
  have O_x2 := Lib.hid o_x2
  have E_x2 := Lib.hid h_x2
  clear o_x2 h_x2
  clear y
  have Z3 : Hid (applyN l0 x2 (clsOf M2) ((n1 : Nat) : Int) = 0 ∧ app l0 (units (osOf x2)) (clsOf M2) = app l0 (pasteU a (clsOf F)) (clsOf M2)) := Lib.hid (made_apply (most := n1) E_x2.out (paste_told a (clsOf F) (by have := ORD.out; have := B1.out; omega)) (by have := O_x2.out.b; have := O_x2.out.len; omega) (by have := B1.out; omega) M_M2.out (paste_fit (by rw [L2.out]; have := ORD.out; have := LF.out; have := NF.out; have := BL.out; omega) (by rw [L2.out, clsOf_len, NF.out]; have := ORD.out; have := LF.out; have := NF.out; omega) (by have := B1.out; omega) (by rw [E_F.out]; exact cut_ok MD.out _ _)))
  go_wp2_with (go_at_call 17; refine Hid.out ?_)
  refine Lib.hid ?_
  refine (applyDoc (most := n1) D_M2.out O_x2.out HS.out HT.out H64.out (by have := B1.out; omega) Z3.out.1 Z3.out.2).mono ?_
  rintro e wn ⟨B9, k9, M3, rfl, h_M3, m_M3, b_M3, d_M3, y⟩
  have HT := Lib.hid (Utf8Tabs_below HT.out y)
  have HS := Lib.hid (HS.out.ext y)
  have D1 := Lib.hid (D1.out.ext y)
  have D_F := Lib.hid (D_F.out.ext y)
  have O_x1 := Lib.hid (O_x1.out.ext y)
  have D_M1 := Lib.hid (D_M1.out.ext y)
  have OG := Lib.hid (OG.out.ext y)
  have D_M2 := Lib.hid (D_M2.out.ext y)
  have O_x2 := Lib.hid (O_x2.out.ext y)
  replace hx := ext_trans hx y
  have D_M3 := Lib.hid d_M3
  have E_M3 := Lib.hid h_M3
  have M_M3 := Lib.hid m_M3
  have B_M3 := Lib.hid b_M3
  clear d_M3 h_M3 m_M3 b_M3
  clear y
  have EB : Hid (clsOf M3 = clsOf d) := Lib.hid (by rw [E_M3.out, EG.out, E_F.out]; exact gone_back l0 ORD.out.1 (by rw [LD.out]; exact ORD.out.2.1))
  go_wp2_with (go_at_call 19; refine Hid.out ?_)
  refine Lib.hid ?_
  refine (sameD D_M3.out D1.out (decide_eq_true EB.out)).mono ?_
  rintro e wn ⟨rfl, y⟩
  have HT := Lib.hid (Utf8Tabs_below HT.out y)
  have HS := Lib.hid (HS.out.ext y)
  have D1 := Lib.hid (D1.out.ext y)
  have D_F := Lib.hid (D_F.out.ext y)
  have O_x1 := Lib.hid (O_x1.out.ext y)
  have D_M1 := Lib.hid (D_M1.out.ext y)
  have OG := Lib.hid (OG.out.ext y)
  have D_M2 := Lib.hid (D_M2.out.ext y)
  have O_x2 := Lib.hid (O_x2.out.ext y)
  have D_M3 := Lib.hid (D_M3.out.ext y)
  replace hx := ext_trans hx y
  clear y
  go_wp2_with (go_at_call 12; refine Hid.out ?_)
  refine Lib.hid ?_
  refine (known26_any _ HT.out).mono ?_
  rintro e w2 ⟨rfl, y⟩
  replace hx := ext_trans hx y
  go_wp2_with (fail)
  go_ret
  exact ⟨rfl, hx⟩
end Go.Proofs.YtipoeidmblnbbaaGreatDoor
