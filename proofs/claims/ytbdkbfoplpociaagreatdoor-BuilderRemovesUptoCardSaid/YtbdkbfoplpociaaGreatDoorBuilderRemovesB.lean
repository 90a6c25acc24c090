/- Merged texts: BuilderRemoves. -/
import Derived.Deep.RegionHeld3
import Derived.Deep.RegionHeldLaw
import Derived.Test.YtbdkbfoplpociaaGreatDoorB3
import Derived.Test.YtbdkbfoplpociaaGreatDoorK30
import Derived.Test.YtbdkbfoplpociaaGreatDoorKnown24B
import Derived.Test.YtbdkbfoplpociaaGreatDoorK36
import Derived.Test.YtbdkbfoplpociaaGreatDoorK34
import Derived.Test.YtbdkbfoplpociaaGreatDoorBuildRB
import Derived.Test.YtbdkbfoplpociaaGreatDoorBuildLawB
namespace Go.Proofs.YtbdkbfoplpociaaGreatDoor
open Go.RowKit
set_option linter.unusedVariables false
set_option linter.unusedSimpArgs false

section
variable {ops : Array Oper} {rest : List Oper} {o : Oper} {a : Act} {Q : Exit → Act → World → Prop} {w : World} {base : Nat} {v : Value} {K : Act → World → Prop} {E : Prop}
/-- an append of cells at a step of a region that draws -/
theorem step_cs {l m : List ClS} (hw : Region.wanted o (yielded ops a.tmps) = true) (s x : Operand)
    (ho : o.op = .call { callee := .builtin .append, args := #[s, x], argTypes := #[55, 55] })
    (hsv : a.eval s = v) (hown : OwCs w base v l) (B : Nat) (A : Option Addr) (c n : Nat) (hx : a.eval x = .slice A n c) (hn : n = m.length) (hr : RdCs w B A m)
    (hb : l.length + m.length ≤ 1000000000000) (hbase : base ≤ w.heap.size)
    (h : ∀ v' w', OwCs w' base v' (l ++ m) → w.grownBy w' (wb v) → (v' = v ∧ w' = w ∨ wb v' = wb v ∨ wb v' = some w.heap.size) → K (a.put o.dst v') w') :
    if Region.wanted o (yielded ops a.tmps) = true then Oper.wp Tryz.prog o a w K Q else E := by
  rw [if_pos hw]
  obtain ⟨i0, hi0, hz0, hz1, hz2⟩ := info_parts Tryz.infoCl
  exact wp_app s x _ ho i0 _ 32 Tryz.slCl hi0 hz0 hz1 hz2 rfl (by omega) ClS.enc_len ClS.enc_one hsv hown B A c n hx hn hr (by simp only [maxLen]; omega) (by omega) hbase h
end

set_option maxRecDepth 100000 in
set_option maxHeartbeats 12800000 in
theorem builderRemoves_any (A0 A1 : Option Addr) (n0 n1 c0 c1 : Nat) (l0 : List Ky) (d : List ClS) (i m j : Int) (w : World)
    (e0 : n0 = l0.length) (e1 : n1 = d.length) (r0 : RdKy w w.heap.size A0 l0) (r1 : RdCl w w.heap.size A1 d) (b0 : n0 ≤ 1048576) (b1 : n1 ≤ 1048576) (k1 : n1 ≤ c1)
    (q1 : ∀ x ∈ d, x.c.s.length ≤ 100000000 ∧ okVr x.c.s) (g1 : ∀ x ∈ d, x.c.s.length ≤ x.cs ∧ x.cs ≤ maxLen) (hT : Lib.Utf8Tabs 1 2 w) :
    Calls Tryz.prog 17 #[.slice A0 n0 c0, .slice A1 n1 c1, .int .i64 i, .int .i64 m, .int .i64 j] w fun e w' => e = .returned (.bool true) ∧ Below w.heap.size w w' := by
  have N0 := Lib.hid e0
  have R0 := Lib.hid r0
  have HT := Lib.hid hT
  have hx := Below.refl w.heap.size w
  have N1 := Lib.hid e1
  have R1 := Lib.hid r1
  have Q1 := Lib.hid q1
  have C1 := Lib.hid g1
  clear e0 r0 hT e1 r1 q1 g1
  go_enter Tryz.func17, Tryz.ntmps17
  by_cases h64 : (64 : Int) < (n0 : Int)
  · skip
    go_wp2_with (go_at_call 73; refine Hid.out ?_)
    refine Lib.hid ?_
    refine (known24_any _ HT.out).mono ?_
    rintro e w2 ⟨rfl, y⟩
    replace hx := ext_trans hx y
    go_wp2_with (fail)
    go_ret
    exact ⟨rfl, hx⟩
  go_wp2_with (go_at_call 50; refine Hid.out ?_)
  refine Lib.hid ?_
  refine (great18_any A1 n1 c1 d 300 _ N1.out R1.out (by omega) (fun z hz => by have := (Q1.out z hz).1; omega)).mono ?_
  rintro e wn ⟨g, rfl, hgr, dr, hd⟩
  have y := drew_ext hd
  clear hd
  have R0 := Lib.hid (R0.out.ext y)
  have HT := Lib.hid (Utf8Tabs_below HT.out y)
  have R1 := Lib.hid (R1.out.ext y)
  replace hx := ext_trans hx y
  clear y
  cases g
  case true =>
    clear hgr
    go_wp2_with (go_at_call 73; refine Hid.out ?_)
    refine Lib.hid ?_
    refine (known24_any _ HT.out).mono ?_
    rintro e w2 ⟨rfl, y⟩
    replace hx := ext_trans hx y
    go_wp2_with (fail)
    go_ret
    exact ⟨rfl, hx⟩
  have G1 : Hid (n1 ≤ 300 ∧ ∀ z ∈ d, z.c.s.length ≤ 64) := Lib.hid ⟨by have := (hgr rfl).1; omega, (hgr rfl).2⟩
  clear hgr
  by_cases gd0 : i < 0
  · skip
    go_wp2_with (go_at_call 73; refine Hid.out ?_)
    refine Lib.hid ?_
    refine (known24_any _ HT.out).mono ?_
    rintro e w2 ⟨rfl, y⟩
    replace hx := ext_trans hx y
    go_wp2_with (fail)
    go_ret
    exact ⟨rfl, hx⟩
  by_cases gd1 : m < i
  · skip
    go_wp2_with (go_at_call 73; refine Hid.out ?_)
    refine Lib.hid ?_
    refine (known24_any _ HT.out).mono ?_
    rintro e w2 ⟨rfl, y⟩
    replace hx := ext_trans hx y
    go_wp2_with (fail)
    go_ret
    exact ⟨rfl, hx⟩
  by_cases gd2 : j < m
  · skip
    go_wp2_with (go_at_call 73; refine Hid.out ?_)
    refine Lib.hid ?_
    refine (known24_any _ HT.out).mono ?_
    rintro e w2 ⟨rfl, y⟩
    replace hx := ext_trans hx y
    go_wp2_with (fail)
    go_ret
    exact ⟨rfl, hx⟩
  by_cases gd3 : (n1 : Int) ≤ j
  · skip
    go_wp2_with (go_at_call 73; refine Hid.out ?_)
    refine Lib.hid ?_
    refine (known24_any _ HT.out).mono ?_
    rintro e w2 ⟨rfl, y⟩
    replace hx := ext_trans hx y
    go_wp2_with (fail)
    go_ret
    exact ⟨rfl, hx⟩
  go_wp2_with (go_at_call 24; refine Hid.out ?_)
  refine Lib.hid ?_
  refine (new_any A0 n0 c0 l0 _ N0.out R0.out (by omega)).mono ?_
  rintro e wn ⟨y, ⟨hm, s, rfl, hS⟩ | ⟨hm, rfl⟩⟩
  all_goals
    have R0 := Lib.hid (R0.out.ext y)
    have HT := Lib.hid (Utf8Tabs_below HT.out y)
    have R1 := Lib.hid (R1.out.ext y)
    replace hx := ext_trans hx y
    clear y hm
  rotate_left
  · skip
    go_wp2_with (go_at_call 73; refine Hid.out ?_)
    refine Lib.hid ?_
    refine (known24_any _ HT.out).mono ?_
    rintro e w2 ⟨rfl, y⟩
    replace hx := ext_trans hx y
    go_wp2_with (fail)
    go_ret
    exact ⟨rfl, hx⟩
  have HS := Lib.hid hS
  clear hS
  have D1 : Hid (DocAt _ A1 n1 c1 d) := Lib.hid ⟨R1.out, N1.out, k1, C1.out, fun z hz => ⟨by have := G1.out.2 z hz; omega, (Q1.out z hz).2⟩, by have := G1.out.1; omega⟩
  have S1 : Hid (∀ z ∈ clsOf d, z.s.length ≤ 64) := Lib.hid (fun c hc => by
    obtain ⟨z, hz, rfl⟩ := cls_mem hc
    exact G1.out.2 z hz)
  have H64 : Hid (l0.length ≤ 64) := Lib.hid (by have := N0.out; omega)
  obtain ⟨md, hmd⟩ : ∃ X, mayD l0 (clsOf d) = X := ⟨_, rfl⟩
  have MD := Lib.hid hmd
  clear hmd
  go_wp2_with (go_at_call 68; refine Hid.out ?_)
  refine Lib.hid ?_
  refine (mayDoc D1.out HS.out HT.out MD.out).mono ?_
  rintro e wn ⟨rfl, y⟩
  have HT := Lib.hid (Utf8Tabs_below HT.out y)
  have HS := Lib.hid (HS.out.ext y)
  have D1 := Lib.hid (D1.out.ext y)
  replace hx := ext_trans hx y
  clear y
  by_cases h0 : md = 0
  rotate_left
  · have h0' : (md == 0) = false := beq_eq_false_iff_ne.2 h0
    go_wp2_with (go_at_call 73; refine Hid.out ?_)
    refine Lib.hid ?_
    refine (known24_any _ HT.out).mono ?_
    rintro e w2 ⟨rfl, y⟩
    replace hx := ext_trans hx y
    go_wp2_with (fail)
    go_ret
    exact ⟨rfl, hx⟩
  subst h0
  have LD : Hid ((clsOf d).length = n1) := Lib.hid D1.out.clen
  have B1 : Hid (n1 ≤ 300 ∧ 1 ≤ n1) := Lib.hid ⟨G1.out.1, by obtain ⟨_, _, t, c, h, _⟩ := mayD_iff.1 MD.out; have := LD.out; rw [h] at this; simp at this; omega⟩
  obtain ⟨a, rfl⟩ : ∃ k : Nat, i = k := ⟨i.toNat, by omega⟩
  obtain ⟨b, rfl⟩ : ∃ k : Nat, m = k := ⟨m.toNat, by omega⟩
  obtain ⟨e, rfl⟩ : ∃ k : Nat, j = k := ⟨j.toNat, by omega⟩
  have ORD : Hid (a ≤ b ∧ b ≤ e ∧ e < n1) := Lib.hid ⟨by omega, by omega, by omega⟩
  clear gd0 gd1 gd2 gd3
  go_wp2_with (go_at_call 74; refine Hid.out ?_)
  refine Lib.hid ?_
  refine (remove_any a (e - a) (a : Int) (e : Int) rfl (by have := ORD.out; omega) (by have := ORD.out; have := B1.out; omega) _).mono ?_
  rintro e wn ⟨A3, c3, x1, rfl, h_x1, o_x1, y⟩
  have HT := Lib.hid (Utf8Tabs_below HT.out y)
  have HS := Lib.hid (HS.out.ext y)
  have D1 := Lib.hid (D1.out.ext y)
  replace hx := ext_trans hx y
  have O_x1 := Lib.hid o_x1
  have E_x1 := Lib.hid h_x1
  clear o_x1 h_x1
  clear y
  have Z_M1 := Lib.hid (made_in (l := l0) (N := n1) (most := (n1 : Int)) E_x1.out (by have := O_x1.out.at_.b; have := O_x1.out.at_.len; omega) MD.out (gone_any (by rw [LD.out]; have := ORD.out; omega) (by rw [LD.out]; exact Nat.le_refl _) (by have := B1.out; omega)) (by have := B1.out; omega) (Int.le_refl _))
  go_wp2_with (go_at_call 38; refine Hid.out ?_)
  refine Lib.hid ?_
  refine (applyDoc (most := n1) D1.out O_x1.out.at_ HS.out HT.out H64.out (by have := B1.out; omega) Z_M1.out.1 Z_M1.out.2.2).mono ?_
  rintro e wn ⟨A4, c4, M1, rfl, h_M1, m_M1, b_M1, d_M1, y⟩
  have HT := Lib.hid (Utf8Tabs_below HT.out y)
  have HS := Lib.hid (HS.out.ext y)
  have D1 := Lib.hid (D1.out.ext y)
  have O_x1 := Lib.hid (O_x1.out.ext y)
  replace hx := ext_trans hx y
  have D_M1 := Lib.hid d_M1
  have E_M1 := Lib.hid h_M1
  have M_M1 := Lib.hid m_M1
  have B_M1 := Lib.hid b_M1
  clear d_M1 h_M1 m_M1 b_M1
  clear y
  go_wp2_with (go_at_call 74; refine Hid.out ?_)
  refine Lib.hid ?_
  refine (remove_any b (e - b) (b : Int) (e : Int) rfl (by have := ORD.out; omega) (by have := ORD.out; have := B1.out; omega) _).mono ?_
  rintro e wn ⟨A5, c5, x2, rfl, h_x2, o_x2, y⟩
  have HT := Lib.hid (Utf8Tabs_below HT.out y)
  have HS := Lib.hid (HS.out.ext y)
  have D1 := Lib.hid (D1.out.ext y)
  have O_x1 := Lib.hid (O_x1.out.ext y)
  have D_M1 := Lib.hid (D_M1.out.ext y)
  replace hx := ext_trans hx y
  have O_x2 := Lib.hid o_x2
  have E_x2 := Lib.hid h_x2
  clear o_x2 h_x2
  clear y
  have Z_M2 := Lib.hid (made_in (l := l0) (N := n1) (most := (n1 : Int)) E_x2.out (by have := O_x2.out.at_.b; have := O_x2.out.at_.len; omega) MD.out (gone_any (by rw [LD.out]; have := ORD.out; omega) (by rw [LD.out]; exact Nat.le_refl _) (by have := B1.out; omega)) (by have := B1.out; omega) (Int.le_refl _))
  go_wp2_with (go_at_call 38; refine Hid.out ?_)
  refine Lib.hid ?_
  refine (applyDoc (most := n1) D1.out O_x2.out.at_ HS.out HT.out H64.out (by have := B1.out; omega) Z_M2.out.1 Z_M2.out.2.2).mono ?_
  rintro e wn ⟨A6, c6, M2, rfl, h_M2, m_M2, b_M2, d_M2, y⟩
  have HT := Lib.hid (Utf8Tabs_below HT.out y)
  have HS := Lib.hid (HS.out.ext y)
  have D1 := Lib.hid (D1.out.ext y)
  have O_x1 := Lib.hid (O_x1.out.ext y)
  have D_M1 := Lib.hid (D_M1.out.ext y)
  have O_x2 := Lib.hid (O_x2.out.ext y)
  replace hx := ext_trans hx y
  have D_M2 := Lib.hid d_M2
  have E_M2 := Lib.hid h_M2
  have M_M2 := Lib.hid m_M2
  have B_M2 := Lib.hid b_M2
  clear d_M2 h_M2 m_M2 b_M2
  clear y
  go_wp2_with (go_at_call 74; refine Hid.out ?_)
  refine Lib.hid ?_
  refine (remove_any a (b - a) (a : Int) (b : Int) rfl (by have := ORD.out; omega) (by have := ORD.out; have := B1.out; omega) _).mono ?_
  rintro e wn ⟨A7, c7, x3, rfl, h_x3, o_x3, y⟩
  have HT := Lib.hid (Utf8Tabs_below HT.out y)
  have HS := Lib.hid (HS.out.ext y)
  have D1 := Lib.hid (D1.out.ext y)
  have O_x1 := Lib.hid (O_x1.out.ext y)
  have D_M1 := Lib.hid (D_M1.out.ext y)
  have O_x2 := Lib.hid (O_x2.out.ext y)
  have D_M2 := Lib.hid (D_M2.out.ext y)
  replace hx := ext_trans hx y
  have O_x3 := Lib.hid o_x3
  have E_x3 := Lib.hid h_x3
  clear o_x3 h_x3
  clear y
  have LM2 : Hid ((clsOf M2).length = n1 - (e - b)) := Lib.hid (by rw [E_M2.out, gone_one l0 ORD.out.2.1 (by rw [LD.out]; have := ORD.out; omega), List.length_append, List.length_take, List.length_drop, LD.out]; have := ORD.out; omega)
  have Z_M3 := Lib.hid (made_in (l := l0) (N := n1) (most := (n1 : Int)) E_x3.out (by have := O_x3.out.at_.b; have := O_x3.out.at_.len; omega) M_M2.out (gone_any (by rw [LM2.out]; have := ORD.out; omega) (by rw [LM2.out]; have := ORD.out; omega) (by have := B1.out; omega)) (by have := B1.out; omega) (Int.le_refl _))
  go_wp2_with (go_at_call 38; refine Hid.out ?_)
  refine Lib.hid ?_
  refine (applyDoc (most := n1) D_M2.out O_x3.out.at_ HS.out HT.out H64.out (by have := B1.out; omega) Z_M3.out.1 Z_M3.out.2.2).mono ?_
  rintro e wn ⟨A8, c8, M3, rfl, h_M3, m_M3, b_M3, d_M3, y⟩
  have HT := Lib.hid (Utf8Tabs_below HT.out y)
  have HS := Lib.hid (HS.out.ext y)
  have D1 := Lib.hid (D1.out.ext y)
  have O_x1 := Lib.hid (O_x1.out.ext y)
  have D_M1 := Lib.hid (D_M1.out.ext y)
  have O_x2 := Lib.hid (O_x2.out.ext y)
  have D_M2 := Lib.hid (D_M2.out.ext y)
  have O_x3 := Lib.hid (O_x3.out.ext y)
  replace hx := ext_trans hx y
  have D_M3 := Lib.hid d_M3
  have E_M3 := Lib.hid h_M3
  have M_M3 := Lib.hid m_M3
  have B_M3 := Lib.hid b_M3
  clear d_M3 h_M3 m_M3 b_M3
  clear y
  have EC : Hid (clsOf M3 = clsOf M1) := Lib.hid (by rw [E_M3.out, E_M2.out, E_M1.out, gone_two l0 ORD.out.1 ORD.out.2.1 (by rw [LD.out]; have := ORD.out; omega), gone_one l0 (by have := ORD.out; omega) (by rw [LD.out]; have := ORD.out; omega)])
  have LM1 : Hid (M1.length = n1 - (e - a)) := Lib.hid (by rw [← clsOf_len, E_M1.out, gone_one l0 (by have := ORD.out; omega) (by rw [LD.out]; have := ORD.out; omega), List.length_append, List.length_take, List.length_drop, LD.out]; have := ORD.out; omega)
  obtain ⟨A9, hA9⟩ : ∃ X, advS A1 c1 e 2 = X := ⟨_, rfl⟩
  obtain ⟨n9, hn9⟩ : ∃ X, n1 - e = X := ⟨_, rfl⟩
  obtain ⟨c9, hc9⟩ : ∃ X, c1 - e = X := ⟨_, rfl⟩
  have sl1 : ∀ W, (Instr.slice 55 (.slice A1 n1 c1) none (some (.int .i64 (a : Int))) none).run Tryz.prog W = .ok (.slice A1 a c1) W := sl_to (l := a) Tryz.slCl Tryz.elCl size_cl rfl (by have := ORD.out; omega)
  have sl2 : ∀ W, (Instr.slice 55 (.slice A1 n1 c1) (some (.int .i64 (e : Int))) none none).run Tryz.prog W = .ok (.slice A9 n9 c9) W := sl_from Tryz.slCl Tryz.elCl size_cl rfl hA9 hn9 hc9 (by have := ORD.out; omega) k1
  have DF : Hid (DocAt _ A1 a c1 (d.take a)) := Lib.hid (D1.out.take (by have := ORD.out; omega))
  have DG : Hid (DocAt _ A9 n9 c9 (d.drop e)) := Lib.hid (D1.out.drop hA9 (by have := ORD.out; omega) hn9 hc9)
  have N9 : Hid (n9 = n1 - e ∧ n9 = (d.drop e).length) := Lib.hid ⟨hn9.symm, DG.out.len⟩
  clear hA9 hn9 hc9
  have EAC : ∀ P : List ClS, clsOf P = clsOf (d.take a) → clsOf M1 = clsOf (P ++ d.drop e) := fun P hP => by
    rw [E_M1.out, gone_one l0 (by have := ORD.out; omega) (by rw [LD.out]; have := ORD.out; omega)]
    unfold clsOf at hP ⊢
    rw [List.map_append, hP, List.map_take, List.map_drop]
  have VDF : Hid (∀ x ∈ clsOf (d.take a), x.s.length ≤ 1000000 ∧ okVr x.s) := Lib.hid (by
    intro x hm
    obtain ⟨z, hz, rfl⟩ := cls_mem hm
    exact DF.out.vr z hz)
  have LDF : Hid ((clsOf (d.take a)).length = a) := Lib.hid (by rw [clsOf_len, List.length_take, ← N1.out]; have := ORD.out; omega)
  go_wp2_with (fail)
  go_region_held_law (fun w' => True) (trivial) (first
    | (go_at_call 75
       with_reducible refine (copyDoc (DF.out.ext (up_drew (Below.refl _ _)))).mono ?_
       rintro e2 wc ⟨A10, c10, P, rfl, hP, oP, pP, yc⟩
       have OP := Lib.hid oP
       have PP := Lib.hid pP
       have EP := Lib.hid hP
       have LP : Hid (P.length = a) := Lib.hid (by rw [← clsOf_len, hP]; exact LDF.out)
       have YCS := Lib.hid yc.size
       have YC : Hid (Below wn.heap.size wn wc) := Lib.hid (ext_trans (up_drew (Below.refl _ _)) yc)
       clear oP pP hP yc)
    | (refine step_cs (m := d.drop e) rfl (.tmp 109) (.tmp 112) (by rfl) (by rfl) OP.out _ A9 c9 n9 (by rfl) N9.out.2 (DG.out.ext YC.out).rd.1 (by have := LP.out; have := N9.out; have := ORD.out; have := B1.out; omega) YCS.out ?_
       intro v' wa hown' hgr hv'
       obtain ⟨A11, c11, hv11, _, _⟩ := hown'.form
       subst hv11
       obtain ⟨nl, hnl⟩ : ∃ X, (P ++ d.drop e).length = X := ⟨_, rfl⟩
       rw [hnl]
       have YP : Hid (Below wn.heap.size wn wa) := Lib.hid (below_app YC.out YC.out.size OP.out (Nat.le_refl _) hgr)
       have DA : Hid (DocAt wa A11 nl c11 (P ++ d.drop e)) := Lib.hid (by
         have h := DocAt.append hown' PP.out (DG.out.ext YP.out) (by rw [EP.out]; exact VDF.out) hgr hv' (by rw [List.length_append]; have := LP.out; have := N9.out; have := ORD.out; have := B1.out; omega)
         rw [hnl] at h
         exact h)
       clear hown' hgr hv' hnl)
    | (go_at_call 69
       with_reducible refine (sameD (D_M1.out.ext YP.out) DA.out (decide_eq_true (EAC P EP.out))).mono ?_
       rintro e2 wd ⟨rfl, yd⟩
       have YD : Hid (Below wn.heap.size wn wd) := Lib.hid (ext_trans YP.out yd)
       clear yd)
    | (go_at_call 69
       with_reducible refine (sameD (D_M3.out.ext YD.out) (D_M1.out.ext YD.out) (decide_eq_true EC.out)).mono ?_
       rintro e2 wf ⟨rfl, yf⟩
       have YF : Hid (Below wn.heap.size wn wf) := Lib.hid (ext_trans YD.out yf)
       clear yf)
    | (go_at_call 73
       with_reducible refine (known24_any _ (Utf8Tabs_below HT.out YF.out)).mono ?_
       rintro e2 wg ⟨rfl, yg⟩
       have YG : Hid (Below wn.heap.size wn wg) := Lib.hid (ext_trans YF.out yg)
       clear yg))
  have y := ext_trans hx YG.out
  clear YC YP YD YF YG
  go_wp2_with (fail)
  go_ret
  exact ⟨rfl, y⟩
end Go.Proofs.YtbdkbfoplpociaaGreatDoor
