/- The walk of rubriclaw19.ApplyLoads. Printed by wip/gen_r4z.py. -/
import Derived.Test.YtipoeidmblnbbaaGreatDoorPk30
import Derived.Test.YtipoeidmblnbbaaGreatDoorPk25
import Derived.Test.YtipoeidmblnbbaaGreatDoorPk15
import Derived.Test.YtipoeidmblnbbaaGreatDoorPk24
namespace Go.Proofs.YtipoeidmblnbbaaGreatDoor
open Go.RowKit
set_option linter.unusedVariables false
set_option linter.unusedSimpArgs false

set_option maxRecDepth 100000 in
set_option maxHeartbeats 6400000 in
theorem applyLoads_any (A0 A1 : Option Addr) (n0 n1 c0 c1 : Nat) (l0 : List Ky) (d : List ClS) (w : World)
    (e0 : n0 = l0.length) (e1 : n1 = d.length) (r0 : RdKy w w.heap.size A0 l0) (r1 : RdCl w w.heap.size A1 d) (b0 : n0 ≤ 1048576) (b1 : n1 ≤ 1048576) (k1 : n1 ≤ c1)
    (q1 : ∀ x ∈ d, x.c.s.length ≤ 100000000 ∧ okVr x.c.s) (g1 : ∀ x ∈ d, x.c.s.length ≤ x.cs ∧ x.cs ≤ maxLen) (hT : Lib.Utf8Tabs 1 2 w) :
    Calls Tryz.prog 10 #[.slice A0 n0 c0, .slice A1 n1 c1] w fun e w' => e = .returned (.bool true) ∧ Below w.heap.size w w' := by
  have N0 := Lib.hid e0
  have N1 := Lib.hid e1
  have R0 := Lib.hid r0
  have R1 := Lib.hid r1
  have Q1 := Lib.hid q1
  have C1 := Lib.hid g1
  clear e0 e1 r0 r1 q1 g1
  go_enter Tryz.func10, Tryz.ntmps10
  go_wp2_with (go_at_call 28; refine Hid.out ?_)
  refine Lib.hid ?_
  refine (great19_any A0 A1 none n0 c0 n1 c1 0 0 d [] w rfl Rd.nil (by omega) (by omega) (fun x hx => by cases hx) (by simp [sumX]) N1.out R1.out (by omega) (fun z hz => by have := (Q1.out z hz).1; omega)).mono ?_
  rintro e w1 ⟨gb, rfl, h1, x1, rfl⟩
  have Y1 := Lib.hid (ext_drew w x1)
  generalize World.drewN w x1 = w1 at *
  cases gb with
  | true =>
    clear h1
    go_wp2_with (go_at_call 29; refine Hid.out ?_)
    refine Lib.hid ?_
    refine (known19_any _ (Utf8Tabs_below hT Y1.out)).mono ?_
    rintro e wk ⟨rfl, yk⟩
    have yy := ext_trans Y1.out yk
    go_wp2_with (fail)
    go_ret
    exact ⟨rfl, yy⟩
  | false =>
  have h2 := h1 rfl
  have G0 := Lib.hid h2.1
  have G1 : Hid (n1 ≤ 400 ∧ ∀ c ∈ d, c.c.s.length ≤ 64) := Lib.hid ⟨h2.2.1, h2.2.2.1⟩
  clear h1 h2
  go_wp2_with (go_at_call 13; refine Hid.out ?_)
  refine Lib.hid ?_
  refine (new_any A0 n0 c0 l0 w1 N0.out (R0.out.ext Y1.out) (by omega)).mono ?_
  rintro e w3 ⟨y3, ⟨hm, s, rfl, hS⟩ | ⟨hm, rfl⟩⟩
  all_goals
    have Y3 := Lib.hid (ext_trans Y1.out y3)
    clear y3 hm
  rotate_left
  · skip
    go_wp2_with (go_at_call 29; refine Hid.out ?_)
    refine Lib.hid ?_
    refine (known19_any _ (Utf8Tabs_below hT Y3.out)).mono ?_
    rintro e wk ⟨rfl, yk⟩
    have yy := ext_trans Y3.out yk
    go_wp2_with (fail)
    go_ret
    exact ⟨rfl, yy⟩
  have HS := Lib.hid hS
  clear hS
  go_wp2_with (go_at_call 14; refine Hid.out ?_)
  refine Lib.hid ?_
  refine (mayCells_any s l0 A1 n1 c1 d w3 N1.out (R1.out.ext Y3.out) (by have := G1.out.1; omega) HS.out Q1.out (Utf8Tabs_below hT Y3.out)).mono ?_
  generalize hmd : mayD l0 (clsOf d) = md
  rintro e w4 ⟨rfl, y4⟩
  have Y4 := Lib.hid (ext_trans Y3.out y4)
  have HS4 := Lib.hid (HS.out.ext y4)
  clear y4 HS
  by_cases hd : md = 0
  rotate_left
  · have hd' : (md == 0) = false := beq_eq_false_iff_ne.2 hd
    clear hmd
    go_wp2_with (go_at_call 29; refine Hid.out ?_)
    refine Lib.hid ?_
    refine (known19_any _ (Utf8Tabs_below hT Y4.out)).mono ?_
    rintro e wk ⟨rfl, yk⟩
    have yy := ext_trans Y4.out yk
    go_wp2_with (fail)
    go_ret
    exact ⟨rfl, yy⟩
  subst hd
  have MD := Lib.hid hmd
  clear hmd
  have H64 : Hid (l0.length ≤ 64) := Lib.hid (by rw [← N0.out]; exact G0.out)
  have VR : Hid (∀ c ∈ clsOf d, okVr c.s) := Lib.hid (fun c hc => by
    obtain ⟨z, hz, rfl⟩ := List.mem_map.1 hc
    exact (Q1.out z hz).2)
  have S64 : Hid (∀ c ∈ clsOf d, c.s.length ≤ 64) := Lib.hid (fun c hc => by
    obtain ⟨z, hz, rfl⟩ := List.mem_map.1 hc
    exact G1.out.2 z hz)
  have LD : Hid ((clsOf d).length = n1) := Lib.hid (by rw [clsOf_len, ← N1.out])
  have LL : Hid (Told (deltaM (clsOf d)) (loadU (clsOf d)) ∧ FitU l0 (loadU (clsOf d)) blankC'.length n1 ∧ app l0 (loadU (clsOf d)) blankC' = clsOf d) := Lib.hid (load_law H64.out MD.out (by rw [LD.out]; have := G1.out.1; omega) (by rw [LD.out]; exact Nat.le_refl _))
  have BD := Lib.hid (delta_bounds (clsOf d) (by rw [LD.out]; have := G1.out.1; omega) S64.out)
  go_wp2_with (go_at_call 32; refine Hid.out ?_)
  refine Lib.hid ?_
  refine (blank_any w4).mono ?_
  rintro e w5 ⟨A5, k5, B, rfl, hB, oB, pB, y5⟩
  have Y5 := Lib.hid (ext_trans Y4.out y5)
  obtain ⟨rb1, rb2, rb3⟩ := rd_cells oB pB
  have RB := Lib.hid rb1
  have CB := Lib.hid rb2
  have KB := Lib.hid rb3
  have HB := Lib.hid hB
  have HB1 : Hid (B.length = 1) := Lib.hid (by rw [← clsOf_len, hB]; rfl)
  have VB : Hid (∀ z ∈ B, z.c.s.length ≤ 100000000 ∧ okVr z.c.s) := Lib.hid (fun z hz => by
    have hm : z.c ∈ clsOf B := by unfold clsOf; exact List.mem_map_of_mem hz
    rw [hB] at hm
    have e : z.c = ⟨10, []⟩ := by simpa [blankC] using hm
    rw [e]; exact ⟨by simp, fun c hc => by cases hc⟩)
  have HS5 := Lib.hid (HS4.out.ext y5)
  clear oB pB hB rb1 rb2 rb3 y5
  go_wp2_with (go_at_call 33; refine Hid.out ?_)
  refine Lib.hid ?_
  refine (delta_any A1 n1 c1 d w5 N1.out k1 (R1.out.ext Y5.out) (by have := G1.out.1; omega) G1.out.2 (fun x hx => by rw [diff_new, List.length_map]; have := G1.out.2 x hx; omega) BD.out.1 BD.out.2).mono ?_
  rintro e w6 ⟨A6, k6, x6, rfl, o6, p6, s6, y6⟩
  have Y6 := Lib.hid (ext_trans Y5.out y6)
  have RX := Lib.hid (rd_made p6 s6)
  obtain ⟨okx, blx⟩ := ok_made o6 LL.out.1 (load_un MD.out VR.out) (load_B (clsOf d) S64.out) (by rw [LD.out]; have := G1.out.1; omega) (by omega)
  have OKX := Lib.hid okx
  have BX : Hid (x6.length ≤ 1000) := Lib.hid (by rw [LD.out] at blx; have := G1.out.1; omega)
  have Z := Lib.hid (made_apply (l := l0) (d := blankC') (most := n1) o6 LL.out.1 (by have := BX.out; omega) (by omega) (blank_may l0) LL.out.2.1)
  have HS6 := Lib.hid (HS5.out.ext y6)
  have RB6 := Lib.hid (RB.out.ext y6)
  clear o6 p6 s6 y6 okx blx HS5 RB
  go_wp2_with (go_at_call 17; refine Hid.out ?_)
  refine Lib.hid ?_
  refine (applyD_any s l0 A5 A6 B.length k5 x6.length k6 B x6 (n1 : Int) w6 rfl rfl KB.out (by have := HB1.out; omega) (by have := BX.out; omega) RB6.out RX.out HS6.out VB.out CB.out OKX.out (Utf8Tabs_below hT Y6.out)).mono ?_
  unfold ApplyOut
  rw [HB.out]
  rintro e w7 ⟨y7, ⟨hne, _⟩ | ⟨_, A7, k7, L, rfl, hL, oL, pL⟩⟩
  · exact absurd Z.out.1 hne
  have Y7 := Lib.hid (ext_trans Y6.out y7)
  have EL : Hid (clsOf L = clsOf d) := Lib.hid (hL.trans (Z.out.2.trans LL.out.2.2))
  have SM : Hid (decide (clsOf L = clsOf d) = true) := Lib.hid (decide_eq_true EL.out)
  have RL := Lib.hid (rd_cells oL pL).1
  have LN : Hid (L.length = n1) := Lib.hid (by rw [← clsOf_len, EL.out, LD.out])
  have SL : Hid (∀ z ∈ L, z.c.s.length ≤ 140737488355328) := Lib.hid (fun z hz => by
    have hm : z.c ∈ clsOf L := by unfold clsOf; exact List.mem_map_of_mem hz
    rw [EL.out] at hm
    have := S64.out _ hm; omega)
  clear hL oL pL y7
  go_wp2_with (go_at_call 19; refine Hid.out ?_)
  refine Lib.hid ?_
  refine (cellsSame_any A7 A1 L.length n1 k7 c1 L d w7 rfl N1.out RL.out (R1.out.ext Y7.out) (by have := LN.out; have := G1.out.1; omega) (by have := G1.out.1; omega) SL.out (fun z hz => by have := G1.out.2 z hz; omega)).mono ?_
  rw [SM.out]
  rintro e w8 ⟨rfl, y8⟩
  have Y8 := Lib.hid (ext_trans Y7.out y8)
  clear y8
  go_wp2_with (go_at_call 29; refine Hid.out ?_)
  refine Lib.hid ?_
  refine (known19_any _ (Utf8Tabs_below hT Y8.out)).mono ?_
  rintro e wk ⟨rfl, yk⟩
  have yy := ext_trans Y8.out yk
  go_wp2_with (fail)
  go_ret
  exact ⟨rfl, yy⟩
end Go.Proofs.YtipoeidmblnbbaaGreatDoor
