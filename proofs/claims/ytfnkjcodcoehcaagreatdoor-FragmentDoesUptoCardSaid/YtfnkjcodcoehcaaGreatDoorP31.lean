/- Merged texts: FragmentDoes. -/
import Derived.Test.YtfnkjcodcoehcaaGreatDoorP24
import Derived.Test.YtfnkjcodcoehcaaGreatDoorP25
import Derived.Test.YtfnkjcodcoehcaaGreatDoorP30
import Derived.Test.YtfnkjcodcoehcaaGreatDoorP11
import Derived.Test.YtfnkjcodcoehcaaGreatDoorP23
namespace Go.Proofs.YtfnkjcodcoehcaaGreatDoor
open Go.RowKit
set_option linter.unusedVariables false
set_option linter.unusedSimpArgs false

set_option maxRecDepth 100000 in
set_option maxHeartbeats 12800000 in
theorem fragmentDoes_any (A0 A1 : Option Addr) (n0 n1 c0 c1 : Nat) (l0 : List Ky) (d : List ClS) (i j p : Int) (w : World)
    (e0 : n0 = l0.length) (r0 : RdKy w w.heap.size A0 l0) (b0 : n0 ≤ 1048576) (e1 : n1 = d.length) (r1 : RdCl w w.heap.size A1 d) (b1 : n1 ≤ 1048576) (k1 : n1 ≤ c1)
    (q1 : ∀ x ∈ d, x.c.s.length ≤ 100000000 ∧ okVr x.c.s) (g1 : ∀ x ∈ d, x.c.s.length ≤ x.cs ∧ x.cs ≤ maxLen) (t1 : ∀ x ∈ d, okVa x.c.s) (hT : Lib.Utf8Tabs 1 2 w) :
    Calls Tryz.prog 3 #[.slice A0 n0 c0, .slice A1 n1 c1, .int .i64 i, .int .i64 j, .int .i64 p] w fun e w' => e = .returned (.bool true) ∧ Below w.heap.size w w' := by
  have N0 := Lib.hid e0
  have R0 := Lib.hid r0
  have HT := Lib.hid hT
  have hx := Below.refl w.heap.size w
  have N1 := Lib.hid e1
  have R1 := Lib.hid r1
  have Q1 := Lib.hid q1
  have C1 := Lib.hid g1
  have T1 := Lib.hid t1
  clear e0 r0 hT e1 r1 q1 g1 t1
  go_enter Tryz.func3, Tryz.ntmps3
  by_cases h64 : (64 : Int) < (n0 : Int)
  · skip
    go_wp2_with (go_at_call 12; refine Hid.out ?_)
    refine Lib.hid ?_
    refine (known26_any _ HT.out).mono ?_
    rintro e w2 ⟨rfl, y⟩
    replace hx := ext_trans hx y
    go_wp2_with (fail)
    go_ret
    exact ⟨rfl, hx⟩
  go_wp2_with (go_at_call 11; refine Hid.out ?_)
  refine Lib.hid ?_
  refine (great18_any A1 n1 c1 d 400 _ N1.out R1.out (by omega) (fun z hz => by have := (Q1.out z hz).1; omega)).mono ?_
  rintro e wn ⟨g, rfl, hgr, dr, hd⟩
  have y := drew_ext hd
  clear hd
  have R0 := Lib.hid (R0.out.ext y)
  have HT := Lib.hid (Utf8Tabs_below HT.out y)
  have R1 := Lib.hid (R1.out.ext y)
  replace hx := ext_trans hx y
  clear y
  cases g
  case true =>
    clear hgr
    go_wp2_with (go_at_call 12; refine Hid.out ?_)
    refine Lib.hid ?_
    refine (known26_any _ HT.out).mono ?_
    rintro e w2 ⟨rfl, y⟩
    replace hx := ext_trans hx y
    go_wp2_with (fail)
    go_ret
    exact ⟨rfl, hx⟩
  have G1 : Hid (n1 ≤ 400 ∧ ∀ z ∈ d, z.c.s.length ≤ 64) := Lib.hid ⟨by have := (hgr rfl).1; omega, (hgr rfl).2⟩
  clear hgr
  go_wp2_with (go_at_call 13; refine Hid.out ?_)
  refine Lib.hid ?_
  refine (new_any A0 n0 c0 l0 _ N0.out R0.out (by omega)).mono ?_
  rintro e wn ⟨y, ⟨hm, s, rfl, hS⟩ | ⟨hm, rfl⟩⟩
  all_goals
    have R0 := Lib.hid (R0.out.ext y)
    have HT := Lib.hid (Utf8Tabs_below HT.out y)
    have R1 := Lib.hid (R1.out.ext y)
    replace hx := ext_trans hx y
    have HM := Lib.hid hm
    clear y hm
  rotate_left
  · skip
    go_wp2_with (go_at_call 14; refine Hid.out ?_)
    refine Lib.hid ?_
    refine (mayR4_any A0 n0 c0 l0 _ N0.out R0.out (by omega)).mono ?_
    rw [HM.out]
    rintro e wn ⟨rfl, y⟩
    have R0 := Lib.hid (R0.out.ext y)
    have HT := Lib.hid (Utf8Tabs_below HT.out y)
    have R1 := Lib.hid (R1.out.ext y)
    replace hx := ext_trans hx y
    clear y
    go_wp2_with (go_at_call 12; refine Hid.out ?_)
    refine Lib.hid ?_
    refine (known26_any _ HT.out).mono ?_
    rintro e w2 ⟨rfl, y⟩
    replace hx := ext_trans hx y
    go_wp2_with (fail)
    go_ret
    exact ⟨rfl, hx⟩
  have HS := Lib.hid hS
  clear hS
  have D1 : Hid (DocAt _ A1 n1 c1 d) := Lib.hid ⟨R1.out, N1.out, k1, C1.out, fun z hz => ⟨by have := G1.out.2 z hz; omega, (Q1.out z hz).2⟩, by have := G1.out.1; omega⟩
  have LD : Hid ((clsOf d).length = n1) := Lib.hid D1.out.clen
  have B1 := Lib.hid G1.out.1
  have CW : Hid (∀ x ∈ clsOf d, x.s.length ≤ 64 ∧ okVr x.s) := Lib.hid (fun x hx => by
    obtain ⟨z, hz, rfl⟩ := cls_mem hx
    exact ⟨G1.out.2 z hz, (Q1.out z hz).2⟩)
  go_wp2_with (go_at_call 15; refine Hid.out ?_)
  refine Lib.hid ?_
  refine (copy18D D1.out).mono ?_
  rintro e wn ⟨A3, c3, P, rfl, h_1, d_1, y⟩
  have R0 := Lib.hid (R0.out.ext y)
  have HT := Lib.hid (Utf8Tabs_below HT.out y)
  have HS := Lib.hid (HS.out.ext y)
  have D1 := Lib.hid (D1.out.ext y)
  replace hx := ext_trans hx y
  have D_P := Lib.hid d_1
  have E_P := Lib.hid h_1
  clear d_1 h_1
  clear y
  obtain ⟨n3, hn3⟩ : ∃ X, P.length = X := ⟨_, rfl⟩
  have N3 : Hid (n3 = n1) := Lib.hid (by rw [← hn3, ← clsOf_len, E_P.out, LD.out])
  rw [hn3] at D_P ⊢
  clear hn3
  have n3e := N3.out.symm
  subst n3e
  clear N3
  obtain ⟨wm1, hwm⟩ : ∃ X, X = wn := ⟨_, rfl⟩
  subst hwm
  have R0_1 := R0
  have HT_1 := HT
  have HS_1 := HS
  have D1_1 := D1
  have D_P_1 := D_P
  have hx_1 := hx
  go_wp2_with (go_at_call 16; refine Hid.out ?_)
  refine Lib.hid ?_
  refine (cutWr D_P.out i j).mono ?_
  rintro e wn ⟨A4, c4, K4, rfl, h_1, w_1, d_1, y⟩
  have R0 := Lib.hid (R0.out.ext y)
  have HT := Lib.hid (Utf8Tabs_below HT.out y)
  have HS := Lib.hid (HS.out.ext y)
  have D1 := Lib.hid (D1.out.ext y)
  have D_P := Lib.hid (D_P.out.ext y)
  replace hx := ext_trans hx y
  have D_K := Lib.hid d_1
  have W_K := Lib.hid w_1
  have E_K := Lib.hid h_1
  have YB := Lib.hid y
  clear d_1 w_1 h_1 y
  obtain ⟨n4, hn4⟩ : ∃ X, K4.length = X := ⟨_, rfl⟩
  have N4 : Hid (n4 ≤ 400) := Lib.hid (by rw [← hn4, ← clsOf_len, E_K.out]; have h := cutC_len (clsOf P) i j; rw [E_P.out] at h ⊢; have := LD.out; have := B1.out; omega)
  rw [hn4] at D_K W_K ⊢
  clear hn4
  have S_K : Hid (∀ x ∈ K4, x.c.s.length ≤ 1000000) := Lib.hid (fun x hx => (D_K.out.vr x hx).1)
  obtain ⟨md, hmd⟩ : ∃ X, mayD l0 (clsOf P ++ [⟨10, []⟩]) = X := ⟨_, rfl⟩
  have MP := Lib.hid hmd
  have M1 : Hid (mayD l0 (clsOf d ++ blankC) = md) := Lib.hid (by rw [← hmd, E_P.out]; rfl)
  clear hmd
  have hmm : (md != md) = false := by simp
  have hmm' : (md == md) = true := by simp
  go_wp2_with (go_at_call 17; refine Hid.out ?_)
  refine Lib.hid ?_
  refine (fragDoc D_P.out HS.out HT.out MP.out).mono ?_
  rintro e wn ⟨rfl, y⟩
  have W_K := Lib.hid (W_K.out.below y)
  have YB := Lib.hid (ext_trans YB.out y)
  have R0 := Lib.hid (R0.out.ext y)
  have HT := Lib.hid (Utf8Tabs_below HT.out y)
  have HS := Lib.hid (HS.out.ext y)
  have D1 := Lib.hid (D1.out.ext y)
  have D_P := Lib.hid (D_P.out.ext y)
  have D_K := Lib.hid (D_K.out.ext y)
  replace hx := ext_trans hx y
  clear y
  go_wp2_with (go_at_call 18; refine Hid.out ?_)
  refine Lib.hid ?_
  refine (may26_any A0 A1 n0 c0 n1 c1 l0 d _ N0.out R0.out (by omega) D1.out.len D1.out.rd (by have := B1.out; omega) (fun x hx => ⟨T1.out x hx, (D1.out.vr x hx).1⟩) HT.out).mono ?_
  rw [M1.out]
  rintro e wn ⟨rfl, y⟩
  have W_K := Lib.hid (W_K.out.below y)
  have YB := Lib.hid (ext_trans YB.out y)
  have R0 := Lib.hid (R0.out.ext y)
  have HT := Lib.hid (Utf8Tabs_below HT.out y)
  have HS := Lib.hid (HS.out.ext y)
  have D1 := Lib.hid (D1.out.ext y)
  have D_P := Lib.hid (D_P.out.ext y)
  have D_K := Lib.hid (D_K.out.ext y)
  replace hx := ext_trans hx y
  clear y
  go_wp2_with (go_at_call 20; refine Hid.out ?_)
  refine Lib.hid ?_
  refine (cut26D D1.out i j).mono ?_
  rintro e wn ⟨A5, c5, K5, rfl, h_1, d_1, y⟩
  have W_K := Lib.hid (W_K.out.below y)
  have YB := Lib.hid (ext_trans YB.out y)
  have R0 := Lib.hid (R0.out.ext y)
  have HT := Lib.hid (Utf8Tabs_below HT.out y)
  have HS := Lib.hid (HS.out.ext y)
  have D1 := Lib.hid (D1.out.ext y)
  have D_P := Lib.hid (D_P.out.ext y)
  have D_K := Lib.hid (D_K.out.ext y)
  replace hx := ext_trans hx y
  have D_5 := Lib.hid d_1
  have E_5 := Lib.hid h_1
  clear d_1 h_1
  clear y
  go_wp2_with (go_at_call 19; refine Hid.out ?_)
  refine Lib.hid ?_
  refine (same18D D_K.out D_5.out (decide_eq_true (by rw [E_K.out, E_5.out, E_P.out]))).mono ?_
  rintro e wn ⟨rfl, y⟩
  have W_K := Lib.hid (W_K.out.below y)
  have YB := Lib.hid (ext_trans YB.out y)
  have R0 := Lib.hid (R0.out.ext y)
  have HT := Lib.hid (Utf8Tabs_below HT.out y)
  have HS := Lib.hid (HS.out.ext y)
  have D1 := Lib.hid (D1.out.ext y)
  have D_P := Lib.hid (D_P.out.ext y)
  have D_K := Lib.hid (D_K.out.ext y)
  have D_5 := Lib.hid (D_5.out.ext y)
  replace hx := ext_trans hx y
  clear y
  clear D_5 E_5 D_K MP M1 hmm hmm'
  go_wp2_with (fail)
  go_loopg [67] n4 (fun g iv wr => ∃ m : Nat, m ≤ n4 ∧ g = n4 - m ∧ iv = .int .i64 (m : Int) ∧ Hid (WrC wr wm1.heap.size A4 n4 c4 K4) ∧ Below wm1.heap.size wm1 wr)
  case atStart => exact ⟨0, Nat.zero_le _, rfl, rfl, W_K, YB.out⟩
  case round =>
    obtain ⟨m, hm, hg, rfl, HW, y⟩ := hrel
    have HG := Lib.hid hg
    clear hg
    by_cases hlt : m < n4
    · have hlt' : (m : Int) < (n4 : Int) := by omega
      obtain ⟨ad, x, had, hxm, hc⟩ := HW.out.el hlt
      subst had
      have HX := Lib.hid hxm
      have SB := Lib.hid (S_K.out x (List.mem_of_getElem? hxm))
      obtain ⟨⟨r, s8⟩, As, cs⟩ := x
      obtain ⟨z0, z1⟩ := cl_cells hc
      obtain ⟨k8, hk8⟩ : ∃ X, s8.length = X := ⟨_, rfl⟩
      have K8 := Lib.hid hk8
      have B8 : Hid (k8 ≤ 1000000) := Lib.hid (by have h8 := SB.out; have h9 := K8.out; (try simp only at h8); omega)
      rw [hk8] at z1
      have hw2 : IntKind.i64.wrap ((m : Int) + 1) = (m : Int) + 1 := IntWalk.i64_in _ (by have := N4.out; omega)
      have HLT := Lib.hid hlt
      clear hxm hc z0 hk8 SB hlt
      obtain ⟨wv, hwv⟩ : ∃ X, X = wr := ⟨_, rfl⟩
      subst hwv
      go_wp2_with (fail)
      go_loopg [76] k8 (fun g iv wr => ∃ j : Nat, j ≤ k8 ∧ g = k8 - j ∧ iv = .int .i64 (j : Int) ∧ Hid (WrC wr wm1.heap.size (some ad) n4 c4 K4) ∧ Below wm1.heap.size wm1 wr)
      case atStart => exact ⟨0, Nat.zero_le _, rfl, rfl, HW, y⟩
      case round =>
        obtain ⟨j, hj, hg, rfl, HW, y⟩ := hrel
        have HG2 := Lib.hid hg
        clear hg
        by_cases hlj : j < k8
        · have hlj' : (j : Int) < (k8 : Int) := by omega
          obtain ⟨g9, q9, hAs, hb9, c9, f9, hS9⟩ := HW.out.key HX.out (j := j) (by have := K8.out; simp only; omega)
          simp only at hAs
          subst hAs
          obtain ⟨-, z1⟩ := cl_cells (HW.out.cells HLT.out HX.out)
          rw [K8.out] at z1
          have hw3 : IntKind.i64.wrap ((j : Int) + 1) = (j : Int) + 1 := IntWalk.i64_in _ (by have := B8.out; omega)
          obtain ⟨q8, hq8⟩ : ∃ X, IntKind.i64.wrap (q9 + 1) = X := ⟨_, rfl⟩
          have HS9 := Lib.hid (hS9 q8)
          have YC := Lib.hid (setCell_up y hb9 (j * 5) (.int .i64 q8))
          clear hS9
          go_wp2_with (fail)
          go_roundg (k8 - (j + 1))
          case measure => have := HG2.out; clear hw2 hw3; omega
          case rel => exact ⟨j + 1, by clear hw2 hw3; omega, rfl, by go_num, HS9, YC.out⟩
        · have hlj' : ¬ (j : Int) < (k8 : Int) := by omega
          go_wp2_with (fail)
          go_roundg (n4 - (m + 1))
          case measure => have := HG.out; have := HLT.out; clear hw2; omega
          case rel => exact ⟨m + 1, by have := HLT.out; clear hw2; omega, rfl, by go_num, HW, y⟩
    have hlt' : ¬ (m : Int) < (n4 : Int) := by omega
    clear HG
    obtain ⟨wn, hwv⟩ : ∃ X, X = wr := ⟨_, rfl⟩
    subst hwv
    go_wp2_with (fail)
    clear W_K YB HW
    clear R0
    clear HT
    clear HS
    clear D1
    clear D_P
    clear hx
    have R0 := Lib.hid (R0_1.out.ext y)
    have HT := Lib.hid (Utf8Tabs_below HT_1.out y)
    have HS := Lib.hid (HS_1.out.ext y)
    have D1 := Lib.hid (D1_1.out.ext y)
    have D_P := Lib.hid (D_P_1.out.ext y)
    have hx := ext_trans hx_1 y
    clear R0_1
    clear HT_1
    clear HS_1
    clear D1_1
    clear D_P_1
    clear hx_1
    clear y hlt hlt' S_K E_K N4
    obtain ⟨wm2, hwm⟩ : ∃ X, X = wn := ⟨_, rfl⟩
    subst hwm
    have R0_2 := R0
    have HT_2 := HT
    have HS_2 := HS
    have D1_2 := D1
    have D_P_2 := D_P
    have hx_2 := hx
    go_wp2_with (go_at_call 21; refine Hid.out ?_)
    refine Lib.hid ?_
    refine (pasteWr D_P.out (by rw [E_P.out]; exact fun x hx => (CW.out x hx).1) p).mono ?_
    rintro e wn ⟨A6, c6, X6, rfl, h_1, w_1, o_1, l_1, y⟩
    have R0 := Lib.hid (R0.out.ext y)
    have HT := Lib.hid (Utf8Tabs_below HT.out y)
    have HS := Lib.hid (HS.out.ext y)
    have D1 := Lib.hid (D1.out.ext y)
    have D_P := Lib.hid (D_P.out.ext y)
    replace hx := ext_trans hx y
    have W_K := Lib.hid w_1
    have E_6 := Lib.hid h_1
    have S_6 := Lib.hid l_1
    have R_6 := Lib.hid o_1
    have YB := Lib.hid y
    clear w_1 h_1 y o_1 l_1
    obtain ⟨n6, hn6⟩ : ∃ X, X6.length = X := ⟨_, rfl⟩
    have N6 := Lib.hid hn6
    rw [hn6] at W_K ⊢
    clear hn6
    have B6 : Hid (n6 ≤ 1000) := Lib.hid (by have h := S_6.out.1; have := N6.out; have := B1.out; omega)
    by_cases hp0 : p < 0
    · skip
      have hp0' : ¬ (0 ≤ p) := by omega
      go_wp2_with (fail)
      go_loopg [112] n6 (fun g iv wr => ∃ m : Nat, m ≤ n6 ∧ g = n6 - m ∧ iv = .int .i64 (m : Int) ∧ Hid (WrO wr wm2.heap.size A6 n6 c6 X6) ∧ Below wm2.heap.size wm2 wr)
      case atStart => exact ⟨0, Nat.zero_le _, rfl, rfl, W_K, YB.out⟩
      case round =>
        obtain ⟨m, hm, hg, rfl, HW, y⟩ := hrel
        have HG := Lib.hid hg
        clear hg
        by_cases hlt : m < n6
        · have hlt' : (m : Int) < (n6 : Int) := by omega
          obtain ⟨ad, x, had, hxm, hc⟩ := HW.out.el hlt
          subst had
          have HX := Lib.hid hxm
          have SB := Lib.hid (S_6.out.2 x (List.mem_of_getElem? hxm))
          obtain ⟨⟨ok, on, r8, s8, p8⟩, Ar, cr, As, cs, Ap, cp⟩ := x
          try simp only at SB
          have hw2 : IntKind.i64.wrap ((m : Int) + 1) = (m : Int) + 1 := IntWalk.i64_in _ (by have := B6.out; omega)
          have HLT := Lib.hid hlt
          clear hxm hc hlt
          obtain ⟨kS, hk8⟩ : ∃ X, s8.length = X := ⟨_, rfl⟩
          have KS := Lib.hid hk8
          have BS : Hid (kS ≤ 1000000) := Lib.hid (by have := SB.out; have := KS.out; omega)
          clear hk8
          obtain ⟨wv, hwv⟩ : ∃ X, X = wr := ⟨_, rfl⟩
          subst hwv
          obtain ⟨-, -, -, z3, -⟩ := op_cells (HW.out.cells HLT.out HX.out)
          simp only at z3
          rw [KS.out] at z3
          go_wp2_with (fail)
          clear z3
          go_loopg [121] kS (fun g iv wr => ∃ j : Nat, j ≤ kS ∧ g = kS - j ∧ iv = .int .i64 (j : Int) ∧ Hid (WrO wr wm2.heap.size (some ad) n6 c6 X6) ∧ Below wm2.heap.size wm2 wr)
          case atStart => exact ⟨0, Nat.zero_le _, rfl, rfl, HW, y⟩
          case round =>
            clear HW y
            obtain ⟨j, hj, hg, rfl, HW, y⟩ := hrel
            have HG2 := Lib.hid hg
            clear hg
            by_cases hlj : j < kS
            · have hlj' : (j : Int) < (kS : Int) := by omega
              obtain ⟨g9, q9, hAs, hb9, c9, f9, hS9⟩ := HW.out.keyS HX.out (j := j) (by have := KS.out; simp only; omega)
              obtain ⟨-, -, -, z3, -⟩ := op_cells (HW.out.cells HLT.out HX.out)
              simp only at hAs z3
              subst hAs
              rw [KS.out] at z3
              have hw3 : IntKind.i64.wrap ((j : Int) + 1) = (j : Int) + 1 := IntWalk.i64_in _ (by have := BS.out; omega)
              obtain ⟨q8, hq8⟩ : ∃ X, IntKind.i64.wrap (q9 + 1) = X := ⟨_, rfl⟩
              have HS9 := Lib.hid (hS9 q8)
              have YC := Lib.hid (setCell_up y hb9 (j * 5) (.int .i64 q8))
              clear hS9
              go_wp2_with (fail)
              go_roundg (kS - (j + 1))
              case measure => have := HG2.out; clear hw2 hw3; omega
              case rel => exact ⟨j + 1, by clear hw2 hw3; omega, rfl, by go_num, HS9, YC.out⟩
            have hlj' : ¬ (j : Int) < (kS : Int) := by omega
            go_wp2_with (fail)
            go_roundg (n6 - (m + 1))
            case measure => have := HG.out; have := HLT.out; clear hw2; omega
            case rel => exact ⟨m + 1, by have := HLT.out; clear hw2; omega, rfl, by go_num, HW, y⟩
        have hlt' : ¬ (m : Int) < (n6 : Int) := by omega
        clear HG
        obtain ⟨wn, hwv⟩ : ∃ X, X = wr := ⟨_, rfl⟩
        subst hwv
        go_wp2_with (fail)
        clear W_K YB HW
        clear R0
        clear HT
        clear HS
        clear D1
        clear D_P
        clear hx
        have R0 := Lib.hid (R0_2.out.ext y)
        have HT := Lib.hid (Utf8Tabs_below HT_2.out y)
        have HS := Lib.hid (HS_2.out.ext y)
        have D1 := Lib.hid (D1_2.out.ext y)
        have D_P := Lib.hid (D_P_2.out.ext y)
        have hx := ext_trans hx_2 y
        clear R0_2
        clear HT_2
        clear HS_2
        clear D1_2
        clear D_P_2
        clear hx_2
        clear y hlt hlt'
        obtain ⟨nl, hnl⟩ : ∃ X, linesC (clsOf d) = X := ⟨_, rfl⟩
        have NL := Lib.hid hnl
        clear hnl
        go_wp2_with (go_at_call 24; refine Hid.out ?_)
        refine Lib.hid ?_
        refine (part26_any A3 n1 c3 P _ D_P.out.len D_P.out.rd.1 (by have := B1.out; omega)).mono ?_
        rw [E_P.out, NL.out]
        rintro e wn ⟨rfl, dr, hd⟩
        have y := drew_ext hd
        clear hd
        have R0 := Lib.hid (R0.out.ext y)
        have HT := Lib.hid (Utf8Tabs_below HT.out y)
        have HS := Lib.hid (HS.out.ext y)
        have D1 := Lib.hid (D1.out.ext y)
        have D_P := Lib.hid (D_P.out.ext y)
        replace hx := ext_trans hx y
        clear y
        go_wp2_with (go_at_call 25; refine Hid.out ?_)
        refine Lib.hid ?_
        refine (lines26_any A1 n1 c1 d _ D1.out.len D1.out.rd.1 (by have := B1.out; omega)).mono ?_
        rw [NL.out]
        rintro e wn ⟨rfl, dr, hd⟩
        have y := drew_ext hd
        clear hd
        have R0 := Lib.hid (R0.out.ext y)
        have HT := Lib.hid (Utf8Tabs_below HT.out y)
        have HS := Lib.hid (HS.out.ext y)
        have D1 := Lib.hid (D1.out.ext y)
        have D_P := Lib.hid (D_P.out.ext y)
        replace hx := ext_trans hx y
        clear y
        go_wp2_with (go_at_call 19; refine Hid.out ?_)
        refine Lib.hid ?_
        refine (same18D D_P.out D1.out (decide_eq_true E_P.out)).mono ?_
        rintro e wn ⟨rfl, y⟩
        have R0 := Lib.hid (R0.out.ext y)
        have HT := Lib.hid (Utf8Tabs_below HT.out y)
        have HS := Lib.hid (HS.out.ext y)
        have D1 := Lib.hid (D1.out.ext y)
        have D_P := Lib.hid (D_P.out.ext y)
        replace hx := ext_trans hx y
        clear y
        go_wp2_with (go_at_call 12; refine Hid.out ?_)
        refine Lib.hid ?_
        refine (known26_any _ HT.out).mono ?_
        rintro e w2 ⟨rfl, y⟩
        replace hx := ext_trans hx y
        go_wp2_with (fail)
        go_ret
        exact ⟨rfl, hx⟩
    by_cases hp1 : 1099511627776 < p
    · skip
      have hp1' : ¬ (p ≤ 1099511627776) := by omega
      have hp0' : 0 ≤ p := by omega
      go_wp2_with (fail)
      go_loopg [112] n6 (fun g iv wr => ∃ m : Nat, m ≤ n6 ∧ g = n6 - m ∧ iv = .int .i64 (m : Int) ∧ Hid (WrO wr wm2.heap.size A6 n6 c6 X6) ∧ Below wm2.heap.size wm2 wr)
      case atStart => exact ⟨0, Nat.zero_le _, rfl, rfl, W_K, YB.out⟩
      case round =>
        obtain ⟨m, hm, hg, rfl, HW, y⟩ := hrel
        have HG := Lib.hid hg
        clear hg
        by_cases hlt : m < n6
        · have hlt' : (m : Int) < (n6 : Int) := by omega
          obtain ⟨ad, x, had, hxm, hc⟩ := HW.out.el hlt
          subst had
          have HX := Lib.hid hxm
          have SB := Lib.hid (S_6.out.2 x (List.mem_of_getElem? hxm))
          obtain ⟨⟨ok, on, r8, s8, p8⟩, Ar, cr, As, cs, Ap, cp⟩ := x
          try simp only at SB
          have hw2 : IntKind.i64.wrap ((m : Int) + 1) = (m : Int) + 1 := IntWalk.i64_in _ (by have := B6.out; omega)
          have HLT := Lib.hid hlt
          clear hxm hc hlt
          obtain ⟨kS, hk8⟩ : ∃ X, s8.length = X := ⟨_, rfl⟩
          have KS := Lib.hid hk8
          have BS : Hid (kS ≤ 1000000) := Lib.hid (by have := SB.out; have := KS.out; omega)
          clear hk8
          obtain ⟨wv, hwv⟩ : ∃ X, X = wr := ⟨_, rfl⟩
          subst hwv
          obtain ⟨-, -, -, z3, -⟩ := op_cells (HW.out.cells HLT.out HX.out)
          simp only at z3
          rw [KS.out] at z3
          go_wp2_with (fail)
          clear z3
          go_loopg [121] kS (fun g iv wr => ∃ j : Nat, j ≤ kS ∧ g = kS - j ∧ iv = .int .i64 (j : Int) ∧ Hid (WrO wr wm2.heap.size (some ad) n6 c6 X6) ∧ Below wm2.heap.size wm2 wr)
          case atStart => exact ⟨0, Nat.zero_le _, rfl, rfl, HW, y⟩
          case round =>
            clear HW y
            obtain ⟨j, hj, hg, rfl, HW, y⟩ := hrel
            have HG2 := Lib.hid hg
            clear hg
            by_cases hlj : j < kS
            · have hlj' : (j : Int) < (kS : Int) := by omega
              obtain ⟨g9, q9, hAs, hb9, c9, f9, hS9⟩ := HW.out.keyS HX.out (j := j) (by have := KS.out; simp only; omega)
              obtain ⟨-, -, -, z3, -⟩ := op_cells (HW.out.cells HLT.out HX.out)
              simp only at hAs z3
              subst hAs
              rw [KS.out] at z3
              have hw3 : IntKind.i64.wrap ((j : Int) + 1) = (j : Int) + 1 := IntWalk.i64_in _ (by have := BS.out; omega)
              obtain ⟨q8, hq8⟩ : ∃ X, IntKind.i64.wrap (q9 + 1) = X := ⟨_, rfl⟩
              have HS9 := Lib.hid (hS9 q8)
              have YC := Lib.hid (setCell_up y hb9 (j * 5) (.int .i64 q8))
              clear hS9
              go_wp2_with (fail)
              go_roundg (kS - (j + 1))
              case measure => have := HG2.out; clear hw2 hw3; omega
              case rel => exact ⟨j + 1, by clear hw2 hw3; omega, rfl, by go_num, HS9, YC.out⟩
            have hlj' : ¬ (j : Int) < (kS : Int) := by omega
            go_wp2_with (fail)
            go_roundg (n6 - (m + 1))
            case measure => have := HG.out; have := HLT.out; clear hw2; omega
            case rel => exact ⟨m + 1, by have := HLT.out; clear hw2; omega, rfl, by go_num, HW, y⟩
        have hlt' : ¬ (m : Int) < (n6 : Int) := by omega
        clear HG
        obtain ⟨wn, hwv⟩ : ∃ X, X = wr := ⟨_, rfl⟩
        subst hwv
        go_wp2_with (fail)
        clear W_K YB HW
        clear R0
        clear HT
        clear HS
        clear D1
        clear D_P
        clear hx
        have R0 := Lib.hid (R0_2.out.ext y)
        have HT := Lib.hid (Utf8Tabs_below HT_2.out y)
        have HS := Lib.hid (HS_2.out.ext y)
        have D1 := Lib.hid (D1_2.out.ext y)
        have D_P := Lib.hid (D_P_2.out.ext y)
        have hx := ext_trans hx_2 y
        clear R0_2
        clear HT_2
        clear HS_2
        clear D1_2
        clear D_P_2
        clear hx_2
        clear y hlt hlt'
        obtain ⟨nl, hnl⟩ : ∃ X, linesC (clsOf d) = X := ⟨_, rfl⟩
        have NL := Lib.hid hnl
        clear hnl
        go_wp2_with (go_at_call 24; refine Hid.out ?_)
        refine Lib.hid ?_
        refine (part26_any A3 n1 c3 P _ D_P.out.len D_P.out.rd.1 (by have := B1.out; omega)).mono ?_
        rw [E_P.out, NL.out]
        rintro e wn ⟨rfl, dr, hd⟩
        have y := drew_ext hd
        clear hd
        have R0 := Lib.hid (R0.out.ext y)
        have HT := Lib.hid (Utf8Tabs_below HT.out y)
        have HS := Lib.hid (HS.out.ext y)
        have D1 := Lib.hid (D1.out.ext y)
        have D_P := Lib.hid (D_P.out.ext y)
        replace hx := ext_trans hx y
        clear y
        go_wp2_with (go_at_call 25; refine Hid.out ?_)
        refine Lib.hid ?_
        refine (lines26_any A1 n1 c1 d _ D1.out.len D1.out.rd.1 (by have := B1.out; omega)).mono ?_
        rw [NL.out]
        rintro e wn ⟨rfl, dr, hd⟩
        have y := drew_ext hd
        clear hd
        have R0 := Lib.hid (R0.out.ext y)
        have HT := Lib.hid (Utf8Tabs_below HT.out y)
        have HS := Lib.hid (HS.out.ext y)
        have D1 := Lib.hid (D1.out.ext y)
        have D_P := Lib.hid (D_P.out.ext y)
        replace hx := ext_trans hx y
        clear y
        go_wp2_with (go_at_call 19; refine Hid.out ?_)
        refine Lib.hid ?_
        refine (same18D D_P.out D1.out (decide_eq_true E_P.out)).mono ?_
        rintro e wn ⟨rfl, y⟩
        have R0 := Lib.hid (R0.out.ext y)
        have HT := Lib.hid (Utf8Tabs_below HT.out y)
        have HS := Lib.hid (HS.out.ext y)
        have D1 := Lib.hid (D1.out.ext y)
        have D_P := Lib.hid (D_P.out.ext y)
        replace hx := ext_trans hx y
        clear y
        go_wp2_with (go_at_call 12; refine Hid.out ?_)
        refine Lib.hid ?_
        refine (known26_any _ HT.out).mono ?_
        rintro e w2 ⟨rfl, y⟩
        replace hx := ext_trans hx y
        go_wp2_with (fail)
        go_ret
        exact ⟨rfl, hx⟩
    have hp1' : p ≤ 1099511627776 := by omega
    have hp0' : 0 ≤ p := by omega
    obtain ⟨pn, rfl⟩ : ∃ k : Nat, p = k := ⟨p.toNat, by omega⟩
    have HPN : Hid (pn ≤ 1099511627776) := Lib.hid (by omega)
    go_wp2_with (go_at_call 23; refine Hid.out ?_)
    refine Lib.hid ?_
    refine (paste26_any pn A1 n1 c1 d _ D1.out.len D1.out.rd (by have := B1.out; omega) HPN.out (fun x hx => (D1.out.vr x hx).1)).mono ?_
    rintro e wn ⟨A7, c7, X7, rfl, h7, o7, p7, y⟩
    have W_K := Lib.hid (W_K.out.below y)
    have YB := Lib.hid (ext_trans YB.out y)
    have R0 := Lib.hid (R0.out.ext y)
    have HT := Lib.hid (Utf8Tabs_below HT.out y)
    have HS := Lib.hid (HS.out.ext y)
    have D1 := Lib.hid (D1.out.ext y)
    have D_P := Lib.hid (D_P.out.ext y)
    have R_6 := Lib.hid (R_6.out.ext y)
    replace hx := ext_trans hx y
    have R_7 := Lib.hid (rd_made o7 p7)
    have E_7 : Hid (osOf X7 = osOf X6) := Lib.hid (by rw [h7, E_6.out, pasteOs_of, E_P.out])
    clear y h7 o7 p7
    go_wp2_with (go_at_call 22; refine Hid.out ?_)
    refine Lib.hid ?_
    refine (same15_any A6 A7 n6 X7.length c6 c7 X6 X7 _ N6.out.symm rfl R_6.out R_7.out (by have := B6.out; omega) (by have h := congrArg List.length E_7.out; unfold osOf at h; rw [List.length_map, List.length_map, N6.out] at h; have := B6.out; omega) (len_ops S_6.out.2) (len_ops2 E_7.out S_6.out.2)).mono ?_
    rw [decide_eq_true E_7.out.symm]
    rintro e wn ⟨rfl, y⟩
    have W_K := Lib.hid (W_K.out.below y)
    have YB := Lib.hid (ext_trans YB.out y)
    have R0 := Lib.hid (R0.out.ext y)
    have HT := Lib.hid (Utf8Tabs_below HT.out y)
    have HS := Lib.hid (HS.out.ext y)
    have D1 := Lib.hid (D1.out.ext y)
    have D_P := Lib.hid (D_P.out.ext y)
    have R_6 := Lib.hid (R_6.out.ext y)
    have R_7 := Lib.hid (R_7.out.ext y)
    replace hx := ext_trans hx y
    clear y
    clear R_7 R_6 E_7
    go_wp2_with (fail)
    go_loopg [112] n6 (fun g iv wr => ∃ m : Nat, m ≤ n6 ∧ g = n6 - m ∧ iv = .int .i64 (m : Int) ∧ Hid (WrO wr wm2.heap.size A6 n6 c6 X6) ∧ Below wm2.heap.size wm2 wr)
    case atStart => exact ⟨0, Nat.zero_le _, rfl, rfl, W_K, YB.out⟩
    case round =>
      obtain ⟨m, hm, hg, rfl, HW, y⟩ := hrel
      have HG := Lib.hid hg
      clear hg
      by_cases hlt : m < n6
      · have hlt' : (m : Int) < (n6 : Int) := by omega
        obtain ⟨ad, x, had, hxm, hc⟩ := HW.out.el hlt
        subst had
        have HX := Lib.hid hxm
        have SB := Lib.hid (S_6.out.2 x (List.mem_of_getElem? hxm))
        obtain ⟨⟨ok, on, r8, s8, p8⟩, Ar, cr, As, cs, Ap, cp⟩ := x
        try simp only at SB
        have hw2 : IntKind.i64.wrap ((m : Int) + 1) = (m : Int) + 1 := IntWalk.i64_in _ (by have := B6.out; omega)
        have HLT := Lib.hid hlt
        clear hxm hc hlt
        obtain ⟨kS, hk8⟩ : ∃ X, s8.length = X := ⟨_, rfl⟩
        have KS := Lib.hid hk8
        have BS : Hid (kS ≤ 1000000) := Lib.hid (by have := SB.out; have := KS.out; omega)
        clear hk8
        obtain ⟨wv, hwv⟩ : ∃ X, X = wr := ⟨_, rfl⟩
        subst hwv
        obtain ⟨-, -, -, z3, -⟩ := op_cells (HW.out.cells HLT.out HX.out)
        simp only at z3
        rw [KS.out] at z3
        go_wp2_with (fail)
        clear z3
        go_loopg [121] kS (fun g iv wr => ∃ j : Nat, j ≤ kS ∧ g = kS - j ∧ iv = .int .i64 (j : Int) ∧ Hid (WrO wr wm2.heap.size (some ad) n6 c6 X6) ∧ Below wm2.heap.size wm2 wr)
        case atStart => exact ⟨0, Nat.zero_le _, rfl, rfl, HW, y⟩
        case round =>
          clear HW y
          obtain ⟨j, hj, hg, rfl, HW, y⟩ := hrel
          have HG2 := Lib.hid hg
          clear hg
          by_cases hlj : j < kS
          · have hlj' : (j : Int) < (kS : Int) := by omega
            obtain ⟨g9, q9, hAs, hb9, c9, f9, hS9⟩ := HW.out.keyS HX.out (j := j) (by have := KS.out; simp only; omega)
            obtain ⟨-, -, -, z3, -⟩ := op_cells (HW.out.cells HLT.out HX.out)
            simp only at hAs z3
            subst hAs
            rw [KS.out] at z3
            have hw3 : IntKind.i64.wrap ((j : Int) + 1) = (j : Int) + 1 := IntWalk.i64_in _ (by have := BS.out; omega)
            obtain ⟨q8, hq8⟩ : ∃ X, IntKind.i64.wrap (q9 + 1) = X := ⟨_, rfl⟩
            have HS9 := Lib.hid (hS9 q8)
            have YC := Lib.hid (setCell_up y hb9 (j * 5) (.int .i64 q8))
            clear hS9
            go_wp2_with (fail)
            go_roundg (kS - (j + 1))
            case measure => have := HG2.out; clear hw2 hw3; omega
            case rel => exact ⟨j + 1, by clear hw2 hw3; omega, rfl, by go_num, HS9, YC.out⟩
          have hlj' : ¬ (j : Int) < (kS : Int) := by omega
          go_wp2_with (fail)
          go_roundg (n6 - (m + 1))
          case measure => have := HG.out; have := HLT.out; clear hw2; omega
          case rel => exact ⟨m + 1, by have := HLT.out; clear hw2; omega, rfl, by go_num, HW, y⟩
      have hlt' : ¬ (m : Int) < (n6 : Int) := by omega
      clear HG
      obtain ⟨wn, hwv⟩ : ∃ X, X = wr := ⟨_, rfl⟩
      subst hwv
      go_wp2_with (fail)
      clear W_K YB HW
      clear R0
      clear HT
      clear HS
      clear D1
      clear D_P
      clear hx
      have R0 := Lib.hid (R0_2.out.ext y)
      have HT := Lib.hid (Utf8Tabs_below HT_2.out y)
      have HS := Lib.hid (HS_2.out.ext y)
      have D1 := Lib.hid (D1_2.out.ext y)
      have D_P := Lib.hid (D_P_2.out.ext y)
      have hx := ext_trans hx_2 y
      clear R0_2
      clear HT_2
      clear HS_2
      clear D1_2
      clear D_P_2
      clear hx_2
      clear y hlt hlt'
      obtain ⟨nl, hnl⟩ : ∃ X, linesC (clsOf d) = X := ⟨_, rfl⟩
      have NL := Lib.hid hnl
      clear hnl
      go_wp2_with (go_at_call 24; refine Hid.out ?_)
      refine Lib.hid ?_
      refine (part26_any A3 n1 c3 P _ D_P.out.len D_P.out.rd.1 (by have := B1.out; omega)).mono ?_
      rw [E_P.out, NL.out]
      rintro e wn ⟨rfl, dr, hd⟩
      have y := drew_ext hd
      clear hd
      have R0 := Lib.hid (R0.out.ext y)
      have HT := Lib.hid (Utf8Tabs_below HT.out y)
      have HS := Lib.hid (HS.out.ext y)
      have D1 := Lib.hid (D1.out.ext y)
      have D_P := Lib.hid (D_P.out.ext y)
      replace hx := ext_trans hx y
      clear y
      go_wp2_with (go_at_call 25; refine Hid.out ?_)
      refine Lib.hid ?_
      refine (lines26_any A1 n1 c1 d _ D1.out.len D1.out.rd.1 (by have := B1.out; omega)).mono ?_
      rw [NL.out]
      rintro e wn ⟨rfl, dr, hd⟩
      have y := drew_ext hd
      clear hd
      have R0 := Lib.hid (R0.out.ext y)
      have HT := Lib.hid (Utf8Tabs_below HT.out y)
      have HS := Lib.hid (HS.out.ext y)
      have D1 := Lib.hid (D1.out.ext y)
      have D_P := Lib.hid (D_P.out.ext y)
      replace hx := ext_trans hx y
      clear y
      go_wp2_with (go_at_call 19; refine Hid.out ?_)
      refine Lib.hid ?_
      refine (same18D D_P.out D1.out (decide_eq_true E_P.out)).mono ?_
      rintro e wn ⟨rfl, y⟩
      have R0 := Lib.hid (R0.out.ext y)
      have HT := Lib.hid (Utf8Tabs_below HT.out y)
      have HS := Lib.hid (HS.out.ext y)
      have D1 := Lib.hid (D1.out.ext y)
      have D_P := Lib.hid (D_P.out.ext y)
      replace hx := ext_trans hx y
      clear y
      go_wp2_with (go_at_call 12; refine Hid.out ?_)
      refine Lib.hid ?_
      refine (known26_any _ HT.out).mono ?_
      rintro e w2 ⟨rfl, y⟩
      replace hx := ext_trans hx y
      go_wp2_with (fail)
      go_ret
      exact ⟨rfl, hx⟩
end Go.Proofs.YtfnkjcodcoehcaaGreatDoor
