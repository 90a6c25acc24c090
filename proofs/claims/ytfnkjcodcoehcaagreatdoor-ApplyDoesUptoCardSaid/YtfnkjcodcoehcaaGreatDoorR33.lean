/- Merged texts: ApplyDoes. -/
import Derived.Test.YtfnkjcodcoehcaaGreatDoorR25
import Derived.Test.YtfnkjcodcoehcaaGreatDoorR31
import Derived.Test.YtfnkjcodcoehcaaGreatDoorR32
import Derived.Test.YtfnkjcodcoehcaaGreatDoorR10
import Derived.Test.YtfnkjcodcoehcaaGreatDoorR24
import Derived.Test.YtfnkjcodcoehcaaGreatDoorR19
import Derived.Test.YtfnkjcodcoehcaaGreatDoorR26
import Derived.Test.YtfnkjcodcoehcaaGreatDoorR2
import Derived.Test.YtfnkjcodcoehcaaGreatDoorR23
namespace Go.Proofs.YtfnkjcodcoehcaaGreatDoor
open Go.RowKit
set_option linter.unusedVariables false
set_option linter.unusedSimpArgs false

set_option maxRecDepth 100000 in
set_option maxHeartbeats 12800000 in
theorem applyDoes_any (A0 A1 A2 A4 : Option Addr) (n0 n1 n2 n4 c0 c1 c2 c4 : Nat) (l0 : List Ky) (d : List ClS) (l2 : List OpS) (l4 : List Ch) (most : Int) (w : World)
    (e0 : n0 = l0.length) (r0 : RdKy w w.heap.size A0 l0) (b0 : n0 ≤ 1048576) (e1 : n1 = d.length) (r1 : RdCl w w.heap.size A1 d) (b1 : n1 ≤ 1048576) (k1 : n1 ≤ c1) (q1 : ∀ x ∈ d, x.c.s.length ≤ 100000000 ∧ okVr x.c.s) (g1 : ∀ x ∈ d, x.c.s.length ≤ x.cs ∧ x.cs ≤ maxLen) (t1 : ∀ x ∈ d, okVa x.c.s)
    (e2 : n2 = l2.length) (r2 : RdOp w w.heap.size A2 l2) (b2 : n2 ≤ 1048576) (k2 : n2 ≤ c2) (m2 : c2 ≤ maxLen) (q2 : ∀ o ∈ l2, okOp o.o) (z2 : szX l2 ≤ 2305850000000000000) (f2 : ∀ o ∈ l2, capO o)
    (e4 : n4 = l4.length) (r4 : RdCh w w.heap.size A4 l4) (b4 : n4 ≤ 1048576) (k4 : n4 ≤ c4) (m4 : c4 ≤ maxLen) (q4 : ∀ c ∈ l4, okV c.v ∧ c.v.s.size ≤ 100000000)
    (hT : Lib.Utf8Tabs 1 2 w) :
    Calls Tryz.prog 5 #[.slice A0 n0 c0, .slice A1 n1 c1, .slice A2 n2 c2, .int .i64 most, .slice A4 n4 c4] w fun e w' => e = .returned (.bool true) ∧ Below w.heap.size w w' := by
  have T1 := Lib.hid t1
  clear t1
  have N0 := Lib.hid e0
  have R0 := Lib.hid r0
  have HT := Lib.hid hT
  have hx := Below.refl w.heap.size w
  have N1 := Lib.hid e1
  have R1 := Lib.hid r1
  have Q1 := Lib.hid q1
  have C1 := Lib.hid g1
  have N2 := Lib.hid e2
  have R2 := Lib.hid r2
  have Q2 := Lib.hid q2
  have Z2 := Lib.hid z2
  have F2 := Lib.hid f2
  clear e0 r0 hT e1 r1 q1 g1 e2 r2 q2 z2 f2
  go_enter Tryz.func5, Tryz.ntmps5
  have N4 := Lib.hid e4
  have R4 := Lib.hid r4
  have Q4 := Lib.hid q4
  clear e4 r4 q4
  have ra : Rd SX.enc 1 _ _ _ [⟨A2, c2, l2⟩] := Rd.new (enc := SX.enc) (size := 1) (fun _ => rfl) w 44 [⟨A2, c2, l2⟩] (cs := #[.slice A2 n2 c2]) (by simp [SX.enc, ← N2.out]) rfl
  have y := ext_alloc w (.cells #[.slice A2 n2 c2] 44)
  have R0 := Lib.hid (R0.out.ext y)
  have HT := Lib.hid (Utf8Tabs_below HT.out y)
  have R1 := Lib.hid (R1.out.ext y)
  have R2 := Lib.hid (R2.out.ext y)
  have R4 := Lib.hid (R4.out.ext y)
  replace hx := ext_trans hx y
  clear y
  go_wp2_with (go_at_call 30; refine Hid.out ?_)
  refine Lib.hid ?_
  refine (great19_any A0 A1 (some ⟨w.heap.size, 0, none⟩) n0 c0 n1 c1 1 1 d [⟨A2, c2, l2⟩] _ rfl ra (by omega) (by omega) (fun x hx => by
    simp only [List.mem_cons, List.not_mem_nil, or_false] at hx
    subst hx
    exact ⟨R2.out, by have := N2.out; simp only; omega⟩) (by simp only [sumX, List.map_cons, List.map_nil, List.sum_cons, List.sum_nil]; have := Z2.out; omega) N1.out R1.out (by omega) (fun z hz => by have := (Q1.out z hz).1; omega)).mono ?_
  rintro e wn ⟨gb, rfl, h1, dr, hd⟩
  have y := drew_ext hd
  clear hd ra
  have R0 := Lib.hid (R0.out.ext y)
  have HT := Lib.hid (Utf8Tabs_below HT.out y)
  have R1 := Lib.hid (R1.out.ext y)
  have R2 := Lib.hid (R2.out.ext y)
  have R4 := Lib.hid (R4.out.ext y)
  replace hx := ext_trans hx y
  clear y
  cases gb
  case true =>
    clear h1
    go_wp2_with (go_at_call 31; refine Hid.out ?_)
    refine Lib.hid ?_
    refine (known19_any _ HT.out).mono ?_
    rintro e w2 ⟨rfl, y⟩
    replace hx := ext_trans hx y
    go_wp2_with (fail)
    go_ret
    exact ⟨rfl, hx⟩
  have h2 := h1 rfl
  have G0 := Lib.hid h2.1
  have G1 : Hid (n1 ≤ 400 ∧ ∀ c ∈ d, c.c.s.length ≤ 64) := Lib.hid ⟨h2.2.1, h2.2.2.1⟩
  have SZ : Hid (szX l2 ≤ 5000) := Lib.hid (by have h3 := h2.2.2.2; simp only [sumX, List.map_cons, List.map_nil, List.sum_cons, List.sum_nil] at h3; omega)
  clear h1 h2
  by_cases hp64 : (64 : Int) < (n4 : Int)
  · skip
    go_wp2_with (go_at_call 31; refine Hid.out ?_)
    refine Lib.hid ?_
    refine (known19_any _ HT.out).mono ?_
    rintro e w2 ⟨rfl, y⟩
    replace hx := ext_trans hx y
    go_wp2_with (fail)
    go_ret
    exact ⟨rfl, hx⟩
  have B4 : Hid (n4 ≤ 64) := Lib.hid (by omega)
  go_wp2_with (go_at_call 13; refine Hid.out ?_)
  refine Lib.hid ?_
  refine (new_any A0 n0 c0 l0 _ N0.out R0.out (by omega)).mono ?_
  rintro e wn ⟨y, ⟨hm, s, rfl, hS⟩ | ⟨hm, rfl⟩⟩
  all_goals
    have R0 := Lib.hid (R0.out.ext y)
    have HT := Lib.hid (Utf8Tabs_below HT.out y)
    have R1 := Lib.hid (R1.out.ext y)
    have R2 := Lib.hid (R2.out.ext y)
    have R4 := Lib.hid (R4.out.ext y)
    replace hx := ext_trans hx y
    have HM := Lib.hid hm
    clear y hm
  rotate_left
  · skip
    go_wp2_with (go_at_call 14; refine Hid.out ?_)
    refine Lib.hid ?_
    refine (mayR4_any A0 n0 c0 l0 _ N0.out R0.out (by omega)).mono ?_
    rw [HM.out]
    rintro e wn ⟨rfl, y⟩
    have R0 := Lib.hid (R0.out.ext y)
    have HT := Lib.hid (Utf8Tabs_below HT.out y)
    have R1 := Lib.hid (R1.out.ext y)
    have R2 := Lib.hid (R2.out.ext y)
    have R4 := Lib.hid (R4.out.ext y)
    replace hx := ext_trans hx y
    clear y
    go_wp2_with (go_at_call 31; refine Hid.out ?_)
    refine Lib.hid ?_
    refine (known19_any _ HT.out).mono ?_
    rintro e w2 ⟨rfl, y⟩
    replace hx := ext_trans hx y
    go_wp2_with (fail)
    go_ret
    exact ⟨rfl, hx⟩
  have HS := Lib.hid hS
  clear hS
  have H64 : Hid (l0.length ≤ 64) := Lib.hid (by have := N0.out; have := G0.out; omega)
  have D1 : Hid (DocAt _ A1 n1 c1 d) := Lib.hid ⟨R1.out, N1.out, k1, C1.out, fun z hz => ⟨by have := G1.out.2 z hz; omega, (Q1.out z hz).2⟩, by have := G1.out; omega⟩
  have LD : Hid ((clsOf d).length = n1) := Lib.hid D1.out.clen
  have B1 := Lib.hid G1.out.1
  have LX2 : Hid (l2.length ≤ 5000) := Lib.hid (by have := szX_len l2; have := SZ.out; omega)
  have O2 : Hid (OpsC _ A2 n2 c2 l2) := Lib.hid ⟨⟨R2.out, N2.out, Q2.out, by have := LX2.out; have := N2.out; omega⟩, k2, m2, F2.out⟩
  go_wp2_with (go_at_call 15; refine Hid.out ?_)
  refine Lib.hid ?_
  refine (copy18D D1.out).mono ?_
  rintro e wn ⟨A5, c5, P, rfl, h_1, d_1, y⟩
  have R0 := Lib.hid (R0.out.ext y)
  have HT := Lib.hid (Utf8Tabs_below HT.out y)
  have R4 := Lib.hid (R4.out.ext y)
  have HS := Lib.hid (HS.out.ext y)
  have D1 := Lib.hid (D1.out.ext y)
  have O2 := Lib.hid (O2.out.ext y)
  replace hx := ext_trans hx y
  have D_P := Lib.hid d_1
  have E_P := Lib.hid h_1
  clear d_1 h_1
  clear y
  obtain ⟨nn, hn3⟩ : ∃ X, P.length = X := ⟨_, rfl⟩
  have N3 : nn = n1 := by rw [← hn3]; exact (by rw [← clsOf_len, E_P.out, LD.out])
  rw [hn3] at D_P ⊢
  clear hn3
  have n3e := N3.symm
  subst n3e
  clear N3
  go_wp2_with (go_at_call 32; refine Hid.out ?_)
  refine Lib.hid ?_
  refine (copy15D O2.out.at_).mono ?_
  rintro e wn ⟨A6, c6, Y, rfl, h_1, o_1, y⟩
  have R0 := Lib.hid (R0.out.ext y)
  have HT := Lib.hid (Utf8Tabs_below HT.out y)
  have R4 := Lib.hid (R4.out.ext y)
  have HS := Lib.hid (HS.out.ext y)
  have D1 := Lib.hid (D1.out.ext y)
  have O2 := Lib.hid (O2.out.ext y)
  have D_P := Lib.hid (D_P.out.ext y)
  replace hx := ext_trans hx y
  have O_Y := Lib.hid o_1
  have E_Y := Lib.hid h_1
  clear o_1 h_1
  clear y
  obtain ⟨nn, hn3⟩ : ∃ X, Y.length = X := ⟨_, rfl⟩
  have N3 : nn = n2 := by rw [← hn3]; exact ((len_os E_Y.out).trans O2.out.at_.len.symm)
  rw [hn3] at O_Y ⊢
  clear hn3
  have n3e := N3.symm
  subst n3e
  clear N3
  obtain ⟨r, hr⟩ : ∃ X, applyN l0 l2 (clsOf d) most = X := ⟨_, rfl⟩
  have HR := Lib.hid hr
  have HR2 : Hid (applyN l0 Y (clsOf P) most = r) := Lib.hid (by rw [E_P.out, applyN_os E_Y.out]; exact hr)
  clear hr
  have hrr : (r == r) = true := by simp
  have hrr' : (r != r) = false := by simp
  obtain ⟨wm1, hwm⟩ : ∃ X, X = wn := ⟨_, rfl⟩
  subst hwm
  have R0_1 := R0
  have HT_1 := HT
  have R4_1 := R4
  have HS_1 := HS
  have D1_1 := D1
  have O2_1 := O2
  have D_P_1 := D_P
  have O_Y_1 := O_Y
  have hx_1 := hx
  by_cases h0 : r = 0
  · skip
    subst h0
    obtain ⟨N, hin⟩ := apply_in (by have := LX2.out; omega) (by rw [LD.out]; have := B1.out; have := SZ.out; omega) HR.out
    have HIN := Lib.hid hin
    obtain ⟨N9, hin2⟩ := apply_in (x := Y) (d := clsOf P) (by rw [len_os E_Y.out]; have := LX2.out; omega) (by rw [E_P.out, szX_os E_Y.out, LD.out]; have := B1.out; have := SZ.out; omega) HR2.out
    have HIN2 := Lib.hid hin2
    clear hin hin2
    go_wp2_with (go_at_call 33; refine Hid.out ?_)
    refine Lib.hid ?_
    refine (applyWr D_P.out O_Y.out.at_ HS.out HT.out H64.out HIN2.out HR2.out).mono ?_
    rintro e wn ⟨A7, c7, K4, rfl, h_1, w_1, d_1, l_1, y⟩
    have R0 := Lib.hid (R0.out.ext y)
    have HT := Lib.hid (Utf8Tabs_below HT.out y)
    have R4 := Lib.hid (R4.out.ext y)
    have HS := Lib.hid (HS.out.ext y)
    have D1 := Lib.hid (D1.out.ext y)
    have O2 := Lib.hid (O2.out.ext y)
    have D_P := Lib.hid (D_P.out.ext y)
    have O_Y := Lib.hid (O_Y.out.ext y)
    replace hx := ext_trans hx y
    have D_K := Lib.hid d_1
    have W_K := Lib.hid w_1
    have E_K := Lib.hid h_1
    have YB := Lib.hid y
    have N4B : Hid (K4.length ≤ 10000) := Lib.hid (by have := HIN2.out.n; omega)
    clear d_1 w_1 h_1 y l_1
    obtain ⟨n7, hn4⟩ : ∃ X, K4.length = X := ⟨_, rfl⟩
    rw [hn4] at D_K W_K N4B ⊢
    clear hn4
    have S_K : Hid (∀ x ∈ K4, x.c.s.length ≤ 1000000) := Lib.hid (fun x hx => (D_K.out.vr x hx).1)
    go_wp2_with (go_at_call 34; refine Hid.out ?_)
    refine Lib.hid ?_
    refine (apply19Ok N0.out R0.out G0.out D1.out B1.out O2.out.at_ T1.out (by have := SZ.out; omega) HT.out HIN.out HR.out).mono ?_
    rintro e wn ⟨A8, c8, K5, rfl, h_1, d_1, y⟩
    have W_K := Lib.hid (W_K.out.below y)
    have YB := Lib.hid (ext_trans YB.out y)
    have R0 := Lib.hid (R0.out.ext y)
    have HT := Lib.hid (Utf8Tabs_below HT.out y)
    have R4 := Lib.hid (R4.out.ext y)
    have HS := Lib.hid (HS.out.ext y)
    have D1 := Lib.hid (D1.out.ext y)
    have O2 := Lib.hid (O2.out.ext y)
    have D_P := Lib.hid (D_P.out.ext y)
    have O_Y := Lib.hid (O_Y.out.ext y)
    have D_K := Lib.hid (D_K.out.ext y)
    replace hx := ext_trans hx y
    have D_5 := Lib.hid d_1
    have E_5 := Lib.hid h_1
    clear d_1 h_1
    clear y
    go_wp2_with (go_at_call 19; refine Hid.out ?_)
    refine Lib.hid ?_
    refine (same18D D_K.out D_5.out (decide_eq_true (by rw [E_K.out, E_5.out, E_P.out, E_Y.out]))).mono ?_
    rintro e wn ⟨rfl, y⟩
    have W_K := Lib.hid (W_K.out.below y)
    have YB := Lib.hid (ext_trans YB.out y)
    have R0 := Lib.hid (R0.out.ext y)
    have HT := Lib.hid (Utf8Tabs_below HT.out y)
    have R4 := Lib.hid (R4.out.ext y)
    have HS := Lib.hid (HS.out.ext y)
    have D1 := Lib.hid (D1.out.ext y)
    have O2 := Lib.hid (O2.out.ext y)
    have D_P := Lib.hid (D_P.out.ext y)
    have O_Y := Lib.hid (O_Y.out.ext y)
    have D_K := Lib.hid (D_K.out.ext y)
    have D_5 := Lib.hid (D_5.out.ext y)
    replace hx := ext_trans hx y
    clear y
    clear D_5 E_5 D_K
    go_wp2_with (fail)
    go_loopg [78] n7 (fun g iv wr => ∃ m : Nat, m ≤ n7 ∧ g = n7 - m ∧ iv = .int .i64 (m : Int) ∧ Hid (WrC wr wm1.heap.size A7 n7 c7 K4) ∧ Below wm1.heap.size wm1 wr)
    case atStart => exact ⟨0, Nat.zero_le _, rfl, rfl, W_K, YB.out⟩
    case round =>
      obtain ⟨m, hm, hg, rfl, HW, y⟩ := hrel
      have HG := Lib.hid hg
      clear hg
      by_cases hlt : m < n7
      · have hlt' : (m : Int) < (n7 : Int) := by omega
        obtain ⟨ad, x, had, hxm, hc⟩ := HW.out.el hlt
        subst had
        have HX := Lib.hid hxm
        have SB := Lib.hid (S_K.out x (List.mem_of_getElem? hxm))
        obtain ⟨⟨r, s8⟩, As, cs⟩ := x
        obtain ⟨z0, z1⟩ := cl_cells hc
        obtain ⟨k8, hk8⟩ : ∃ X, s8.length = X := ⟨_, rfl⟩
        have K8 := Lib.hid hk8
        have B8 : Hid (k8 ≤ 1000000) := Lib.hid (by have h8 := SB.out; have h9 := K8.out; (try simp only at h8); omega)
        rw [hk8] at z1
        have hw2 : IntKind.i64.wrap ((m : Int) + 1) = (m : Int) + 1 := IntWalk.i64_in _ (by have := N4B.out; omega)
        have HLT := Lib.hid hlt
        clear hxm hc z0 hk8 SB hlt
        obtain ⟨wv, hwv⟩ : ∃ X, X = wr := ⟨_, rfl⟩
        subst hwv
        go_wp2_with (fail)
        go_loopg [87] k8 (fun g iv wr => ∃ j : Nat, j ≤ k8 ∧ g = k8 - j ∧ iv = .int .i64 (j : Int) ∧ Hid (WrC wr wm1.heap.size (some ad) n7 c7 K4) ∧ Below wm1.heap.size wm1 wr)
        case atStart => exact ⟨0, Nat.zero_le _, rfl, rfl, HW, y⟩
        case round =>
          obtain ⟨j, hj, hg, rfl, HW, y⟩ := hrel
          have HG2 := Lib.hid hg
          clear hg
          by_cases hlj : j < k8
          · have hlj' : (j : Int) < (k8 : Int) := by omega
            obtain ⟨g9, q9, hAs, hb9, c9, f9, hS9⟩ := HW.out.key HX.out (j := j) (by have := K8.out; simp only; omega)
            simp only at hAs
            subst hAs
            obtain ⟨-, z1⟩ := cl_cells (HW.out.cells HLT.out HX.out)
            rw [K8.out] at z1
            have hw3 : IntKind.i64.wrap ((j : Int) + 1) = (j : Int) + 1 := IntWalk.i64_in _ (by have := B8.out; omega)
            obtain ⟨q8, hq8⟩ : ∃ X, IntKind.i64.wrap (q9 + 1) = X := ⟨_, rfl⟩
            have HS9 := Lib.hid (hS9 q8)
            have YC := Lib.hid (setCell_up2 y hb9 (j * 5) (.int .i64 q8))
            clear hS9
            go_wp2_with (fail)
            go_roundg (k8 - (j + 1))
            case measure => have := HG2.out; clear hw2 hw3; omega
            case rel => exact ⟨j + 1, by clear hw2 hw3; omega, rfl, by go_num, HS9, YC.out⟩
          · have hlj' : ¬ (j : Int) < (k8 : Int) := by omega
            go_wp2_with (fail)
            go_roundg (n7 - (m + 1))
            case measure => have := HG.out; have := HLT.out; clear hw2; omega
            case rel => exact ⟨m + 1, by have := HLT.out; clear hw2; omega, rfl, by go_num, HW, y⟩
      have hlt' : ¬ (m : Int) < (n7 : Int) := by omega
      clear HG
      obtain ⟨wn, hwv⟩ : ∃ X, X = wr := ⟨_, rfl⟩
      subst hwv
      clear W_K YB HW
      clear R0
      clear HT
      clear R4
      clear HS
      clear D1
      clear O2
      clear D_P
      clear O_Y
      clear hx
      have R0 := Lib.hid (R0_1.out.ext y)
      have HT := Lib.hid (Utf8Tabs_below HT_1.out y)
      have R4 := Lib.hid (R4_1.out.ext y)
      have HS := Lib.hid (HS_1.out.ext y)
      have D1 := Lib.hid (D1_1.out.ext y)
      have O2 := Lib.hid (O2_1.out.ext y)
      have D_P := Lib.hid (D_P_1.out.ext y)
      have O_Y := Lib.hid (O_Y_1.out.ext y)
      have hx := ext_trans hx_1 y
      clear R0_1
      clear HT_1
      clear R4_1
      clear HS_1
      clear D1_1
      clear O2_1
      clear D_P_1
      clear O_Y_1
      clear hx_1
      clear y hlt S_K E_K N4B
      by_cases hn1 : n1 = 0
      · skip
        have hn1' : ¬ (0 : Int) < (n1 : Int) := by omega
        clear hn1
        go_wp2_with (go_at_call 19; refine Hid.out ?_)
        refine Lib.hid ?_
        refine (same18D D_P.out D1.out (decide_eq_true E_P.out)).mono ?_
        rintro e wn ⟨rfl, y⟩
        have R0 := Lib.hid (R0.out.ext y)
        have HT := Lib.hid (Utf8Tabs_below HT.out y)
        have R4 := Lib.hid (R4.out.ext y)
        have HS := Lib.hid (HS.out.ext y)
        have D1 := Lib.hid (D1.out.ext y)
        have O2 := Lib.hid (O2.out.ext y)
        have D_P := Lib.hid (D_P.out.ext y)
        have O_Y := Lib.hid (O_Y.out.ext y)
        replace hx := ext_trans hx y
        clear y
        go_wp2_with (go_at_call 22; refine Hid.out ?_)
        refine Lib.hid ?_
        refine (same15D O_Y.out.at_ O2.out.at_ (decide_eq_true E_Y.out)).mono ?_
        rintro e wn ⟨rfl, y⟩
        have R0 := Lib.hid (R0.out.ext y)
        have HT := Lib.hid (Utf8Tabs_below HT.out y)
        have R4 := Lib.hid (R4.out.ext y)
        have HS := Lib.hid (HS.out.ext y)
        have D1 := Lib.hid (D1.out.ext y)
        have O2 := Lib.hid (O2.out.ext y)
        have D_P := Lib.hid (D_P.out.ext y)
        have O_Y := Lib.hid (O_Y.out.ext y)
        replace hx := ext_trans hx y
        clear y
        go_wp2_with (go_at_call 31; refine Hid.out ?_)
        refine Lib.hid ?_
        refine (known19_any _ HT.out).mono ?_
        rintro e w2 ⟨rfl, y⟩
        replace hx := ext_trans hx y
        go_wp2_with (fail)
        go_ret
        exact ⟨rfl, hx⟩
      have hn1' : (0 : Int) < (n1 : Int) := by omega
      have hn1n : 0 < n1 := by omega
      clear hn1
      obtain ⟨q, hq⟩ : ∃ q, d[0]? = some q := ⟨d[0]'(by rw [← N1.out]; exact hn1n), List.getElem?_eq_getElem _⟩
      obtain ⟨q2, hq2⟩ : ∃ q, P[0]? = some q := ⟨P[0]'(by rw [← D_P.out.len]; exact hn1n), List.getElem?_eq_getElem _⟩
      have EQ : q2.c = q.c := by
        have h1 := clsOf_at hq
        have h2 := clsOf_at hq2
        rw [E_P.out, h1] at h2
        injection h2 with h2; exact h2.symm
      obtain ⟨⟨r1, s1⟩, As1, cs1⟩ := q
      obtain ⟨⟨r2, s2⟩, As2, cs2⟩ := q2
      simp only at EQ
      injection EQ with EQ1 EQ2
      subst EQ1
      subst EQ2
      have QM := Lib.hid (List.mem_of_getElem? hq)
      have PM := Lib.hid (List.mem_of_getElem? hq2)
      have HQ := Lib.hid hq
      have HQ2 := Lib.hid hq2
      clear hq hq2
      have S64 : Hid (s2.length ≤ 64) := Lib.hid (G1.out.2 _ QM.out)
      obtain ⟨ad1, x1, hA1, -, -, hx1, hc1⟩ := D1.out.rd.1.el (i := 0) (by rw [← N1.out]; exact hn1n)
      obtain ⟨ad5, x5, hA5, -, -, hx5, hc5⟩ := D_P.out.rd.1.el (i := 0) (by rw [← D_P.out.len]; exact hn1n)
      rw [HQ.out] at hx1
      injection hx1 with hx1
      subst hx1
      rw [HQ2.out] at hx5
      injection hx5 with hx5
      subst hx5
      rw [Nat.zero_mul, add_zero'] at hc1 hc5
      subst hA1
      subst hA5
      have B1K : Hid (CellsIn _ ad1 _) := Lib.hid ⟨(by obtain ⟨ad', e', hb', _⟩ := D1.out.rd.1 (by rw [← N1.out]; exact hn1n); injection e' with e'; subst e'; exact hb'), hc1⟩
      have B5K : Hid (CellsIn _ ad5 _) := Lib.hid ⟨(by obtain ⟨ad', e', hb', _⟩ := D_P.out.rd.1 (by rw [← D_P.out.len]; exact hn1n); injection e' with e'; subst e'; exact hb'), hc5⟩
      clear hc1 hc5
      obtain ⟨ra, hra⟩ : ∃ X, riseA s2 = X := ⟨_, rfl⟩
      have RA := Lib.hid hra
      clear hra
      obtain ⟨z10, z11⟩ := cl_cells B1K.out.2
      go_wp2_with (go_at_call 35; refine Hid.out ?_)
      refine Lib.hid ?_
      clear z10 z11
      refine (risingA_any As1 s2.length cs1 s2 _ rfl (D1.out.rd.2 _ QM.out) (by have := S64.out; omega)).mono ?_
      rw [RA.out]
      rintro e wn ⟨rfl, dr, hd⟩
      have y := drew_ext hd
      clear hd
      have R0 := Lib.hid (R0.out.ext y)
      have HT := Lib.hid (Utf8Tabs_below HT.out y)
      have R4 := Lib.hid (R4.out.ext y)
      have HS := Lib.hid (HS.out.ext y)
      have D1 := Lib.hid (D1.out.ext y)
      have O2 := Lib.hid (O2.out.ext y)
      have D_P := Lib.hid (D_P.out.ext y)
      have O_Y := Lib.hid (O_Y.out.ext y)
      have B1K := Lib.hid (B1K.out.ext y)
      have B5K := Lib.hid (B5K.out.ext y)
      replace hx := ext_trans hx y
      clear y
      cases ra
      · skip
        go_wp2_with (go_at_call 19; refine Hid.out ?_)
        refine Lib.hid ?_
        refine (same18D D_P.out D1.out (decide_eq_true E_P.out)).mono ?_
        rintro e wn ⟨rfl, y⟩
        have R0 := Lib.hid (R0.out.ext y)
        have HT := Lib.hid (Utf8Tabs_below HT.out y)
        have R4 := Lib.hid (R4.out.ext y)
        have HS := Lib.hid (HS.out.ext y)
        have D1 := Lib.hid (D1.out.ext y)
        have O2 := Lib.hid (O2.out.ext y)
        have D_P := Lib.hid (D_P.out.ext y)
        have O_Y := Lib.hid (O_Y.out.ext y)
        have B1K := Lib.hid (B1K.out.ext y)
        have B5K := Lib.hid (B5K.out.ext y)
        replace hx := ext_trans hx y
        clear y
        go_wp2_with (go_at_call 22; refine Hid.out ?_)
        refine Lib.hid ?_
        refine (same15D O_Y.out.at_ O2.out.at_ (decide_eq_true E_Y.out)).mono ?_
        rintro e wn ⟨rfl, y⟩
        have R0 := Lib.hid (R0.out.ext y)
        have HT := Lib.hid (Utf8Tabs_below HT.out y)
        have R4 := Lib.hid (R4.out.ext y)
        have HS := Lib.hid (HS.out.ext y)
        have D1 := Lib.hid (D1.out.ext y)
        have O2 := Lib.hid (O2.out.ext y)
        have D_P := Lib.hid (D_P.out.ext y)
        have O_Y := Lib.hid (O_Y.out.ext y)
        have B1K := Lib.hid (B1K.out.ext y)
        have B5K := Lib.hid (B5K.out.ext y)
        replace hx := ext_trans hx y
        clear y
        go_wp2_with (go_at_call 31; refine Hid.out ?_)
        refine Lib.hid ?_
        refine (known19_any _ HT.out).mono ?_
        rintro e w2 ⟨rfl, y⟩
        replace hx := ext_trans hx y
        go_wp2_with (fail)
        go_ret
        exact ⟨rfl, hx⟩
      obtain ⟨rc, hrc⟩ : ∃ X, riseC l4 = X := ⟨_, rfl⟩
      have RC := Lib.hid hrc
      clear hrc
      go_wp2_with (go_at_call 36; refine Hid.out ?_)
      refine Lib.hid ?_
      refine (risingC_any A4 n4 c4 l4 _ N4.out R4.out (by have := B4.out; omega)).mono ?_
      rw [RC.out]
      rintro e wn ⟨rfl, dr, hd⟩
      have y := drew_ext hd
      clear hd
      have R0 := Lib.hid (R0.out.ext y)
      have HT := Lib.hid (Utf8Tabs_below HT.out y)
      have R4 := Lib.hid (R4.out.ext y)
      have HS := Lib.hid (HS.out.ext y)
      have D1 := Lib.hid (D1.out.ext y)
      have O2 := Lib.hid (O2.out.ext y)
      have D_P := Lib.hid (D_P.out.ext y)
      have O_Y := Lib.hid (O_Y.out.ext y)
      have B1K := Lib.hid (B1K.out.ext y)
      have B5K := Lib.hid (B5K.out.ext y)
      replace hx := ext_trans hx y
      clear y
      cases rc
      · skip
        go_wp2_with (go_at_call 19; refine Hid.out ?_)
        refine Lib.hid ?_
        refine (same18D D_P.out D1.out (decide_eq_true E_P.out)).mono ?_
        rintro e wn ⟨rfl, y⟩
        have R0 := Lib.hid (R0.out.ext y)
        have HT := Lib.hid (Utf8Tabs_below HT.out y)
        have R4 := Lib.hid (R4.out.ext y)
        have HS := Lib.hid (HS.out.ext y)
        have D1 := Lib.hid (D1.out.ext y)
        have O2 := Lib.hid (O2.out.ext y)
        have D_P := Lib.hid (D_P.out.ext y)
        have O_Y := Lib.hid (O_Y.out.ext y)
        have B1K := Lib.hid (B1K.out.ext y)
        have B5K := Lib.hid (B5K.out.ext y)
        replace hx := ext_trans hx y
        clear y
        go_wp2_with (go_at_call 22; refine Hid.out ?_)
        refine Lib.hid ?_
        refine (same15D O_Y.out.at_ O2.out.at_ (decide_eq_true E_Y.out)).mono ?_
        rintro e wn ⟨rfl, y⟩
        have R0 := Lib.hid (R0.out.ext y)
        have HT := Lib.hid (Utf8Tabs_below HT.out y)
        have R4 := Lib.hid (R4.out.ext y)
        have HS := Lib.hid (HS.out.ext y)
        have D1 := Lib.hid (D1.out.ext y)
        have O2 := Lib.hid (O2.out.ext y)
        have D_P := Lib.hid (D_P.out.ext y)
        have O_Y := Lib.hid (O_Y.out.ext y)
        have B1K := Lib.hid (B1K.out.ext y)
        have B5K := Lib.hid (B5K.out.ext y)
        replace hx := ext_trans hx y
        clear y
        go_wp2_with (go_at_call 31; refine Hid.out ?_)
        refine Lib.hid ?_
        refine (known19_any _ HT.out).mono ?_
        rintro e w2 ⟨rfl, y⟩
        replace hx := ext_trans hx y
        go_wp2_with (fail)
        go_ret
        exact ⟨rfl, hx⟩
      obtain ⟨X, hX⟩ : ∃ X, (actC l0 ⟨r2, s2⟩ l4).s = X := ⟨_, rfl⟩
      have HX := Lib.hid hX
      have XL : Hid (X.length ≤ 1000) := Lib.hid (by
        rw [← hX]
        have h := apply_len2 (partP l0 (r2 == 10) l4) s2
        have h2 : (partP l0 (r2 == 10) l4).length ≤ l4.length := List.length_filter_le _ _
        have := S64.out; have := B4.out; have := N4.out
        show (applyP (partP l0 (r2 == 10) l4) s2).length ≤ _
        omega)
      clear hX
      obtain ⟨z50, z51⟩ := cl_cells B5K.out.2
      go_wp2_with (go_at_call 37; refine Hid.out ?_)
      refine Lib.hid ?_
      clear z50 z51
      refine (cell_any s l0 r2 As2 A4 s2.length cs2 n4 c4 s2 l4 _ HS.out rfl N4.out (D_P.out.rd.2 _ PM.out) R4.out (by have := S64.out; omega) (by have := B4.out; omega) (D_P.out.caps _ PM.out).1 (D_P.out.caps _ PM.out).2).mono ?_
      rw [HX.out]
      rintro e wn ⟨A8, c8, rfl, o8, y⟩
      have R0 := Lib.hid (R0.out.ext y)
      have HT := Lib.hid (Utf8Tabs_below HT.out y)
      have R4 := Lib.hid (R4.out.ext y)
      have HS := Lib.hid (HS.out.ext y)
      have D1 := Lib.hid (D1.out.ext y)
      have O2 := Lib.hid (O2.out.ext y)
      have D_P := Lib.hid (D_P.out.ext y)
      have O_Y := Lib.hid (O_Y.out.ext y)
      have B1K := Lib.hid (B1K.out.ext y)
      have B5K := Lib.hid (B5K.out.ext y)
      replace hx := ext_trans hx y
      have W8 : Hid (RdAt _ _ A8 X) := Lib.hid (o8.rd At.enc_len)
      clear y o8
      have y := ext_alloc wn (.cells #[.int .i32 r2, .slice A8 X.length c8] 38)
      have X8 : Hid (_ = _) := Lib.hid (heap_alloc_new wn (.cells #[.int .i32 r2, .slice A8 X.length c8] 38))
      have R0 := Lib.hid (R0.out.ext y)
      have HT := Lib.hid (Utf8Tabs_below HT.out y)
      have R4 := Lib.hid (R4.out.ext y)
      have HS := Lib.hid (HS.out.ext y)
      have D1 := Lib.hid (D1.out.ext y)
      have O2 := Lib.hid (O2.out.ext y)
      have D_P := Lib.hid (D_P.out.ext y)
      have O_Y := Lib.hid (O_Y.out.ext y)
      have B1K := Lib.hid (B1K.out.ext y)
      have B5K := Lib.hid (B5K.out.ext y)
      have W8 := Lib.hid (W8.out.ext y)
      replace hx := ext_trans hx y
      clear y
      obtain ⟨z10, z11⟩ := cl_cells B1K.out.2
      go_wp2_with (go_at_call 38; refine Hid.out ?_)
      refine Lib.hid ?_
      clear z10 z11
      refine (cell19_any A0 n0 c0 l0 r2 As1 A4 s2.length cs1 n4 c4 s2 l4 _ N0.out R0.out (by omega) rfl N4.out (D1.out.rd.2 _ QM.out) R4.out (by have := S64.out; omega) (by have := B4.out; omega) RA.out RC.out).mono ?_
      rw [HX.out]
      rintro e w2 ⟨A9, c9, rfl, o9, y⟩
      have R0 := Lib.hid (R0.out.ext y)
      have HT := Lib.hid (Utf8Tabs_below HT.out y)
      have R4 := Lib.hid (R4.out.ext y)
      have HS := Lib.hid (HS.out.ext y)
      have D1 := Lib.hid (D1.out.ext y)
      have O2 := Lib.hid (O2.out.ext y)
      have D_P := Lib.hid (D_P.out.ext y)
      have O_Y := Lib.hid (O_Y.out.ext y)
      have B1K := Lib.hid (B1K.out.ext y)
      have B5K := Lib.hid (B5K.out.ext y)
      have W8 := Lib.hid (W8.out.ext y)
      have X8 := Lib.hid ((y.block _ (lt_of_some X8.out)).trans X8.out)
      replace hx := ext_trans hx y
      have W9 : Hid (RdAt _ _ A9 X) := Lib.hid (o9.rd At.enc_len)
      clear y o9
      have y := ext_alloc w2 (.cells #[.int .i32 r2, .slice A9 X.length c9] 38)
      have X9 : Hid (_ = _) := Lib.hid (heap_alloc_new w2 (.cells #[.int .i32 r2, .slice A9 X.length c9] 38))
      have R0 := Lib.hid (R0.out.ext y)
      have HT := Lib.hid (Utf8Tabs_below HT.out y)
      have R4 := Lib.hid (R4.out.ext y)
      have HS := Lib.hid (HS.out.ext y)
      have D1 := Lib.hid (D1.out.ext y)
      have O2 := Lib.hid (O2.out.ext y)
      have D_P := Lib.hid (D_P.out.ext y)
      have O_Y := Lib.hid (O_Y.out.ext y)
      have B1K := Lib.hid (B1K.out.ext y)
      have B5K := Lib.hid (B5K.out.ext y)
      have W8 := Lib.hid (W8.out.ext y)
      have X8 := Lib.hid ((y.block _ (lt_of_some X8.out)).trans X8.out)
      have W9 := Lib.hid (W9.out.ext y)
      replace hx := ext_trans hx y
      clear y
      obtain ⟨u0, u1⟩ := box_cl X8.out
      obtain ⟨t0, t1⟩ := box_cl X9.out
      have hr2 : (r2 != r2) = false := by simp
      have hr2' : (r2 == r2) = true := by simp
      go_wp2_with (go_at_call 39; refine Hid.out ?_)
      refine Lib.hid ?_
      clear u0 u1 t0 t1
      refine (sameA_any A8 A9 X.length X.length c8 c9 X X _ rfl rfl W8.out W9.out (by have := XL.out; omega) (by have := XL.out; omega)).mono ?_
      rw [decide_eq_true rfl]
      rintro e wn ⟨rfl, dr, hd⟩
      have y := drew_ext hd
      clear hd
      have R0 := Lib.hid (R0.out.ext y)
      have HT := Lib.hid (Utf8Tabs_below HT.out y)
      have R4 := Lib.hid (R4.out.ext y)
      have HS := Lib.hid (HS.out.ext y)
      have D1 := Lib.hid (D1.out.ext y)
      have O2 := Lib.hid (O2.out.ext y)
      have D_P := Lib.hid (D_P.out.ext y)
      have O_Y := Lib.hid (O_Y.out.ext y)
      have B1K := Lib.hid (B1K.out.ext y)
      have B5K := Lib.hid (B5K.out.ext y)
      have W8 := Lib.hid (W8.out.ext y)
      have X8 := Lib.hid ((y.block _ (lt_of_some X8.out)).trans X8.out)
      have W9 := Lib.hid (W9.out.ext y)
      have X9 := Lib.hid ((y.block _ (lt_of_some X9.out)).trans X9.out)
      replace hx := ext_trans hx y
      clear y
      go_wp2_with (go_at_call 19; refine Hid.out ?_)
      refine Lib.hid ?_
      refine (same18D D_P.out D1.out (decide_eq_true E_P.out)).mono ?_
      rintro e wn ⟨rfl, y⟩
      have R0 := Lib.hid (R0.out.ext y)
      have HT := Lib.hid (Utf8Tabs_below HT.out y)
      have R4 := Lib.hid (R4.out.ext y)
      have HS := Lib.hid (HS.out.ext y)
      have D1 := Lib.hid (D1.out.ext y)
      have O2 := Lib.hid (O2.out.ext y)
      have D_P := Lib.hid (D_P.out.ext y)
      have O_Y := Lib.hid (O_Y.out.ext y)
      have B1K := Lib.hid (B1K.out.ext y)
      have B5K := Lib.hid (B5K.out.ext y)
      have W8 := Lib.hid (W8.out.ext y)
      have X8 := Lib.hid ((y.block _ (lt_of_some X8.out)).trans X8.out)
      have W9 := Lib.hid (W9.out.ext y)
      have X9 := Lib.hid ((y.block _ (lt_of_some X9.out)).trans X9.out)
      replace hx := ext_trans hx y
      clear y
      go_wp2_with (go_at_call 22; refine Hid.out ?_)
      refine Lib.hid ?_
      refine (same15D O_Y.out.at_ O2.out.at_ (decide_eq_true E_Y.out)).mono ?_
      rintro e wn ⟨rfl, y⟩
      have R0 := Lib.hid (R0.out.ext y)
      have HT := Lib.hid (Utf8Tabs_below HT.out y)
      have R4 := Lib.hid (R4.out.ext y)
      have HS := Lib.hid (HS.out.ext y)
      have D1 := Lib.hid (D1.out.ext y)
      have O2 := Lib.hid (O2.out.ext y)
      have D_P := Lib.hid (D_P.out.ext y)
      have O_Y := Lib.hid (O_Y.out.ext y)
      have B1K := Lib.hid (B1K.out.ext y)
      have B5K := Lib.hid (B5K.out.ext y)
      have W8 := Lib.hid (W8.out.ext y)
      have X8 := Lib.hid ((y.block _ (lt_of_some X8.out)).trans X8.out)
      have W9 := Lib.hid (W9.out.ext y)
      have X9 := Lib.hid ((y.block _ (lt_of_some X9.out)).trans X9.out)
      replace hx := ext_trans hx y
      clear y
      go_wp2_with (go_at_call 31; refine Hid.out ?_)
      refine Lib.hid ?_
      refine (known19_any _ HT.out).mono ?_
      rintro e w2 ⟨rfl, y⟩
      replace hx := ext_trans hx y
      go_wp2_with (fail)
      go_ret
      exact ⟨rfl, hx⟩
  go_wp2_with (go_at_call 33; refine Hid.out ?_)
  refine Lib.hid ?_
  refine (applyBad D_P.out O_Y.out.at_ HS.out HT.out HR2.out h0).mono ?_
  rintro e wn ⟨rfl, y⟩
  have R0 := Lib.hid (R0.out.ext y)
  have HT := Lib.hid (Utf8Tabs_below HT.out y)
  have R4 := Lib.hid (R4.out.ext y)
  have HS := Lib.hid (HS.out.ext y)
  have D1 := Lib.hid (D1.out.ext y)
  have O2 := Lib.hid (O2.out.ext y)
  have D_P := Lib.hid (D_P.out.ext y)
  have O_Y := Lib.hid (O_Y.out.ext y)
  replace hx := ext_trans hx y
  clear y
  go_wp2_with (go_at_call 34; refine Hid.out ?_)
  refine Lib.hid ?_
  refine (apply19Bad N0.out R0.out (by omega) D1.out O2.out.at_ T1.out (by have := SZ.out; omega) HT.out HR.out h0).mono ?_
  rintro e wn ⟨rfl, y⟩
  have R0 := Lib.hid (R0.out.ext y)
  have HT := Lib.hid (Utf8Tabs_below HT.out y)
  have R4 := Lib.hid (R4.out.ext y)
  have HS := Lib.hid (HS.out.ext y)
  have D1 := Lib.hid (D1.out.ext y)
  have O2 := Lib.hid (O2.out.ext y)
  have D_P := Lib.hid (D_P.out.ext y)
  have O_Y := Lib.hid (O_Y.out.ext y)
  replace hx := ext_trans hx y
  clear y
  have ND : Hid (DocAt wn none 0 0 []) := Lib.hid ⟨⟨Rd.nil, fun z hz => by cases hz⟩, rfl, Nat.le_refl _, (fun z hz => by cases hz), (fun z hz => by cases hz), by omega⟩
  go_wp2_with (go_at_call 19; refine Hid.out ?_)
  refine Lib.hid ?_
  refine (same18D ND.out ND.out (decide_eq_true rfl)).mono ?_
  rintro e wn ⟨rfl, y⟩
  have R0 := Lib.hid (R0.out.ext y)
  have HT := Lib.hid (Utf8Tabs_below HT.out y)
  have R4 := Lib.hid (R4.out.ext y)
  have HS := Lib.hid (HS.out.ext y)
  have D1 := Lib.hid (D1.out.ext y)
  have O2 := Lib.hid (O2.out.ext y)
  have D_P := Lib.hid (D_P.out.ext y)
  have O_Y := Lib.hid (O_Y.out.ext y)
  replace hx := ext_trans hx y
  clear y
  clear ND h0
  obtain ⟨wq, hwq⟩ : ∃ X, X = wn := ⟨_, rfl⟩
  subst hwq
  go_wp2_with (fail)
  go_loopg [78] 0 (fun g iv wr => iv = .int .i64 0 ∧ wr = wq)
  case atStart => exact ⟨rfl, rfl⟩
  case round =>
    obtain ⟨rfl, rfl⟩ := hrel
    obtain ⟨wn, hwq⟩ : ∃ X, X = wr := ⟨_, rfl⟩
    subst hwq
    by_cases hn1 : n1 = 0
    · skip
      have hn1' : ¬ (0 : Int) < (n1 : Int) := by omega
      clear hn1
      go_wp2_with (go_at_call 19; refine Hid.out ?_)
      refine Lib.hid ?_
      refine (same18D D_P.out D1.out (decide_eq_true E_P.out)).mono ?_
      rintro e wn ⟨rfl, y⟩
      have R0 := Lib.hid (R0.out.ext y)
      have HT := Lib.hid (Utf8Tabs_below HT.out y)
      have R4 := Lib.hid (R4.out.ext y)
      have HS := Lib.hid (HS.out.ext y)
      have D1 := Lib.hid (D1.out.ext y)
      have O2 := Lib.hid (O2.out.ext y)
      have D_P := Lib.hid (D_P.out.ext y)
      have O_Y := Lib.hid (O_Y.out.ext y)
      replace hx := ext_trans hx y
      clear y
      go_wp2_with (go_at_call 22; refine Hid.out ?_)
      refine Lib.hid ?_
      refine (same15D O_Y.out.at_ O2.out.at_ (decide_eq_true E_Y.out)).mono ?_
      rintro e wn ⟨rfl, y⟩
      have R0 := Lib.hid (R0.out.ext y)
      have HT := Lib.hid (Utf8Tabs_below HT.out y)
      have R4 := Lib.hid (R4.out.ext y)
      have HS := Lib.hid (HS.out.ext y)
      have D1 := Lib.hid (D1.out.ext y)
      have O2 := Lib.hid (O2.out.ext y)
      have D_P := Lib.hid (D_P.out.ext y)
      have O_Y := Lib.hid (O_Y.out.ext y)
      replace hx := ext_trans hx y
      clear y
      go_wp2_with (go_at_call 31; refine Hid.out ?_)
      refine Lib.hid ?_
      refine (known19_any _ HT.out).mono ?_
      rintro e w2 ⟨rfl, y⟩
      replace hx := ext_trans hx y
      go_wp2_with (fail)
      go_ret
      exact ⟨rfl, hx⟩
    have hn1' : (0 : Int) < (n1 : Int) := by omega
    have hn1n : 0 < n1 := by omega
    clear hn1
    obtain ⟨q, hq⟩ : ∃ q, d[0]? = some q := ⟨d[0]'(by rw [← N1.out]; exact hn1n), List.getElem?_eq_getElem _⟩
    obtain ⟨q2, hq2⟩ : ∃ q, P[0]? = some q := ⟨P[0]'(by rw [← D_P.out.len]; exact hn1n), List.getElem?_eq_getElem _⟩
    have EQ : q2.c = q.c := by
      have h1 := clsOf_at hq
      have h2 := clsOf_at hq2
      rw [E_P.out, h1] at h2
      injection h2 with h2; exact h2.symm
    obtain ⟨⟨r1, s1⟩, As1, cs1⟩ := q
    obtain ⟨⟨r2, s2⟩, As2, cs2⟩ := q2
    simp only at EQ
    injection EQ with EQ1 EQ2
    subst EQ1
    subst EQ2
    have QM := Lib.hid (List.mem_of_getElem? hq)
    have PM := Lib.hid (List.mem_of_getElem? hq2)
    have HQ := Lib.hid hq
    have HQ2 := Lib.hid hq2
    clear hq hq2
    have S64 : Hid (s2.length ≤ 64) := Lib.hid (G1.out.2 _ QM.out)
    obtain ⟨ad1, x1, hA1, -, -, hx1, hc1⟩ := D1.out.rd.1.el (i := 0) (by rw [← N1.out]; exact hn1n)
    obtain ⟨ad5, x5, hA5, -, -, hx5, hc5⟩ := D_P.out.rd.1.el (i := 0) (by rw [← D_P.out.len]; exact hn1n)
    rw [HQ.out] at hx1
    injection hx1 with hx1
    subst hx1
    rw [HQ2.out] at hx5
    injection hx5 with hx5
    subst hx5
    rw [Nat.zero_mul, add_zero'] at hc1 hc5
    subst hA1
    subst hA5
    have B1K : Hid (CellsIn _ ad1 _) := Lib.hid ⟨(by obtain ⟨ad', e', hb', _⟩ := D1.out.rd.1 (by rw [← N1.out]; exact hn1n); injection e' with e'; subst e'; exact hb'), hc1⟩
    have B5K : Hid (CellsIn _ ad5 _) := Lib.hid ⟨(by obtain ⟨ad', e', hb', _⟩ := D_P.out.rd.1 (by rw [← D_P.out.len]; exact hn1n); injection e' with e'; subst e'; exact hb'), hc5⟩
    clear hc1 hc5
    obtain ⟨ra, hra⟩ : ∃ X, riseA s2 = X := ⟨_, rfl⟩
    have RA := Lib.hid hra
    clear hra
    obtain ⟨z10, z11⟩ := cl_cells B1K.out.2
    go_wp2_with (go_at_call 35; refine Hid.out ?_)
    refine Lib.hid ?_
    clear z10 z11
    refine (risingA_any As1 s2.length cs1 s2 _ rfl (D1.out.rd.2 _ QM.out) (by have := S64.out; omega)).mono ?_
    rw [RA.out]
    rintro e wn ⟨rfl, dr, hd⟩
    have y := drew_ext hd
    clear hd
    have R0 := Lib.hid (R0.out.ext y)
    have HT := Lib.hid (Utf8Tabs_below HT.out y)
    have R4 := Lib.hid (R4.out.ext y)
    have HS := Lib.hid (HS.out.ext y)
    have D1 := Lib.hid (D1.out.ext y)
    have O2 := Lib.hid (O2.out.ext y)
    have D_P := Lib.hid (D_P.out.ext y)
    have O_Y := Lib.hid (O_Y.out.ext y)
    have B1K := Lib.hid (B1K.out.ext y)
    have B5K := Lib.hid (B5K.out.ext y)
    replace hx := ext_trans hx y
    clear y
    cases ra
    · skip
      go_wp2_with (go_at_call 19; refine Hid.out ?_)
      refine Lib.hid ?_
      refine (same18D D_P.out D1.out (decide_eq_true E_P.out)).mono ?_
      rintro e wn ⟨rfl, y⟩
      have R0 := Lib.hid (R0.out.ext y)
      have HT := Lib.hid (Utf8Tabs_below HT.out y)
      have R4 := Lib.hid (R4.out.ext y)
      have HS := Lib.hid (HS.out.ext y)
      have D1 := Lib.hid (D1.out.ext y)
      have O2 := Lib.hid (O2.out.ext y)
      have D_P := Lib.hid (D_P.out.ext y)
      have O_Y := Lib.hid (O_Y.out.ext y)
      have B1K := Lib.hid (B1K.out.ext y)
      have B5K := Lib.hid (B5K.out.ext y)
      replace hx := ext_trans hx y
      clear y
      go_wp2_with (go_at_call 22; refine Hid.out ?_)
      refine Lib.hid ?_
      refine (same15D O_Y.out.at_ O2.out.at_ (decide_eq_true E_Y.out)).mono ?_
      rintro e wn ⟨rfl, y⟩
      have R0 := Lib.hid (R0.out.ext y)
      have HT := Lib.hid (Utf8Tabs_below HT.out y)
      have R4 := Lib.hid (R4.out.ext y)
      have HS := Lib.hid (HS.out.ext y)
      have D1 := Lib.hid (D1.out.ext y)
      have O2 := Lib.hid (O2.out.ext y)
      have D_P := Lib.hid (D_P.out.ext y)
      have O_Y := Lib.hid (O_Y.out.ext y)
      have B1K := Lib.hid (B1K.out.ext y)
      have B5K := Lib.hid (B5K.out.ext y)
      replace hx := ext_trans hx y
      clear y
      go_wp2_with (go_at_call 31; refine Hid.out ?_)
      refine Lib.hid ?_
      refine (known19_any _ HT.out).mono ?_
      rintro e w2 ⟨rfl, y⟩
      replace hx := ext_trans hx y
      go_wp2_with (fail)
      go_ret
      exact ⟨rfl, hx⟩
    obtain ⟨rc, hrc⟩ : ∃ X, riseC l4 = X := ⟨_, rfl⟩
    have RC := Lib.hid hrc
    clear hrc
    go_wp2_with (go_at_call 36; refine Hid.out ?_)
    refine Lib.hid ?_
    refine (risingC_any A4 n4 c4 l4 _ N4.out R4.out (by have := B4.out; omega)).mono ?_
    rw [RC.out]
    rintro e wn ⟨rfl, dr, hd⟩
    have y := drew_ext hd
    clear hd
    have R0 := Lib.hid (R0.out.ext y)
    have HT := Lib.hid (Utf8Tabs_below HT.out y)
    have R4 := Lib.hid (R4.out.ext y)
    have HS := Lib.hid (HS.out.ext y)
    have D1 := Lib.hid (D1.out.ext y)
    have O2 := Lib.hid (O2.out.ext y)
    have D_P := Lib.hid (D_P.out.ext y)
    have O_Y := Lib.hid (O_Y.out.ext y)
    have B1K := Lib.hid (B1K.out.ext y)
    have B5K := Lib.hid (B5K.out.ext y)
    replace hx := ext_trans hx y
    clear y
    cases rc
    · skip
      go_wp2_with (go_at_call 19; refine Hid.out ?_)
      refine Lib.hid ?_
      refine (same18D D_P.out D1.out (decide_eq_true E_P.out)).mono ?_
      rintro e wn ⟨rfl, y⟩
      have R0 := Lib.hid (R0.out.ext y)
      have HT := Lib.hid (Utf8Tabs_below HT.out y)
      have R4 := Lib.hid (R4.out.ext y)
      have HS := Lib.hid (HS.out.ext y)
      have D1 := Lib.hid (D1.out.ext y)
      have O2 := Lib.hid (O2.out.ext y)
      have D_P := Lib.hid (D_P.out.ext y)
      have O_Y := Lib.hid (O_Y.out.ext y)
      have B1K := Lib.hid (B1K.out.ext y)
      have B5K := Lib.hid (B5K.out.ext y)
      replace hx := ext_trans hx y
      clear y
      go_wp2_with (go_at_call 22; refine Hid.out ?_)
      refine Lib.hid ?_
      refine (same15D O_Y.out.at_ O2.out.at_ (decide_eq_true E_Y.out)).mono ?_
      rintro e wn ⟨rfl, y⟩
      have R0 := Lib.hid (R0.out.ext y)
      have HT := Lib.hid (Utf8Tabs_below HT.out y)
      have R4 := Lib.hid (R4.out.ext y)
      have HS := Lib.hid (HS.out.ext y)
      have D1 := Lib.hid (D1.out.ext y)
      have O2 := Lib.hid (O2.out.ext y)
      have D_P := Lib.hid (D_P.out.ext y)
      have O_Y := Lib.hid (O_Y.out.ext y)
      have B1K := Lib.hid (B1K.out.ext y)
      have B5K := Lib.hid (B5K.out.ext y)
      replace hx := ext_trans hx y
      clear y
      go_wp2_with (go_at_call 31; refine Hid.out ?_)
      refine Lib.hid ?_
      refine (known19_any _ HT.out).mono ?_
      rintro e w2 ⟨rfl, y⟩
      replace hx := ext_trans hx y
      go_wp2_with (fail)
      go_ret
      exact ⟨rfl, hx⟩
    obtain ⟨X, hX⟩ : ∃ X, (actC l0 ⟨r2, s2⟩ l4).s = X := ⟨_, rfl⟩
    have HX := Lib.hid hX
    have XL : Hid (X.length ≤ 1000) := Lib.hid (by
      rw [← hX]
      have h := apply_len2 (partP l0 (r2 == 10) l4) s2
      have h2 : (partP l0 (r2 == 10) l4).length ≤ l4.length := List.length_filter_le _ _
      have := S64.out; have := B4.out; have := N4.out
      show (applyP (partP l0 (r2 == 10) l4) s2).length ≤ _
      omega)
    clear hX
    obtain ⟨z50, z51⟩ := cl_cells B5K.out.2
    go_wp2_with (go_at_call 37; refine Hid.out ?_)
    refine Lib.hid ?_
    clear z50 z51
    refine (cell_any s l0 r2 As2 A4 s2.length cs2 n4 c4 s2 l4 _ HS.out rfl N4.out (D_P.out.rd.2 _ PM.out) R4.out (by have := S64.out; omega) (by have := B4.out; omega) (D_P.out.caps _ PM.out).1 (D_P.out.caps _ PM.out).2).mono ?_
    rw [HX.out]
    rintro e wn ⟨A8, c8, rfl, o8, y⟩
    have R0 := Lib.hid (R0.out.ext y)
    have HT := Lib.hid (Utf8Tabs_below HT.out y)
    have R4 := Lib.hid (R4.out.ext y)
    have HS := Lib.hid (HS.out.ext y)
    have D1 := Lib.hid (D1.out.ext y)
    have O2 := Lib.hid (O2.out.ext y)
    have D_P := Lib.hid (D_P.out.ext y)
    have O_Y := Lib.hid (O_Y.out.ext y)
    have B1K := Lib.hid (B1K.out.ext y)
    have B5K := Lib.hid (B5K.out.ext y)
    replace hx := ext_trans hx y
    have W8 : Hid (RdAt _ _ A8 X) := Lib.hid (o8.rd At.enc_len)
    clear y o8
    have y := ext_alloc wn (.cells #[.int .i32 r2, .slice A8 X.length c8] 38)
    have X8 : Hid (_ = _) := Lib.hid (heap_alloc_new wn (.cells #[.int .i32 r2, .slice A8 X.length c8] 38))
    have R0 := Lib.hid (R0.out.ext y)
    have HT := Lib.hid (Utf8Tabs_below HT.out y)
    have R4 := Lib.hid (R4.out.ext y)
    have HS := Lib.hid (HS.out.ext y)
    have D1 := Lib.hid (D1.out.ext y)
    have O2 := Lib.hid (O2.out.ext y)
    have D_P := Lib.hid (D_P.out.ext y)
    have O_Y := Lib.hid (O_Y.out.ext y)
    have B1K := Lib.hid (B1K.out.ext y)
    have B5K := Lib.hid (B5K.out.ext y)
    have W8 := Lib.hid (W8.out.ext y)
    replace hx := ext_trans hx y
    clear y
    obtain ⟨z10, z11⟩ := cl_cells B1K.out.2
    go_wp2_with (go_at_call 38; refine Hid.out ?_)
    refine Lib.hid ?_
    clear z10 z11
    refine (cell19_any A0 n0 c0 l0 r2 As1 A4 s2.length cs1 n4 c4 s2 l4 _ N0.out R0.out (by omega) rfl N4.out (D1.out.rd.2 _ QM.out) R4.out (by have := S64.out; omega) (by have := B4.out; omega) RA.out RC.out).mono ?_
    rw [HX.out]
    rintro e w2 ⟨A9, c9, rfl, o9, y⟩
    have R0 := Lib.hid (R0.out.ext y)
    have HT := Lib.hid (Utf8Tabs_below HT.out y)
    have R4 := Lib.hid (R4.out.ext y)
    have HS := Lib.hid (HS.out.ext y)
    have D1 := Lib.hid (D1.out.ext y)
    have O2 := Lib.hid (O2.out.ext y)
    have D_P := Lib.hid (D_P.out.ext y)
    have O_Y := Lib.hid (O_Y.out.ext y)
    have B1K := Lib.hid (B1K.out.ext y)
    have B5K := Lib.hid (B5K.out.ext y)
    have W8 := Lib.hid (W8.out.ext y)
    have X8 := Lib.hid ((y.block _ (lt_of_some X8.out)).trans X8.out)
    replace hx := ext_trans hx y
    have W9 : Hid (RdAt _ _ A9 X) := Lib.hid (o9.rd At.enc_len)
    clear y o9
    have y := ext_alloc w2 (.cells #[.int .i32 r2, .slice A9 X.length c9] 38)
    have X9 : Hid (_ = _) := Lib.hid (heap_alloc_new w2 (.cells #[.int .i32 r2, .slice A9 X.length c9] 38))
    have R0 := Lib.hid (R0.out.ext y)
    have HT := Lib.hid (Utf8Tabs_below HT.out y)
    have R4 := Lib.hid (R4.out.ext y)
    have HS := Lib.hid (HS.out.ext y)
    have D1 := Lib.hid (D1.out.ext y)
    have O2 := Lib.hid (O2.out.ext y)
    have D_P := Lib.hid (D_P.out.ext y)
    have O_Y := Lib.hid (O_Y.out.ext y)
    have B1K := Lib.hid (B1K.out.ext y)
    have B5K := Lib.hid (B5K.out.ext y)
    have W8 := Lib.hid (W8.out.ext y)
    have X8 := Lib.hid ((y.block _ (lt_of_some X8.out)).trans X8.out)
    have W9 := Lib.hid (W9.out.ext y)
    replace hx := ext_trans hx y
    clear y
    obtain ⟨u0, u1⟩ := box_cl X8.out
    obtain ⟨t0, t1⟩ := box_cl X9.out
    have hr2 : (r2 != r2) = false := by simp
    have hr2' : (r2 == r2) = true := by simp
    go_wp2_with (go_at_call 39; refine Hid.out ?_)
    refine Lib.hid ?_
    clear u0 u1 t0 t1
    refine (sameA_any A8 A9 X.length X.length c8 c9 X X _ rfl rfl W8.out W9.out (by have := XL.out; omega) (by have := XL.out; omega)).mono ?_
    rw [decide_eq_true rfl]
    rintro e wn ⟨rfl, dr, hd⟩
    have y := drew_ext hd
    clear hd
    have R0 := Lib.hid (R0.out.ext y)
    have HT := Lib.hid (Utf8Tabs_below HT.out y)
    have R4 := Lib.hid (R4.out.ext y)
    have HS := Lib.hid (HS.out.ext y)
    have D1 := Lib.hid (D1.out.ext y)
    have O2 := Lib.hid (O2.out.ext y)
    have D_P := Lib.hid (D_P.out.ext y)
    have O_Y := Lib.hid (O_Y.out.ext y)
    have B1K := Lib.hid (B1K.out.ext y)
    have B5K := Lib.hid (B5K.out.ext y)
    have W8 := Lib.hid (W8.out.ext y)
    have X8 := Lib.hid ((y.block _ (lt_of_some X8.out)).trans X8.out)
    have W9 := Lib.hid (W9.out.ext y)
    have X9 := Lib.hid ((y.block _ (lt_of_some X9.out)).trans X9.out)
    replace hx := ext_trans hx y
    clear y
    go_wp2_with (go_at_call 19; refine Hid.out ?_)
    refine Lib.hid ?_
    refine (same18D D_P.out D1.out (decide_eq_true E_P.out)).mono ?_
    rintro e wn ⟨rfl, y⟩
    have R0 := Lib.hid (R0.out.ext y)
    have HT := Lib.hid (Utf8Tabs_below HT.out y)
    have R4 := Lib.hid (R4.out.ext y)
    have HS := Lib.hid (HS.out.ext y)
    have D1 := Lib.hid (D1.out.ext y)
    have O2 := Lib.hid (O2.out.ext y)
    have D_P := Lib.hid (D_P.out.ext y)
    have O_Y := Lib.hid (O_Y.out.ext y)
    have B1K := Lib.hid (B1K.out.ext y)
    have B5K := Lib.hid (B5K.out.ext y)
    have W8 := Lib.hid (W8.out.ext y)
    have X8 := Lib.hid ((y.block _ (lt_of_some X8.out)).trans X8.out)
    have W9 := Lib.hid (W9.out.ext y)
    have X9 := Lib.hid ((y.block _ (lt_of_some X9.out)).trans X9.out)
    replace hx := ext_trans hx y
    clear y
    go_wp2_with (go_at_call 22; refine Hid.out ?_)
    refine Lib.hid ?_
    refine (same15D O_Y.out.at_ O2.out.at_ (decide_eq_true E_Y.out)).mono ?_
    rintro e wn ⟨rfl, y⟩
    have R0 := Lib.hid (R0.out.ext y)
    have HT := Lib.hid (Utf8Tabs_below HT.out y)
    have R4 := Lib.hid (R4.out.ext y)
    have HS := Lib.hid (HS.out.ext y)
    have D1 := Lib.hid (D1.out.ext y)
    have O2 := Lib.hid (O2.out.ext y)
    have D_P := Lib.hid (D_P.out.ext y)
    have O_Y := Lib.hid (O_Y.out.ext y)
    have B1K := Lib.hid (B1K.out.ext y)
    have B5K := Lib.hid (B5K.out.ext y)
    have W8 := Lib.hid (W8.out.ext y)
    have X8 := Lib.hid ((y.block _ (lt_of_some X8.out)).trans X8.out)
    have W9 := Lib.hid (W9.out.ext y)
    have X9 := Lib.hid ((y.block _ (lt_of_some X9.out)).trans X9.out)
    replace hx := ext_trans hx y
    clear y
    go_wp2_with (go_at_call 31; refine Hid.out ?_)
    refine Lib.hid ?_
    refine (known19_any _ HT.out).mono ?_
    rintro e w2 ⟨rfl, y⟩
    replace hx := ext_trans hx y
    go_wp2_with (fail)
    go_ret
    exact ⟨rfl, hx⟩
end Go.Proofs.YtfnkjcodcoehcaaGreatDoor
