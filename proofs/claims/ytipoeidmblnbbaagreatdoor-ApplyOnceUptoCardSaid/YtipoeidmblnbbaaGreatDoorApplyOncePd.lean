/- The walk of rubriclaw19.ApplyOnce. Printed by wip/gen_r4z.py. -/
import Derived.Test.YtipoeidmblnbbaaGreatDoorPk26
import Derived.Test.YtipoeidmblnbbaaGreatDoorPk30
import Derived.Test.YtipoeidmblnbbaaGreatDoorPk31
import Derived.Test.YtipoeidmblnbbaaGreatDoorPk25
import Derived.Test.YtipoeidmblnbbaaGreatDoorPk27
namespace Go.Proofs.YtipoeidmblnbbaaGreatDoor
open Go.RowKit
set_option linter.unusedVariables false
set_option linter.unusedSimpArgs false

set_option maxRecDepth 100000 in
set_option maxHeartbeats 12800000 in
theorem applyOnce_any (A0 A1 A4 : Option Addr) (n0 n1 n4 c0 c1 c4 : Nat) (l0 : List Ky) (d : List ClS) (i n : Int) (p : List Ch) (w : World)
    (e0 : n0 = l0.length) (e1 : n1 = d.length) (e4 : n4 = p.length) (r0 : RdKy w w.heap.size A0 l0) (r1 : RdCl w w.heap.size A1 d) (r4 : RdCh w w.heap.size A4 p) (b0 : n0 ≤ 1048576) (b1 : n1 ≤ 1048576) (b4 : n4 ≤ 1048576) (k1 : n1 ≤ c1)
    (q1 : ∀ x ∈ d, x.c.s.length ≤ 100000000 ∧ okVr x.c.s) (g1 : ∀ x ∈ d, x.c.s.length ≤ x.cs ∧ x.cs ≤ maxLen) (q4 : okVs p) (hT : Lib.Utf8Tabs 1 2 w) :
    Calls Tryz.prog 8 #[.slice A0 n0 c0, .slice A1 n1 c1, .int .i64 i, .int .i64 n, .slice A4 n4 c4] w fun e w' => e = .returned (.bool true) ∧ Below w.heap.size w w' := by
  have N0 := Lib.hid e0
  have R0 := Lib.hid r0
  have HT := Lib.hid hT
  have N1 := Lib.hid e1
  have R1 := Lib.hid r1
  have Q1 := Lib.hid q1
  have C1 := Lib.hid g1
  have N4 := Lib.hid e4
  have R4 := Lib.hid r4
  have Q4 := Lib.hid q4
  have hx := Below.refl w.heap.size w
  clear e0 r0 hT e1 r1 q1 g1 e4 r4 q4
  go_enter Tryz.func8, Tryz.ntmps8
  go_wp2_with (go_at_call 28; refine Hid.out ?_)
  refine Lib.hid ?_
  refine (great19_any A0 A1 none n0 c0 n1 c1 0 0 d [] _ rfl Rd.nil (by omega) (by omega) (fun x hx => by cases hx) (by simp [sumX]) N1.out R1.out (by omega) (fun z hz => by have := (Q1.out z hz).1; omega)).mono ?_
  rintro e wn ⟨gb, rfl, h1, dr, hd⟩
  have y := drew_ext hd
  clear hd
  have R0 := Lib.hid (R0.out.ext y)
  have R1 := Lib.hid (R1.out.ext y)
  have R4 := Lib.hid (R4.out.ext y)
  have HT := Lib.hid (Utf8Tabs_below HT.out y)
  replace hx := ext_trans hx y
  clear y
  cases gb
  case true =>
    clear h1
    go_wp2_with (go_at_call 29; refine Hid.out ?_)
    refine Lib.hid ?_
    refine (known19_any _ HT.out).mono ?_
    rintro e w2 ⟨rfl, y⟩
    replace hx := ext_trans hx y
    go_wp2_with (fail)
    go_ret
    exact ⟨rfl, hx⟩
  have h2 := h1 rfl
  have G0 := Lib.hid h2.1
  have G1 : Hid (n1 ≤ 400 ∧ ∀ c ∈ d, c.c.s.length ≤ 64) := Lib.hid ⟨h2.2.1, h2.2.2.1⟩
  have B1 := Lib.hid h2.2.1
  clear h1 h2
  by_cases gd0 : (64 : Int) < (n4 : Int)
  · skip
    go_wp2_with (go_at_call 29; refine Hid.out ?_)
    refine Lib.hid ?_
    refine (known19_any _ HT.out).mono ?_
    rintro e w2 ⟨rfl, y⟩
    replace hx := ext_trans hx y
    go_wp2_with (fail)
    go_ret
    exact ⟨rfl, hx⟩
  by_cases gd1 : i < 0
  · skip
    go_wp2_with (go_at_call 29; refine Hid.out ?_)
    refine Lib.hid ?_
    refine (known19_any _ HT.out).mono ?_
    rintro e w2 ⟨rfl, y⟩
    replace hx := ext_trans hx y
    go_wp2_with (fail)
    go_ret
    exact ⟨rfl, hx⟩
  by_cases gd2 : n < 1
  · skip
    go_wp2_with (go_at_call 29; refine Hid.out ?_)
    refine Lib.hid ?_
    refine (known19_any _ HT.out).mono ?_
    rintro e w2 ⟨rfl, y⟩
    replace hx := ext_trans hx y
    go_wp2_with (fail)
    go_ret
    exact ⟨rfl, hx⟩
  by_cases gd3 : (n1 : Int) < n
  · skip
    go_wp2_with (go_at_call 29; refine Hid.out ?_)
    refine Lib.hid ?_
    refine (known19_any _ HT.out).mono ?_
    rintro e w2 ⟨rfl, y⟩
    replace hx := ext_trans hx y
    go_wp2_with (fail)
    go_ret
    exact ⟨rfl, hx⟩
  have hr : -9223372036854775808 ≤ (n1 : Int) - n ∧ (n1 : Int) - n ≤ 9223372036854775807 := by have := B1.out; omega
  have hw : IntKind.i64.wrap ((n1 : Int) - n) = (n1 : Int) - n := IntWalk.i64_in _ hr
  have hw' : wrap64 ((n1 : Int) - n) = (n1 : Int) - n := w64_in _ hr
  clear hr
  by_cases gd4 : (n1 : Int) - n < i
  · skip
    go_wp2_with (go_at_call 29; refine Hid.out ?_)
    refine Lib.hid ?_
    refine (known19_any _ HT.out).mono ?_
    rintro e w2 ⟨rfl, y⟩
    replace hx := ext_trans hx y
    go_wp2_with (fail)
    go_ret
    exact ⟨rfl, hx⟩
  go_wp2_with (go_at_call 13; refine Hid.out ?_)
  refine Lib.hid ?_
  refine (new_any A0 n0 c0 l0 _ N0.out R0.out (by omega)).mono ?_
  rintro e wn ⟨y, ⟨hm, s, rfl, hS⟩ | ⟨hm, rfl⟩⟩
  all_goals
    have R0 := Lib.hid (R0.out.ext y)
    have R1 := Lib.hid (R1.out.ext y)
    have R4 := Lib.hid (R4.out.ext y)
    have HT := Lib.hid (Utf8Tabs_below HT.out y)
    replace hx := ext_trans hx y
    clear y hm
  rotate_left
  · skip
    go_wp2_with (go_at_call 29; refine Hid.out ?_)
    refine Lib.hid ?_
    refine (known19_any _ HT.out).mono ?_
    rintro e w2 ⟨rfl, y⟩
    replace hx := ext_trans hx y
    go_wp2_with (fail)
    go_ret
    exact ⟨rfl, hx⟩
  have HS := Lib.hid hS
  clear hS
  have D1 : Hid (DocAt _ A1 n1 c1 d) := Lib.hid ⟨R1.out, N1.out, k1, C1.out, fun z hz => ⟨by have := G1.out.2 z hz; omega, (Q1.out z hz).2⟩, by have := B1.out; omega⟩
  have H64 : Hid (l0.length ≤ 64) := Lib.hid (by rw [← N0.out]; exact G0.out)
  have LD : Hid ((clsOf d).length = n1) := Lib.hid D1.out.clen
  obtain ⟨md, hmd⟩ : ∃ X, mayD l0 (clsOf d) = X := ⟨_, rfl⟩
  have MD := Lib.hid hmd
  clear hmd
  go_wp2_with (go_at_call 14; refine Hid.out ?_)
  refine Lib.hid ?_
  refine (mayDoc D1.out HS.out HT.out MD.out).mono ?_
  rintro e wn ⟨rfl, y⟩
  have R0 := Lib.hid (R0.out.ext y)
  have R4 := Lib.hid (R4.out.ext y)
  have HT := Lib.hid (Utf8Tabs_below HT.out y)
  have HS := Lib.hid (HS.out.ext y)
  have D1 := Lib.hid (D1.out.ext y)
  replace hx := ext_trans hx y
  clear y
  by_cases h0 : md = 0
  rotate_left
  · have h0' : (md == 0) = false := beq_eq_false_iff_ne.2 h0
    go_wp2_with (go_at_call 29; refine Hid.out ?_)
    refine Lib.hid ?_
    refine (known19_any _ HT.out).mono ?_
    rintro e w2 ⟨rfl, y⟩
    replace hx := ext_trans hx y
    go_wp2_with (fail)
    go_ret
    exact ⟨rfl, hx⟩
  subst h0
  obtain ⟨mp, hmp⟩ : ∃ X, mayP l0 p = X := ⟨_, rfl⟩
  have MP := Lib.hid hmp
  clear hmp
  go_wp2_with (go_at_call 30; refine Hid.out ?_)
  refine Lib.hid ?_
  refine (mayR6_any A0 A4 n0 c0 n4 c4 l0 p _ N0.out R0.out (by omega) N4.out R4.out (by omega) Q4.out HT.out).mono ?_
  rw [MP.out]
  rintro e wn ⟨rfl, y⟩
  have R0 := Lib.hid (R0.out.ext y)
  have R4 := Lib.hid (R4.out.ext y)
  have HT := Lib.hid (Utf8Tabs_below HT.out y)
  have HS := Lib.hid (HS.out.ext y)
  have D1 := Lib.hid (D1.out.ext y)
  replace hx := ext_trans hx y
  clear y
  by_cases h0 : mp = 0
  rotate_left
  · have h0' : (mp == 0) = false := beq_eq_false_iff_ne.2 h0
    go_wp2_with (go_at_call 29; refine Hid.out ?_)
    refine Lib.hid ?_
    refine (known19_any _ HT.out).mono ?_
    rintro e w2 ⟨rfl, y⟩
    replace hx := ext_trans hx y
    go_wp2_with (fail)
    go_ret
    exact ⟨rfl, hx⟩
  subst h0
  obtain ⟨a, rfl⟩ : ∃ k : Nat, i = k := ⟨i.toNat, by omega⟩
  obtain ⟨b, rfl⟩ : ∃ k : Nat, n = k := ⟨n.toNat, by omega⟩
  have ORD : Hid (1 ≤ b ∧ a + b ≤ n1 ∧ n4 ≤ 64) := Lib.hid ⟨by omega, by omega, by omega⟩
  clear gd0 gd1 gd2 gd3 gd4 hw hw'
  have OF : Hid (FitU l0 (onceU a b p) n1 n1) := Lib.hid (once_fit MP.out (by have := ORD.out; omega) (by have := ORD.out; omega) (by have := B1.out; omega))
  have OKP : Hid (okOp (opR (b : Int) p)) := Lib.hid ⟨(fun c hc => by cases hc), Q4.out, by simp [opR], by simp [opR], by show p.length ≤ _; rw [← N4.out]; have := ORD.out; omega⟩
  by_cases ha : a = 0
  · skip
    have ha' : decide ((0 : Int) < (a : Int)) = false := decide_eq_false (by omega)
    have ha2 : ¬ 0 < a := by omega
    have y := ext_alloc wn (.cells #[.int .u8 1, .int .i64 (b : Int), .slice none 0 0, .slice none 0 0, .slice A4 n4 c4] 46)
    have rG := rd_ops wn [(⟨opR (b : Int) p, none, 0, none, 0, A4, c4⟩ : OpS)] (fun z hz => by
      simp only [List.mem_cons, List.not_mem_nil, or_false] at hz
      subst hz; exact ⟨Rd.nil, Rd.nil, R4.out⟩) (cs := #[.int .u8 1, .int .i64 (b : Int), .slice none 0 0, .slice none 0 0, .slice A4 n4 c4]) (by simp [OpS.enc, opR, ← N4.out]) (b := wn.heap.size) rfl
    have R4 := Lib.hid (R4.out.ext y)
    have HT := Lib.hid (Utf8Tabs_below HT.out y)
    have HS := Lib.hid (HS.out.ext y)
    have D1 := Lib.hid (D1.out.ext y)
    replace hx := ext_trans hx y
    have OX : Hid (OpsAt _ (some ⟨wn.heap.size, 0, none⟩) 1 [(⟨opR (b : Int) p, none, 0, none, 0, A4, c4⟩ : OpS)]) := Lib.hid ⟨rG, rfl, (fun z hz => by
      simp only [List.mem_cons, List.not_mem_nil, or_false] at hz
      subst hz; exact OKP.out), by omega⟩
    have IX : Hid (∀ o ∈ [(⟨opR (b : Int) p, none, 0, none, 0, A4, c4⟩ : OpS)], isOp o.o) := Lib.hid (fun z hz => by
      simp only [List.mem_cons, List.not_mem_nil, or_false] at hz
      subst hz; exact .inr (.inr ⟨rfl, by show (1 : Int) ≤ b; have := ORD.out; omega, rfl, rfl⟩))
    have UX : Hid (units (osOf [(⟨opR (b : Int) p, none, 0, none, 0, A4, c4⟩ : OpS)]) = onceU a b p) := Lib.hid (by
      rw [units_sing]
      show unitsO (opR (b : Int) p) = _
      rw [unitsO_R, ha]; rfl)
    clear rG y
    have Z1 : Hid (applyN l0 [(⟨opR (b : Int) p, none, 0, none, 0, A4, c4⟩ : OpS)] (clsOf d) ((n1 : Nat) : Int) = 0) := Lib.hid (zero_applyN MD.out (by rw [LD.out]; exact units_fits (by have := OX.out.len; have := OX.out.b; omega) (by have := B1.out; omega) IX.out (by rw [UX.out]; exact OF.out)))
    go_wp2_with (go_at_call 17; refine Hid.out ?_)
    refine Lib.hid ?_
    refine (applyDoc (most := n1) (us := onceU a b p) D1.out OX.out HS.out HT.out H64.out (by have := B1.out; omega) Z1.out (by rw [UX.out])).mono ?_
    rintro e wn ⟨A7, c7, M1, rfl, h_1, m_1, b_1, d_1, y⟩
    have R4 := Lib.hid (R4.out.ext y)
    have HT := Lib.hid (Utf8Tabs_below HT.out y)
    have HS := Lib.hid (HS.out.ext y)
    have D1 := Lib.hid (D1.out.ext y)
    have OX := Lib.hid (OX.out.ext y)
    replace hx := ext_trans hx y
    have D_M1 := Lib.hid d_1
    have E_M1 := Lib.hid h_1
    have M_M1 := Lib.hid m_1
    clear d_1 h_1 m_1 b_1
    clear y
    have L1 : Hid ((clsOf M1).length = n1) := Lib.hid (by rw [E_M1.out, once_len l0 p (by rw [LD.out]; exact ORD.out.2.1), LD.out])
    have Z2 : Hid (applyN l0 [(⟨opR (b : Int) p, none, 0, none, 0, A4, c4⟩ : OpS)] (clsOf M1) ((n1 : Nat) : Int) = 0) := Lib.hid (zero_applyN M_M1.out (by rw [L1.out]; exact units_fits (by have := OX.out.len; have := OX.out.b; omega) (by have := B1.out; omega) IX.out (by rw [UX.out]; exact OF.out)))
    go_wp2_with (go_at_call 17; refine Hid.out ?_)
    refine Lib.hid ?_
    refine (applyDoc (most := n1) (us := onceU a b p) D_M1.out OX.out HS.out HT.out H64.out (by have := B1.out; omega) Z2.out (by rw [UX.out])).mono ?_
    rintro e wn ⟨A8, c8, M2, rfl, h_2, m_2, b_2, d_2, y⟩
    have R4 := Lib.hid (R4.out.ext y)
    have HT := Lib.hid (Utf8Tabs_below HT.out y)
    have HS := Lib.hid (HS.out.ext y)
    have D1 := Lib.hid (D1.out.ext y)
    have OX := Lib.hid (OX.out.ext y)
    have D_M1 := Lib.hid (D_M1.out.ext y)
    replace hx := ext_trans hx y
    have D_M2 := Lib.hid d_2
    have E_M2 := Lib.hid h_2
    clear d_2 h_2 m_2 b_2
    clear y
    have EE : Hid (clsOf M1 = clsOf M2) := Lib.hid (by rw [E_M2.out, E_M1.out]; exact (once_twice (by rw [LD.out]; exact ORD.out.2.1) MP.out (fun c hc => ((mayD_iff.1 MD.out).2.1 c hc).2.1)).symm)
    have RU : Hid ((clsOf M1).map (·.r) = (clsOf d).map (·.r)) := Lib.hid (by rw [E_M1.out]; exact once_runes l0 p (by rw [LD.out]; exact ORD.out.2.1))
    go_wp2_with (go_at_call 19; refine Hid.out ?_)
    refine Lib.hid ?_
    refine (sameD D_M1.out D_M2.out (decide_eq_true EE.out)).mono ?_
    rintro e wn ⟨rfl, y⟩
    have R4 := Lib.hid (R4.out.ext y)
    have HT := Lib.hid (Utf8Tabs_below HT.out y)
    have HS := Lib.hid (HS.out.ext y)
    have D1 := Lib.hid (D1.out.ext y)
    have OX := Lib.hid (OX.out.ext y)
    have D_M1 := Lib.hid (D_M1.out.ext y)
    have D_M2 := Lib.hid (D_M2.out.ext y)
    replace hx := ext_trans hx y
    clear y
    have LM : Hid (M1.length = n1) := Lib.hid (by rw [← clsOf_len, L1.out])
    obtain ⟨nm, hnm⟩ : ∃ X, M1.length = X := ⟨_, rfl⟩
    have NM := Lib.hid hnm
    rw [hnm] at D_M1 LM ⊢
    clear hnm
    go_wp2_with (fail)
    go_loopg [115] nm (fun g iv wr => ∃ (m : Nat), m ≤ nm ∧ g = nm - m ∧ iv = .int .i64 (m : Int) ∧ ∃ dr, wr = wn.drewN dr)
    case atStart => exact ⟨0, by omega, rfl, rfl, 0, rfl⟩
    case round =>
      obtain ⟨m, hm, hg, rfl, dr, rfl⟩ := hrel
      have HG := Lib.hid hg
      clear hg
      by_cases hlt : m < nm
      · skip
        have hl1 : m < M1.length := by have := NM.out; omega
        have hl2 : m < d.length := by have := LM.out; have := N1.out; omega
        obtain ⟨ad, x, hA7, had, _, hx1, hc1⟩ := (D_M1.out.rd.ext (ext_drew wn dr)).1.el hl1
        obtain ⟨ae, z, hA1, hae, _, hz1, hc2⟩ := (D1.out.rd.ext (ext_drew wn dr)).1.el hl2
        have RE : Hid (x.c.r = z.c.r) := Lib.hid (by
          have h := congrArg (fun l : List Int => l[m]?) RU.out
          simp only [List.getElem?_map, clsOf_at hx1, clsOf_at hz1, Option.map_some, Option.some.injEq] at h
          exact h)
        obtain ⟨⟨r, s⟩, As, cs⟩ := x
        obtain ⟨⟨r2, s2⟩, As2, cs2⟩ := z
        have hre : r = r2 := RE.out
        subst hre
        obtain ⟨z0, -⟩ := cl_cells hc1
        obtain ⟨x0, -⟩ := cl_cells hc2
        rw [World.cell?_drewN] at z0 x0
        have hlt' : (m : Int) < (nm : Int) := by omega
        have hlt1 : m < n1 := by have := LM.out; omega
        have hlt1' : (m : Int) < (n1 : Int) := by omega
        have hw2 : IntKind.i64.wrap ((m:Int) + 1) = (m : Int) + 1 := IntWalk.i64_in _ (by have := LM.out; have := B1.out; omega)
        clear hx1 hz1 hc1 hc2 had hae RE hl1 hl2
        subst hA7
        subst hA1
        go_wp2_with (fail)
        go_quiet (fail)
        go_wp2_with (fail)
        go_roundg (nm - (m + 1))
        case measure => have := HG.out; omega
        case rel => exact ⟨m + 1, by omega, rfl, by go_num, _, (by first | exact World.drewN_drewN _ _ _ | rfl)⟩
      · skip
        have hlt' : ¬ (m : Int) < (nm : Int) := by omega
        have y := ext_drew wn dr
        generalize wn.drewN dr = wq at *
        have R4 := Lib.hid (R4.out.ext y)
        have HT := Lib.hid (Utf8Tabs_below HT.out y)
        have HS := Lib.hid (HS.out.ext y)
        have D1 := Lib.hid (D1.out.ext y)
        have OX := Lib.hid (OX.out.ext y)
        have D_M1 := Lib.hid (D_M1.out.ext y)
        have D_M2 := Lib.hid (D_M2.out.ext y)
        replace hx := ext_trans hx y
        clear y
        by_cases hn1 : n1 = 1
        · have hn1' : ((n1 : Int) == 1) = true := by rw [hn1]; rfl
          go_wp2_with (go_at_call 29; refine Hid.out ?_)
          refine Lib.hid ?_
          refine (known19_any _ HT.out).mono ?_
          rintro e w2 ⟨rfl, y⟩
          replace hx := ext_trans hx y
          go_wp2_with (fail)
          go_ret
          exact ⟨rfl, hx⟩
        have hn1' : ((n1 : Int) == 1) = false := beq_eq_false_iff_ne.2 (by omega)
        obtain ⟨k, hk⟩ : ∃ X, n1 - 1 = X := ⟨_, rfl⟩
        have KK : Hid (n1 = k + 1 ∧ 1 ≤ k) := Lib.hid (by have := ORD.out; omega)
        have e3 : (n1 : Int) - 1 = (k : Int) := by have := KK.out; omega
        have hr : -9223372036854775808 ≤ (k : Int) ∧ (k : Int) ≤ 9223372036854775807 := by have := KK.out; have := B1.out; omega
        have hw3 : IntKind.i64.wrap ((n1 : Int) - 1) = (k : Int) := by rw [e3]; exact IntWalk.i64_in _ hr
        have hw3' : wrap64 ((n1 : Int) - 1) = (k : Int) := by rw [e3]; exact w64_in _ hr
        clear hr e3 hk
        go_wp2_with (go_at_call 17; refine Hid.out ?_)
        refine Lib.hid ?_
        have y := ext_alloc wq (.cells #[.int .u8 3, .int .i64 (k : Int), .slice none 0 0, .slice none 0 0, .slice none 0 0] 46)
        have rG := rd_ops wq [(⟨opD (k : Int), none, 0, none, 0, none, 0⟩ : OpS)] (fun z hz => by
          simp only [List.mem_cons, List.not_mem_nil, or_false] at hz
          subst hz; exact ⟨Rd.nil, Rd.nil, Rd.nil⟩) (cs := #[.int .u8 3, .int .i64 (k : Int), .slice none 0 0, .slice none 0 0, .slice none 0 0]) rfl (b := wq.heap.size) rfl
        have R4 := Lib.hid (R4.out.ext y)
        have HT := Lib.hid (Utf8Tabs_below HT.out y)
        have HS := Lib.hid (HS.out.ext y)
        have D1 := Lib.hid (D1.out.ext y)
        have OX := Lib.hid (OX.out.ext y)
        have D_M1 := Lib.hid (D_M1.out.ext y)
        have D_M2 := Lib.hid (D_M2.out.ext y)
        replace hx := ext_trans hx y
        have OD : Hid (OpsAt _ (some ⟨wq.heap.size, 0, none⟩) 1 [(⟨opD (k : Int), none, 0, none, 0, none, 0⟩ : OpS)]) := Lib.hid ⟨rG, rfl, (fun z hz => by
          simp only [List.mem_cons, List.not_mem_nil, or_false] at hz
          subst hz; exact ok_small _ rfl rfl (by simp [opD])), by omega⟩
        have UD : Hid (units (osOf [(⟨opD (k : Int), none, 0, none, 0, none, 0⟩ : OpS)]) = List.replicate (n1 - 1) .del) := Lib.hid (by
          rw [units_sing]
          show unitsO (opD (k : Int)) = _
          rw [unitsO_D, show n1 - 1 = k by have := KK.out; omega]; rfl)
        clear rG y
        have Z3 : Hid (applyN l0 [(⟨opD (k : Int), none, 0, none, 0, none, 0⟩ : OpS)] (clsOf d) ((n1 : Nat) : Int) = 0) := Lib.hid (zero_applyN MD.out (by rw [LD.out]; exact units_fits (by simp) (by have := B1.out; omega) (fun z hz => by simp only [List.mem_cons, List.not_mem_nil, or_false] at hz; subst hz; exact .inr (.inl ⟨rfl, by show (1 : Int) ≤ k; have := KK.out; omega, rfl, rfl, rfl⟩)) (by rw [UD.out]; exact del_fit (by have := KK.out; omega) (by have := B1.out; omega))))
        refine (applyDoc (most := n1) (us := List.replicate (n1 - 1) .del) D1.out OD.out HS.out HT.out H64.out (by have := B1.out; omega) Z3.out (by rw [UD.out])).mono ?_
        rintro e wn ⟨A9, c9, M3, rfl, h_3, m_3, b_3, d_3, y⟩
        have R4 := Lib.hid (R4.out.ext y)
        have HT := Lib.hid (Utf8Tabs_below HT.out y)
        have HS := Lib.hid (HS.out.ext y)
        have D1 := Lib.hid (D1.out.ext y)
        have OX := Lib.hid (OX.out.ext y)
        have D_M1 := Lib.hid (D_M1.out.ext y)
        have D_M2 := Lib.hid (D_M2.out.ext y)
        replace hx := ext_trans hx y
        have D_M3 := Lib.hid d_3
        clear y m_3 b_3 d_3
        have E3 : Hid (clsOf M3 = (clsOf d).drop k) := Lib.hid (by rw [h_3, app_dels, show n1 - 1 = k by have := KK.out; omega])
        clear h_3
        obtain ⟨AD, hAD⟩ : ∃ X, advS A1 c1 k 2 = X := ⟨_, rfl⟩
        obtain ⟨cD, hcD⟩ : ∃ X, c1 - k = X := ⟨_, rfl⟩
        have sl1 : ∀ W, (Instr.slice 23 (.slice A1 n1 c1) (some (.int .i64 (k : Int))) none none).run Tryz.prog W = .ok (.slice AD 1 cD) W := sl_from Tryz.slCl Tryz.elCl size_cl rfl hAD (by have := KK.out; omega) hcD (by have := KK.out; omega) k1
        have TD := Lib.hid (D1.out.drop (n' := 1) hAD (by have := KK.out; omega) (by have := KK.out; omega) hcD)
        have P3 : Hid (clsOf M3 = clsOf (d.drop k)) := Lib.hid (by rw [E3.out, clsOf_drop])
        clear hAD hcD
        go_wp2_with (go_at_call 19; refine Hid.out ?_)
        refine Lib.hid ?_
        refine (sameD D_M3.out TD.out (decide_eq_true P3.out)).mono ?_
        rintro e wn ⟨rfl, y⟩
        have R4 := Lib.hid (R4.out.ext y)
        have HT := Lib.hid (Utf8Tabs_below HT.out y)
        have HS := Lib.hid (HS.out.ext y)
        have D1 := Lib.hid (D1.out.ext y)
        have OX := Lib.hid (OX.out.ext y)
        have D_M1 := Lib.hid (D_M1.out.ext y)
        have D_M2 := Lib.hid (D_M2.out.ext y)
        have D_M3 := Lib.hid (D_M3.out.ext y)
        have TD := Lib.hid (TD.out.ext y)
        replace hx := ext_trans hx y
        clear y
        go_wp2_with (go_at_call 29; refine Hid.out ?_)
        refine Lib.hid ?_
        refine (known19_any _ HT.out).mono ?_
        rintro e w2 ⟨rfl, y⟩
        replace hx := ext_trans hx y
        go_wp2_with (fail)
        go_ret
        exact ⟨rfl, hx⟩
  have ha' : decide ((0 : Int) < (a : Int)) = true := decide_eq_true (by omega)
  have ha2 : (0 : Int) < (a : Int) := by omega
  have ha3 : 0 < a := by omega
  have y := ext_alloc wn (.cells #[.int .u8 1, .int .i64 (b : Int), .slice none 0 0, .slice none 0 0, .slice A4 n4 c4] 46)
  have rG := rd_ops wn [(⟨opR (b : Int) p, none, 0, none, 0, A4, c4⟩ : OpS)] (fun z hz => by
    simp only [List.mem_cons, List.not_mem_nil, or_false] at hz
    subst hz; exact ⟨Rd.nil, Rd.nil, R4.out⟩) (cs := #[.int .u8 1, .int .i64 (b : Int), .slice none 0 0, .slice none 0 0, .slice A4 n4 c4]) (by simp [OpS.enc, opR, ← N4.out]) (b := wn.heap.size) rfl
  have R4 := Lib.hid (R4.out.ext y)
  have HT := Lib.hid (Utf8Tabs_below HT.out y)
  have HS := Lib.hid (HS.out.ext y)
  have D1 := Lib.hid (D1.out.ext y)
  replace hx := ext_trans hx y
  have sz1 : (wn.alloc (.cells #[.int .u8 1, .int .i64 (b : Int), .slice none 0 0, .slice none 0 0, .slice A4 n4 c4] 46)).heap.size = wn.heap.size + 1 := by simp
  clear y
  generalize hwl : wn.alloc (.cells #[.int .u8 1, .int .i64 (b : Int), .slice none 0 0, .slice none 0 0, .slice A4 n4 c4] 46) = wl at *
  have yb := ext_alloc wl (.cells #[.int .u8 1, .int .i64 (a : Int), .slice none 0 0, .slice none 0 0, .slice none 0 0] 46)
  have ob : OwOs (wl.alloc (.cells #[.int .u8 1, .int .i64 (a : Int), .slice none 0 0, .slice none 0 0, .slice none 0 0] 46)) wl.heap.size (.slice (some ⟨wn.heap.size + 1, 0, none⟩) 1 1) [⟨opR (a : Int) [], none, 0, none, 0, none, 0⟩] := Ow.new (enc := OpS.enc) (size := 5) OpS.enc_len wl 46 [⟨opR (a : Int) [], none, 0, none, 0, none, 0⟩] rfl rfl (by unfold maxLen; omega) (Nat.le_refl _) sz1.symm
  go_wp2_with (first
    | (at_builtin; refine app_os (m := [(⟨opR (b : Int) p, none, 0, none, 0, A4, c4⟩ : OpS)]) rfl (.tmp 80) (.tmp 81) rfl rfl ob _ (some ⟨wn.heap.size, 0, none⟩) 1 1 rfl rfl (rG.ext yb).1 (by simp) (by simp) ?_; intro v' w9 hown' hgr hv'; obtain ⟨A9, c9, hv5, hc5, hm5⟩ := hown'.form; subst hv5))
  have y := below_app yb (by simp) ob (Nat.le_refl _) hgr
  have R4 := Lib.hid (R4.out.ext y)
  have HT := Lib.hid (Utf8Tabs_below HT.out y)
  have HS := Lib.hid (HS.out.ext y)
  have D1 := Lib.hid (D1.out.ext y)
  replace hx := ext_trans hx y
  have rG := rG.ext y
  obtain ⟨x9, hx9⟩ : ∃ X : List OpS, [(⟨opR (a : Int) [], none, 0, none, 0, none, 0⟩ : OpS)] ++ [(⟨opR (b : Int) p, none, 0, none, 0, A4, c4⟩ : OpS)] = X := ⟨_, rfl⟩
  have hx9l : 2 = x9.length := by rw [← hx9]; rfl
  rw [hx9] at hown'
  have hmem9 : ∀ z ∈ x9, z = ⟨opR (a : Int) [], none, 0, none, 0, none, 0⟩ ∨ z = ⟨opR (b : Int) p, none, 0, none, 0, A4, c4⟩ := fun z hz => by rw [← hx9] at hz; simpa using hz
  have OX : Hid (OpsAt _ A9 2 x9) := Lib.hid ⟨⟨hown'.rd OpS.enc_len, fun z hz => by
    rcases hmem9 z hz with rfl | rfl
    · exact ⟨Rd.nil, Rd.nil, Rd.nil⟩
    · exact ⟨Rd.nil, Rd.nil, R4.out⟩⟩, hx9l, fun z hz => by
    rcases hmem9 z hz with rfl | rfl
    · exact ok_small _ rfl rfl (by simp [opR])
    · exact OKP.out, by omega⟩
  have IX : Hid (∀ o ∈ x9, isOp o.o) := Lib.hid (fun z hz => by
    rcases hmem9 z hz with rfl | rfl
    · exact opR_one (by omega)
    · exact .inr (.inr ⟨rfl, by show (1 : Int) ≤ b; have := ORD.out; omega, rfl, rfl⟩))
  have UX : Hid (units (osOf x9) = onceU a b p) := Lib.hid (by
    rw [← hx9]
    show unitsO (opR (a : Int) []) ++ (unitsO (opR (b : Int) p) ++ []) = _
    rw [unitsO_R, unitsO_R, List.append_nil]; rfl)
  clear hown' hgr hv' hc5 hm5 y yb ob rG hx9 hmem9 hx9l hwl sz1
  have Z1 : Hid (applyN l0 x9 (clsOf d) ((n1 : Nat) : Int) = 0) := Lib.hid (zero_applyN MD.out (by rw [LD.out]; exact units_fits (by have := OX.out.len; have := OX.out.b; omega) (by have := B1.out; omega) IX.out (by rw [UX.out]; exact OF.out)))
  go_wp2_with (go_at_call 17; refine Hid.out ?_)
  refine Lib.hid ?_
  refine (applyDoc (most := n1) (us := onceU a b p) D1.out OX.out HS.out HT.out H64.out (by have := B1.out; omega) Z1.out (by rw [UX.out])).mono ?_
  rintro e wn ⟨A7, c7, M1, rfl, h_1, m_1, b_1, d_1, y⟩
  have R4 := Lib.hid (R4.out.ext y)
  have HT := Lib.hid (Utf8Tabs_below HT.out y)
  have HS := Lib.hid (HS.out.ext y)
  have D1 := Lib.hid (D1.out.ext y)
  have OX := Lib.hid (OX.out.ext y)
  replace hx := ext_trans hx y
  have D_M1 := Lib.hid d_1
  have E_M1 := Lib.hid h_1
  have M_M1 := Lib.hid m_1
  clear d_1 h_1 m_1 b_1
  clear y
  have L1 : Hid ((clsOf M1).length = n1) := Lib.hid (by rw [E_M1.out, once_len l0 p (by rw [LD.out]; exact ORD.out.2.1), LD.out])
  have Z2 : Hid (applyN l0 x9 (clsOf M1) ((n1 : Nat) : Int) = 0) := Lib.hid (zero_applyN M_M1.out (by rw [L1.out]; exact units_fits (by have := OX.out.len; have := OX.out.b; omega) (by have := B1.out; omega) IX.out (by rw [UX.out]; exact OF.out)))
  go_wp2_with (go_at_call 17; refine Hid.out ?_)
  refine Lib.hid ?_
  refine (applyDoc (most := n1) (us := onceU a b p) D_M1.out OX.out HS.out HT.out H64.out (by have := B1.out; omega) Z2.out (by rw [UX.out])).mono ?_
  rintro e wn ⟨A8, c8, M2, rfl, h_2, m_2, b_2, d_2, y⟩
  have R4 := Lib.hid (R4.out.ext y)
  have HT := Lib.hid (Utf8Tabs_below HT.out y)
  have HS := Lib.hid (HS.out.ext y)
  have D1 := Lib.hid (D1.out.ext y)
  have OX := Lib.hid (OX.out.ext y)
  have D_M1 := Lib.hid (D_M1.out.ext y)
  replace hx := ext_trans hx y
  have D_M2 := Lib.hid d_2
  have E_M2 := Lib.hid h_2
  clear d_2 h_2 m_2 b_2
  clear y
  have EE : Hid (clsOf M1 = clsOf M2) := Lib.hid (by rw [E_M2.out, E_M1.out]; exact (once_twice (by rw [LD.out]; exact ORD.out.2.1) MP.out (fun c hc => ((mayD_iff.1 MD.out).2.1 c hc).2.1)).symm)
  have RU : Hid ((clsOf M1).map (·.r) = (clsOf d).map (·.r)) := Lib.hid (by rw [E_M1.out]; exact once_runes l0 p (by rw [LD.out]; exact ORD.out.2.1))
  go_wp2_with (go_at_call 19; refine Hid.out ?_)
  refine Lib.hid ?_
  refine (sameD D_M1.out D_M2.out (decide_eq_true EE.out)).mono ?_
  rintro e wn ⟨rfl, y⟩
  have R4 := Lib.hid (R4.out.ext y)
  have HT := Lib.hid (Utf8Tabs_below HT.out y)
  have HS := Lib.hid (HS.out.ext y)
  have D1 := Lib.hid (D1.out.ext y)
  have OX := Lib.hid (OX.out.ext y)
  have D_M1 := Lib.hid (D_M1.out.ext y)
  have D_M2 := Lib.hid (D_M2.out.ext y)
  replace hx := ext_trans hx y
  clear y
  have LM : Hid (M1.length = n1) := Lib.hid (by rw [← clsOf_len, L1.out])
  obtain ⟨nm, hnm⟩ : ∃ X, M1.length = X := ⟨_, rfl⟩
  have NM := Lib.hid hnm
  rw [hnm] at D_M1 LM ⊢
  clear hnm
  go_wp2_with (fail)
  go_loopg [115] nm (fun g iv wr => ∃ (m : Nat), m ≤ nm ∧ g = nm - m ∧ iv = .int .i64 (m : Int) ∧ ∃ dr, wr = wn.drewN dr)
  case atStart => exact ⟨0, by omega, rfl, rfl, 0, rfl⟩
  case round =>
    obtain ⟨m, hm, hg, rfl, dr, rfl⟩ := hrel
    have HG := Lib.hid hg
    clear hg
    by_cases hlt : m < nm
    · skip
      have hl1 : m < M1.length := by have := NM.out; omega
      have hl2 : m < d.length := by have := LM.out; have := N1.out; omega
      obtain ⟨ad, x, hA7, had, _, hx1, hc1⟩ := (D_M1.out.rd.ext (ext_drew wn dr)).1.el hl1
      obtain ⟨ae, z, hA1, hae, _, hz1, hc2⟩ := (D1.out.rd.ext (ext_drew wn dr)).1.el hl2
      have RE : Hid (x.c.r = z.c.r) := Lib.hid (by
        have h := congrArg (fun l : List Int => l[m]?) RU.out
        simp only [List.getElem?_map, clsOf_at hx1, clsOf_at hz1, Option.map_some, Option.some.injEq] at h
        exact h)
      obtain ⟨⟨r, s⟩, As, cs⟩ := x
      obtain ⟨⟨r2, s2⟩, As2, cs2⟩ := z
      have hre : r = r2 := RE.out
      subst hre
      obtain ⟨z0, -⟩ := cl_cells hc1
      obtain ⟨x0, -⟩ := cl_cells hc2
      rw [World.cell?_drewN] at z0 x0
      have hlt' : (m : Int) < (nm : Int) := by omega
      have hlt1 : m < n1 := by have := LM.out; omega
      have hlt1' : (m : Int) < (n1 : Int) := by omega
      have hw2 : IntKind.i64.wrap ((m:Int) + 1) = (m : Int) + 1 := IntWalk.i64_in _ (by have := LM.out; have := B1.out; omega)
      clear hx1 hz1 hc1 hc2 had hae RE hl1 hl2
      subst hA7
      subst hA1
      go_wp2_with (fail)
      go_quiet (fail)
      go_wp2_with (fail)
      go_roundg (nm - (m + 1))
      case measure => have := HG.out; omega
      case rel => exact ⟨m + 1, by omega, rfl, by go_num, _, (by first | exact World.drewN_drewN _ _ _ | rfl)⟩
    · skip
      have hlt' : ¬ (m : Int) < (nm : Int) := by omega
      have y := ext_drew wn dr
      generalize wn.drewN dr = wq at *
      have R4 := Lib.hid (R4.out.ext y)
      have HT := Lib.hid (Utf8Tabs_below HT.out y)
      have HS := Lib.hid (HS.out.ext y)
      have D1 := Lib.hid (D1.out.ext y)
      have OX := Lib.hid (OX.out.ext y)
      have D_M1 := Lib.hid (D_M1.out.ext y)
      have D_M2 := Lib.hid (D_M2.out.ext y)
      replace hx := ext_trans hx y
      clear y
      by_cases hn1 : n1 = 1
      · have hn1' : ((n1 : Int) == 1) = true := by rw [hn1]; rfl
        go_wp2_with (go_at_call 29; refine Hid.out ?_)
        refine Lib.hid ?_
        refine (known19_any _ HT.out).mono ?_
        rintro e w2 ⟨rfl, y⟩
        replace hx := ext_trans hx y
        go_wp2_with (fail)
        go_ret
        exact ⟨rfl, hx⟩
      have hn1' : ((n1 : Int) == 1) = false := beq_eq_false_iff_ne.2 (by omega)
      obtain ⟨k, hk⟩ : ∃ X, n1 - 1 = X := ⟨_, rfl⟩
      have KK : Hid (n1 = k + 1 ∧ 1 ≤ k) := Lib.hid (by have := ORD.out; omega)
      have e3 : (n1 : Int) - 1 = (k : Int) := by have := KK.out; omega
      have hr : -9223372036854775808 ≤ (k : Int) ∧ (k : Int) ≤ 9223372036854775807 := by have := KK.out; have := B1.out; omega
      have hw3 : IntKind.i64.wrap ((n1 : Int) - 1) = (k : Int) := by rw [e3]; exact IntWalk.i64_in _ hr
      have hw3' : wrap64 ((n1 : Int) - 1) = (k : Int) := by rw [e3]; exact w64_in _ hr
      clear hr e3 hk
      go_wp2_with (go_at_call 17; refine Hid.out ?_)
      refine Lib.hid ?_
      have y := ext_alloc wq (.cells #[.int .u8 3, .int .i64 (k : Int), .slice none 0 0, .slice none 0 0, .slice none 0 0] 46)
      have rG := rd_ops wq [(⟨opD (k : Int), none, 0, none, 0, none, 0⟩ : OpS)] (fun z hz => by
        simp only [List.mem_cons, List.not_mem_nil, or_false] at hz
        subst hz; exact ⟨Rd.nil, Rd.nil, Rd.nil⟩) (cs := #[.int .u8 3, .int .i64 (k : Int), .slice none 0 0, .slice none 0 0, .slice none 0 0]) rfl (b := wq.heap.size) rfl
      have R4 := Lib.hid (R4.out.ext y)
      have HT := Lib.hid (Utf8Tabs_below HT.out y)
      have HS := Lib.hid (HS.out.ext y)
      have D1 := Lib.hid (D1.out.ext y)
      have OX := Lib.hid (OX.out.ext y)
      have D_M1 := Lib.hid (D_M1.out.ext y)
      have D_M2 := Lib.hid (D_M2.out.ext y)
      replace hx := ext_trans hx y
      have OD : Hid (OpsAt _ (some ⟨wq.heap.size, 0, none⟩) 1 [(⟨opD (k : Int), none, 0, none, 0, none, 0⟩ : OpS)]) := Lib.hid ⟨rG, rfl, (fun z hz => by
        simp only [List.mem_cons, List.not_mem_nil, or_false] at hz
        subst hz; exact ok_small _ rfl rfl (by simp [opD])), by omega⟩
      have UD : Hid (units (osOf [(⟨opD (k : Int), none, 0, none, 0, none, 0⟩ : OpS)]) = List.replicate (n1 - 1) .del) := Lib.hid (by
        rw [units_sing]
        show unitsO (opD (k : Int)) = _
        rw [unitsO_D, show n1 - 1 = k by have := KK.out; omega]; rfl)
      clear rG y
      have Z3 : Hid (applyN l0 [(⟨opD (k : Int), none, 0, none, 0, none, 0⟩ : OpS)] (clsOf d) ((n1 : Nat) : Int) = 0) := Lib.hid (zero_applyN MD.out (by rw [LD.out]; exact units_fits (by simp) (by have := B1.out; omega) (fun z hz => by simp only [List.mem_cons, List.not_mem_nil, or_false] at hz; subst hz; exact .inr (.inl ⟨rfl, by show (1 : Int) ≤ k; have := KK.out; omega, rfl, rfl, rfl⟩)) (by rw [UD.out]; exact del_fit (by have := KK.out; omega) (by have := B1.out; omega))))
      refine (applyDoc (most := n1) (us := List.replicate (n1 - 1) .del) D1.out OD.out HS.out HT.out H64.out (by have := B1.out; omega) Z3.out (by rw [UD.out])).mono ?_
      rintro e wn ⟨A9, c9, M3, rfl, h_3, m_3, b_3, d_3, y⟩
      have R4 := Lib.hid (R4.out.ext y)
      have HT := Lib.hid (Utf8Tabs_below HT.out y)
      have HS := Lib.hid (HS.out.ext y)
      have D1 := Lib.hid (D1.out.ext y)
      have OX := Lib.hid (OX.out.ext y)
      have D_M1 := Lib.hid (D_M1.out.ext y)
      have D_M2 := Lib.hid (D_M2.out.ext y)
      replace hx := ext_trans hx y
      have D_M3 := Lib.hid d_3
      clear y m_3 b_3 d_3
      have E3 : Hid (clsOf M3 = (clsOf d).drop k) := Lib.hid (by rw [h_3, app_dels, show n1 - 1 = k by have := KK.out; omega])
      clear h_3
      obtain ⟨AD, hAD⟩ : ∃ X, advS A1 c1 k 2 = X := ⟨_, rfl⟩
      obtain ⟨cD, hcD⟩ : ∃ X, c1 - k = X := ⟨_, rfl⟩
      have sl1 : ∀ W, (Instr.slice 23 (.slice A1 n1 c1) (some (.int .i64 (k : Int))) none none).run Tryz.prog W = .ok (.slice AD 1 cD) W := sl_from Tryz.slCl Tryz.elCl size_cl rfl hAD (by have := KK.out; omega) hcD (by have := KK.out; omega) k1
      have TD := Lib.hid (D1.out.drop (n' := 1) hAD (by have := KK.out; omega) (by have := KK.out; omega) hcD)
      have P3 : Hid (clsOf M3 = clsOf (d.drop k)) := Lib.hid (by rw [E3.out, clsOf_drop])
      clear hAD hcD
      go_wp2_with (go_at_call 19; refine Hid.out ?_)
      refine Lib.hid ?_
      refine (sameD D_M3.out TD.out (decide_eq_true P3.out)).mono ?_
      rintro e wn ⟨rfl, y⟩
      have R4 := Lib.hid (R4.out.ext y)
      have HT := Lib.hid (Utf8Tabs_below HT.out y)
      have HS := Lib.hid (HS.out.ext y)
      have D1 := Lib.hid (D1.out.ext y)
      have OX := Lib.hid (OX.out.ext y)
      have D_M1 := Lib.hid (D_M1.out.ext y)
      have D_M2 := Lib.hid (D_M2.out.ext y)
      have D_M3 := Lib.hid (D_M3.out.ext y)
      have TD := Lib.hid (TD.out.ext y)
      replace hx := ext_trans hx y
      clear y
      go_wp2_with (go_at_call 29; refine Hid.out ?_)
      refine Lib.hid ?_
      refine (known19_any _ HT.out).mono ?_
      rintro e w2 ⟨rfl, y⟩
      replace hx := ext_trans hx y
      go_wp2_with (fail)
      go_ret
      exact ⟨rfl, hx⟩
end Go.Proofs.YtipoeidmblnbbaaGreatDoor
