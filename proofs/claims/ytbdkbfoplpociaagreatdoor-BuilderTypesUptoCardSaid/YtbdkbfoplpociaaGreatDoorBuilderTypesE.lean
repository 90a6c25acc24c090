/- Merged texts: BuilderTypes. -/
import Derived.Test.YtbdkbfoplpociaaGreatDoorK30
import Derived.Test.YtbdkbfoplpociaaGreatDoorB3
import Derived.Test.YtbdkbfoplpociaaGreatDoorE2
import Derived.Test.YtbdkbfoplpociaaGreatDoorK36
import Derived.Test.YtbdkbfoplpociaaGreatDoorK33
import Derived.Test.YtbdkbfoplpociaaGreatDoorK31
import Derived.Test.YtbdkbfoplpociaaGreatDoorE1
import Derived.Test.YtbdkbfoplpociaaGreatDoorK20
import Derived.Test.YtbdkbfoplpociaaGreatDoorK3
import Derived.Test.YtbdkbfoplpociaaGreatDoorB1
import Derived.Test.YtbdkbfoplpociaaGreatDoorK34
namespace Go.Proofs.YtbdkbfoplpociaaGreatDoor
open Go.RowKit
set_option linter.unusedVariables false
set_option linter.unusedSimpArgs false

set_option maxRecDepth 100000 in
set_option maxHeartbeats 12800000 in
theorem builderTypes_any (A0 A1 A2 : Option Addr) (n0 n1 n2 c0 c1 c2 : Nat) (l0 : List Ky) (d : List ClS) (l2 : List Int) (p : Int) (w : World)
    (e0 : n0 = l0.length) (r0 : RdKy w w.heap.size A0 l0) (b0 : n0 ≤ 1048576) (e1 : n1 = d.length) (r1 : RdCl w w.heap.size A1 d) (b1 : n1 ≤ 1048576) (k1 : n1 ≤ c1) (q1 : ∀ x ∈ d, x.c.s.length ≤ 100000000 ∧ okVr x.c.s) (g1 : ∀ x ∈ d, x.c.s.length ≤ x.cs ∧ x.cs ≤ maxLen)
    (e2 : n2 = l2.length) (r2 : RdI32 w w.heap.size A2 l2) (b2 : n2 ≤ 1048576) (k2 : n2 ≤ c2) (m2 : c2 ≤ maxLen)
    (hT : Lib.Utf8Tabs 1 2 w) :
    Calls Tryz.prog 18 #[.slice A0 n0 c0, .slice A1 n1 c1, .int .i64 p, .slice A2 n2 c2] w fun e w' => e = .returned (.bool true) ∧ Below w.heap.size w w' := by
  have N0 := Lib.hid e0
  have R0 := Lib.hid r0
  have HT := Lib.hid hT
  have hx := Below.refl w.heap.size w
  have N1 := Lib.hid e1
  have R1 := Lib.hid r1
  have Q1 := Lib.hid q1
  have C1 := Lib.hid g1
  clear e0 r0 hT e1 r1 q1 g1
  go_enter Tryz.func18, Tryz.ntmps18
  have N2 := Lib.hid e2
  have R2 := Lib.hid r2
  clear e2 r2
  by_cases g0 : (64 : Int) < (n0 : Int)
  · skip
    go_wp2_with (go_at_call 73; refine Hid.out ?_)
    refine Lib.hid ?_
    refine (known24_any _ HT.out).mono ?_
    rintro e w2 ⟨rfl, y⟩
    replace hx := ext_trans hx y
    go_wp2_with (fail)
    go_ret
    exact ⟨rfl, hx⟩
  go_wp2_with (go_at_call 50; refine Hid.out ?_)
  refine Lib.hid ?_
  refine (great18_any A1 n1 c1 d 300 _ N1.out R1.out (by omega) (fun z hz => by have := (Q1.out z hz).1; omega)).mono ?_
  rintro e wn ⟨g, rfl, hgr, dr, hd⟩
  have y := drew_ext hd
  clear hd
  have R0 := Lib.hid (R0.out.ext y)
  have HT := Lib.hid (Utf8Tabs_below HT.out y)
  have R1 := Lib.hid (R1.out.ext y)
  have R2 := Lib.hid (R2.out.ext y)
  replace hx := ext_trans hx y
  clear y
  cases g
  case true =>
    clear hgr
    go_wp2_with (go_at_call 73; refine Hid.out ?_)
    refine Lib.hid ?_
    refine (known24_any _ HT.out).mono ?_
    rintro e w2 ⟨rfl, y⟩
    replace hx := ext_trans hx y
    go_wp2_with (fail)
    go_ret
    exact ⟨rfl, hx⟩
  have G1 : Hid (n1 ≤ 300 ∧ ∀ z ∈ d, z.c.s.length ≤ 64) := Lib.hid ⟨by have := (hgr rfl).1; omega, (hgr rfl).2⟩
  clear hgr
  by_cases g1 : (300 : Int) < (n2 : Int)
  · skip
    go_wp2_with (go_at_call 73; refine Hid.out ?_)
    refine Lib.hid ?_
    refine (known24_any _ HT.out).mono ?_
    rintro e w2 ⟨rfl, y⟩
    replace hx := ext_trans hx y
    go_wp2_with (fail)
    go_ret
    exact ⟨rfl, hx⟩
  by_cases g2 : p < 0
  · skip
    go_wp2_with (go_at_call 73; refine Hid.out ?_)
    refine Lib.hid ?_
    refine (known24_any _ HT.out).mono ?_
    rintro e w2 ⟨rfl, y⟩
    replace hx := ext_trans hx y
    go_wp2_with (fail)
    go_ret
    exact ⟨rfl, hx⟩
  by_cases g3 : (n1 : Int) ≤ p
  · skip
    go_wp2_with (go_at_call 73; refine Hid.out ?_)
    refine Lib.hid ?_
    refine (known24_any _ HT.out).mono ?_
    rintro e w2 ⟨rfl, y⟩
    replace hx := ext_trans hx y
    go_wp2_with (fail)
    go_ret
    exact ⟨rfl, hx⟩
  obtain ⟨k0, hk0⟩ : ∃ k0 : Nat, p = (k0 : Int) := ⟨p.toNat, by omega⟩
  subst hk0
  have G0 : Hid (n0 ≤ 64 ∧ n2 ≤ 300 ∧ k0 < n1 ∧ n1 ≤ 300) := Lib.hid (by have := G1.out.1; omega)
  go_wp2_with (go_at_call 24; refine Hid.out ?_)
  refine Lib.hid ?_
  refine (new_any A0 n0 c0 l0 _ N0.out R0.out (by omega)).mono ?_
  rintro e wn ⟨y, ⟨hm, s, rfl, hS⟩ | ⟨hm, rfl⟩⟩
  all_goals clear g0 g1 g2 g3
  all_goals
    have R0 := Lib.hid (R0.out.ext y)
    have HT := Lib.hid (Utf8Tabs_below HT.out y)
    have R1 := Lib.hid (R1.out.ext y)
    have R2 := Lib.hid (R2.out.ext y)
    replace hx := ext_trans hx y
    clear y hm
  rotate_left
  · skip
    go_wp2_with (go_at_call 76; refine Hid.out ?_)
    refine Lib.hid ?_
    refine (refBytes_any A2 n2 c2 l2 _ N2.out R2.out (by omega)).mono ?_
    obtain ⟨fe, hfe⟩ : ∃ X : Int, (if okR l2 = true then (0 : Int) else 3) = X := ⟨_, rfl⟩
    have FE := Lib.hid hfe
    rintro e wn ⟨vB, rfl, _, y⟩
    rw [hfe]
    clear hfe
    have R0 := Lib.hid (R0.out.ext y)
    have HT := Lib.hid (Utf8Tabs_below HT.out y)
    have R1 := Lib.hid (R1.out.ext y)
    have R2 := Lib.hid (R2.out.ext y)
    replace hx := ext_trans hx y
    clear y
    go_wp2_with (go_at_call 73; refine Hid.out ?_)
    refine Lib.hid ?_
    refine (known24_any _ HT.out).mono ?_
    rintro e w2 ⟨rfl, y⟩
    replace hx := ext_trans hx y
    go_wp2_with (fail)
    go_ret
    exact ⟨rfl, hx⟩
  have HS := Lib.hid hS
  clear hS
  have H64 : Hid (l0.length ≤ 64) := Lib.hid (by have := N0.out; have := G0.out; omega)
  have D1 : Hid (DocAt _ A1 n1 c1 d) := Lib.hid ⟨R1.out, N1.out, k1, C1.out, fun z hz => ⟨by have := G1.out.2 z hz; omega, (Q1.out z hz).2⟩, by have := G1.out; omega⟩
  have LD : Hid ((clsOf d).length = n1) := Lib.hid D1.out.clen
  go_wp2_with (go_at_call 76; refine Hid.out ?_)
  refine Lib.hid ?_
  refine (refBytes_any A2 n2 c2 l2 _ N2.out R2.out (by omega)).mono ?_
  obtain ⟨fe, hfe⟩ : ∃ X : Int, (if okR l2 = true then (0 : Int) else 3) = X := ⟨_, rfl⟩
  have FE := Lib.hid hfe
  rintro e wn ⟨vB, rfl, _, y⟩
  rw [hfe]
  clear hfe
  have HT := Lib.hid (Utf8Tabs_below HT.out y)
  have R2 := Lib.hid (R2.out.ext y)
  have HS := Lib.hid (HS.out.ext y)
  have D1 := Lib.hid (D1.out.ext y)
  replace hx := ext_trans hx y
  clear y
  obtain ⟨ok, hok⟩ : ∃ X, okR l2 = X := ⟨_, rfl⟩
  have OK := Lib.hid hok
  clear hok
  cases ok with
  | false =>
    have e3 : fe = 3 := by rw [← FE.out, OK.out]; rfl
    subst e3
    go_wp2_with (go_at_call 73; refine Hid.out ?_)
    refine Lib.hid ?_
    refine (known24_any _ HT.out).mono ?_
    rintro e w2 ⟨rfl, y⟩
    replace hx := ext_trans hx y
    go_wp2_with (fail)
    go_ret
    exact ⟨rfl, hx⟩
  | true =>
    have e3 : fe = 0 := by rw [← FE.out, OK.out]; rfl
    subst e3
    obtain ⟨md, hmd⟩ : ∃ X, mayD l0 (clsOf d) = X := ⟨_, rfl⟩
    have MD := Lib.hid hmd
    clear hmd
    go_wp2_with (go_at_call 68; refine Hid.out ?_)
    refine Lib.hid ?_
    refine (mayDoc D1.out HS.out HT.out MD.out).mono ?_
    rintro e wn ⟨rfl, y⟩
    have HT := Lib.hid (Utf8Tabs_below HT.out y)
    have R2 := Lib.hid (R2.out.ext y)
    have HS := Lib.hid (HS.out.ext y)
    have D1 := Lib.hid (D1.out.ext y)
    replace hx := ext_trans hx y
    clear y
    by_cases h0 : md = 0
    rotate_left
    · skip
      have h0' : (md == 0) = false := beq_eq_false_iff_ne.2 h0
      have h0'' : (md != 0) = true := by rw [bne, h0']; rfl
      clear h0 MD
      go_wp2_with (go_at_call 73; refine Hid.out ?_)
      refine Lib.hid ?_
      refine (known24_any _ HT.out).mono ?_
      rintro e w2 ⟨rfl, y⟩
      replace hx := ext_trans hx y
      go_wp2_with (fail)
      go_ret
      exact ⟨rfl, hx⟩
    subst h0
    have CELL : Hid (∀ z ∈ d, mayS l0 z.c.s = 0 ∧ riseA z.c.s = true ∧ okVr z.c.s ∧ z.c.s.length ≤ 64) := Lib.hid (fun z hz => by
      have h := ((mayD_iff.1 MD.out).2.1 _ (mem_cls hz)).2.1
      exact ⟨h, (mayS_zero h).2.1, (D1.out.vr z hz).2, (mayS_zero h).1⟩)
    have LAST : Hid (∀ (q : Nat) (z : ClS), d[q]? = some z → z.c.r ≠ 10 → q + 1 < n1) := Lib.hid (fun q z hz hr => by
      have hq := (List.getElem?_eq_some_iff.1 hz).1
      have hl := N1.out
      by_cases hq2 : q + 1 < n1
      · exact hq2
      · exfalso
        obtain ⟨_, _, t, c, ht, hc⟩ := mayD_iff.1 MD.out
        have h1 : (clsOf d).length = t.length + 1 := by rw [ht]; simp
        rw [LD.out] at h1
        have h3 := clsOf_at hz
        rw [ht, show q = t.length by omega] at h3
        simp only [List.getElem?_append_right (Nat.le_refl _), Nat.sub_self, List.getElem?_cons_zero, Option.some.injEq] at h3
        rw [h3] at hc; exact hr hc)
    have ADD : ∃ ad, A1 = some ad := by
      obtain ⟨ad, _, h, _⟩ := D1.out.rd.1.el (i := k0) (by have := N1.out; have := G0.out; omega)
      exact ⟨ad, h⟩
    obtain ⟨ad, hA1⟩ := ADD
    have HTQ := HT
    clear HT
    subst hA1
    have HT := HTQ
    clear HTQ
    have GK := G0.out
    by_cases hp0 : k0 = 0
    · skip
      have hp0' : ¬ (0 : Int) < (k0 : Int) := by omega
      clear hp0
      obtain ⟨ad_2, zp, hA_2, _, _, hx_2, hc_2⟩ := D1.out.rd.1.el (i := k0) (by have := N1.out; omega)
      obtain rfl : ad = ad_2 := Option.some.inj hA_2
      have HC_2 := Lib.hid (CELL.out _ (List.mem_of_getElem? hx_2))
      have RP_2 := Lib.hid (D1.out.rd.2 _ (List.mem_of_getElem? hx_2))
      have HX_2 := Lib.hid hx_2
      obtain ⟨⟨r_2, s_2⟩, As_2, cs_2⟩ := zp
      obtain ⟨z0_2, z1_2⟩ := cl_cells hc_2
      clear hA_2 hx_2 hc_2
      obtain ⟨pa_2, hpa_2⟩ : ∃ X, ad.add (k0 * 2) = X := ⟨_, rfl⟩
      rw [hpa_2] at z0_2 z1_2
      have hpn : (k0 : Int) < (n1 : Int) := by omega
      by_cases hr2 : r_2 = 10
      · skip
        have hr2' : (r_2 == 10) = true := by rw [hr2]; rfl
        have hr2'' : (r_2 != 10) = false := by rw [bne, hr2']; rfl
        go_wp2_with (fail)
        go_loopg [15] (n1 - k0) (fun g qv wr => ∃ q : Nat, k0 ≤ q ∧ q < n1 ∧ g = n1 - q ∧ qv = .int .i64 (q : Int) ∧ wr = wn)
        case atStart => exact ⟨k0, Nat.le_refl _, by omega, rfl, rfl, rfl⟩
        case round =>
          obtain ⟨q, hq1, hq2, hg, rfl, hwr⟩ := hrel
          subst hwr
          have HG := Lib.hid hg
          clear hg
          obtain ⟨ad_9, zq, hA_9, _, _, hx_9, hc_9⟩ := D1.out.rd.1.el (i := q) (by have := N1.out; omega)
          obtain rfl : ad = ad_9 := Option.some.inj hA_9
          have HC_9 := Lib.hid (CELL.out _ (List.mem_of_getElem? hx_9))
          have RP_9 := Lib.hid (D1.out.rd.2 _ (List.mem_of_getElem? hx_9))
          have HX_9 := Lib.hid hx_9
          obtain ⟨⟨r_9, s_9⟩, As_9, cs_9⟩ := zq
          obtain ⟨z0_9, z1_9⟩ := cl_cells hc_9
          clear hA_9 hx_9 hc_9
          have hqn : (q : Int) < (n1 : Int) := by omega
          by_cases hr9 : r_9 = 10
          · skip
            have hr9' : (r_9 == 10) = true := by rw [hr9]; rfl
            have hr9'' : (r_9 != 10) = false := by rw [bne, hr9']; rfl
            go_wp2_with (go_at_call 77; refine Hid.out ?_)
            refine Lib.hid ?_
            refine (type_any s l0 k0 A2 none none As_9 n2 c2 0 0 0 0 s_9.length cs_9 l2 [] [] s_9 _ HS.out N2.out R2.out (by omega) rfl Rd.nil (by omega) rfl (fun c hc => by cases hc) rfl Rd.nil (by omega) rfl (fun c hc => by cases hc) rfl RP_9.out HC_9.out.2.2.2 HC_9.out.2.2.1 (by omega)).mono ?_
            rintro e wn ⟨A5, c5, x, rfl, h_1, o_1, y⟩
            have HT := Lib.hid (Utf8Tabs_below HT.out y)
            have R2 := Lib.hid (R2.out.ext y)
            have HS := Lib.hid (HS.out.ext y)
            have D1 := Lib.hid (D1.out.ext y)
            have RP_2 := Lib.hid (RP_2.out.ext y)
            have RP_9 := Lib.hid (RP_9.out.ext y)
            replace hx := ext_trans hx y
            have E_x := Lib.hid h_1
            have O_x := Lib.hid o_1
            clear h_1 o_1
            clear y
            obtain ⟨F, hF⟩ : ∃ X, (l2.map (typeC (typedP l0 [] []) (siftP l0 splitK s_9))) = X := ⟨_, rfl⟩
            have FF : Hid ((∀ c ∈ F, okCl l0 c) ∧ F.length = n2 ∧ F.map (·.r) = l2) := Lib.hid (by
              rw [← hF]
              refine ⟨fun c hc => ?_, by rw [List.length_map, ← N2.out], by rw [List.map_map]; exact List.map_id _⟩
              obtain ⟨r, hr, rfl⟩ := List.mem_map.1 hc
              exact type_ok (List.all_eq_true.1 OK.out r hr) (typed_may H64.out (mayS_none l0) (mayS_none l0)) (split_may H64.out HC_9.out.1))
            rw [hF] at E_x
            clear hF
            have FU : Hid (FitU l0 (pasteU k0 F) (clsOf d).length 10000) := Lib.hid (by rw [LD.out]; exact paste_fit (by omega) (by have := FF.out.2.1; omega) (by omega) FF.out.1)
            have Y_M1 := Lib.hid (made_in (N := 10000) (most := 10000) E_x.out (by have := O_x.out.at_.len; have := O_x.out.at_.b; omega) MD.out FU.out (by omega) (by omega))
            go_wp2_with (go_at_call 38; refine Hid.out ?_)
            refine Lib.hid ?_
            refine (applyDocI (N := 10000) (us := pasteU k0 F) D1.out O_x.out.at_ HS.out HT.out H64.out (by omega) Y_M1.out.1 Y_M1.out.2.1 Y_M1.out.2.2).mono ?_
            rintro e wn ⟨A6, c6, M1, rfl, h_1, m_1, b_1, d_1, y⟩
            have HT := Lib.hid (Utf8Tabs_below HT.out y)
            have R2 := Lib.hid (R2.out.ext y)
            have HS := Lib.hid (HS.out.ext y)
            have D1 := Lib.hid (D1.out.ext y)
            have RP_2 := Lib.hid (RP_2.out.ext y)
            have RP_9 := Lib.hid (RP_9.out.ext y)
            have O_x := Lib.hid (O_x.out.ext y)
            replace hx := ext_trans hx y
            have D_M1 := Lib.hid d_1
            have E_M1 := Lib.hid h_1
            have M_M1 := Lib.hid m_1
            clear d_1 h_1 m_1 b_1
            clear y
            have PA : Hid (clsOf M1 = (clsOf d).take k0 ++ (F ++ (clsOf d).drop k0)) := Lib.hid (by rw [E_M1.out]; exact app_paste l0 k0 F _ (by rw [LD.out]; omega))
            have LM : Hid (M1.length = n1 + n2) := Lib.hid (by rw [← clsOf_len, PA.out]; simp only [List.length_append, List.length_take, List.length_drop, LD.out, FF.out.2.1]; omega)
            obtain ⟨nm, hnm⟩ : ∃ X, M1.length = X := ⟨_, rfl⟩
            have NM := Lib.hid hnm
            rw [hnm] at D_M1 LM ⊢
            have TK : Hid ((clsOf M1).take k0 = (clsOf d).take k0) := Lib.hid (by rw [PA.out]; exact paste_take (by rw [LD.out]; omega))
            have DK : Hid ((clsOf M1).drop k0 = F ++ (clsOf d).drop k0) := Lib.hid (by rw [PA.out]; exact paste_drop (by rw [LD.out]; omega))
            have DR : Hid ((clsOf M1).drop (k0 + n2) = (clsOf d).drop k0) := Lib.hid (by rw [← List.drop_drop, DK.out]; exact List.drop_left' FF.out.2.1)
            have TX : Hid (((clsOf M1).drop k0).take n2 = F) := Lib.hid (by rw [DK.out]; exact List.take_left' FF.out.2.1)
            clear hnm
            obtain ⟨j, hj⟩ : ∃ X, k0 + n2 = X := ⟨_, rfl⟩
            have hw1 : IntKind.i64.wrap ((n1 : Int) + (n2 : Int)) = (nm : Int) := by rw [show ((n1 : Int) + (n2 : Int)) = (nm : Int) by have := LM.out; omega]; exact IntWalk.i64_in _ (by have := LM.out; omega)
            have hw2 : IntKind.i64.wrap ((k0 : Int) + (n2 : Int)) = (j : Int) := by rw [show ((k0 : Int) + (n2 : Int)) = (j : Int) by omega]; exact IntWalk.i64_in _ (by clear hw1; omega)
            have HJ : Hid (j = k0 + n2) := Lib.hid hj.symm
            rw [hj] at DR
            obtain ⟨A7, hA7⟩ : ∃ X, advS A6 c6 j 2 = X := ⟨_, rfl⟩
            obtain ⟨n7, hn7⟩ : ∃ X, nm - j = X := ⟨_, rfl⟩
            obtain ⟨c7, hc7⟩ : ∃ X, c6 - j = X := ⟨_, rfl⟩
            obtain ⟨A8, hA8⟩ : ∃ X, advS (some ad) c1 k0 2 = X := ⟨_, rfl⟩
            obtain ⟨n8, hn8⟩ : ∃ X, n1 - k0 = X := ⟨_, rfl⟩
            obtain ⟨c8, hc8⟩ : ∃ X, c1 - k0 = X := ⟨_, rfl⟩
            obtain ⟨A9, hA9⟩ : ∃ X, advS A6 c6 k0 2 = X := ⟨_, rfl⟩
            obtain ⟨c9, hc9⟩ : ∃ X, c6 - k0 = X := ⟨_, rfl⟩
            have CP := D_M1.out.cap
            have LMo := LM.out
            have LJ : k0 ≤ j ∧ j ≤ nm ∧ j - k0 = n2 := by omega
            have sl1 : ∀ W, (Instr.slice 55 (.slice A6 nm c6) none (some (.int .i64 (k0 : Int))) none).run Tryz.prog W = .ok (.slice A6 k0 c6) W := sl_to (l := k0) Tryz.slCl Tryz.elCl size_cl rfl (by clear hw1 hw2; omega)
            have sl2 : ∀ W, (Instr.slice 55 (.slice (some ad) n1 c1) none (some (.int .i64 (k0 : Int))) none).run Tryz.prog W = .ok (.slice (some ad) k0 c1) W := sl_to (l := k0) Tryz.slCl Tryz.elCl size_cl rfl (by clear hw1 hw2; omega)
            have sl3 : ∀ W, (Instr.slice 55 (.slice A6 nm c6) (some (.int .i64 (j : Int))) none none).run Tryz.prog W = .ok (.slice A7 n7 c7) W := sl_from Tryz.slCl Tryz.elCl size_cl rfl hA7 hn7 hc7 LJ.2.1 CP
            have sl4 : ∀ W, (Instr.slice 55 (.slice (some ad) n1 c1) (some (.int .i64 (k0 : Int))) none none).run Tryz.prog W = .ok (.slice A8 n8 c8) W := sl_from Tryz.slCl Tryz.elCl size_cl rfl hA8 hn8 hc8 (by clear hw1 hw2; omega) k1
            have sl5 : ∀ W, (Instr.slice 55 (.slice A6 nm c6) (some (.int .i64 (k0 : Int))) (some (.int .i64 (j : Int))) none).run Tryz.prog W = .ok (.slice A9 n2 c9) W := sl_both Tryz.slCl Tryz.elCl size_cl rfl rfl hA9 LJ.2.2 hc9 LJ.1 (Nat.le_trans LJ.2.1 CP)
            have DA : Hid (DocAt _ A6 k0 c6 (M1.take k0)) := Lib.hid (D_M1.out.take (by omega))
            have DB : Hid (DocAt _ (some ad) k0 c1 (d.take k0)) := Lib.hid (D1.out.take (by omega))
            have DC : Hid (DocAt _ A7 n7 c7 (M1.drop j)) := Lib.hid (D_M1.out.drop hA7 LJ.2.1 hn7 hc7)
            have DE : Hid (DocAt _ A8 n8 c8 (d.drop k0)) := Lib.hid (D1.out.drop hA8 (by omega) hn8 hc8)
            have DG : Hid (DocAt _ A9 n2 c9 ((M1.drop k0).take n2)) := Lib.hid ((D_M1.out.drop (n' := nm - k0) hA9 (by omega) rfl hc9).take (by omega))
            have TG : Hid (((M1.drop k0).take n2).map (·.c.r) = l2) := Lib.hid (by
              have h : clsOf ((M1.drop k0).take n2) = F := by rw [clsOf_take, clsOf_drop]; exact TX.out
              have h2 := congrArg (List.map (·.r)) h
              rw [FF.out.2.2] at h2
              unfold clsOf at h2
              rw [List.map_map] at h2
              exact h2)
            clear hA7 hn7 hc7 hA8 hn8 hc8 hA9 hc9 CP LJ hj LMo
            have hw1' : wrap64 ((n1 : Int) + (n2 : Int)) = (nm : Int) := by rw [← hw1, IntWalk.i64_left]
            have hw2' : wrap64 ((k0 : Int) + (n2 : Int)) = (j : Int) := by rw [← hw2, IntWalk.i64_left]
            have TA : Hid (clsOf (M1.take k0) = clsOf (d.take k0)) := Lib.hid (by rw [clsOf_take, clsOf_take]; exact TK.out)
            have TC : Hid (clsOf (M1.drop j) = clsOf (d.drop k0)) := Lib.hid (by rw [clsOf_drop, clsOf_drop]; exact DR.out)
            have CT : ∀ w' : World, Below wn.heap.size wn w' → Calls Tryz.prog 79 #[.slice A9 n2 c9] w' (NewI32 l2 w') := fun w' yy => by
              have h := cellsText_any A9 n2 c9 _ w' (DG.out.ext yy).len (DG.out.ext yy).rd.1 (by clear hw1 hw2 hw1' hw2'; omega)
              rw [TG.out] at h
              exact h
            have CSM : ∀ (w' : World) (AT : Option Addr) (cT : Nat), RdI32 w' w'.heap.size AT l2 → Below wn.heap.size wn w' → Calls Tryz.prog 78 #[.slice AT l2.length cT, .slice A2 n2 c2] w' (QuietR (.bool true) w') := fun w' AT cT hr yy => by
              have h := refSame_any AT A2 l2.length n2 cT c2 l2 l2 w' rfl N2.out hr (R2.out.ext yy) (by have := N2.out; clear hw1 hw2 hw1' hw2'; omega) (by clear hw1 hw2 hw1' hw2'; omega)
              rw [decide_eq_true rfl] at h
              exact h
            go_wp2_with (fail)
            go_region_held3 (fun w' => True) (go_keep) (first
              | (go_at_call 69
                 with_reducible refine (sameD (DA.out.ext (up_drew (Below.refl _ _))) (DB.out.ext (up_drew (Below.refl _ _))) (decide_eq_true TA.out)).mono ?_
                 rintro e wa ⟨rfl, ya⟩
                 have YA : Hid (Below wn.heap.size wn wa) := Lib.hid (ext_trans (up_drew (Below.refl _ _)) ya)
                 clear ya)
              | (go_at_call 69
                 with_reducible refine (sameD (DC.out.ext YA.out) (DE.out.ext YA.out) (decide_eq_true TC.out)).mono ?_
                 rintro e wb ⟨rfl, yb⟩
                 have YB : Hid (Below wn.heap.size wn wb) := Lib.hid (ext_trans YA.out yb)
                 clear yb)
              | (go_at_call 79
                 with_reducible refine (CT _ YB.out).mono ?_
                 rintro e wc ⟨AT, cT, rfl, oT, yc⟩
                 have RT := Lib.hid (oT.rd encI32_len)
                 have YC : Hid (Below wn.heap.size wn wc) := Lib.hid (ext_trans YB.out yc)
                 clear oT yc)
              | (go_at_call 78
                 with_reducible refine (CSM _ AT cT RT.out YC.out).mono ?_
                 rintro e wd ⟨rfl, qc, hd⟩
                 have YD : Hid (Below wn.heap.size wn wd) := Lib.hid (ext_trans YC.out (drew_ext hd))
                 clear hd))
            have y := YD.out
            clear YA YB YC YD RT CT CSM
            have HT := Lib.hid (Utf8Tabs_below HT.out y)
            have R2 := Lib.hid (R2.out.ext y)
            have HS := Lib.hid (HS.out.ext y)
            have D1 := Lib.hid (D1.out.ext y)
            have RP_2 := Lib.hid (RP_2.out.ext y)
            have RP_9 := Lib.hid (RP_9.out.ext y)
            have O_x := Lib.hid (O_x.out.ext y)
            have D_M1 := Lib.hid (D_M1.out.ext y)
            have DA := Lib.hid (DA.out.ext y)
            have DB := Lib.hid (DB.out.ext y)
            have DC := Lib.hid (DC.out.ext y)
            have DE := Lib.hid (DE.out.ext y)
            have DG := Lib.hid (DG.out.ext y)
            replace hx := ext_trans hx y
            clear y
            clear hw1' hw2'
            go_wp2_with (go_at_call 74; refine Hid.out ?_)
            refine Lib.hid ?_
            refine (remove_any k0 n2 (k0 : Int) (j : Int) rfl (by have := HJ.out; omega) (by have := G0.out; omega) _).mono ?_
            rintro e wn ⟨A10, c10, x2, rfl, h_1, o_1, y⟩
            have HT := Lib.hid (Utf8Tabs_below HT.out y)
            have R2 := Lib.hid (R2.out.ext y)
            have HS := Lib.hid (HS.out.ext y)
            have D1 := Lib.hid (D1.out.ext y)
            have RP_2 := Lib.hid (RP_2.out.ext y)
            have RP_9 := Lib.hid (RP_9.out.ext y)
            have O_x := Lib.hid (O_x.out.ext y)
            have D_M1 := Lib.hid (D_M1.out.ext y)
            have DA := Lib.hid (DA.out.ext y)
            have DB := Lib.hid (DB.out.ext y)
            have DC := Lib.hid (DC.out.ext y)
            have DE := Lib.hid (DE.out.ext y)
            have DG := Lib.hid (DG.out.ext y)
            replace hx := ext_trans hx y
            have E_x2 := Lib.hid h_1
            have O_x2 := Lib.hid o_1
            clear h_1 o_1
            clear y
            have LC : Hid ((clsOf M1).length = nm) := Lib.hid D_M1.out.clen
            have FG : Hid (FitU l0 (goneU k0 n2) (clsOf M1).length 10000) := Lib.hid (gone_any (by rw [LC.out]; have := G0.out; have := LM.out; clear hw1 hw2; omega) (by rw [LC.out]; have := G0.out; have := LM.out; clear hw1 hw2; omega) (by omega))
            have Y_M2 := Lib.hid (made_in (N := 10000) (most := 10000) E_x2.out (by have := O_x2.out.at_.len; have := O_x2.out.at_.b; omega) M_M1.out FG.out (by omega) (by omega))
            go_wp2_with (go_at_call 38; refine Hid.out ?_)
            refine Lib.hid ?_
            refine (applyDocI (N := 10000) (us := goneU k0 n2) D_M1.out O_x2.out.at_ HS.out HT.out H64.out (by omega) Y_M2.out.1 Y_M2.out.2.1 Y_M2.out.2.2).mono ?_
            rintro e wn ⟨A11, c11, M2, rfl, h_1, m_1, b_1, d_1, y⟩
            have HT := Lib.hid (Utf8Tabs_below HT.out y)
            have R2 := Lib.hid (R2.out.ext y)
            have HS := Lib.hid (HS.out.ext y)
            have D1 := Lib.hid (D1.out.ext y)
            have RP_2 := Lib.hid (RP_2.out.ext y)
            have RP_9 := Lib.hid (RP_9.out.ext y)
            have O_x := Lib.hid (O_x.out.ext y)
            have D_M1 := Lib.hid (D_M1.out.ext y)
            have DA := Lib.hid (DA.out.ext y)
            have DB := Lib.hid (DB.out.ext y)
            have DC := Lib.hid (DC.out.ext y)
            have DE := Lib.hid (DE.out.ext y)
            have DG := Lib.hid (DG.out.ext y)
            have O_x2 := Lib.hid (O_x2.out.ext y)
            replace hx := ext_trans hx y
            have D_M2 := Lib.hid d_1
            have E_M2 := Lib.hid h_1
            have M_M2 := Lib.hid m_1
            clear d_1 h_1 m_1 b_1
            clear y
            have EB : Hid (clsOf M2 = clsOf d) := Lib.hid (by rw [E_M2.out, app_gone l0 (by rw [LC.out]; have := G0.out; have := LM.out; clear hw1 hw2; omega), TK.out, ← HJ.out, DR.out]; exact List.take_append_drop _ _)
            go_wp2_with (go_at_call 69; refine Hid.out ?_)
            refine Lib.hid ?_
            refine (sameD D_M2.out D1.out (decide_eq_true EB.out)).mono ?_
            rintro e wn ⟨rfl, y⟩
            have HT := Lib.hid (Utf8Tabs_below HT.out y)
            have R2 := Lib.hid (R2.out.ext y)
            have HS := Lib.hid (HS.out.ext y)
            have D1 := Lib.hid (D1.out.ext y)
            have RP_2 := Lib.hid (RP_2.out.ext y)
            have RP_9 := Lib.hid (RP_9.out.ext y)
            have O_x := Lib.hid (O_x.out.ext y)
            have D_M1 := Lib.hid (D_M1.out.ext y)
            have DA := Lib.hid (DA.out.ext y)
            have DB := Lib.hid (DB.out.ext y)
            have DC := Lib.hid (DC.out.ext y)
            have DE := Lib.hid (DE.out.ext y)
            have DG := Lib.hid (DG.out.ext y)
            have O_x2 := Lib.hid (O_x2.out.ext y)
            have D_M2 := Lib.hid (D_M2.out.ext y)
            replace hx := ext_trans hx y
            clear y
            go_wp2_with (go_at_call 73; refine Hid.out ?_)
            refine Lib.hid ?_
            refine (known24_any _ HT.out).mono ?_
            rintro e w2 ⟨rfl, y⟩
            replace hx := ext_trans hx y
            go_wp2_with (fail)
            go_ret
            exact ⟨rfl, hx⟩
          have hr9' : (r_9 == 10) = false := beq_eq_false_iff_ne.2 hr9
          have hl9 := LAST.out q _ HX_9.out hr9
          have hw9 : IntKind.i64.wrap ((q : Int) + 1) = ((q + 1 : Nat) : Int) := IntWalk.i64_in _ (by omega)
          go_wp2_with (fail)
          go_roundg (n1 - (q + 1))
          case measure => have := HG.out; omega
          case rel => exact ⟨q + 1, by omega, hl9, rfl, by go_num, rfl⟩
      have hr2' : (r_2 == 10) = false := beq_eq_false_iff_ne.2 hr2
      have hr2'' : (r_2 != 10) = true := by rw [bne, hr2']; rfl
      go_wp2_with (fail)
      go_loopg [15] (n1 - k0) (fun g qv wr => ∃ q : Nat, k0 ≤ q ∧ q < n1 ∧ g = n1 - q ∧ qv = .int .i64 (q : Int) ∧ wr = wn)
      case atStart => exact ⟨k0, Nat.le_refl _, by omega, rfl, rfl, rfl⟩
      case round =>
        obtain ⟨q, hq1, hq2, hg, rfl, hwr⟩ := hrel
        subst hwr
        have HG := Lib.hid hg
        clear hg
        obtain ⟨ad_9, zq, hA_9, _, _, hx_9, hc_9⟩ := D1.out.rd.1.el (i := q) (by have := N1.out; omega)
        obtain rfl : ad = ad_9 := Option.some.inj hA_9
        have HC_9 := Lib.hid (CELL.out _ (List.mem_of_getElem? hx_9))
        have RP_9 := Lib.hid (D1.out.rd.2 _ (List.mem_of_getElem? hx_9))
        have HX_9 := Lib.hid hx_9
        obtain ⟨⟨r_9, s_9⟩, As_9, cs_9⟩ := zq
        obtain ⟨z0_9, z1_9⟩ := cl_cells hc_9
        clear hA_9 hx_9 hc_9
        have hqn : (q : Int) < (n1 : Int) := by omega
        by_cases hr9 : r_9 = 10
        · skip
          have hr9' : (r_9 == 10) = true := by rw [hr9]; rfl
          have hr9'' : (r_9 != 10) = false := by rw [bne, hr9']; rfl
          go_wp2_with (go_at_call 77; refine Hid.out ?_)
          refine Lib.hid ?_
          refine (type_any s l0 k0 A2 none As_2 As_9 n2 c2 0 0 s_2.length cs_2 s_9.length cs_9 l2 [] s_2 s_9 _ HS.out N2.out R2.out (by omega) rfl Rd.nil (by omega) rfl (fun c hc => by cases hc) rfl RP_2.out HC_2.out.2.2.2 HC_2.out.2.1 HC_2.out.2.2.1 rfl RP_9.out HC_9.out.2.2.2 HC_9.out.2.2.1 (by omega)).mono ?_
          rintro e wn ⟨A5, c5, x, rfl, h_1, o_1, y⟩
          have HT := Lib.hid (Utf8Tabs_below HT.out y)
          have R2 := Lib.hid (R2.out.ext y)
          have HS := Lib.hid (HS.out.ext y)
          have D1 := Lib.hid (D1.out.ext y)
          have RP_2 := Lib.hid (RP_2.out.ext y)
          have RP_9 := Lib.hid (RP_9.out.ext y)
          replace hx := ext_trans hx y
          have E_x := Lib.hid h_1
          have O_x := Lib.hid o_1
          clear h_1 o_1
          clear y
          obtain ⟨F, hF⟩ : ∃ X, (l2.map (typeC (typedP l0 [] s_2) (siftP l0 splitK s_9))) = X := ⟨_, rfl⟩
          have FF : Hid ((∀ c ∈ F, okCl l0 c) ∧ F.length = n2 ∧ F.map (·.r) = l2) := Lib.hid (by
            rw [← hF]
            refine ⟨fun c hc => ?_, by rw [List.length_map, ← N2.out], by rw [List.map_map]; exact List.map_id _⟩
            obtain ⟨r, hr, rfl⟩ := List.mem_map.1 hc
            exact type_ok (List.all_eq_true.1 OK.out r hr) (typed_may H64.out (mayS_none l0) HC_2.out.1) (split_may H64.out HC_9.out.1))
          rw [hF] at E_x
          clear hF
          have FU : Hid (FitU l0 (pasteU k0 F) (clsOf d).length 10000) := Lib.hid (by rw [LD.out]; exact paste_fit (by omega) (by have := FF.out.2.1; omega) (by omega) FF.out.1)
          have Y_M1 := Lib.hid (made_in (N := 10000) (most := 10000) E_x.out (by have := O_x.out.at_.len; have := O_x.out.at_.b; omega) MD.out FU.out (by omega) (by omega))
          go_wp2_with (go_at_call 38; refine Hid.out ?_)
          refine Lib.hid ?_
          refine (applyDocI (N := 10000) (us := pasteU k0 F) D1.out O_x.out.at_ HS.out HT.out H64.out (by omega) Y_M1.out.1 Y_M1.out.2.1 Y_M1.out.2.2).mono ?_
          rintro e wn ⟨A6, c6, M1, rfl, h_1, m_1, b_1, d_1, y⟩
          have HT := Lib.hid (Utf8Tabs_below HT.out y)
          have R2 := Lib.hid (R2.out.ext y)
          have HS := Lib.hid (HS.out.ext y)
          have D1 := Lib.hid (D1.out.ext y)
          have RP_2 := Lib.hid (RP_2.out.ext y)
          have RP_9 := Lib.hid (RP_9.out.ext y)
          have O_x := Lib.hid (O_x.out.ext y)
          replace hx := ext_trans hx y
          have D_M1 := Lib.hid d_1
          have E_M1 := Lib.hid h_1
          have M_M1 := Lib.hid m_1
          clear d_1 h_1 m_1 b_1
          clear y
          have PA : Hid (clsOf M1 = (clsOf d).take k0 ++ (F ++ (clsOf d).drop k0)) := Lib.hid (by rw [E_M1.out]; exact app_paste l0 k0 F _ (by rw [LD.out]; omega))
          have LM : Hid (M1.length = n1 + n2) := Lib.hid (by rw [← clsOf_len, PA.out]; simp only [List.length_append, List.length_take, List.length_drop, LD.out, FF.out.2.1]; omega)
          obtain ⟨nm, hnm⟩ : ∃ X, M1.length = X := ⟨_, rfl⟩
          have NM := Lib.hid hnm
          rw [hnm] at D_M1 LM ⊢
          have TK : Hid ((clsOf M1).take k0 = (clsOf d).take k0) := Lib.hid (by rw [PA.out]; exact paste_take (by rw [LD.out]; omega))
          have DK : Hid ((clsOf M1).drop k0 = F ++ (clsOf d).drop k0) := Lib.hid (by rw [PA.out]; exact paste_drop (by rw [LD.out]; omega))
          have DR : Hid ((clsOf M1).drop (k0 + n2) = (clsOf d).drop k0) := Lib.hid (by rw [← List.drop_drop, DK.out]; exact List.drop_left' FF.out.2.1)
          have TX : Hid (((clsOf M1).drop k0).take n2 = F) := Lib.hid (by rw [DK.out]; exact List.take_left' FF.out.2.1)
          clear hnm
          obtain ⟨j, hj⟩ : ∃ X, k0 + n2 = X := ⟨_, rfl⟩
          have hw1 : IntKind.i64.wrap ((n1 : Int) + (n2 : Int)) = (nm : Int) := by rw [show ((n1 : Int) + (n2 : Int)) = (nm : Int) by have := LM.out; omega]; exact IntWalk.i64_in _ (by have := LM.out; omega)
          have hw2 : IntKind.i64.wrap ((k0 : Int) + (n2 : Int)) = (j : Int) := by rw [show ((k0 : Int) + (n2 : Int)) = (j : Int) by omega]; exact IntWalk.i64_in _ (by clear hw1; omega)
          have HJ : Hid (j = k0 + n2) := Lib.hid hj.symm
          rw [hj] at DR
          obtain ⟨A7, hA7⟩ : ∃ X, advS A6 c6 j 2 = X := ⟨_, rfl⟩
          obtain ⟨n7, hn7⟩ : ∃ X, nm - j = X := ⟨_, rfl⟩
          obtain ⟨c7, hc7⟩ : ∃ X, c6 - j = X := ⟨_, rfl⟩
          obtain ⟨A8, hA8⟩ : ∃ X, advS (some ad) c1 k0 2 = X := ⟨_, rfl⟩
          obtain ⟨n8, hn8⟩ : ∃ X, n1 - k0 = X := ⟨_, rfl⟩
          obtain ⟨c8, hc8⟩ : ∃ X, c1 - k0 = X := ⟨_, rfl⟩
          obtain ⟨A9, hA9⟩ : ∃ X, advS A6 c6 k0 2 = X := ⟨_, rfl⟩
          obtain ⟨c9, hc9⟩ : ∃ X, c6 - k0 = X := ⟨_, rfl⟩
          have CP := D_M1.out.cap
          have LMo := LM.out
          have LJ : k0 ≤ j ∧ j ≤ nm ∧ j - k0 = n2 := by omega
          have sl1 : ∀ W, (Instr.slice 55 (.slice A6 nm c6) none (some (.int .i64 (k0 : Int))) none).run Tryz.prog W = .ok (.slice A6 k0 c6) W := sl_to (l := k0) Tryz.slCl Tryz.elCl size_cl rfl (by clear hw1 hw2; omega)
          have sl2 : ∀ W, (Instr.slice 55 (.slice (some ad) n1 c1) none (some (.int .i64 (k0 : Int))) none).run Tryz.prog W = .ok (.slice (some ad) k0 c1) W := sl_to (l := k0) Tryz.slCl Tryz.elCl size_cl rfl (by clear hw1 hw2; omega)
          have sl3 : ∀ W, (Instr.slice 55 (.slice A6 nm c6) (some (.int .i64 (j : Int))) none none).run Tryz.prog W = .ok (.slice A7 n7 c7) W := sl_from Tryz.slCl Tryz.elCl size_cl rfl hA7 hn7 hc7 LJ.2.1 CP
          have sl4 : ∀ W, (Instr.slice 55 (.slice (some ad) n1 c1) (some (.int .i64 (k0 : Int))) none none).run Tryz.prog W = .ok (.slice A8 n8 c8) W := sl_from Tryz.slCl Tryz.elCl size_cl rfl hA8 hn8 hc8 (by clear hw1 hw2; omega) k1
          have sl5 : ∀ W, (Instr.slice 55 (.slice A6 nm c6) (some (.int .i64 (k0 : Int))) (some (.int .i64 (j : Int))) none).run Tryz.prog W = .ok (.slice A9 n2 c9) W := sl_both Tryz.slCl Tryz.elCl size_cl rfl rfl hA9 LJ.2.2 hc9 LJ.1 (Nat.le_trans LJ.2.1 CP)
          have DA : Hid (DocAt _ A6 k0 c6 (M1.take k0)) := Lib.hid (D_M1.out.take (by omega))
          have DB : Hid (DocAt _ (some ad) k0 c1 (d.take k0)) := Lib.hid (D1.out.take (by omega))
          have DC : Hid (DocAt _ A7 n7 c7 (M1.drop j)) := Lib.hid (D_M1.out.drop hA7 LJ.2.1 hn7 hc7)
          have DE : Hid (DocAt _ A8 n8 c8 (d.drop k0)) := Lib.hid (D1.out.drop hA8 (by omega) hn8 hc8)
          have DG : Hid (DocAt _ A9 n2 c9 ((M1.drop k0).take n2)) := Lib.hid ((D_M1.out.drop (n' := nm - k0) hA9 (by omega) rfl hc9).take (by omega))
          have TG : Hid (((M1.drop k0).take n2).map (·.c.r) = l2) := Lib.hid (by
            have h : clsOf ((M1.drop k0).take n2) = F := by rw [clsOf_take, clsOf_drop]; exact TX.out
            have h2 := congrArg (List.map (·.r)) h
            rw [FF.out.2.2] at h2
            unfold clsOf at h2
            rw [List.map_map] at h2
            exact h2)
          clear hA7 hn7 hc7 hA8 hn8 hc8 hA9 hc9 CP LJ hj LMo
          have hw1' : wrap64 ((n1 : Int) + (n2 : Int)) = (nm : Int) := by rw [← hw1, IntWalk.i64_left]
          have hw2' : wrap64 ((k0 : Int) + (n2 : Int)) = (j : Int) := by rw [← hw2, IntWalk.i64_left]
          have TA : Hid (clsOf (M1.take k0) = clsOf (d.take k0)) := Lib.hid (by rw [clsOf_take, clsOf_take]; exact TK.out)
          have TC : Hid (clsOf (M1.drop j) = clsOf (d.drop k0)) := Lib.hid (by rw [clsOf_drop, clsOf_drop]; exact DR.out)
          have CT : ∀ w' : World, Below wn.heap.size wn w' → Calls Tryz.prog 79 #[.slice A9 n2 c9] w' (NewI32 l2 w') := fun w' yy => by
            have h := cellsText_any A9 n2 c9 _ w' (DG.out.ext yy).len (DG.out.ext yy).rd.1 (by clear hw1 hw2 hw1' hw2'; omega)
            rw [TG.out] at h
            exact h
          have CSM : ∀ (w' : World) (AT : Option Addr) (cT : Nat), RdI32 w' w'.heap.size AT l2 → Below wn.heap.size wn w' → Calls Tryz.prog 78 #[.slice AT l2.length cT, .slice A2 n2 c2] w' (QuietR (.bool true) w') := fun w' AT cT hr yy => by
            have h := refSame_any AT A2 l2.length n2 cT c2 l2 l2 w' rfl N2.out hr (R2.out.ext yy) (by have := N2.out; clear hw1 hw2 hw1' hw2'; omega) (by clear hw1 hw2 hw1' hw2'; omega)
            rw [decide_eq_true rfl] at h
            exact h
          go_wp2_with (fail)
          go_region_held3 (fun w' => True) (go_keep) (first
            | (go_at_call 69
               with_reducible refine (sameD (DA.out.ext (up_drew (Below.refl _ _))) (DB.out.ext (up_drew (Below.refl _ _))) (decide_eq_true TA.out)).mono ?_
               rintro e wa ⟨rfl, ya⟩
               have YA : Hid (Below wn.heap.size wn wa) := Lib.hid (ext_trans (up_drew (Below.refl _ _)) ya)
               clear ya)
            | (go_at_call 69
               with_reducible refine (sameD (DC.out.ext YA.out) (DE.out.ext YA.out) (decide_eq_true TC.out)).mono ?_
               rintro e wb ⟨rfl, yb⟩
               have YB : Hid (Below wn.heap.size wn wb) := Lib.hid (ext_trans YA.out yb)
               clear yb)
            | (go_at_call 79
               with_reducible refine (CT _ YB.out).mono ?_
               rintro e wc ⟨AT, cT, rfl, oT, yc⟩
               have RT := Lib.hid (oT.rd encI32_len)
               have YC : Hid (Below wn.heap.size wn wc) := Lib.hid (ext_trans YB.out yc)
               clear oT yc)
            | (go_at_call 78
               with_reducible refine (CSM _ AT cT RT.out YC.out).mono ?_
               rintro e wd ⟨rfl, qc, hd⟩
               have YD : Hid (Below wn.heap.size wn wd) := Lib.hid (ext_trans YC.out (drew_ext hd))
               clear hd))
          have y := YD.out
          clear YA YB YC YD RT CT CSM
          have HT := Lib.hid (Utf8Tabs_below HT.out y)
          have R2 := Lib.hid (R2.out.ext y)
          have HS := Lib.hid (HS.out.ext y)
          have D1 := Lib.hid (D1.out.ext y)
          have RP_2 := Lib.hid (RP_2.out.ext y)
          have RP_9 := Lib.hid (RP_9.out.ext y)
          have O_x := Lib.hid (O_x.out.ext y)
          have D_M1 := Lib.hid (D_M1.out.ext y)
          have DA := Lib.hid (DA.out.ext y)
          have DB := Lib.hid (DB.out.ext y)
          have DC := Lib.hid (DC.out.ext y)
          have DE := Lib.hid (DE.out.ext y)
          have DG := Lib.hid (DG.out.ext y)
          replace hx := ext_trans hx y
          clear y
          clear hw1' hw2'
          go_wp2_with (go_at_call 74; refine Hid.out ?_)
          refine Lib.hid ?_
          refine (remove_any k0 n2 (k0 : Int) (j : Int) rfl (by have := HJ.out; omega) (by have := G0.out; omega) _).mono ?_
          rintro e wn ⟨A10, c10, x2, rfl, h_1, o_1, y⟩
          have HT := Lib.hid (Utf8Tabs_below HT.out y)
          have R2 := Lib.hid (R2.out.ext y)
          have HS := Lib.hid (HS.out.ext y)
          have D1 := Lib.hid (D1.out.ext y)
          have RP_2 := Lib.hid (RP_2.out.ext y)
          have RP_9 := Lib.hid (RP_9.out.ext y)
          have O_x := Lib.hid (O_x.out.ext y)
          have D_M1 := Lib.hid (D_M1.out.ext y)
          have DA := Lib.hid (DA.out.ext y)
          have DB := Lib.hid (DB.out.ext y)
          have DC := Lib.hid (DC.out.ext y)
          have DE := Lib.hid (DE.out.ext y)
          have DG := Lib.hid (DG.out.ext y)
          replace hx := ext_trans hx y
          have E_x2 := Lib.hid h_1
          have O_x2 := Lib.hid o_1
          clear h_1 o_1
          clear y
          have LC : Hid ((clsOf M1).length = nm) := Lib.hid D_M1.out.clen
          have FG : Hid (FitU l0 (goneU k0 n2) (clsOf M1).length 10000) := Lib.hid (gone_any (by rw [LC.out]; have := G0.out; have := LM.out; clear hw1 hw2; omega) (by rw [LC.out]; have := G0.out; have := LM.out; clear hw1 hw2; omega) (by omega))
          have Y_M2 := Lib.hid (made_in (N := 10000) (most := 10000) E_x2.out (by have := O_x2.out.at_.len; have := O_x2.out.at_.b; omega) M_M1.out FG.out (by omega) (by omega))
          go_wp2_with (go_at_call 38; refine Hid.out ?_)
          refine Lib.hid ?_
          refine (applyDocI (N := 10000) (us := goneU k0 n2) D_M1.out O_x2.out.at_ HS.out HT.out H64.out (by omega) Y_M2.out.1 Y_M2.out.2.1 Y_M2.out.2.2).mono ?_
          rintro e wn ⟨A11, c11, M2, rfl, h_1, m_1, b_1, d_1, y⟩
          have HT := Lib.hid (Utf8Tabs_below HT.out y)
          have R2 := Lib.hid (R2.out.ext y)
          have HS := Lib.hid (HS.out.ext y)
          have D1 := Lib.hid (D1.out.ext y)
          have RP_2 := Lib.hid (RP_2.out.ext y)
          have RP_9 := Lib.hid (RP_9.out.ext y)
          have O_x := Lib.hid (O_x.out.ext y)
          have D_M1 := Lib.hid (D_M1.out.ext y)
          have DA := Lib.hid (DA.out.ext y)
          have DB := Lib.hid (DB.out.ext y)
          have DC := Lib.hid (DC.out.ext y)
          have DE := Lib.hid (DE.out.ext y)
          have DG := Lib.hid (DG.out.ext y)
          have O_x2 := Lib.hid (O_x2.out.ext y)
          replace hx := ext_trans hx y
          have D_M2 := Lib.hid d_1
          have E_M2 := Lib.hid h_1
          have M_M2 := Lib.hid m_1
          clear d_1 h_1 m_1 b_1
          clear y
          have EB : Hid (clsOf M2 = clsOf d) := Lib.hid (by rw [E_M2.out, app_gone l0 (by rw [LC.out]; have := G0.out; have := LM.out; clear hw1 hw2; omega), TK.out, ← HJ.out, DR.out]; exact List.take_append_drop _ _)
          go_wp2_with (go_at_call 69; refine Hid.out ?_)
          refine Lib.hid ?_
          refine (sameD D_M2.out D1.out (decide_eq_true EB.out)).mono ?_
          rintro e wn ⟨rfl, y⟩
          have HT := Lib.hid (Utf8Tabs_below HT.out y)
          have R2 := Lib.hid (R2.out.ext y)
          have HS := Lib.hid (HS.out.ext y)
          have D1 := Lib.hid (D1.out.ext y)
          have RP_2 := Lib.hid (RP_2.out.ext y)
          have RP_9 := Lib.hid (RP_9.out.ext y)
          have O_x := Lib.hid (O_x.out.ext y)
          have D_M1 := Lib.hid (D_M1.out.ext y)
          have DA := Lib.hid (DA.out.ext y)
          have DB := Lib.hid (DB.out.ext y)
          have DC := Lib.hid (DC.out.ext y)
          have DE := Lib.hid (DE.out.ext y)
          have DG := Lib.hid (DG.out.ext y)
          have O_x2 := Lib.hid (O_x2.out.ext y)
          have D_M2 := Lib.hid (D_M2.out.ext y)
          replace hx := ext_trans hx y
          clear y
          go_wp2_with (go_at_call 73; refine Hid.out ?_)
          refine Lib.hid ?_
          refine (known24_any _ HT.out).mono ?_
          rintro e w2 ⟨rfl, y⟩
          replace hx := ext_trans hx y
          go_wp2_with (fail)
          go_ret
          exact ⟨rfl, hx⟩
        have hr9' : (r_9 == 10) = false := beq_eq_false_iff_ne.2 hr9
        have hl9 := LAST.out q _ HX_9.out hr9
        have hw9 : IntKind.i64.wrap ((q : Int) + 1) = ((q + 1 : Nat) : Int) := IntWalk.i64_in _ (by omega)
        go_wp2_with (fail)
        go_roundg (n1 - (q + 1))
        case measure => have := HG.out; omega
        case rel => exact ⟨q + 1, by omega, hl9, rfl, by go_num, rfl⟩
    have hp0' : (0 : Int) < (k0 : Int) := by omega
    obtain ⟨kl, hkl⟩ : ∃ X, k0 - 1 = X := ⟨_, rfl⟩
    have hkl2 : kl + 1 = k0 := by omega
    have hwl : IntKind.i64.wrap ((k0 : Int) - 1) = (kl : Int) := by rw [show ((k0 : Int) - 1) = (kl : Int) by omega]; exact IntWalk.i64_in _ (by omega)
    have hln : (kl : Int) < (n1 : Int) := by omega
    clear hkl
    obtain ⟨ad_1, zl, hA_1, _, _, hx_1, hc_1⟩ := D1.out.rd.1.el (i := kl) (by have := N1.out; omega)
    obtain rfl : ad = ad_1 := Option.some.inj hA_1
    have HC_1 := Lib.hid (CELL.out _ (List.mem_of_getElem? hx_1))
    have RP_1 := Lib.hid (D1.out.rd.2 _ (List.mem_of_getElem? hx_1))
    have HX_1 := Lib.hid hx_1
    obtain ⟨⟨r_1, s_1⟩, As_1, cs_1⟩ := zl
    obtain ⟨z0_1, z1_1⟩ := cl_cells hc_1
    clear hA_1 hx_1 hc_1
    obtain ⟨pa_1, hpa_1⟩ : ∃ X, ad.add (kl * 2) = X := ⟨_, rfl⟩
    rw [hpa_1] at z0_1 z1_1
    by_cases hr1 : r_1 = 10
    · skip
      have hr1' : (r_1 == 10) = true := by rw [hr1]; rfl
      have hr1'' : (r_1 != 10) = false := by rw [bne, hr1']; rfl
      obtain ⟨ad_2, zp, hA_2, _, _, hx_2, hc_2⟩ := D1.out.rd.1.el (i := k0) (by have := N1.out; omega)
      obtain rfl : ad = ad_2 := Option.some.inj hA_2
      have HC_2 := Lib.hid (CELL.out _ (List.mem_of_getElem? hx_2))
      have RP_2 := Lib.hid (D1.out.rd.2 _ (List.mem_of_getElem? hx_2))
      have HX_2 := Lib.hid hx_2
      obtain ⟨⟨r_2, s_2⟩, As_2, cs_2⟩ := zp
      obtain ⟨z0_2, z1_2⟩ := cl_cells hc_2
      clear hA_2 hx_2 hc_2
      obtain ⟨pa_2, hpa_2⟩ : ∃ X, ad.add (k0 * 2) = X := ⟨_, rfl⟩
      rw [hpa_2] at z0_2 z1_2
      have hpn : (k0 : Int) < (n1 : Int) := by omega
      by_cases hr2 : r_2 = 10
      · skip
        have hr2' : (r_2 == 10) = true := by rw [hr2]; rfl
        have hr2'' : (r_2 != 10) = false := by rw [bne, hr2']; rfl
        go_wp2_with (fail)
        go_loopg [15] (n1 - k0) (fun g qv wr => ∃ q : Nat, k0 ≤ q ∧ q < n1 ∧ g = n1 - q ∧ qv = .int .i64 (q : Int) ∧ wr = wn)
        case atStart => exact ⟨k0, Nat.le_refl _, by omega, rfl, rfl, rfl⟩
        case round =>
          obtain ⟨q, hq1, hq2, hg, rfl, hwr⟩ := hrel
          subst hwr
          have HG := Lib.hid hg
          clear hg
          obtain ⟨ad_9, zq, hA_9, _, _, hx_9, hc_9⟩ := D1.out.rd.1.el (i := q) (by have := N1.out; omega)
          obtain rfl : ad = ad_9 := Option.some.inj hA_9
          have HC_9 := Lib.hid (CELL.out _ (List.mem_of_getElem? hx_9))
          have RP_9 := Lib.hid (D1.out.rd.2 _ (List.mem_of_getElem? hx_9))
          have HX_9 := Lib.hid hx_9
          obtain ⟨⟨r_9, s_9⟩, As_9, cs_9⟩ := zq
          obtain ⟨z0_9, z1_9⟩ := cl_cells hc_9
          clear hA_9 hx_9 hc_9
          have hqn : (q : Int) < (n1 : Int) := by omega
          by_cases hr9 : r_9 = 10
          · skip
            have hr9' : (r_9 == 10) = true := by rw [hr9]; rfl
            have hr9'' : (r_9 != 10) = false := by rw [bne, hr9']; rfl
            go_wp2_with (go_at_call 77; refine Hid.out ?_)
            refine Lib.hid ?_
            refine (type_any s l0 k0 A2 none none As_9 n2 c2 0 0 0 0 s_9.length cs_9 l2 [] [] s_9 _ HS.out N2.out R2.out (by omega) rfl Rd.nil (by omega) rfl (fun c hc => by cases hc) rfl Rd.nil (by omega) rfl (fun c hc => by cases hc) rfl RP_9.out HC_9.out.2.2.2 HC_9.out.2.2.1 (by omega)).mono ?_
            rintro e wn ⟨A5, c5, x, rfl, h_1, o_1, y⟩
            have HT := Lib.hid (Utf8Tabs_below HT.out y)
            have R2 := Lib.hid (R2.out.ext y)
            have HS := Lib.hid (HS.out.ext y)
            have D1 := Lib.hid (D1.out.ext y)
            have RP_1 := Lib.hid (RP_1.out.ext y)
            have RP_2 := Lib.hid (RP_2.out.ext y)
            have RP_9 := Lib.hid (RP_9.out.ext y)
            replace hx := ext_trans hx y
            have E_x := Lib.hid h_1
            have O_x := Lib.hid o_1
            clear h_1 o_1
            clear y
            obtain ⟨F, hF⟩ : ∃ X, (l2.map (typeC (typedP l0 [] []) (siftP l0 splitK s_9))) = X := ⟨_, rfl⟩
            have FF : Hid ((∀ c ∈ F, okCl l0 c) ∧ F.length = n2 ∧ F.map (·.r) = l2) := Lib.hid (by
              rw [← hF]
              refine ⟨fun c hc => ?_, by rw [List.length_map, ← N2.out], by rw [List.map_map]; exact List.map_id _⟩
              obtain ⟨r, hr, rfl⟩ := List.mem_map.1 hc
              exact type_ok (List.all_eq_true.1 OK.out r hr) (typed_may H64.out (mayS_none l0) (mayS_none l0)) (split_may H64.out HC_9.out.1))
            rw [hF] at E_x
            clear hF
            have FU : Hid (FitU l0 (pasteU k0 F) (clsOf d).length 10000) := Lib.hid (by rw [LD.out]; exact paste_fit (by omega) (by have := FF.out.2.1; omega) (by omega) FF.out.1)
            have Y_M1 := Lib.hid (made_in (N := 10000) (most := 10000) E_x.out (by have := O_x.out.at_.len; have := O_x.out.at_.b; omega) MD.out FU.out (by omega) (by omega))
            go_wp2_with (go_at_call 38; refine Hid.out ?_)
            refine Lib.hid ?_
            refine (applyDocI (N := 10000) (us := pasteU k0 F) D1.out O_x.out.at_ HS.out HT.out H64.out (by omega) Y_M1.out.1 Y_M1.out.2.1 Y_M1.out.2.2).mono ?_
            rintro e wn ⟨A6, c6, M1, rfl, h_1, m_1, b_1, d_1, y⟩
            have HT := Lib.hid (Utf8Tabs_below HT.out y)
            have R2 := Lib.hid (R2.out.ext y)
            have HS := Lib.hid (HS.out.ext y)
            have D1 := Lib.hid (D1.out.ext y)
            have RP_1 := Lib.hid (RP_1.out.ext y)
            have RP_2 := Lib.hid (RP_2.out.ext y)
            have RP_9 := Lib.hid (RP_9.out.ext y)
            have O_x := Lib.hid (O_x.out.ext y)
            replace hx := ext_trans hx y
            have D_M1 := Lib.hid d_1
            have E_M1 := Lib.hid h_1
            have M_M1 := Lib.hid m_1
            clear d_1 h_1 m_1 b_1
            clear y
            have PA : Hid (clsOf M1 = (clsOf d).take k0 ++ (F ++ (clsOf d).drop k0)) := Lib.hid (by rw [E_M1.out]; exact app_paste l0 k0 F _ (by rw [LD.out]; omega))
            have LM : Hid (M1.length = n1 + n2) := Lib.hid (by rw [← clsOf_len, PA.out]; simp only [List.length_append, List.length_take, List.length_drop, LD.out, FF.out.2.1]; omega)
            obtain ⟨nm, hnm⟩ : ∃ X, M1.length = X := ⟨_, rfl⟩
            have NM := Lib.hid hnm
            rw [hnm] at D_M1 LM ⊢
            have TK : Hid ((clsOf M1).take k0 = (clsOf d).take k0) := Lib.hid (by rw [PA.out]; exact paste_take (by rw [LD.out]; omega))
            have DK : Hid ((clsOf M1).drop k0 = F ++ (clsOf d).drop k0) := Lib.hid (by rw [PA.out]; exact paste_drop (by rw [LD.out]; omega))
            have DR : Hid ((clsOf M1).drop (k0 + n2) = (clsOf d).drop k0) := Lib.hid (by rw [← List.drop_drop, DK.out]; exact List.drop_left' FF.out.2.1)
            have TX : Hid (((clsOf M1).drop k0).take n2 = F) := Lib.hid (by rw [DK.out]; exact List.take_left' FF.out.2.1)
            clear hnm
            obtain ⟨j, hj⟩ : ∃ X, k0 + n2 = X := ⟨_, rfl⟩
            have hw1 : IntKind.i64.wrap ((n1 : Int) + (n2 : Int)) = (nm : Int) := by rw [show ((n1 : Int) + (n2 : Int)) = (nm : Int) by have := LM.out; omega]; exact IntWalk.i64_in _ (by have := LM.out; omega)
            have hw2 : IntKind.i64.wrap ((k0 : Int) + (n2 : Int)) = (j : Int) := by rw [show ((k0 : Int) + (n2 : Int)) = (j : Int) by omega]; exact IntWalk.i64_in _ (by clear hw1; omega)
            have HJ : Hid (j = k0 + n2) := Lib.hid hj.symm
            rw [hj] at DR
            obtain ⟨A7, hA7⟩ : ∃ X, advS A6 c6 j 2 = X := ⟨_, rfl⟩
            obtain ⟨n7, hn7⟩ : ∃ X, nm - j = X := ⟨_, rfl⟩
            obtain ⟨c7, hc7⟩ : ∃ X, c6 - j = X := ⟨_, rfl⟩
            obtain ⟨A8, hA8⟩ : ∃ X, advS (some ad) c1 k0 2 = X := ⟨_, rfl⟩
            obtain ⟨n8, hn8⟩ : ∃ X, n1 - k0 = X := ⟨_, rfl⟩
            obtain ⟨c8, hc8⟩ : ∃ X, c1 - k0 = X := ⟨_, rfl⟩
            obtain ⟨A9, hA9⟩ : ∃ X, advS A6 c6 k0 2 = X := ⟨_, rfl⟩
            obtain ⟨c9, hc9⟩ : ∃ X, c6 - k0 = X := ⟨_, rfl⟩
            have CP := D_M1.out.cap
            have LMo := LM.out
            have LJ : k0 ≤ j ∧ j ≤ nm ∧ j - k0 = n2 := by omega
            have sl1 : ∀ W, (Instr.slice 55 (.slice A6 nm c6) none (some (.int .i64 (k0 : Int))) none).run Tryz.prog W = .ok (.slice A6 k0 c6) W := sl_to (l := k0) Tryz.slCl Tryz.elCl size_cl rfl (by clear hw1 hw2; omega)
            have sl2 : ∀ W, (Instr.slice 55 (.slice (some ad) n1 c1) none (some (.int .i64 (k0 : Int))) none).run Tryz.prog W = .ok (.slice (some ad) k0 c1) W := sl_to (l := k0) Tryz.slCl Tryz.elCl size_cl rfl (by clear hw1 hw2; omega)
            have sl3 : ∀ W, (Instr.slice 55 (.slice A6 nm c6) (some (.int .i64 (j : Int))) none none).run Tryz.prog W = .ok (.slice A7 n7 c7) W := sl_from Tryz.slCl Tryz.elCl size_cl rfl hA7 hn7 hc7 LJ.2.1 CP
            have sl4 : ∀ W, (Instr.slice 55 (.slice (some ad) n1 c1) (some (.int .i64 (k0 : Int))) none none).run Tryz.prog W = .ok (.slice A8 n8 c8) W := sl_from Tryz.slCl Tryz.elCl size_cl rfl hA8 hn8 hc8 (by clear hw1 hw2; omega) k1
            have sl5 : ∀ W, (Instr.slice 55 (.slice A6 nm c6) (some (.int .i64 (k0 : Int))) (some (.int .i64 (j : Int))) none).run Tryz.prog W = .ok (.slice A9 n2 c9) W := sl_both Tryz.slCl Tryz.elCl size_cl rfl rfl hA9 LJ.2.2 hc9 LJ.1 (Nat.le_trans LJ.2.1 CP)
            have DA : Hid (DocAt _ A6 k0 c6 (M1.take k0)) := Lib.hid (D_M1.out.take (by omega))
            have DB : Hid (DocAt _ (some ad) k0 c1 (d.take k0)) := Lib.hid (D1.out.take (by omega))
            have DC : Hid (DocAt _ A7 n7 c7 (M1.drop j)) := Lib.hid (D_M1.out.drop hA7 LJ.2.1 hn7 hc7)
            have DE : Hid (DocAt _ A8 n8 c8 (d.drop k0)) := Lib.hid (D1.out.drop hA8 (by omega) hn8 hc8)
            have DG : Hid (DocAt _ A9 n2 c9 ((M1.drop k0).take n2)) := Lib.hid ((D_M1.out.drop (n' := nm - k0) hA9 (by omega) rfl hc9).take (by omega))
            have TG : Hid (((M1.drop k0).take n2).map (·.c.r) = l2) := Lib.hid (by
              have h : clsOf ((M1.drop k0).take n2) = F := by rw [clsOf_take, clsOf_drop]; exact TX.out
              have h2 := congrArg (List.map (·.r)) h
              rw [FF.out.2.2] at h2
              unfold clsOf at h2
              rw [List.map_map] at h2
              exact h2)
            clear hA7 hn7 hc7 hA8 hn8 hc8 hA9 hc9 CP LJ hj LMo
            have hw1' : wrap64 ((n1 : Int) + (n2 : Int)) = (nm : Int) := by rw [← hw1, IntWalk.i64_left]
            have hw2' : wrap64 ((k0 : Int) + (n2 : Int)) = (j : Int) := by rw [← hw2, IntWalk.i64_left]
            have TA : Hid (clsOf (M1.take k0) = clsOf (d.take k0)) := Lib.hid (by rw [clsOf_take, clsOf_take]; exact TK.out)
            have TC : Hid (clsOf (M1.drop j) = clsOf (d.drop k0)) := Lib.hid (by rw [clsOf_drop, clsOf_drop]; exact DR.out)
            have CT : ∀ w' : World, Below wn.heap.size wn w' → Calls Tryz.prog 79 #[.slice A9 n2 c9] w' (NewI32 l2 w') := fun w' yy => by
              have h := cellsText_any A9 n2 c9 _ w' (DG.out.ext yy).len (DG.out.ext yy).rd.1 (by clear hw1 hw2 hw1' hw2'; omega)
              rw [TG.out] at h
              exact h
            have CSM : ∀ (w' : World) (AT : Option Addr) (cT : Nat), RdI32 w' w'.heap.size AT l2 → Below wn.heap.size wn w' → Calls Tryz.prog 78 #[.slice AT l2.length cT, .slice A2 n2 c2] w' (QuietR (.bool true) w') := fun w' AT cT hr yy => by
              have h := refSame_any AT A2 l2.length n2 cT c2 l2 l2 w' rfl N2.out hr (R2.out.ext yy) (by have := N2.out; clear hw1 hw2 hw1' hw2'; omega) (by clear hw1 hw2 hw1' hw2'; omega)
              rw [decide_eq_true rfl] at h
              exact h
            go_wp2_with (fail)
            go_region_held3 (fun w' => True) (go_keep) (first
              | (go_at_call 69
                 with_reducible refine (sameD (DA.out.ext (up_drew (Below.refl _ _))) (DB.out.ext (up_drew (Below.refl _ _))) (decide_eq_true TA.out)).mono ?_
                 rintro e wa ⟨rfl, ya⟩
                 have YA : Hid (Below wn.heap.size wn wa) := Lib.hid (ext_trans (up_drew (Below.refl _ _)) ya)
                 clear ya)
              | (go_at_call 69
                 with_reducible refine (sameD (DC.out.ext YA.out) (DE.out.ext YA.out) (decide_eq_true TC.out)).mono ?_
                 rintro e wb ⟨rfl, yb⟩
                 have YB : Hid (Below wn.heap.size wn wb) := Lib.hid (ext_trans YA.out yb)
                 clear yb)
              | (go_at_call 79
                 with_reducible refine (CT _ YB.out).mono ?_
                 rintro e wc ⟨AT, cT, rfl, oT, yc⟩
                 have RT := Lib.hid (oT.rd encI32_len)
                 have YC : Hid (Below wn.heap.size wn wc) := Lib.hid (ext_trans YB.out yc)
                 clear oT yc)
              | (go_at_call 78
                 with_reducible refine (CSM _ AT cT RT.out YC.out).mono ?_
                 rintro e wd ⟨rfl, qc, hd⟩
                 have YD : Hid (Below wn.heap.size wn wd) := Lib.hid (ext_trans YC.out (drew_ext hd))
                 clear hd))
            have y := YD.out
            clear YA YB YC YD RT CT CSM
            have HT := Lib.hid (Utf8Tabs_below HT.out y)
            have R2 := Lib.hid (R2.out.ext y)
            have HS := Lib.hid (HS.out.ext y)
            have D1 := Lib.hid (D1.out.ext y)
            have RP_1 := Lib.hid (RP_1.out.ext y)
            have RP_2 := Lib.hid (RP_2.out.ext y)
            have RP_9 := Lib.hid (RP_9.out.ext y)
            have O_x := Lib.hid (O_x.out.ext y)
            have D_M1 := Lib.hid (D_M1.out.ext y)
            have DA := Lib.hid (DA.out.ext y)
            have DB := Lib.hid (DB.out.ext y)
            have DC := Lib.hid (DC.out.ext y)
            have DE := Lib.hid (DE.out.ext y)
            have DG := Lib.hid (DG.out.ext y)
            replace hx := ext_trans hx y
            clear y
            clear hw1' hw2'
            go_wp2_with (go_at_call 74; refine Hid.out ?_)
            refine Lib.hid ?_
            refine (remove_any k0 n2 (k0 : Int) (j : Int) rfl (by have := HJ.out; omega) (by have := G0.out; omega) _).mono ?_
            rintro e wn ⟨A10, c10, x2, rfl, h_1, o_1, y⟩
            have HT := Lib.hid (Utf8Tabs_below HT.out y)
            have R2 := Lib.hid (R2.out.ext y)
            have HS := Lib.hid (HS.out.ext y)
            have D1 := Lib.hid (D1.out.ext y)
            have RP_1 := Lib.hid (RP_1.out.ext y)
            have RP_2 := Lib.hid (RP_2.out.ext y)
            have RP_9 := Lib.hid (RP_9.out.ext y)
            have O_x := Lib.hid (O_x.out.ext y)
            have D_M1 := Lib.hid (D_M1.out.ext y)
            have DA := Lib.hid (DA.out.ext y)
            have DB := Lib.hid (DB.out.ext y)
            have DC := Lib.hid (DC.out.ext y)
            have DE := Lib.hid (DE.out.ext y)
            have DG := Lib.hid (DG.out.ext y)
            replace hx := ext_trans hx y
            have E_x2 := Lib.hid h_1
            have O_x2 := Lib.hid o_1
            clear h_1 o_1
            clear y
            have LC : Hid ((clsOf M1).length = nm) := Lib.hid D_M1.out.clen
            have FG : Hid (FitU l0 (goneU k0 n2) (clsOf M1).length 10000) := Lib.hid (gone_any (by rw [LC.out]; have := G0.out; have := LM.out; clear hw1 hw2; omega) (by rw [LC.out]; have := G0.out; have := LM.out; clear hw1 hw2; omega) (by omega))
            have Y_M2 := Lib.hid (made_in (N := 10000) (most := 10000) E_x2.out (by have := O_x2.out.at_.len; have := O_x2.out.at_.b; omega) M_M1.out FG.out (by omega) (by omega))
            go_wp2_with (go_at_call 38; refine Hid.out ?_)
            refine Lib.hid ?_
            refine (applyDocI (N := 10000) (us := goneU k0 n2) D_M1.out O_x2.out.at_ HS.out HT.out H64.out (by omega) Y_M2.out.1 Y_M2.out.2.1 Y_M2.out.2.2).mono ?_
            rintro e wn ⟨A11, c11, M2, rfl, h_1, m_1, b_1, d_1, y⟩
            have HT := Lib.hid (Utf8Tabs_below HT.out y)
            have R2 := Lib.hid (R2.out.ext y)
            have HS := Lib.hid (HS.out.ext y)
            have D1 := Lib.hid (D1.out.ext y)
            have RP_1 := Lib.hid (RP_1.out.ext y)
            have RP_2 := Lib.hid (RP_2.out.ext y)
            have RP_9 := Lib.hid (RP_9.out.ext y)
            have O_x := Lib.hid (O_x.out.ext y)
            have D_M1 := Lib.hid (D_M1.out.ext y)
            have DA := Lib.hid (DA.out.ext y)
            have DB := Lib.hid (DB.out.ext y)
            have DC := Lib.hid (DC.out.ext y)
            have DE := Lib.hid (DE.out.ext y)
            have DG := Lib.hid (DG.out.ext y)
            have O_x2 := Lib.hid (O_x2.out.ext y)
            replace hx := ext_trans hx y
            have D_M2 := Lib.hid d_1
            have E_M2 := Lib.hid h_1
            have M_M2 := Lib.hid m_1
            clear d_1 h_1 m_1 b_1
            clear y
            have EB : Hid (clsOf M2 = clsOf d) := Lib.hid (by rw [E_M2.out, app_gone l0 (by rw [LC.out]; have := G0.out; have := LM.out; clear hw1 hw2; omega), TK.out, ← HJ.out, DR.out]; exact List.take_append_drop _ _)
            go_wp2_with (go_at_call 69; refine Hid.out ?_)
            refine Lib.hid ?_
            refine (sameD D_M2.out D1.out (decide_eq_true EB.out)).mono ?_
            rintro e wn ⟨rfl, y⟩
            have HT := Lib.hid (Utf8Tabs_below HT.out y)
            have R2 := Lib.hid (R2.out.ext y)
            have HS := Lib.hid (HS.out.ext y)
            have D1 := Lib.hid (D1.out.ext y)
            have RP_1 := Lib.hid (RP_1.out.ext y)
            have RP_2 := Lib.hid (RP_2.out.ext y)
            have RP_9 := Lib.hid (RP_9.out.ext y)
            have O_x := Lib.hid (O_x.out.ext y)
            have D_M1 := Lib.hid (D_M1.out.ext y)
            have DA := Lib.hid (DA.out.ext y)
            have DB := Lib.hid (DB.out.ext y)
            have DC := Lib.hid (DC.out.ext y)
            have DE := Lib.hid (DE.out.ext y)
            have DG := Lib.hid (DG.out.ext y)
            have O_x2 := Lib.hid (O_x2.out.ext y)
            have D_M2 := Lib.hid (D_M2.out.ext y)
            replace hx := ext_trans hx y
            clear y
            go_wp2_with (go_at_call 73; refine Hid.out ?_)
            refine Lib.hid ?_
            refine (known24_any _ HT.out).mono ?_
            rintro e w2 ⟨rfl, y⟩
            replace hx := ext_trans hx y
            go_wp2_with (fail)
            go_ret
            exact ⟨rfl, hx⟩
          have hr9' : (r_9 == 10) = false := beq_eq_false_iff_ne.2 hr9
          have hl9 := LAST.out q _ HX_9.out hr9
          have hw9 : IntKind.i64.wrap ((q : Int) + 1) = ((q + 1 : Nat) : Int) := IntWalk.i64_in _ (by omega)
          go_wp2_with (fail)
          go_roundg (n1 - (q + 1))
          case measure => have := HG.out; omega
          case rel => exact ⟨q + 1, by omega, hl9, rfl, by go_num, rfl⟩
      have hr2' : (r_2 == 10) = false := beq_eq_false_iff_ne.2 hr2
      have hr2'' : (r_2 != 10) = true := by rw [bne, hr2']; rfl
      go_wp2_with (fail)
      go_loopg [15] (n1 - k0) (fun g qv wr => ∃ q : Nat, k0 ≤ q ∧ q < n1 ∧ g = n1 - q ∧ qv = .int .i64 (q : Int) ∧ wr = wn)
      case atStart => exact ⟨k0, Nat.le_refl _, by omega, rfl, rfl, rfl⟩
      case round =>
        obtain ⟨q, hq1, hq2, hg, rfl, hwr⟩ := hrel
        subst hwr
        have HG := Lib.hid hg
        clear hg
        obtain ⟨ad_9, zq, hA_9, _, _, hx_9, hc_9⟩ := D1.out.rd.1.el (i := q) (by have := N1.out; omega)
        obtain rfl : ad = ad_9 := Option.some.inj hA_9
        have HC_9 := Lib.hid (CELL.out _ (List.mem_of_getElem? hx_9))
        have RP_9 := Lib.hid (D1.out.rd.2 _ (List.mem_of_getElem? hx_9))
        have HX_9 := Lib.hid hx_9
        obtain ⟨⟨r_9, s_9⟩, As_9, cs_9⟩ := zq
        obtain ⟨z0_9, z1_9⟩ := cl_cells hc_9
        clear hA_9 hx_9 hc_9
        have hqn : (q : Int) < (n1 : Int) := by omega
        by_cases hr9 : r_9 = 10
        · skip
          have hr9' : (r_9 == 10) = true := by rw [hr9]; rfl
          have hr9'' : (r_9 != 10) = false := by rw [bne, hr9']; rfl
          go_wp2_with (go_at_call 77; refine Hid.out ?_)
          refine Lib.hid ?_
          refine (type_any s l0 k0 A2 none As_2 As_9 n2 c2 0 0 s_2.length cs_2 s_9.length cs_9 l2 [] s_2 s_9 _ HS.out N2.out R2.out (by omega) rfl Rd.nil (by omega) rfl (fun c hc => by cases hc) rfl RP_2.out HC_2.out.2.2.2 HC_2.out.2.1 HC_2.out.2.2.1 rfl RP_9.out HC_9.out.2.2.2 HC_9.out.2.2.1 (by omega)).mono ?_
          rintro e wn ⟨A5, c5, x, rfl, h_1, o_1, y⟩
          have HT := Lib.hid (Utf8Tabs_below HT.out y)
          have R2 := Lib.hid (R2.out.ext y)
          have HS := Lib.hid (HS.out.ext y)
          have D1 := Lib.hid (D1.out.ext y)
          have RP_1 := Lib.hid (RP_1.out.ext y)
          have RP_2 := Lib.hid (RP_2.out.ext y)
          have RP_9 := Lib.hid (RP_9.out.ext y)
          replace hx := ext_trans hx y
          have E_x := Lib.hid h_1
          have O_x := Lib.hid o_1
          clear h_1 o_1
          clear y
          obtain ⟨F, hF⟩ : ∃ X, (l2.map (typeC (typedP l0 [] s_2) (siftP l0 splitK s_9))) = X := ⟨_, rfl⟩
          have FF : Hid ((∀ c ∈ F, okCl l0 c) ∧ F.length = n2 ∧ F.map (·.r) = l2) := Lib.hid (by
            rw [← hF]
            refine ⟨fun c hc => ?_, by rw [List.length_map, ← N2.out], by rw [List.map_map]; exact List.map_id _⟩
            obtain ⟨r, hr, rfl⟩ := List.mem_map.1 hc
            exact type_ok (List.all_eq_true.1 OK.out r hr) (typed_may H64.out (mayS_none l0) HC_2.out.1) (split_may H64.out HC_9.out.1))
          rw [hF] at E_x
          clear hF
          have FU : Hid (FitU l0 (pasteU k0 F) (clsOf d).length 10000) := Lib.hid (by rw [LD.out]; exact paste_fit (by omega) (by have := FF.out.2.1; omega) (by omega) FF.out.1)
          have Y_M1 := Lib.hid (made_in (N := 10000) (most := 10000) E_x.out (by have := O_x.out.at_.len; have := O_x.out.at_.b; omega) MD.out FU.out (by omega) (by omega))
          go_wp2_with (go_at_call 38; refine Hid.out ?_)
          refine Lib.hid ?_
          refine (applyDocI (N := 10000) (us := pasteU k0 F) D1.out O_x.out.at_ HS.out HT.out H64.out (by omega) Y_M1.out.1 Y_M1.out.2.1 Y_M1.out.2.2).mono ?_
          rintro e wn ⟨A6, c6, M1, rfl, h_1, m_1, b_1, d_1, y⟩
          have HT := Lib.hid (Utf8Tabs_below HT.out y)
          have R2 := Lib.hid (R2.out.ext y)
          have HS := Lib.hid (HS.out.ext y)
          have D1 := Lib.hid (D1.out.ext y)
          have RP_1 := Lib.hid (RP_1.out.ext y)
          have RP_2 := Lib.hid (RP_2.out.ext y)
          have RP_9 := Lib.hid (RP_9.out.ext y)
          have O_x := Lib.hid (O_x.out.ext y)
          replace hx := ext_trans hx y
          have D_M1 := Lib.hid d_1
          have E_M1 := Lib.hid h_1
          have M_M1 := Lib.hid m_1
          clear d_1 h_1 m_1 b_1
          clear y
          have PA : Hid (clsOf M1 = (clsOf d).take k0 ++ (F ++ (clsOf d).drop k0)) := Lib.hid (by rw [E_M1.out]; exact app_paste l0 k0 F _ (by rw [LD.out]; omega))
          have LM : Hid (M1.length = n1 + n2) := Lib.hid (by rw [← clsOf_len, PA.out]; simp only [List.length_append, List.length_take, List.length_drop, LD.out, FF.out.2.1]; omega)
          obtain ⟨nm, hnm⟩ : ∃ X, M1.length = X := ⟨_, rfl⟩
          have NM := Lib.hid hnm
          rw [hnm] at D_M1 LM ⊢
          have TK : Hid ((clsOf M1).take k0 = (clsOf d).take k0) := Lib.hid (by rw [PA.out]; exact paste_take (by rw [LD.out]; omega))
          have DK : Hid ((clsOf M1).drop k0 = F ++ (clsOf d).drop k0) := Lib.hid (by rw [PA.out]; exact paste_drop (by rw [LD.out]; omega))
          have DR : Hid ((clsOf M1).drop (k0 + n2) = (clsOf d).drop k0) := Lib.hid (by rw [← List.drop_drop, DK.out]; exact List.drop_left' FF.out.2.1)
          have TX : Hid (((clsOf M1).drop k0).take n2 = F) := Lib.hid (by rw [DK.out]; exact List.take_left' FF.out.2.1)
          clear hnm
          obtain ⟨j, hj⟩ : ∃ X, k0 + n2 = X := ⟨_, rfl⟩
          have hw1 : IntKind.i64.wrap ((n1 : Int) + (n2 : Int)) = (nm : Int) := by rw [show ((n1 : Int) + (n2 : Int)) = (nm : Int) by have := LM.out; omega]; exact IntWalk.i64_in _ (by have := LM.out; omega)
          have hw2 : IntKind.i64.wrap ((k0 : Int) + (n2 : Int)) = (j : Int) := by rw [show ((k0 : Int) + (n2 : Int)) = (j : Int) by omega]; exact IntWalk.i64_in _ (by clear hw1; omega)
          have HJ : Hid (j = k0 + n2) := Lib.hid hj.symm
          rw [hj] at DR
          obtain ⟨A7, hA7⟩ : ∃ X, advS A6 c6 j 2 = X := ⟨_, rfl⟩
          obtain ⟨n7, hn7⟩ : ∃ X, nm - j = X := ⟨_, rfl⟩
          obtain ⟨c7, hc7⟩ : ∃ X, c6 - j = X := ⟨_, rfl⟩
          obtain ⟨A8, hA8⟩ : ∃ X, advS (some ad) c1 k0 2 = X := ⟨_, rfl⟩
          obtain ⟨n8, hn8⟩ : ∃ X, n1 - k0 = X := ⟨_, rfl⟩
          obtain ⟨c8, hc8⟩ : ∃ X, c1 - k0 = X := ⟨_, rfl⟩
          obtain ⟨A9, hA9⟩ : ∃ X, advS A6 c6 k0 2 = X := ⟨_, rfl⟩
          obtain ⟨c9, hc9⟩ : ∃ X, c6 - k0 = X := ⟨_, rfl⟩
          have CP := D_M1.out.cap
          have LMo := LM.out
          have LJ : k0 ≤ j ∧ j ≤ nm ∧ j - k0 = n2 := by omega
          have sl1 : ∀ W, (Instr.slice 55 (.slice A6 nm c6) none (some (.int .i64 (k0 : Int))) none).run Tryz.prog W = .ok (.slice A6 k0 c6) W := sl_to (l := k0) Tryz.slCl Tryz.elCl size_cl rfl (by clear hw1 hw2; omega)
          have sl2 : ∀ W, (Instr.slice 55 (.slice (some ad) n1 c1) none (some (.int .i64 (k0 : Int))) none).run Tryz.prog W = .ok (.slice (some ad) k0 c1) W := sl_to (l := k0) Tryz.slCl Tryz.elCl size_cl rfl (by clear hw1 hw2; omega)
          have sl3 : ∀ W, (Instr.slice 55 (.slice A6 nm c6) (some (.int .i64 (j : Int))) none none).run Tryz.prog W = .ok (.slice A7 n7 c7) W := sl_from Tryz.slCl Tryz.elCl size_cl rfl hA7 hn7 hc7 LJ.2.1 CP
          have sl4 : ∀ W, (Instr.slice 55 (.slice (some ad) n1 c1) (some (.int .i64 (k0 : Int))) none none).run Tryz.prog W = .ok (.slice A8 n8 c8) W := sl_from Tryz.slCl Tryz.elCl size_cl rfl hA8 hn8 hc8 (by clear hw1 hw2; omega) k1
          have sl5 : ∀ W, (Instr.slice 55 (.slice A6 nm c6) (some (.int .i64 (k0 : Int))) (some (.int .i64 (j : Int))) none).run Tryz.prog W = .ok (.slice A9 n2 c9) W := sl_both Tryz.slCl Tryz.elCl size_cl rfl rfl hA9 LJ.2.2 hc9 LJ.1 (Nat.le_trans LJ.2.1 CP)
          have DA : Hid (DocAt _ A6 k0 c6 (M1.take k0)) := Lib.hid (D_M1.out.take (by omega))
          have DB : Hid (DocAt _ (some ad) k0 c1 (d.take k0)) := Lib.hid (D1.out.take (by omega))
          have DC : Hid (DocAt _ A7 n7 c7 (M1.drop j)) := Lib.hid (D_M1.out.drop hA7 LJ.2.1 hn7 hc7)
          have DE : Hid (DocAt _ A8 n8 c8 (d.drop k0)) := Lib.hid (D1.out.drop hA8 (by omega) hn8 hc8)
          have DG : Hid (DocAt _ A9 n2 c9 ((M1.drop k0).take n2)) := Lib.hid ((D_M1.out.drop (n' := nm - k0) hA9 (by omega) rfl hc9).take (by omega))
          have TG : Hid (((M1.drop k0).take n2).map (·.c.r) = l2) := Lib.hid (by
            have h : clsOf ((M1.drop k0).take n2) = F := by rw [clsOf_take, clsOf_drop]; exact TX.out
            have h2 := congrArg (List.map (·.r)) h
            rw [FF.out.2.2] at h2
            unfold clsOf at h2
            rw [List.map_map] at h2
            exact h2)
          clear hA7 hn7 hc7 hA8 hn8 hc8 hA9 hc9 CP LJ hj LMo
          have hw1' : wrap64 ((n1 : Int) + (n2 : Int)) = (nm : Int) := by rw [← hw1, IntWalk.i64_left]
          have hw2' : wrap64 ((k0 : Int) + (n2 : Int)) = (j : Int) := by rw [← hw2, IntWalk.i64_left]
          have TA : Hid (clsOf (M1.take k0) = clsOf (d.take k0)) := Lib.hid (by rw [clsOf_take, clsOf_take]; exact TK.out)
          have TC : Hid (clsOf (M1.drop j) = clsOf (d.drop k0)) := Lib.hid (by rw [clsOf_drop, clsOf_drop]; exact DR.out)
          have CT : ∀ w' : World, Below wn.heap.size wn w' → Calls Tryz.prog 79 #[.slice A9 n2 c9] w' (NewI32 l2 w') := fun w' yy => by
            have h := cellsText_any A9 n2 c9 _ w' (DG.out.ext yy).len (DG.out.ext yy).rd.1 (by clear hw1 hw2 hw1' hw2'; omega)
            rw [TG.out] at h
            exact h
          have CSM : ∀ (w' : World) (AT : Option Addr) (cT : Nat), RdI32 w' w'.heap.size AT l2 → Below wn.heap.size wn w' → Calls Tryz.prog 78 #[.slice AT l2.length cT, .slice A2 n2 c2] w' (QuietR (.bool true) w') := fun w' AT cT hr yy => by
            have h := refSame_any AT A2 l2.length n2 cT c2 l2 l2 w' rfl N2.out hr (R2.out.ext yy) (by have := N2.out; clear hw1 hw2 hw1' hw2'; omega) (by clear hw1 hw2 hw1' hw2'; omega)
            rw [decide_eq_true rfl] at h
            exact h
          go_wp2_with (fail)
          go_region_held3 (fun w' => True) (go_keep) (first
            | (go_at_call 69
               with_reducible refine (sameD (DA.out.ext (up_drew (Below.refl _ _))) (DB.out.ext (up_drew (Below.refl _ _))) (decide_eq_true TA.out)).mono ?_
               rintro e wa ⟨rfl, ya⟩
               have YA : Hid (Below wn.heap.size wn wa) := Lib.hid (ext_trans (up_drew (Below.refl _ _)) ya)
               clear ya)
            | (go_at_call 69
               with_reducible refine (sameD (DC.out.ext YA.out) (DE.out.ext YA.out) (decide_eq_true TC.out)).mono ?_
               rintro e wb ⟨rfl, yb⟩
               have YB : Hid (Below wn.heap.size wn wb) := Lib.hid (ext_trans YA.out yb)
               clear yb)
            | (go_at_call 79
               with_reducible refine (CT _ YB.out).mono ?_
               rintro e wc ⟨AT, cT, rfl, oT, yc⟩
               have RT := Lib.hid (oT.rd encI32_len)
               have YC : Hid (Below wn.heap.size wn wc) := Lib.hid (ext_trans YB.out yc)
               clear oT yc)
            | (go_at_call 78
               with_reducible refine (CSM _ AT cT RT.out YC.out).mono ?_
               rintro e wd ⟨rfl, qc, hd⟩
               have YD : Hid (Below wn.heap.size wn wd) := Lib.hid (ext_trans YC.out (drew_ext hd))
               clear hd))
          have y := YD.out
          clear YA YB YC YD RT CT CSM
          have HT := Lib.hid (Utf8Tabs_below HT.out y)
          have R2 := Lib.hid (R2.out.ext y)
          have HS := Lib.hid (HS.out.ext y)
          have D1 := Lib.hid (D1.out.ext y)
          have RP_1 := Lib.hid (RP_1.out.ext y)
          have RP_2 := Lib.hid (RP_2.out.ext y)
          have RP_9 := Lib.hid (RP_9.out.ext y)
          have O_x := Lib.hid (O_x.out.ext y)
          have D_M1 := Lib.hid (D_M1.out.ext y)
          have DA := Lib.hid (DA.out.ext y)
          have DB := Lib.hid (DB.out.ext y)
          have DC := Lib.hid (DC.out.ext y)
          have DE := Lib.hid (DE.out.ext y)
          have DG := Lib.hid (DG.out.ext y)
          replace hx := ext_trans hx y
          clear y
          clear hw1' hw2'
          go_wp2_with (go_at_call 74; refine Hid.out ?_)
          refine Lib.hid ?_
          refine (remove_any k0 n2 (k0 : Int) (j : Int) rfl (by have := HJ.out; omega) (by have := G0.out; omega) _).mono ?_
          rintro e wn ⟨A10, c10, x2, rfl, h_1, o_1, y⟩
          have HT := Lib.hid (Utf8Tabs_below HT.out y)
          have R2 := Lib.hid (R2.out.ext y)
          have HS := Lib.hid (HS.out.ext y)
          have D1 := Lib.hid (D1.out.ext y)
          have RP_1 := Lib.hid (RP_1.out.ext y)
          have RP_2 := Lib.hid (RP_2.out.ext y)
          have RP_9 := Lib.hid (RP_9.out.ext y)
          have O_x := Lib.hid (O_x.out.ext y)
          have D_M1 := Lib.hid (D_M1.out.ext y)
          have DA := Lib.hid (DA.out.ext y)
          have DB := Lib.hid (DB.out.ext y)
          have DC := Lib.hid (DC.out.ext y)
          have DE := Lib.hid (DE.out.ext y)
          have DG := Lib.hid (DG.out.ext y)
          replace hx := ext_trans hx y
          have E_x2 := Lib.hid h_1
          have O_x2 := Lib.hid o_1
          clear h_1 o_1
          clear y
          have LC : Hid ((clsOf M1).length = nm) := Lib.hid D_M1.out.clen
          have FG : Hid (FitU l0 (goneU k0 n2) (clsOf M1).length 10000) := Lib.hid (gone_any (by rw [LC.out]; have := G0.out; have := LM.out; clear hw1 hw2; omega) (by rw [LC.out]; have := G0.out; have := LM.out; clear hw1 hw2; omega) (by omega))
          have Y_M2 := Lib.hid (made_in (N := 10000) (most := 10000) E_x2.out (by have := O_x2.out.at_.len; have := O_x2.out.at_.b; omega) M_M1.out FG.out (by omega) (by omega))
          go_wp2_with (go_at_call 38; refine Hid.out ?_)
          refine Lib.hid ?_
          refine (applyDocI (N := 10000) (us := goneU k0 n2) D_M1.out O_x2.out.at_ HS.out HT.out H64.out (by omega) Y_M2.out.1 Y_M2.out.2.1 Y_M2.out.2.2).mono ?_
          rintro e wn ⟨A11, c11, M2, rfl, h_1, m_1, b_1, d_1, y⟩
          have HT := Lib.hid (Utf8Tabs_below HT.out y)
          have R2 := Lib.hid (R2.out.ext y)
          have HS := Lib.hid (HS.out.ext y)
          have D1 := Lib.hid (D1.out.ext y)
          have RP_1 := Lib.hid (RP_1.out.ext y)
          have RP_2 := Lib.hid (RP_2.out.ext y)
          have RP_9 := Lib.hid (RP_9.out.ext y)
          have O_x := Lib.hid (O_x.out.ext y)
          have D_M1 := Lib.hid (D_M1.out.ext y)
          have DA := Lib.hid (DA.out.ext y)
          have DB := Lib.hid (DB.out.ext y)
          have DC := Lib.hid (DC.out.ext y)
          have DE := Lib.hid (DE.out.ext y)
          have DG := Lib.hid (DG.out.ext y)
          have O_x2 := Lib.hid (O_x2.out.ext y)
          replace hx := ext_trans hx y
          have D_M2 := Lib.hid d_1
          have E_M2 := Lib.hid h_1
          have M_M2 := Lib.hid m_1
          clear d_1 h_1 m_1 b_1
          clear y
          have EB : Hid (clsOf M2 = clsOf d) := Lib.hid (by rw [E_M2.out, app_gone l0 (by rw [LC.out]; have := G0.out; have := LM.out; clear hw1 hw2; omega), TK.out, ← HJ.out, DR.out]; exact List.take_append_drop _ _)
          go_wp2_with (go_at_call 69; refine Hid.out ?_)
          refine Lib.hid ?_
          refine (sameD D_M2.out D1.out (decide_eq_true EB.out)).mono ?_
          rintro e wn ⟨rfl, y⟩
          have HT := Lib.hid (Utf8Tabs_below HT.out y)
          have R2 := Lib.hid (R2.out.ext y)
          have HS := Lib.hid (HS.out.ext y)
          have D1 := Lib.hid (D1.out.ext y)
          have RP_1 := Lib.hid (RP_1.out.ext y)
          have RP_2 := Lib.hid (RP_2.out.ext y)
          have RP_9 := Lib.hid (RP_9.out.ext y)
          have O_x := Lib.hid (O_x.out.ext y)
          have D_M1 := Lib.hid (D_M1.out.ext y)
          have DA := Lib.hid (DA.out.ext y)
          have DB := Lib.hid (DB.out.ext y)
          have DC := Lib.hid (DC.out.ext y)
          have DE := Lib.hid (DE.out.ext y)
          have DG := Lib.hid (DG.out.ext y)
          have O_x2 := Lib.hid (O_x2.out.ext y)
          have D_M2 := Lib.hid (D_M2.out.ext y)
          replace hx := ext_trans hx y
          clear y
          go_wp2_with (go_at_call 73; refine Hid.out ?_)
          refine Lib.hid ?_
          refine (known24_any _ HT.out).mono ?_
          rintro e w2 ⟨rfl, y⟩
          replace hx := ext_trans hx y
          go_wp2_with (fail)
          go_ret
          exact ⟨rfl, hx⟩
        have hr9' : (r_9 == 10) = false := beq_eq_false_iff_ne.2 hr9
        have hl9 := LAST.out q _ HX_9.out hr9
        have hw9 : IntKind.i64.wrap ((q : Int) + 1) = ((q + 1 : Nat) : Int) := IntWalk.i64_in _ (by omega)
        go_wp2_with (fail)
        go_roundg (n1 - (q + 1))
        case measure => have := HG.out; omega
        case rel => exact ⟨q + 1, by omega, hl9, rfl, by go_num, rfl⟩
    have hr1' : (r_1 == 10) = false := beq_eq_false_iff_ne.2 hr1
    have hr1'' : (r_1 != 10) = true := by rw [bne, hr1']; rfl
    obtain ⟨ad_2, zp, hA_2, _, _, hx_2, hc_2⟩ := D1.out.rd.1.el (i := k0) (by have := N1.out; omega)
    obtain rfl : ad = ad_2 := Option.some.inj hA_2
    have HC_2 := Lib.hid (CELL.out _ (List.mem_of_getElem? hx_2))
    have RP_2 := Lib.hid (D1.out.rd.2 _ (List.mem_of_getElem? hx_2))
    have HX_2 := Lib.hid hx_2
    obtain ⟨⟨r_2, s_2⟩, As_2, cs_2⟩ := zp
    obtain ⟨z0_2, z1_2⟩ := cl_cells hc_2
    clear hA_2 hx_2 hc_2
    obtain ⟨pa_2, hpa_2⟩ : ∃ X, ad.add (k0 * 2) = X := ⟨_, rfl⟩
    rw [hpa_2] at z0_2 z1_2
    have hpn : (k0 : Int) < (n1 : Int) := by omega
    by_cases hr2 : r_2 = 10
    · skip
      have hr2' : (r_2 == 10) = true := by rw [hr2]; rfl
      have hr2'' : (r_2 != 10) = false := by rw [bne, hr2']; rfl
      go_wp2_with (fail)
      go_loopg [15] (n1 - k0) (fun g qv wr => ∃ q : Nat, k0 ≤ q ∧ q < n1 ∧ g = n1 - q ∧ qv = .int .i64 (q : Int) ∧ wr = wn)
      case atStart => exact ⟨k0, Nat.le_refl _, by omega, rfl, rfl, rfl⟩
      case round =>
        obtain ⟨q, hq1, hq2, hg, rfl, hwr⟩ := hrel
        subst hwr
        have HG := Lib.hid hg
        clear hg
        obtain ⟨ad_9, zq, hA_9, _, _, hx_9, hc_9⟩ := D1.out.rd.1.el (i := q) (by have := N1.out; omega)
        obtain rfl : ad = ad_9 := Option.some.inj hA_9
        have HC_9 := Lib.hid (CELL.out _ (List.mem_of_getElem? hx_9))
        have RP_9 := Lib.hid (D1.out.rd.2 _ (List.mem_of_getElem? hx_9))
        have HX_9 := Lib.hid hx_9
        obtain ⟨⟨r_9, s_9⟩, As_9, cs_9⟩ := zq
        obtain ⟨z0_9, z1_9⟩ := cl_cells hc_9
        clear hA_9 hx_9 hc_9
        have hqn : (q : Int) < (n1 : Int) := by omega
        by_cases hr9 : r_9 = 10
        · skip
          have hr9' : (r_9 == 10) = true := by rw [hr9]; rfl
          have hr9'' : (r_9 != 10) = false := by rw [bne, hr9']; rfl
          go_wp2_with (go_at_call 77; refine Hid.out ?_)
          refine Lib.hid ?_
          refine (type_any s l0 k0 A2 As_1 none As_9 n2 c2 s_1.length cs_1 0 0 s_9.length cs_9 l2 s_1 [] s_9 _ HS.out N2.out R2.out (by omega) rfl RP_1.out HC_1.out.2.2.2 HC_1.out.2.1 HC_1.out.2.2.1 rfl Rd.nil (by omega) rfl (fun c hc => by cases hc) rfl RP_9.out HC_9.out.2.2.2 HC_9.out.2.2.1 (by omega)).mono ?_
          rintro e wn ⟨A5, c5, x, rfl, h_1, o_1, y⟩
          have HT := Lib.hid (Utf8Tabs_below HT.out y)
          have R2 := Lib.hid (R2.out.ext y)
          have HS := Lib.hid (HS.out.ext y)
          have D1 := Lib.hid (D1.out.ext y)
          have RP_1 := Lib.hid (RP_1.out.ext y)
          have RP_2 := Lib.hid (RP_2.out.ext y)
          have RP_9 := Lib.hid (RP_9.out.ext y)
          replace hx := ext_trans hx y
          have E_x := Lib.hid h_1
          have O_x := Lib.hid o_1
          clear h_1 o_1
          clear y
          obtain ⟨F, hF⟩ : ∃ X, (l2.map (typeC (typedP l0 s_1 []) (siftP l0 splitK s_9))) = X := ⟨_, rfl⟩
          have FF : Hid ((∀ c ∈ F, okCl l0 c) ∧ F.length = n2 ∧ F.map (·.r) = l2) := Lib.hid (by
            rw [← hF]
            refine ⟨fun c hc => ?_, by rw [List.length_map, ← N2.out], by rw [List.map_map]; exact List.map_id _⟩
            obtain ⟨r, hr, rfl⟩ := List.mem_map.1 hc
            exact type_ok (List.all_eq_true.1 OK.out r hr) (typed_may H64.out HC_1.out.1 (mayS_none l0)) (split_may H64.out HC_9.out.1))
          rw [hF] at E_x
          clear hF
          have FU : Hid (FitU l0 (pasteU k0 F) (clsOf d).length 10000) := Lib.hid (by rw [LD.out]; exact paste_fit (by omega) (by have := FF.out.2.1; omega) (by omega) FF.out.1)
          have Y_M1 := Lib.hid (made_in (N := 10000) (most := 10000) E_x.out (by have := O_x.out.at_.len; have := O_x.out.at_.b; omega) MD.out FU.out (by omega) (by omega))
          go_wp2_with (go_at_call 38; refine Hid.out ?_)
          refine Lib.hid ?_
          refine (applyDocI (N := 10000) (us := pasteU k0 F) D1.out O_x.out.at_ HS.out HT.out H64.out (by omega) Y_M1.out.1 Y_M1.out.2.1 Y_M1.out.2.2).mono ?_
          rintro e wn ⟨A6, c6, M1, rfl, h_1, m_1, b_1, d_1, y⟩
          have HT := Lib.hid (Utf8Tabs_below HT.out y)
          have R2 := Lib.hid (R2.out.ext y)
          have HS := Lib.hid (HS.out.ext y)
          have D1 := Lib.hid (D1.out.ext y)
          have RP_1 := Lib.hid (RP_1.out.ext y)
          have RP_2 := Lib.hid (RP_2.out.ext y)
          have RP_9 := Lib.hid (RP_9.out.ext y)
          have O_x := Lib.hid (O_x.out.ext y)
          replace hx := ext_trans hx y
          have D_M1 := Lib.hid d_1
          have E_M1 := Lib.hid h_1
          have M_M1 := Lib.hid m_1
          clear d_1 h_1 m_1 b_1
          clear y
          have PA : Hid (clsOf M1 = (clsOf d).take k0 ++ (F ++ (clsOf d).drop k0)) := Lib.hid (by rw [E_M1.out]; exact app_paste l0 k0 F _ (by rw [LD.out]; omega))
          have LM : Hid (M1.length = n1 + n2) := Lib.hid (by rw [← clsOf_len, PA.out]; simp only [List.length_append, List.length_take, List.length_drop, LD.out, FF.out.2.1]; omega)
          obtain ⟨nm, hnm⟩ : ∃ X, M1.length = X := ⟨_, rfl⟩
          have NM := Lib.hid hnm
          rw [hnm] at D_M1 LM ⊢
          have TK : Hid ((clsOf M1).take k0 = (clsOf d).take k0) := Lib.hid (by rw [PA.out]; exact paste_take (by rw [LD.out]; omega))
          have DK : Hid ((clsOf M1).drop k0 = F ++ (clsOf d).drop k0) := Lib.hid (by rw [PA.out]; exact paste_drop (by rw [LD.out]; omega))
          have DR : Hid ((clsOf M1).drop (k0 + n2) = (clsOf d).drop k0) := Lib.hid (by rw [← List.drop_drop, DK.out]; exact List.drop_left' FF.out.2.1)
          have TX : Hid (((clsOf M1).drop k0).take n2 = F) := Lib.hid (by rw [DK.out]; exact List.take_left' FF.out.2.1)
          clear hnm
          obtain ⟨j, hj⟩ : ∃ X, k0 + n2 = X := ⟨_, rfl⟩
          have hw1 : IntKind.i64.wrap ((n1 : Int) + (n2 : Int)) = (nm : Int) := by rw [show ((n1 : Int) + (n2 : Int)) = (nm : Int) by have := LM.out; omega]; exact IntWalk.i64_in _ (by have := LM.out; omega)
          have hw2 : IntKind.i64.wrap ((k0 : Int) + (n2 : Int)) = (j : Int) := by rw [show ((k0 : Int) + (n2 : Int)) = (j : Int) by omega]; exact IntWalk.i64_in _ (by clear hw1; omega)
          have HJ : Hid (j = k0 + n2) := Lib.hid hj.symm
          rw [hj] at DR
          obtain ⟨A7, hA7⟩ : ∃ X, advS A6 c6 j 2 = X := ⟨_, rfl⟩
          obtain ⟨n7, hn7⟩ : ∃ X, nm - j = X := ⟨_, rfl⟩
          obtain ⟨c7, hc7⟩ : ∃ X, c6 - j = X := ⟨_, rfl⟩
          obtain ⟨A8, hA8⟩ : ∃ X, advS (some ad) c1 k0 2 = X := ⟨_, rfl⟩
          obtain ⟨n8, hn8⟩ : ∃ X, n1 - k0 = X := ⟨_, rfl⟩
          obtain ⟨c8, hc8⟩ : ∃ X, c1 - k0 = X := ⟨_, rfl⟩
          obtain ⟨A9, hA9⟩ : ∃ X, advS A6 c6 k0 2 = X := ⟨_, rfl⟩
          obtain ⟨c9, hc9⟩ : ∃ X, c6 - k0 = X := ⟨_, rfl⟩
          have CP := D_M1.out.cap
          have LMo := LM.out
          have LJ : k0 ≤ j ∧ j ≤ nm ∧ j - k0 = n2 := by omega
          have sl1 : ∀ W, (Instr.slice 55 (.slice A6 nm c6) none (some (.int .i64 (k0 : Int))) none).run Tryz.prog W = .ok (.slice A6 k0 c6) W := sl_to (l := k0) Tryz.slCl Tryz.elCl size_cl rfl (by clear hw1 hw2; omega)
          have sl2 : ∀ W, (Instr.slice 55 (.slice (some ad) n1 c1) none (some (.int .i64 (k0 : Int))) none).run Tryz.prog W = .ok (.slice (some ad) k0 c1) W := sl_to (l := k0) Tryz.slCl Tryz.elCl size_cl rfl (by clear hw1 hw2; omega)
          have sl3 : ∀ W, (Instr.slice 55 (.slice A6 nm c6) (some (.int .i64 (j : Int))) none none).run Tryz.prog W = .ok (.slice A7 n7 c7) W := sl_from Tryz.slCl Tryz.elCl size_cl rfl hA7 hn7 hc7 LJ.2.1 CP
          have sl4 : ∀ W, (Instr.slice 55 (.slice (some ad) n1 c1) (some (.int .i64 (k0 : Int))) none none).run Tryz.prog W = .ok (.slice A8 n8 c8) W := sl_from Tryz.slCl Tryz.elCl size_cl rfl hA8 hn8 hc8 (by clear hw1 hw2; omega) k1
          have sl5 : ∀ W, (Instr.slice 55 (.slice A6 nm c6) (some (.int .i64 (k0 : Int))) (some (.int .i64 (j : Int))) none).run Tryz.prog W = .ok (.slice A9 n2 c9) W := sl_both Tryz.slCl Tryz.elCl size_cl rfl rfl hA9 LJ.2.2 hc9 LJ.1 (Nat.le_trans LJ.2.1 CP)
          have DA : Hid (DocAt _ A6 k0 c6 (M1.take k0)) := Lib.hid (D_M1.out.take (by omega))
          have DB : Hid (DocAt _ (some ad) k0 c1 (d.take k0)) := Lib.hid (D1.out.take (by omega))
          have DC : Hid (DocAt _ A7 n7 c7 (M1.drop j)) := Lib.hid (D_M1.out.drop hA7 LJ.2.1 hn7 hc7)
          have DE : Hid (DocAt _ A8 n8 c8 (d.drop k0)) := Lib.hid (D1.out.drop hA8 (by omega) hn8 hc8)
          have DG : Hid (DocAt _ A9 n2 c9 ((M1.drop k0).take n2)) := Lib.hid ((D_M1.out.drop (n' := nm - k0) hA9 (by omega) rfl hc9).take (by omega))
          have TG : Hid (((M1.drop k0).take n2).map (·.c.r) = l2) := Lib.hid (by
            have h : clsOf ((M1.drop k0).take n2) = F := by rw [clsOf_take, clsOf_drop]; exact TX.out
            have h2 := congrArg (List.map (·.r)) h
            rw [FF.out.2.2] at h2
            unfold clsOf at h2
            rw [List.map_map] at h2
            exact h2)
          clear hA7 hn7 hc7 hA8 hn8 hc8 hA9 hc9 CP LJ hj LMo
          have hw1' : wrap64 ((n1 : Int) + (n2 : Int)) = (nm : Int) := by rw [← hw1, IntWalk.i64_left]
          have hw2' : wrap64 ((k0 : Int) + (n2 : Int)) = (j : Int) := by rw [← hw2, IntWalk.i64_left]
          have TA : Hid (clsOf (M1.take k0) = clsOf (d.take k0)) := Lib.hid (by rw [clsOf_take, clsOf_take]; exact TK.out)
          have TC : Hid (clsOf (M1.drop j) = clsOf (d.drop k0)) := Lib.hid (by rw [clsOf_drop, clsOf_drop]; exact DR.out)
          have CT : ∀ w' : World, Below wn.heap.size wn w' → Calls Tryz.prog 79 #[.slice A9 n2 c9] w' (NewI32 l2 w') := fun w' yy => by
            have h := cellsText_any A9 n2 c9 _ w' (DG.out.ext yy).len (DG.out.ext yy).rd.1 (by clear hw1 hw2 hw1' hw2'; omega)
            rw [TG.out] at h
            exact h
          have CSM : ∀ (w' : World) (AT : Option Addr) (cT : Nat), RdI32 w' w'.heap.size AT l2 → Below wn.heap.size wn w' → Calls Tryz.prog 78 #[.slice AT l2.length cT, .slice A2 n2 c2] w' (QuietR (.bool true) w') := fun w' AT cT hr yy => by
            have h := refSame_any AT A2 l2.length n2 cT c2 l2 l2 w' rfl N2.out hr (R2.out.ext yy) (by have := N2.out; clear hw1 hw2 hw1' hw2'; omega) (by clear hw1 hw2 hw1' hw2'; omega)
            rw [decide_eq_true rfl] at h
            exact h
          go_wp2_with (fail)
          go_region_held3 (fun w' => True) (go_keep) (first
            | (go_at_call 69
               with_reducible refine (sameD (DA.out.ext (up_drew (Below.refl _ _))) (DB.out.ext (up_drew (Below.refl _ _))) (decide_eq_true TA.out)).mono ?_
               rintro e wa ⟨rfl, ya⟩
               have YA : Hid (Below wn.heap.size wn wa) := Lib.hid (ext_trans (up_drew (Below.refl _ _)) ya)
               clear ya)
            | (go_at_call 69
               with_reducible refine (sameD (DC.out.ext YA.out) (DE.out.ext YA.out) (decide_eq_true TC.out)).mono ?_
               rintro e wb ⟨rfl, yb⟩
               have YB : Hid (Below wn.heap.size wn wb) := Lib.hid (ext_trans YA.out yb)
               clear yb)
            | (go_at_call 79
               with_reducible refine (CT _ YB.out).mono ?_
               rintro e wc ⟨AT, cT, rfl, oT, yc⟩
               have RT := Lib.hid (oT.rd encI32_len)
               have YC : Hid (Below wn.heap.size wn wc) := Lib.hid (ext_trans YB.out yc)
               clear oT yc)
            | (go_at_call 78
               with_reducible refine (CSM _ AT cT RT.out YC.out).mono ?_
               rintro e wd ⟨rfl, qc, hd⟩
               have YD : Hid (Below wn.heap.size wn wd) := Lib.hid (ext_trans YC.out (drew_ext hd))
               clear hd))
          have y := YD.out
          clear YA YB YC YD RT CT CSM
          have HT := Lib.hid (Utf8Tabs_below HT.out y)
          have R2 := Lib.hid (R2.out.ext y)
          have HS := Lib.hid (HS.out.ext y)
          have D1 := Lib.hid (D1.out.ext y)
          have RP_1 := Lib.hid (RP_1.out.ext y)
          have RP_2 := Lib.hid (RP_2.out.ext y)
          have RP_9 := Lib.hid (RP_9.out.ext y)
          have O_x := Lib.hid (O_x.out.ext y)
          have D_M1 := Lib.hid (D_M1.out.ext y)
          have DA := Lib.hid (DA.out.ext y)
          have DB := Lib.hid (DB.out.ext y)
          have DC := Lib.hid (DC.out.ext y)
          have DE := Lib.hid (DE.out.ext y)
          have DG := Lib.hid (DG.out.ext y)
          replace hx := ext_trans hx y
          clear y
          clear hw1' hw2'
          go_wp2_with (go_at_call 74; refine Hid.out ?_)
          refine Lib.hid ?_
          refine (remove_any k0 n2 (k0 : Int) (j : Int) rfl (by have := HJ.out; omega) (by have := G0.out; omega) _).mono ?_
          rintro e wn ⟨A10, c10, x2, rfl, h_1, o_1, y⟩
          have HT := Lib.hid (Utf8Tabs_below HT.out y)
          have R2 := Lib.hid (R2.out.ext y)
          have HS := Lib.hid (HS.out.ext y)
          have D1 := Lib.hid (D1.out.ext y)
          have RP_1 := Lib.hid (RP_1.out.ext y)
          have RP_2 := Lib.hid (RP_2.out.ext y)
          have RP_9 := Lib.hid (RP_9.out.ext y)
          have O_x := Lib.hid (O_x.out.ext y)
          have D_M1 := Lib.hid (D_M1.out.ext y)
          have DA := Lib.hid (DA.out.ext y)
          have DB := Lib.hid (DB.out.ext y)
          have DC := Lib.hid (DC.out.ext y)
          have DE := Lib.hid (DE.out.ext y)
          have DG := Lib.hid (DG.out.ext y)
          replace hx := ext_trans hx y
          have E_x2 := Lib.hid h_1
          have O_x2 := Lib.hid o_1
          clear h_1 o_1
          clear y
          have LC : Hid ((clsOf M1).length = nm) := Lib.hid D_M1.out.clen
          have FG : Hid (FitU l0 (goneU k0 n2) (clsOf M1).length 10000) := Lib.hid (gone_any (by rw [LC.out]; have := G0.out; have := LM.out; clear hw1 hw2; omega) (by rw [LC.out]; have := G0.out; have := LM.out; clear hw1 hw2; omega) (by omega))
          have Y_M2 := Lib.hid (made_in (N := 10000) (most := 10000) E_x2.out (by have := O_x2.out.at_.len; have := O_x2.out.at_.b; omega) M_M1.out FG.out (by omega) (by omega))
          go_wp2_with (go_at_call 38; refine Hid.out ?_)
          refine Lib.hid ?_
          refine (applyDocI (N := 10000) (us := goneU k0 n2) D_M1.out O_x2.out.at_ HS.out HT.out H64.out (by omega) Y_M2.out.1 Y_M2.out.2.1 Y_M2.out.2.2).mono ?_
          rintro e wn ⟨A11, c11, M2, rfl, h_1, m_1, b_1, d_1, y⟩
          have HT := Lib.hid (Utf8Tabs_below HT.out y)
          have R2 := Lib.hid (R2.out.ext y)
          have HS := Lib.hid (HS.out.ext y)
          have D1 := Lib.hid (D1.out.ext y)
          have RP_1 := Lib.hid (RP_1.out.ext y)
          have RP_2 := Lib.hid (RP_2.out.ext y)
          have RP_9 := Lib.hid (RP_9.out.ext y)
          have O_x := Lib.hid (O_x.out.ext y)
          have D_M1 := Lib.hid (D_M1.out.ext y)
          have DA := Lib.hid (DA.out.ext y)
          have DB := Lib.hid (DB.out.ext y)
          have DC := Lib.hid (DC.out.ext y)
          have DE := Lib.hid (DE.out.ext y)
          have DG := Lib.hid (DG.out.ext y)
          have O_x2 := Lib.hid (O_x2.out.ext y)
          replace hx := ext_trans hx y
          have D_M2 := Lib.hid d_1
          have E_M2 := Lib.hid h_1
          have M_M2 := Lib.hid m_1
          clear d_1 h_1 m_1 b_1
          clear y
          have EB : Hid (clsOf M2 = clsOf d) := Lib.hid (by rw [E_M2.out, app_gone l0 (by rw [LC.out]; have := G0.out; have := LM.out; clear hw1 hw2; omega), TK.out, ← HJ.out, DR.out]; exact List.take_append_drop _ _)
          go_wp2_with (go_at_call 69; refine Hid.out ?_)
          refine Lib.hid ?_
          refine (sameD D_M2.out D1.out (decide_eq_true EB.out)).mono ?_
          rintro e wn ⟨rfl, y⟩
          have HT := Lib.hid (Utf8Tabs_below HT.out y)
          have R2 := Lib.hid (R2.out.ext y)
          have HS := Lib.hid (HS.out.ext y)
          have D1 := Lib.hid (D1.out.ext y)
          have RP_1 := Lib.hid (RP_1.out.ext y)
          have RP_2 := Lib.hid (RP_2.out.ext y)
          have RP_9 := Lib.hid (RP_9.out.ext y)
          have O_x := Lib.hid (O_x.out.ext y)
          have D_M1 := Lib.hid (D_M1.out.ext y)
          have DA := Lib.hid (DA.out.ext y)
          have DB := Lib.hid (DB.out.ext y)
          have DC := Lib.hid (DC.out.ext y)
          have DE := Lib.hid (DE.out.ext y)
          have DG := Lib.hid (DG.out.ext y)
          have O_x2 := Lib.hid (O_x2.out.ext y)
          have D_M2 := Lib.hid (D_M2.out.ext y)
          replace hx := ext_trans hx y
          clear y
          go_wp2_with (go_at_call 73; refine Hid.out ?_)
          refine Lib.hid ?_
          refine (known24_any _ HT.out).mono ?_
          rintro e w2 ⟨rfl, y⟩
          replace hx := ext_trans hx y
          go_wp2_with (fail)
          go_ret
          exact ⟨rfl, hx⟩
        have hr9' : (r_9 == 10) = false := beq_eq_false_iff_ne.2 hr9
        have hl9 := LAST.out q _ HX_9.out hr9
        have hw9 : IntKind.i64.wrap ((q : Int) + 1) = ((q + 1 : Nat) : Int) := IntWalk.i64_in _ (by omega)
        go_wp2_with (fail)
        go_roundg (n1 - (q + 1))
        case measure => have := HG.out; omega
        case rel => exact ⟨q + 1, by omega, hl9, rfl, by go_num, rfl⟩
    have hr2' : (r_2 == 10) = false := beq_eq_false_iff_ne.2 hr2
    have hr2'' : (r_2 != 10) = true := by rw [bne, hr2']; rfl
    go_wp2_with (fail)
    go_loopg [15] (n1 - k0) (fun g qv wr => ∃ q : Nat, k0 ≤ q ∧ q < n1 ∧ g = n1 - q ∧ qv = .int .i64 (q : Int) ∧ wr = wn)
    case atStart => exact ⟨k0, Nat.le_refl _, by omega, rfl, rfl, rfl⟩
    case round =>
      obtain ⟨q, hq1, hq2, hg, rfl, hwr⟩ := hrel
      subst hwr
      have HG := Lib.hid hg
      clear hg
      obtain ⟨ad_9, zq, hA_9, _, _, hx_9, hc_9⟩ := D1.out.rd.1.el (i := q) (by have := N1.out; omega)
      obtain rfl : ad = ad_9 := Option.some.inj hA_9
      have HC_9 := Lib.hid (CELL.out _ (List.mem_of_getElem? hx_9))
      have RP_9 := Lib.hid (D1.out.rd.2 _ (List.mem_of_getElem? hx_9))
      have HX_9 := Lib.hid hx_9
      obtain ⟨⟨r_9, s_9⟩, As_9, cs_9⟩ := zq
      obtain ⟨z0_9, z1_9⟩ := cl_cells hc_9
      clear hA_9 hx_9 hc_9
      have hqn : (q : Int) < (n1 : Int) := by omega
      by_cases hr9 : r_9 = 10
      · skip
        have hr9' : (r_9 == 10) = true := by rw [hr9]; rfl
        have hr9'' : (r_9 != 10) = false := by rw [bne, hr9']; rfl
        go_wp2_with (go_at_call 77; refine Hid.out ?_)
        refine Lib.hid ?_
        refine (type_any s l0 k0 A2 As_1 As_2 As_9 n2 c2 s_1.length cs_1 s_2.length cs_2 s_9.length cs_9 l2 s_1 s_2 s_9 _ HS.out N2.out R2.out (by omega) rfl RP_1.out HC_1.out.2.2.2 HC_1.out.2.1 HC_1.out.2.2.1 rfl RP_2.out HC_2.out.2.2.2 HC_2.out.2.1 HC_2.out.2.2.1 rfl RP_9.out HC_9.out.2.2.2 HC_9.out.2.2.1 (by omega)).mono ?_
        rintro e wn ⟨A5, c5, x, rfl, h_1, o_1, y⟩
        have HT := Lib.hid (Utf8Tabs_below HT.out y)
        have R2 := Lib.hid (R2.out.ext y)
        have HS := Lib.hid (HS.out.ext y)
        have D1 := Lib.hid (D1.out.ext y)
        have RP_1 := Lib.hid (RP_1.out.ext y)
        have RP_2 := Lib.hid (RP_2.out.ext y)
        have RP_9 := Lib.hid (RP_9.out.ext y)
        replace hx := ext_trans hx y
        have E_x := Lib.hid h_1
        have O_x := Lib.hid o_1
        clear h_1 o_1
        clear y
        obtain ⟨F, hF⟩ : ∃ X, (l2.map (typeC (typedP l0 s_1 s_2) (siftP l0 splitK s_9))) = X := ⟨_, rfl⟩
        have FF : Hid ((∀ c ∈ F, okCl l0 c) ∧ F.length = n2 ∧ F.map (·.r) = l2) := Lib.hid (by
          rw [← hF]
          refine ⟨fun c hc => ?_, by rw [List.length_map, ← N2.out], by rw [List.map_map]; exact List.map_id _⟩
          obtain ⟨r, hr, rfl⟩ := List.mem_map.1 hc
          exact type_ok (List.all_eq_true.1 OK.out r hr) (typed_may H64.out HC_1.out.1 HC_2.out.1) (split_may H64.out HC_9.out.1))
        rw [hF] at E_x
        clear hF
        have FU : Hid (FitU l0 (pasteU k0 F) (clsOf d).length 10000) := Lib.hid (by rw [LD.out]; exact paste_fit (by omega) (by have := FF.out.2.1; omega) (by omega) FF.out.1)
        have Y_M1 := Lib.hid (made_in (N := 10000) (most := 10000) E_x.out (by have := O_x.out.at_.len; have := O_x.out.at_.b; omega) MD.out FU.out (by omega) (by omega))
        go_wp2_with (go_at_call 38; refine Hid.out ?_)
        refine Lib.hid ?_
        refine (applyDocI (N := 10000) (us := pasteU k0 F) D1.out O_x.out.at_ HS.out HT.out H64.out (by omega) Y_M1.out.1 Y_M1.out.2.1 Y_M1.out.2.2).mono ?_
        rintro e wn ⟨A6, c6, M1, rfl, h_1, m_1, b_1, d_1, y⟩
        have HT := Lib.hid (Utf8Tabs_below HT.out y)
        have R2 := Lib.hid (R2.out.ext y)
        have HS := Lib.hid (HS.out.ext y)
        have D1 := Lib.hid (D1.out.ext y)
        have RP_1 := Lib.hid (RP_1.out.ext y)
        have RP_2 := Lib.hid (RP_2.out.ext y)
        have RP_9 := Lib.hid (RP_9.out.ext y)
        have O_x := Lib.hid (O_x.out.ext y)
        replace hx := ext_trans hx y
        have D_M1 := Lib.hid d_1
        have E_M1 := Lib.hid h_1
        have M_M1 := Lib.hid m_1
        clear d_1 h_1 m_1 b_1
        clear y
        have PA : Hid (clsOf M1 = (clsOf d).take k0 ++ (F ++ (clsOf d).drop k0)) := Lib.hid (by rw [E_M1.out]; exact app_paste l0 k0 F _ (by rw [LD.out]; omega))
        have LM : Hid (M1.length = n1 + n2) := Lib.hid (by rw [← clsOf_len, PA.out]; simp only [List.length_append, List.length_take, List.length_drop, LD.out, FF.out.2.1]; omega)
        obtain ⟨nm, hnm⟩ : ∃ X, M1.length = X := ⟨_, rfl⟩
        have NM := Lib.hid hnm
        rw [hnm] at D_M1 LM ⊢
        have TK : Hid ((clsOf M1).take k0 = (clsOf d).take k0) := Lib.hid (by rw [PA.out]; exact paste_take (by rw [LD.out]; omega))
        have DK : Hid ((clsOf M1).drop k0 = F ++ (clsOf d).drop k0) := Lib.hid (by rw [PA.out]; exact paste_drop (by rw [LD.out]; omega))
        have DR : Hid ((clsOf M1).drop (k0 + n2) = (clsOf d).drop k0) := Lib.hid (by rw [← List.drop_drop, DK.out]; exact List.drop_left' FF.out.2.1)
        have TX : Hid (((clsOf M1).drop k0).take n2 = F) := Lib.hid (by rw [DK.out]; exact List.take_left' FF.out.2.1)
        clear hnm
        obtain ⟨j, hj⟩ : ∃ X, k0 + n2 = X := ⟨_, rfl⟩
        have hw1 : IntKind.i64.wrap ((n1 : Int) + (n2 : Int)) = (nm : Int) := by rw [show ((n1 : Int) + (n2 : Int)) = (nm : Int) by have := LM.out; omega]; exact IntWalk.i64_in _ (by have := LM.out; omega)
        have hw2 : IntKind.i64.wrap ((k0 : Int) + (n2 : Int)) = (j : Int) := by rw [show ((k0 : Int) + (n2 : Int)) = (j : Int) by omega]; exact IntWalk.i64_in _ (by clear hw1; omega)
        have HJ : Hid (j = k0 + n2) := Lib.hid hj.symm
        rw [hj] at DR
        obtain ⟨A7, hA7⟩ : ∃ X, advS A6 c6 j 2 = X := ⟨_, rfl⟩
        obtain ⟨n7, hn7⟩ : ∃ X, nm - j = X := ⟨_, rfl⟩
        obtain ⟨c7, hc7⟩ : ∃ X, c6 - j = X := ⟨_, rfl⟩
        obtain ⟨A8, hA8⟩ : ∃ X, advS (some ad) c1 k0 2 = X := ⟨_, rfl⟩
        obtain ⟨n8, hn8⟩ : ∃ X, n1 - k0 = X := ⟨_, rfl⟩
        obtain ⟨c8, hc8⟩ : ∃ X, c1 - k0 = X := ⟨_, rfl⟩
        obtain ⟨A9, hA9⟩ : ∃ X, advS A6 c6 k0 2 = X := ⟨_, rfl⟩
        obtain ⟨c9, hc9⟩ : ∃ X, c6 - k0 = X := ⟨_, rfl⟩
        have CP := D_M1.out.cap
        have LMo := LM.out
        have LJ : k0 ≤ j ∧ j ≤ nm ∧ j - k0 = n2 := by omega
        have sl1 : ∀ W, (Instr.slice 55 (.slice A6 nm c6) none (some (.int .i64 (k0 : Int))) none).run Tryz.prog W = .ok (.slice A6 k0 c6) W := sl_to (l := k0) Tryz.slCl Tryz.elCl size_cl rfl (by clear hw1 hw2; omega)
        have sl2 : ∀ W, (Instr.slice 55 (.slice (some ad) n1 c1) none (some (.int .i64 (k0 : Int))) none).run Tryz.prog W = .ok (.slice (some ad) k0 c1) W := sl_to (l := k0) Tryz.slCl Tryz.elCl size_cl rfl (by clear hw1 hw2; omega)
        have sl3 : ∀ W, (Instr.slice 55 (.slice A6 nm c6) (some (.int .i64 (j : Int))) none none).run Tryz.prog W = .ok (.slice A7 n7 c7) W := sl_from Tryz.slCl Tryz.elCl size_cl rfl hA7 hn7 hc7 LJ.2.1 CP
        have sl4 : ∀ W, (Instr.slice 55 (.slice (some ad) n1 c1) (some (.int .i64 (k0 : Int))) none none).run Tryz.prog W = .ok (.slice A8 n8 c8) W := sl_from Tryz.slCl Tryz.elCl size_cl rfl hA8 hn8 hc8 (by clear hw1 hw2; omega) k1
        have sl5 : ∀ W, (Instr.slice 55 (.slice A6 nm c6) (some (.int .i64 (k0 : Int))) (some (.int .i64 (j : Int))) none).run Tryz.prog W = .ok (.slice A9 n2 c9) W := sl_both Tryz.slCl Tryz.elCl size_cl rfl rfl hA9 LJ.2.2 hc9 LJ.1 (Nat.le_trans LJ.2.1 CP)
        have DA : Hid (DocAt _ A6 k0 c6 (M1.take k0)) := Lib.hid (D_M1.out.take (by omega))
        have DB : Hid (DocAt _ (some ad) k0 c1 (d.take k0)) := Lib.hid (D1.out.take (by omega))
        have DC : Hid (DocAt _ A7 n7 c7 (M1.drop j)) := Lib.hid (D_M1.out.drop hA7 LJ.2.1 hn7 hc7)
        have DE : Hid (DocAt _ A8 n8 c8 (d.drop k0)) := Lib.hid (D1.out.drop hA8 (by omega) hn8 hc8)
        have DG : Hid (DocAt _ A9 n2 c9 ((M1.drop k0).take n2)) := Lib.hid ((D_M1.out.drop (n' := nm - k0) hA9 (by omega) rfl hc9).take (by omega))
        have TG : Hid (((M1.drop k0).take n2).map (·.c.r) = l2) := Lib.hid (by
          have h : clsOf ((M1.drop k0).take n2) = F := by rw [clsOf_take, clsOf_drop]; exact TX.out
          have h2 := congrArg (List.map (·.r)) h
          rw [FF.out.2.2] at h2
          unfold clsOf at h2
          rw [List.map_map] at h2
          exact h2)
        clear hA7 hn7 hc7 hA8 hn8 hc8 hA9 hc9 CP LJ hj LMo
        have hw1' : wrap64 ((n1 : Int) + (n2 : Int)) = (nm : Int) := by rw [← hw1, IntWalk.i64_left]
        have hw2' : wrap64 ((k0 : Int) + (n2 : Int)) = (j : Int) := by rw [← hw2, IntWalk.i64_left]
        have TA : Hid (clsOf (M1.take k0) = clsOf (d.take k0)) := Lib.hid (by rw [clsOf_take, clsOf_take]; exact TK.out)
        have TC : Hid (clsOf (M1.drop j) = clsOf (d.drop k0)) := Lib.hid (by rw [clsOf_drop, clsOf_drop]; exact DR.out)
        have CT : ∀ w' : World, Below wn.heap.size wn w' → Calls Tryz.prog 79 #[.slice A9 n2 c9] w' (NewI32 l2 w') := fun w' yy => by
          have h := cellsText_any A9 n2 c9 _ w' (DG.out.ext yy).len (DG.out.ext yy).rd.1 (by clear hw1 hw2 hw1' hw2'; omega)
          rw [TG.out] at h
          exact h
        have CSM : ∀ (w' : World) (AT : Option Addr) (cT : Nat), RdI32 w' w'.heap.size AT l2 → Below wn.heap.size wn w' → Calls Tryz.prog 78 #[.slice AT l2.length cT, .slice A2 n2 c2] w' (QuietR (.bool true) w') := fun w' AT cT hr yy => by
          have h := refSame_any AT A2 l2.length n2 cT c2 l2 l2 w' rfl N2.out hr (R2.out.ext yy) (by have := N2.out; clear hw1 hw2 hw1' hw2'; omega) (by clear hw1 hw2 hw1' hw2'; omega)
          rw [decide_eq_true rfl] at h
          exact h
        go_wp2_with (fail)
        go_region_held3 (fun w' => True) (go_keep) (first
          | (go_at_call 69
             with_reducible refine (sameD (DA.out.ext (up_drew (Below.refl _ _))) (DB.out.ext (up_drew (Below.refl _ _))) (decide_eq_true TA.out)).mono ?_
             rintro e wa ⟨rfl, ya⟩
             have YA : Hid (Below wn.heap.size wn wa) := Lib.hid (ext_trans (up_drew (Below.refl _ _)) ya)
             clear ya)
          | (go_at_call 69
             with_reducible refine (sameD (DC.out.ext YA.out) (DE.out.ext YA.out) (decide_eq_true TC.out)).mono ?_
             rintro e wb ⟨rfl, yb⟩
             have YB : Hid (Below wn.heap.size wn wb) := Lib.hid (ext_trans YA.out yb)
             clear yb)
          | (go_at_call 79
             with_reducible refine (CT _ YB.out).mono ?_
             rintro e wc ⟨AT, cT, rfl, oT, yc⟩
             have RT := Lib.hid (oT.rd encI32_len)
             have YC : Hid (Below wn.heap.size wn wc) := Lib.hid (ext_trans YB.out yc)
             clear oT yc)
          | (go_at_call 78
             with_reducible refine (CSM _ AT cT RT.out YC.out).mono ?_
             rintro e wd ⟨rfl, qc, hd⟩
             have YD : Hid (Below wn.heap.size wn wd) := Lib.hid (ext_trans YC.out (drew_ext hd))
             clear hd))
        have y := YD.out
        clear YA YB YC YD RT CT CSM
        have HT := Lib.hid (Utf8Tabs_below HT.out y)
        have R2 := Lib.hid (R2.out.ext y)
        have HS := Lib.hid (HS.out.ext y)
        have D1 := Lib.hid (D1.out.ext y)
        have RP_1 := Lib.hid (RP_1.out.ext y)
        have RP_2 := Lib.hid (RP_2.out.ext y)
        have RP_9 := Lib.hid (RP_9.out.ext y)
        have O_x := Lib.hid (O_x.out.ext y)
        have D_M1 := Lib.hid (D_M1.out.ext y)
        have DA := Lib.hid (DA.out.ext y)
        have DB := Lib.hid (DB.out.ext y)
        have DC := Lib.hid (DC.out.ext y)
        have DE := Lib.hid (DE.out.ext y)
        have DG := Lib.hid (DG.out.ext y)
        replace hx := ext_trans hx y
        clear y
        clear hw1' hw2'
        go_wp2_with (go_at_call 74; refine Hid.out ?_)
        refine Lib.hid ?_
        refine (remove_any k0 n2 (k0 : Int) (j : Int) rfl (by have := HJ.out; omega) (by have := G0.out; omega) _).mono ?_
        rintro e wn ⟨A10, c10, x2, rfl, h_1, o_1, y⟩
        have HT := Lib.hid (Utf8Tabs_below HT.out y)
        have R2 := Lib.hid (R2.out.ext y)
        have HS := Lib.hid (HS.out.ext y)
        have D1 := Lib.hid (D1.out.ext y)
        have RP_1 := Lib.hid (RP_1.out.ext y)
        have RP_2 := Lib.hid (RP_2.out.ext y)
        have RP_9 := Lib.hid (RP_9.out.ext y)
        have O_x := Lib.hid (O_x.out.ext y)
        have D_M1 := Lib.hid (D_M1.out.ext y)
        have DA := Lib.hid (DA.out.ext y)
        have DB := Lib.hid (DB.out.ext y)
        have DC := Lib.hid (DC.out.ext y)
        have DE := Lib.hid (DE.out.ext y)
        have DG := Lib.hid (DG.out.ext y)
        replace hx := ext_trans hx y
        have E_x2 := Lib.hid h_1
        have O_x2 := Lib.hid o_1
        clear h_1 o_1
        clear y
        have LC : Hid ((clsOf M1).length = nm) := Lib.hid D_M1.out.clen
        have FG : Hid (FitU l0 (goneU k0 n2) (clsOf M1).length 10000) := Lib.hid (gone_any (by rw [LC.out]; have := G0.out; have := LM.out; clear hw1 hw2; omega) (by rw [LC.out]; have := G0.out; have := LM.out; clear hw1 hw2; omega) (by omega))
        have Y_M2 := Lib.hid (made_in (N := 10000) (most := 10000) E_x2.out (by have := O_x2.out.at_.len; have := O_x2.out.at_.b; omega) M_M1.out FG.out (by omega) (by omega))
        go_wp2_with (go_at_call 38; refine Hid.out ?_)
        refine Lib.hid ?_
        refine (applyDocI (N := 10000) (us := goneU k0 n2) D_M1.out O_x2.out.at_ HS.out HT.out H64.out (by omega) Y_M2.out.1 Y_M2.out.2.1 Y_M2.out.2.2).mono ?_
        rintro e wn ⟨A11, c11, M2, rfl, h_1, m_1, b_1, d_1, y⟩
        have HT := Lib.hid (Utf8Tabs_below HT.out y)
        have R2 := Lib.hid (R2.out.ext y)
        have HS := Lib.hid (HS.out.ext y)
        have D1 := Lib.hid (D1.out.ext y)
        have RP_1 := Lib.hid (RP_1.out.ext y)
        have RP_2 := Lib.hid (RP_2.out.ext y)
        have RP_9 := Lib.hid (RP_9.out.ext y)
        have O_x := Lib.hid (O_x.out.ext y)
        have D_M1 := Lib.hid (D_M1.out.ext y)
        have DA := Lib.hid (DA.out.ext y)
        have DB := Lib.hid (DB.out.ext y)
        have DC := Lib.hid (DC.out.ext y)
        have DE := Lib.hid (DE.out.ext y)
        have DG := Lib.hid (DG.out.ext y)
        have O_x2 := Lib.hid (O_x2.out.ext y)
        replace hx := ext_trans hx y
        have D_M2 := Lib.hid d_1
        have E_M2 := Lib.hid h_1
        have M_M2 := Lib.hid m_1
        clear d_1 h_1 m_1 b_1
        clear y
        have EB : Hid (clsOf M2 = clsOf d) := Lib.hid (by rw [E_M2.out, app_gone l0 (by rw [LC.out]; have := G0.out; have := LM.out; clear hw1 hw2; omega), TK.out, ← HJ.out, DR.out]; exact List.take_append_drop _ _)
        go_wp2_with (go_at_call 69; refine Hid.out ?_)
        refine Lib.hid ?_
        refine (sameD D_M2.out D1.out (decide_eq_true EB.out)).mono ?_
        rintro e wn ⟨rfl, y⟩
        have HT := Lib.hid (Utf8Tabs_below HT.out y)
        have R2 := Lib.hid (R2.out.ext y)
        have HS := Lib.hid (HS.out.ext y)
        have D1 := Lib.hid (D1.out.ext y)
        have RP_1 := Lib.hid (RP_1.out.ext y)
        have RP_2 := Lib.hid (RP_2.out.ext y)
        have RP_9 := Lib.hid (RP_9.out.ext y)
        have O_x := Lib.hid (O_x.out.ext y)
        have D_M1 := Lib.hid (D_M1.out.ext y)
        have DA := Lib.hid (DA.out.ext y)
        have DB := Lib.hid (DB.out.ext y)
        have DC := Lib.hid (DC.out.ext y)
        have DE := Lib.hid (DE.out.ext y)
        have DG := Lib.hid (DG.out.ext y)
        have O_x2 := Lib.hid (O_x2.out.ext y)
        have D_M2 := Lib.hid (D_M2.out.ext y)
        replace hx := ext_trans hx y
        clear y
        go_wp2_with (go_at_call 73; refine Hid.out ?_)
        refine Lib.hid ?_
        refine (known24_any _ HT.out).mono ?_
        rintro e w2 ⟨rfl, y⟩
        replace hx := ext_trans hx y
        go_wp2_with (fail)
        go_ret
        exact ⟨rfl, hx⟩
      have hr9' : (r_9 == 10) = false := beq_eq_false_iff_ne.2 hr9
      have hl9 := LAST.out q _ HX_9.out hr9
      have hw9 : IntKind.i64.wrap ((q : Int) + 1) = ((q + 1 : Nat) : Int) := IntWalk.i64_in _ (by omega)
      go_wp2_with (fail)
      go_roundg (n1 - (q + 1))
      case measure => have := HG.out; omega
      case rel => exact ⟨q + 1, by omega, hl9, rfl, by go_num, rfl⟩
end Go.Proofs.YtbdkbfoplpociaaGreatDoor
