/- Merged texts: BuilderSteps. -/
import Derived.Test.YtfnkjcodcoehcaaGreatDoorY18
import Derived.Test.YtfnkjcodcoehcaaGreatDoorY20
import Derived.Test.YtfnkjcodcoehcaaGreatDoorY23
import Derived.Test.YtfnkjcodcoehcaaGreatDoorY12
import Derived.Test.YtfnkjcodcoehcaaGreatDoorY24
namespace Go.Proofs.YtfnkjcodcoehcaaGreatDoor
open Go.RowKit
set_option linter.unusedVariables false
set_option linter.unusedSimpArgs false

set_option maxRecDepth 100000 in
set_option maxHeartbeats 12800000 in
theorem builderSteps_any (A0 A1 : Option Addr) (n0 n1 c0 c1 : Nat) (l0 : List Ky) (d : List ClS) (key x3 : Int) (w : World)
    (e0 : n0 = l0.length) (r0 : RdKy w w.heap.size A0 l0) (b0 : n0 ≤ 1048576) (e1 : n1 = d.length) (r1 : RdCl w w.heap.size A1 d) (b1 : n1 ≤ 1048576) (k1 : n1 ≤ c1) (q1 : ∀ x ∈ d, x.c.s.length ≤ 100000000 ∧ okVr x.c.s) (g1 : ∀ x ∈ d, x.c.s.length ≤ x.cs ∧ x.cs ≤ maxLen)
    (hT : Lib.Utf8Tabs 1 2 w) :
    Calls Tryz.prog 10 #[.slice A0 n0 c0, .slice A1 n1 c1, .int .i64 key, .int .i64 x3] w fun e w' => e = .returned (.bool true) ∧ Below w.heap.size w w' := by
  have N0 := Lib.hid e0
  have R0 := Lib.hid r0
  have HT := Lib.hid hT
  have hx := Below.refl w.heap.size w
  have N1 := Lib.hid e1
  have R1 := Lib.hid r1
  have Q1 := Lib.hid q1
  have C1 := Lib.hid g1
  clear e0 r0 hT e1 r1 q1 g1
  go_enter Tryz.func10, Tryz.ntmps10
  by_cases g0 : (64 : Int) < (n0 : Int)
  · skip
    go_wp2_with (go_at_call 55; refine Hid.out ?_)
    refine Lib.hid ?_
    refine (known24_any _ HT.out).mono ?_
    rintro e w2 ⟨rfl, y⟩
    replace hx := ext_trans hx y
    go_wp2_with (fail)
    go_ret
    exact ⟨rfl, hx⟩
  go_wp2_with (go_at_call 11; refine Hid.out ?_)
  refine Lib.hid ?_
  refine (great18_any A1 n1 c1 d 200 _ N1.out R1.out (by omega) (fun z hz => by have := (Q1.out z hz).1; omega)).mono ?_
  rintro e wn ⟨g, rfl, hgr, dr, hd⟩
  have y := drew_ext hd
  clear hd
  have R0 := Lib.hid (R0.out.ext y)
  have HT := Lib.hid (Utf8Tabs_below HT.out y)
  have R1 := Lib.hid (R1.out.ext y)
  replace hx := ext_trans hx y
  clear y
  cases g
  case true =>
    clear hgr
    go_wp2_with (go_at_call 55; refine Hid.out ?_)
    refine Lib.hid ?_
    refine (known24_any _ HT.out).mono ?_
    rintro e w2 ⟨rfl, y⟩
    replace hx := ext_trans hx y
    go_wp2_with (fail)
    go_ret
    exact ⟨rfl, hx⟩
  have G1 : Hid (n1 ≤ 200 ∧ ∀ z ∈ d, z.c.s.length ≤ 64) := Lib.hid ⟨by have := (hgr rfl).1; omega, (hgr rfl).2⟩
  clear hgr
  by_cases g1 : x3 < 1
  · skip
    go_wp2_with (go_at_call 55; refine Hid.out ?_)
    refine Lib.hid ?_
    refine (known24_any _ HT.out).mono ?_
    rintro e w2 ⟨rfl, y⟩
    replace hx := ext_trans hx y
    go_wp2_with (fail)
    go_ret
    exact ⟨rfl, hx⟩
  by_cases g2 : 12 < x3
  · skip
    go_wp2_with (go_at_call 55; refine Hid.out ?_)
    refine Lib.hid ?_
    refine (known24_any _ HT.out).mono ?_
    rintro e w2 ⟨rfl, y⟩
    replace hx := ext_trans hx y
    go_wp2_with (fail)
    go_ret
    exact ⟨rfl, hx⟩
  obtain ⟨RN, hRN⟩ : ∃ k : Nat, x3 = (k : Int) := ⟨x3.toNat, by omega⟩
  have G0 : Hid (n0 ≤ 64 ∧ 1 ≤ RN ∧ RN ≤ 12 ∧ n1 ≤ 200) := Lib.hid (by have := G1.out.1; omega)
  subst hRN
  go_wp2_with (go_at_call 13; refine Hid.out ?_)
  refine Lib.hid ?_
  refine (new_any A0 n0 c0 l0 _ N0.out R0.out (by omega)).mono ?_
  rintro e wn ⟨y, ⟨hm, s, rfl, hS⟩ | ⟨hm, rfl⟩⟩
  all_goals clear g0 g1 g2
  all_goals
    have R0 := Lib.hid (R0.out.ext y)
    have HT := Lib.hid (Utf8Tabs_below HT.out y)
    have R1 := Lib.hid (R1.out.ext y)
    replace hx := ext_trans hx y
    clear y hm
  rotate_left
  · skip
    go_wp2_with (go_at_call 55; refine Hid.out ?_)
    refine Lib.hid ?_
    refine (known24_any _ HT.out).mono ?_
    rintro e w2 ⟨rfl, y⟩
    replace hx := ext_trans hx y
    go_wp2_with (fail)
    go_ret
    exact ⟨rfl, hx⟩
  have HS := Lib.hid hS
  clear hS
  have H64 : Hid (l0.length ≤ 64) := Lib.hid (by have := N0.out; have := G0.out; omega)
  have D1 : Hid (DocAt _ A1 n1 c1 d) := Lib.hid ⟨R1.out, N1.out, k1, C1.out, fun z hz => ⟨by have := G1.out.2 z hz; omega, (Q1.out z hz).2⟩, by have := G1.out; omega⟩
  have LD : Hid ((clsOf d).length = n1) := Lib.hid D1.out.clen
  obtain ⟨md, hmd⟩ : ∃ X, mayD l0 (clsOf d) = X := ⟨_, rfl⟩
  have MD := Lib.hid hmd
  clear hmd
  go_wp2_with (go_at_call 56; refine Hid.out ?_)
  refine Lib.hid ?_
  refine (mayDoc D1.out HS.out HT.out MD.out).mono ?_
  rintro e wn ⟨rfl, y⟩
  have HT := Lib.hid (Utf8Tabs_below HT.out y)
  have HS := Lib.hid (HS.out.ext y)
  have D1 := Lib.hid (D1.out.ext y)
  replace hx := ext_trans hx y
  clear y
  by_cases h0 : md = 0
  rotate_left
  · skip
    have h0' : (md == 0) = false := beq_eq_false_iff_ne.2 h0
    have h0'' : (md != 0) = true := by rw [bne, h0']; rfl
    clear h0 MD
    go_wp2_with (go_at_call 55; refine Hid.out ?_)
    refine Lib.hid ?_
    refine (known24_any _ HT.out).mono ?_
    rintro e w2 ⟨rfl, y⟩
    replace hx := ext_trans hx y
    go_wp2_with (fail)
    go_ret
    exact ⟨rfl, hx⟩
  subst h0
  have B1 : Hid (1 ≤ n1) := Lib.hid (by obtain ⟨_, _, t, c, h, _⟩ := mayD_iff.1 MD.out; have := LD.out; rw [h] at this; simp at this; omega)
  go_wp2_with (go_at_call 62; refine Hid.out ?_)
  refine Lib.hid ?_
  refine (findS_any s l0 key _ HS.out).mono ?_
  rintro e wn ⟨i, kb, kd, k2, k3, q, ok, rfl, hk, hbk, y⟩
  have HT := Lib.hid (Utf8Tabs_below HT.out y)
  have HS := Lib.hid (HS.out.ext y)
  have D1 := Lib.hid (D1.out.ext y)
  replace hx := ext_trans hx y
  have HK := Lib.hid hk
  have HB := Lib.hid hbk
  clear y hk hbk
  have y := ext_alloc wn (.cells #[.int .i64 i, .bool kb, .int .u8 kd, .bool k2, .bool k3, .int .i64 q] 97)
  have hbx := heap_alloc_new wn (.cells #[.int .i64 i, .bool kb, .int .u8 kd, .bool k2, .bool k3, .int .i64 q] 97)
  obtain ⟨a0, a1, a2, a3, a4, a5⟩ := box_ky hbx
  clear hbx a0 a3 a4 a5
  have HT := Lib.hid (Utf8Tabs_below HT.out y)
  have HS := Lib.hid (HS.out.ext y)
  have D1 := Lib.hid (D1.out.ext y)
  replace hx := ext_trans hx y
  clear y
  cases ok
  case false =>
    go_wp2_with (go_at_call 55; refine Hid.out ?_)
    refine Lib.hid ?_
    refine (known24_any _ HT.out).mono ?_
    rintro e w2 ⟨rfl, y⟩
    replace hx := ext_trans hx y
    go_wp2_with (fail)
    go_ret
    exact ⟨rfl, hx⟩
  have HF : Hid (findK l0 key = some ⟨i, kb, kd, k2, k3, q⟩) := Lib.hid (by
    have h1 := HB.out
    have h2 := HK.out
    cases hq : findK l0 key with
    | none => rw [hq] at h1; cases h1
    | some k => rw [hq] at h2; simp only [Option.getD_some] at h2; rw [h2])
  clear HB HK
  cases kb
  case false =>
    go_wp2_with (go_at_call 55; refine Hid.out ?_)
    refine Lib.hid ?_
    refine (known24_any _ HT.out).mono ?_
    rintro e w2 ⟨rfl, y⟩
    replace hx := ext_trans hx y
    go_wp2_with (fail)
    go_ret
    exact ⟨rfl, hx⟩
  by_cases hkd : kd = 2
  rotate_left
  · skip
    have hkb : (kd == 2) = false := beq_eq_false_iff_ne.2 hkd
    have hkb2 : (kd != 2) = true := by rw [bne_iff_ne]; exact hkd
    clear hkd
    go_wp2_with (go_at_call 55; refine Hid.out ?_)
    refine Lib.hid ?_
    refine (known24_any _ HT.out).mono ?_
    rintro e w2 ⟨rfl, y⟩
    replace hx := ext_trans hx y
    go_wp2_with (fail)
    go_ret
    exact ⟨rfl, hx⟩
  subst hkd
  have GK : Hid (GoodK l0 key) := Lib.hid ⟨_, HF.out, rfl, rfl⟩
  clear HF
  go_wp2_with (go_at_call 63; refine Hid.out ?_)
  refine Lib.hid ?_
  generalize wn.alloc (.cells #[.int .i64 i, .bool true, .int .u8 2, .bool k2, .bool k3, .int .i64 q] 97) = wk at *
  clear a1 a2
  obtain ⟨wn, hwk⟩ : ∃ X, X = wk := ⟨_, rfl⟩
  subst hwk
  obtain ⟨wm1, hwm⟩ : ∃ X, X = wn := ⟨_, rfl⟩
  subst hwm
  have HT_1 := HT
  have HS_1 := HS
  have D1_1 := D1
  have hx_1 := hx
  refine (copyDoc D1.out).mono ?_
  rintro e wn ⟨A3, c3, M0, rfl, hM, hrow, hparts, y⟩
  have LM : M0.length = n1 := by rw [← clsOf_len, hM, LD.out]
  rw [LM] at hrow hparts ⊢
  have ROW := Lib.hid hrow
  have PARTS := Lib.hid hparts
  have EM := Lib.hid hM
  have YB := Lib.hid y
  have LM0 := Lib.hid LM
  clear hM hrow hparts y LM
  have VM : Hid (∀ x ∈ clsOf M0, x.s.length ≤ 1000000 ∧ okVr x.s) := Lib.hid (by
    intro x hx
    rw [EM.out] at hx
    obtain ⟨z, hz, rfl⟩ := cls_mem hx
    exact D1_1.out.vr z hz)
  obtain ⟨RR, hRR⟩ : ∃ X : Nat, 2 * RN = X := ⟨_, rfl⟩
  have HRR := Lib.hid hRR
  have hwR : IntKind.i64.wrap (2 * (RN : Int)) = (RR : Int) := by rw [IntWalk.i64_in _ (by have := G0.out; omega)]; omega
  clear hRR
  go_wp2_with (fail)
  go_loopg [13, 80] RR (fun g v13 v80 wr => ∃ (r : Nat) (A : Option Addr) (c : Nat) (M : List ClS), r ≤ RR ∧ g = RR - r ∧ v13 = .slice A n1 c ∧ v80 = .int .i64 (r : Int) ∧ Hid (Below wm1.heap.size wm1 wr) ∧ Hid (mayD l0 (clsOf M) = 0) ∧ Hid (DocAt wr A n1 c M) ∧ Hid (r ≠ 0 → LinesK key (vAt RN r) (clsOf M)) ∧ Hid (r = 0 → OwCs wr wm1.heap.size (.slice A n1 c) M ∧ ∀ z ∈ M, PartC wr wm1.heap.size (.slice A n1 c) z))
  case atStart => exact ⟨0, A3, c3, M0, Nat.zero_le _, rfl, rfl, rfl, YB, Lib.hid (by rw [EM.out]; exact MD.out), Lib.hid (by
    have h := DocAt.made (L := M0) (A := A3) (c := c3) (by rw [LM0.out]; exact ROW.out) PARTS.out VM.out (by rw [LM0.out]; have := G0.out; omega)
    rw [LM0.out] at h
    exact h), Lib.hid (fun h => absurd rfl h), Lib.hid (fun _ => ⟨ROW.out, PARTS.out⟩)⟩
  case round =>
    clear ROW PARTS YB VM EM
    obtain ⟨r, A, c, M, hr, hg, rfl, rfl, YB, MD, DM, LK, OWN⟩ := hrel
    have HG := Lib.hid hg
    clear hg
    by_cases hlt : r < RR
    rotate_left
    · skip
      have hlt' : ¬ ((r : Int) < (RR : Int)) := by omega
      obtain ⟨wn, hwv⟩ : ∃ X, X = wr := ⟨_, rfl⟩
      subst hwv
      have HS := Lib.hid (HS_1.out.ext YB.out)
      have HT := Lib.hid (Utf8Tabs_below HT_1.out YB.out)
      have hx := ext_trans hx_1 YB.out
      clear YB
      go_wp2_with (go_at_call 55; refine Hid.out ?_)
      refine Lib.hid ?_
      refine (known24_any _ HT.out).mono ?_
      rintro e w2 ⟨rfl, y⟩
      replace hx := ext_trans hx y
      go_wp2_with (fail)
      go_ret
      exact ⟨rfl, hx⟩
    have hlt' : (r : Int) < (RR : Int) := by omega
    have hwr : IntKind.i64.wrap ((r : Int) + 1) = (r : Int) + 1 := IntWalk.i64_in _ (by have := G0.out; have := HRR.out; omega)
    have HLT := Lib.hid hlt
    clear hlt
    have LE : Hid ((clsOf M).length = n1) := Lib.hid DM.out.clen
    obtain ⟨ad, hA⟩ : ∃ ad, A = some ad := by
      obtain ⟨ad, _, h, _⟩ := DM.out.rd.1.el (i := 0) (by have := DM.out.len; have := B1.out; omega)
      exact ⟨ad, h⟩
    subst hA
    obtain ⟨wv, hwv⟩ : ∃ X, X = wr := ⟨_, rfl⟩
    subst hwv
    have VMX : Hid (∀ x ∈ clsOf M, x.s.length ≤ 1000000 ∧ okVr x.s) := Lib.hid (by
      intro x hx
      obtain ⟨z, hz, rfl⟩ := cls_mem hx
      exact DM.out.vr z hz)
    by_cases hr0 : r = 0
    · skip
      have HR0 := Lib.hid hr0
      have hr1 : ((r : Int) == 0) = true := by rw [hr0]; rfl
      have HRN : Hid (r < RN) := Lib.hid (by have := G0.out; omega)
      clear hr0
      obtain ⟨g0, hg0⟩ : ∃ g0, ad = ⟨g0, 0, none⟩ := by
        obtain ⟨g, _, hA, _⟩ := (OWN.out HR0.out).1.row (by have := DM.out.len; have := B1.out; omega)
        injection hA with hA
        exact ⟨g, hA⟩
      subst hg0
      have OW1 := Lib.hid (OWN.out HR0.out)
      clear OWN
      go_wp2_with (fail)
      go_loopg [15, 16, 85] n1 (fun g v15 v16 v85 wr => ∃ (k n5 n6 : Nat) (A5 A6 : Option Addr) (c5 c6 : Nat) (ats : List Int) (S : List AX) (Q : List ClS) , k ≤ n1 ∧ g = n1 - k ∧ v15 = .slice A5 n5 c5 ∧ v16 = .slice A6 n6 c6 ∧ v85 = .int .i64 (k : Int) ∧ Hid (LinesInv wm1.heap.size wr (.slice (some ⟨g0, 0, none⟩) n1 c) Q (.slice A5 n5 c5) ats (.slice A6 n6 c6) S) ∧ Hid (LinesP ((clsOf M).map (bareC key)) Q k ats S) ∧ Hid (n5 = ats.length ∧ n6 = S.length) ∧ Hid (Below wm1.heap.size wm1 wr) ∧ Hid (clsOf Q = bareAt key (clsOf M) k))
      case atStart => exact ⟨0, 0, 0, none, none, 0, 0, [], [], M, Nat.zero_le _, rfl, rfl, rfl, rfl, Lib.hid ⟨OW1.out.1, OW1.out.2, Ow.nil _ _, Ow.nil _ _⟩, Lib.hid (LinesP.new _ _), Lib.hid ⟨rfl, rfl⟩, YB, Lib.hid (bareAt_zero _ _).symm⟩
      case round =>
        obtain ⟨k, n5, n6, A5, A6, c5, c6, ats, S, Q, hk, hg, rfl, rfl, rfl, HI, HP, HN, HY, HQ⟩ := hrel
        have HG2 := Lib.hid hg
        clear hg
        by_cases hlk : k < n1
        · skip
          have hlk' : (k : Int) < (n1 : Int) := by omega
          have hw2 : IntKind.i64.wrap ((k : Int) + 1) = (k : Int) + 1 := IntWalk.i64_in _ (by have := G0.out; omega)
          obtain ⟨z, hz⟩ : ∃ z, Q[k]? = some z := ⟨_, List.getElem?_eq_getElem (by have h1 := congrArg List.length HQ.out; rw [clsOf_len] at h1; have h2 := LE.out; unfold bareAt at h1; rw [List.length_append, List.length_map, List.length_take, List.length_drop] at h1; omega)⟩
          obtain ⟨⟨rn, st⟩, As, cs⟩ := z
          have HZ := Lib.hid hz
          have HC : Hid ((clsOf M)[k]? = some ⟨rn, st⟩) := Lib.hid (by
            have h := clsOf_at hz
            rw [HQ.out, bareAt_get (by have := LE.out; omega)] at h
            exact h)
          obtain ⟨g1, hg1, -, -, z0, z1, -⟩ := HI.out.store hz (Ow.nil _ _ : OwAt wr wm1.heap.size (.slice none (([] : List At)).length 0) [])
          injection hg1 with hg1
          injection hg1 with hg1 _ _
          subst hg1
          clear hz
          by_cases hrn : rn = 10
          rotate_left
          · skip
            have hrn' : (rn == 10) = false := beq_eq_false_iff_ne.2 hrn
            have hrn'' : (rn != 10) = true := by rw [bne, hrn']; rfl
            have HP2 := Lib.hid (HP.out.no (c := ⟨rn, st⟩) (by rw [List.getElem?_map, HC.out]; show some (bareC key ⟨rn, st⟩) = _; unfold bareC; rw [if_neg hrn]) hrn)
            have HQ2 : Hid (clsOf Q = bareAt key (clsOf M) (k + 1)) := Lib.hid (by rw [bareAt_no HC.out hrn]; exact HQ.out)
            clear hrn
            go_wp2_with (fail)
            go_roundg (n1 - (k + 1))
            case measure => have h9 := HG2.out; clear hw2; omega
            case rel => exact ⟨k + 1, n5, n6, A5, A6, c5, c6, ats, S, Q, by clear hw2; omega, rfl, rfl, rfl, by go_num, HI, HP2, HN, HY, HQ2⟩
          have hrn' : (rn == 10) = true := by rw [hrn]; rfl
          have hrn'' : (rn != 10) = false := by rw [hrn]; rfl
          go_wp2_with (go_at_call 64; refine Hid.out ?_)
          refine Lib.hid ?_
          obtain ⟨s8, hs8⟩ : ∃ X, st.filter (fun a => !(a.key == key)) = X := ⟨_, rfl⟩
          have HW := without05_any key As st.length cs st wr rfl ((HI.out.parts _ (List.mem_of_getElem? HZ.out)).1.rd At.enc_len) (by have h := (VMX.out _ (List.mem_of_getElem? HC.out)).1; simp only at h; omega)
          rw [hs8] at HW
          have HS8 : Hid (bareP st key = s8) := Lib.hid hs8
          clear hs8
          refine HW.mono ?_
          clear HW
          rintro e w1 ⟨A8, c8, rfl, o8, y8⟩
          obtain ⟨g1, hg1, hb1, hfz, e0, e1, HI2⟩ := (HI.out.below y8).store HZ.out (o8.base_le HY.out.size)
          injection hg1 with hg1
          injection hg1 with hg1 _ _
          subst hg1
          have HI := Lib.hid HI2
          have HY := Lib.hid ((ext_trans HY.out y8).setCell (p := ⟨g0, k * 2 + 1, none⟩) hb1 (.slice A8 s8.length c8))
          clear HI2 y8 o8
          have HZ2 : Hid ((Q.set k ⟨⟨rn, s8⟩, A8, c8⟩)[k]? = some ⟨⟨rn, s8⟩, A8, c8⟩) := Lib.hid (by rw [List.getElem?_set_self (by obtain ⟨h, _⟩ := List.getElem?_eq_some_iff.1 HZ.out; exact h)])
          have HBC : Hid (bareC key ⟨rn, st⟩ = ⟨rn, s8⟩) := Lib.hid (by unfold bareC; rw [if_pos hrn, HS8.out])
          have HP := Lib.hid ((HP.out.set ⟨⟨rn, s8⟩, A8, c8⟩).yes (c := ⟨rn, s8⟩) (by rw [List.getElem?_map, HC.out]; show some (bareC key ⟨rn, st⟩) = _; rw [HBC.out]) hrn HZ2.out rfl)
          have HQ : Hid (clsOf (Q.set k ⟨⟨rn, s8⟩, A8, c8⟩) = bareAt key (clsOf M) (k + 1)) := Lib.hid (by rw [bareAt_succ HC.out, HBC.out, ← HQ.out]; unfold clsOf; rw [List.map_set])
          obtain ⟨Q2, hQ2⟩ : ∃ X, Q.set k ⟨⟨rn, s8⟩, A8, c8⟩ = X := ⟨_, rfl⟩
          rw [hQ2] at HI HP HQ HZ2
          clear hQ2 hrn HBC HS8 z0 z1
          go_wp2_with (fail)
          generalize w1.setCell ⟨g0, k * 2 + 1, none⟩ (.slice A8 s8.length c8) = wx at *
          clear e0 e1 hfz
          have opS : ∀ {W : World} {v9 v8 : Value} {a9 : List Int} {a8 : List AX}, LinesInv wm1.heap.size W (.slice (some ⟨g0, 0, none⟩) n1 c) Q2 v9 a9 v8 a8 → W.cell? ⟨g0, k * 2 + 1, none⟩ = some (.slice A8 s8.length c8) := fun {W v9 v8 a9 a8} h => by
            obtain ⟨g1, hg1, -, -, -, h1, -⟩ := h.store HZ2.out (Ow.nil _ _ : OwAt W wm1.heap.size (.slice none (([] : List At)).length 0) [])
            injection hg1 with hg1
            injection hg1 with hg1 _ _
            subst hg1
            exact h1
          have YW : Hid (Below wx.heap.size wx wx) := Lib.hid (Below.refl _ _)
          have Cw := opS HI.out
          go_region_held_law (fun w' => w'.cell? ⟨g0, k * 2 + 1, none⟩ = some (.slice A8 s8.length c8)) (first | exact C9 | exact opS (HI.out.below (by repeat (first | exact YW.out | refine ext_trans ?_ (ext_alloc _ _) | refine up_drew ?_)))) (first
            | (refine step_int (l := ats) (m := [(k : Int)]) rfl (.tmp 107) (.tmp 109) (by rfl) (by rfl) (HI.out.below (by repeat (first | exact YW.out | refine ext_trans ?_ (ext_alloc _ _) | refine up_drew ?_))).ats _ _ 1 1 (by rfl) rfl (lit_int (k := (k : Int)) (by first | exact LT1.out | exact lit_eq LT1.out (by simp; done) | exact heap_alloc_new _ _ | exact lit_at (by simp; done) | exact ((ext_alloc _ _).block _ (by simp)).trans (heap_alloc_new _ _) | exact ((ext_alloc _ _).block _ (by simp)).trans (lit_at (by simp; done)))) (by have := HN.out; have := HP.out.len; have := G0.out; simp only [List.length_singleton, List.length_append] at *; omega) (Nat.le_trans HY.out.size ((by repeat (first | exact YW.out | refine ext_trans ?_ (ext_alloc _ _) | refine up_drew ?_)) : Below wx.heap.size wx _).size) ?_
               intro v9 w9 ho9 hg9 hw9
               obtain ⟨A9, c9, hv9, _, _⟩ := ho9.form
               subst hv9
               obtain ⟨n5, hn9⟩ : ∃ X, (ats ++ [(k : Int)]).length = X := ⟨_, rfl⟩
               rw [hn9] at ho9 ⊢
               have HN1 := Lib.hid hn9
               have HY := Lib.hid (below_app (ext_trans HY.out (by repeat (first | exact YW.out | refine ext_trans ?_ (ext_alloc _ _) | refine up_drew ?_))) (Nat.le_trans HY.out.size ((by repeat (first | exact YW.out | refine ext_trans ?_ (ext_alloc _ _) | refine up_drew ?_)) : Below wx.heap.size wx _).size) (HI.out.below (by repeat (first | exact YW.out | refine ext_trans ?_ (ext_alloc _ _) | refine up_drew ?_))).ats (Nat.le_refl _) hg9)
               try (have LT2 := Lib.hid (lit_keep (o := Obj.cells #[.slice A8 s8.length c8] 36 (0, 0)) HI.out.ats (by repeat (first | exact YW.out | refine ext_trans ?_ (ext_alloc _ _) | refine up_drew ?_)) hg9 (by first | exact LT2.out | exact heap_alloc_new _ _ | exact ((ext_alloc _ _).block _ (by simp)).trans (heap_alloc_new _ _)) (by first | (simp; done) | exact ((by repeat (first | exact YW.out | refine ext_trans ?_ (ext_alloc _ _) | refine up_drew ?_)) : Below wx.heap.size wx _).size)))
               have HI := Lib.hid ((HI.out.below (by repeat (first | exact YW.out | refine ext_trans ?_ (ext_alloc _ _) | refine up_drew ?_))).appI ho9 hg9)
               obtain ⟨A5, hA9⟩ : ∃ X, X = A9 := ⟨_, rfl⟩
               subst hA9
               obtain ⟨wx, hwx⟩ : ∃ X, X = w9 := ⟨_, rfl⟩
               subst hwx
               have YW : Hid (Below wx.heap.size wx wx) := Lib.hid (Below.refl _ _)
               have C9 := opS HI.out
               clear ho9 hg9 hw9 hn9)
            | (refine step_ax (l := S) (m := [(⟨A8, c8, s8⟩ : AX)]) rfl (.tmp 111) (.tmp 117) (by rfl) (by rfl) (HI.out.below (by repeat (first | exact YW.out | refine ext_trans ?_ (ext_alloc _ _) | refine up_drew ?_))).sets _ _ 1 1 (by rfl) rfl (lit_ax (z := ⟨A8, c8, s8⟩) (by first | exact LT2.out | exact lit_eq LT2.out (by simp; done) | exact heap_alloc_new _ _ | exact lit_at (by simp; done) | exact ((ext_alloc _ _).block _ (by simp)).trans (heap_alloc_new _ _) | exact ((ext_alloc _ _).block _ (by simp)).trans (lit_at (by simp; done)))) (by have := HN.out; have := HP.out.len; have := G0.out; simp only [List.length_singleton, List.length_append] at *; omega) (Nat.le_trans HY.out.size ((by repeat (first | exact YW.out | refine ext_trans ?_ (ext_alloc _ _) | refine up_drew ?_)) : Below wx.heap.size wx _).size) ?_
               intro v9 w9 ho9 hg9 hw9
               obtain ⟨A9, c9, hv9, _, _⟩ := ho9.form
               subst hv9
               obtain ⟨n6, hn9⟩ : ∃ X, (S ++ [(⟨A8, c8, s8⟩ : AX)]).length = X := ⟨_, rfl⟩
               rw [hn9] at ho9 ⊢
               have HN2 := Lib.hid hn9
               have HY := Lib.hid (below_app (ext_trans HY.out (by repeat (first | exact YW.out | refine ext_trans ?_ (ext_alloc _ _) | refine up_drew ?_))) (Nat.le_trans HY.out.size ((by repeat (first | exact YW.out | refine ext_trans ?_ (ext_alloc _ _) | refine up_drew ?_)) : Below wx.heap.size wx _).size) (HI.out.below (by repeat (first | exact YW.out | refine ext_trans ?_ (ext_alloc _ _) | refine up_drew ?_))).sets (Nat.le_refl _) hg9)
               try (have LT1 := Lib.hid (lit_keep (o := Obj.cells #[.int .i64 (k : Int)] 3 (0, 0)) HI.out.sets (by repeat (first | exact YW.out | refine ext_trans ?_ (ext_alloc _ _) | refine up_drew ?_)) hg9 (by first | exact LT1.out | exact heap_alloc_new _ _ | exact ((ext_alloc _ _).block _ (by simp)).trans (heap_alloc_new _ _)) (by first | (simp; done) | exact ((by repeat (first | exact YW.out | refine ext_trans ?_ (ext_alloc _ _) | refine up_drew ?_)) : Below wx.heap.size wx _).size)))
               have HI := Lib.hid ((HI.out.below (by repeat (first | exact YW.out | refine ext_trans ?_ (ext_alloc _ _) | refine up_drew ?_))).appS ho9 hg9)
               obtain ⟨A6, hA9⟩ : ∃ X, X = A9 := ⟨_, rfl⟩
               subst hA9
               obtain ⟨wx, hwx⟩ : ∃ X, X = w9 := ⟨_, rfl⟩
               subst hwx
               have YW : Hid (Below wx.heap.size wx wx) := Lib.hid (Below.refl _ _)
               have C9 := opS HI.out
               clear ho9 hg9 hw9 hn9))
          all_goals
            go_wp2_with (fail)
            go_roundg (n1 - (k + 1))
          all_goals first
            | (have h9 := HG2.out; clear hw2; omega)
            | exact ⟨k + 1, _, _, _, _, _, _, _, _, _, by clear hw2; omega, rfl, rfl, rfl, by go_num, HI, HP, Lib.hid ⟨HN1.out.symm, HN2.out.symm⟩, HY, HQ⟩
        have hlk' : ¬ ((k : Int) < (n1 : Int)) := by omega
        have hkn : k = n1 := by omega
        subst hkn
        obtain ⟨wn, hwn⟩ : ∃ X, X = wr := ⟨_, rfl⟩
        subst hwn
        have EQ : Hid (clsOf Q = (clsOf M).map (bareC key)) := Lib.hid (by rw [HQ.out]; exact bareAt_all (by rw [LE.out]; exact Nat.le_refl _))
        have QL : Q.length = k := by rw [← clsOf_len, EQ.out, List.length_map, LE.out]
        have MQ : Hid (mayD l0 (clsOf Q) = 0) := Lib.hid (by rw [EQ.out]; exact (bare_may MD.out).1)
        have LKQ : Hid (LinesK key (vAt RN r) (clsOf Q)) := Lib.hid (by rw [EQ.out, HR0.out, vAt_zero]; exact (bare_may MD.out).2)
        have HPQ : Hid (LinesP (clsOf Q) Q k ats S) := Lib.hid (by rw [EQ.out]; exact HP.out)
        have DQ : Hid (DocAt wn (some ⟨g0, 0, none⟩) k c Q) := Lib.hid (by
          have h := DocAt.made (L := Q) (A := some ⟨g0, 0, none⟩) (c := c) (by rw [QL]; exact HI.out.row) HI.out.parts (fun x hx => ?_) (by rw [QL]; have := G0.out; omega)
          · rw [QL] at h; exact h
          · rw [EQ.out] at hx
            obtain ⟨y, hy, rfl⟩ := List.mem_map.1 hx
            have h := VMX.out y hy
            unfold bareC
            split
            · refine ⟨Nat.le_trans (List.length_filter_le _ _) h.1, fun a ha => h.2 a (List.mem_filter.1 ha).1⟩
            · exact h)
        replace YB := HY
        obtain ⟨adq, hadq⟩ : ∃ X, X = (⟨g0, 0, none⟩ : Addr) := ⟨_, rfl⟩
        rw [← hadq] at DQ ⊢
        clear hadq
        have HS := Lib.hid (HS_1.out.ext YB.out)
        have HT := Lib.hid (Utf8Tabs_below HT_1.out YB.out)
        have hx := ext_trans hx_1 YB.out
        have LQ : Hid ((clsOf Q).length = k) := Lib.hid DQ.out.clen
        have SA : Hid (SetsAt wn S) := Lib.hid (fun z hz => by
          obtain ⟨i, x, h1, h2, h3, h4, h5⟩ := HPQ.out.rel z hz
          have hm := List.mem_of_getElem? h2
          have r1 := DQ.out.rd.2 x hm
          have r2 := DQ.out.caps x hm
          have r3 := DQ.out.vr x hm
          have r4 := (mayS_zero ((mayD_iff.1 MQ.out).2.1 x.c (mem_cls hm)).2.1).2.1
          rw [h3] at r1
          rw [h4] at r2
          rw [h5] at r1 r2 r3 r4
          exact ⟨r1, r2.1, r2.2, r3.1, r4⟩)
        have RA : Hid (RdInt wn wn.heap.size A5 ((nlsF (clsOf Q) 0 k).map (fun p : Nat => (p : Int)))) := Lib.hid (by rw [← HPQ.out.ats]; exact HI.out.ats.rd encInt_len)
        have RS : Hid (RdAX wn wn.heap.size A6 S) := Lib.hid (HI.out.sets.rd AX.enc_len)
        have NN : Hid (n5 = (nlsF (clsOf Q) 0 k).length ∧ n6 = S.length ∧ n5 ≤ 200 ∧ n6 ≤ 200) := Lib.hid (by
          have h1 := congrArg List.length HPQ.out.ats
          rw [List.length_map] at h1
          have h2 := HPQ.out.len
          have h3 := HN.out
          have h4 := G0.out
          omega)
        have SK : Hid (∀ j q, (nlsF (clsOf Q) 0 (clsOf Q).length)[j]? = some q → ∃ c, (clsOf Q)[q]? = some c ∧ atS S j = c.s) := Lib.hid (fun j q h => by
          rw [LQ.out] at h
          obtain ⟨c9, h1, h2⟩ := sets_at h
          refine ⟨c9, h1, ?_⟩
          rw [← HPQ.out.sets, List.getElem?_map] at h2
          unfold atS
          rw [h2]
          rfl)
        clear HI HP HN HY HG2
        have hge : ¬ ((RN : Int) ≤ (r : Int)) := by have := HRN.out; omega
        have hgeN : decide (RN ≤ r) = false := decide_eq_false (by have := HRN.out; omega)
        go_wp2_with (go_at_call 65; refine Hid.out ?_)
        refine Lib.hid ?_
        refine (stepB_any s l0 A5 A6 n5 c5 n6 c6 (nlsF (clsOf Q) 0 k) S key 1 _ GK.out HS.out H64.out NN.out.1 RA.out (by have := NN.out; omega) (fun z hz => by have := (nls_mem hz).2.1; have := G0.out; omega) NN.out.2.1 RS.out SA.out (by have := NN.out; omega)).mono ?_
        rintro e wn ⟨A7, c7, x, rfl, h7, o7, y⟩
        have YB := Lib.hid (ext_trans YB.out y)
        have HS := Lib.hid (HS.out.ext y)
        have HT := Lib.hid (Utf8Tabs_below HT.out y)
        have DQ := Lib.hid (DQ.out.ext y)
        replace hx := ext_trans hx y
        clear SA RA RS
        obtain ⟨US, hUS⟩ : ∃ X, stepsU l0 key 1 (atS S) (clsOf Q) = X := ⟨_, rfl⟩
        have FT : Hid (FitU l0 US (clsOf Q).length k) := Lib.hid (by have h := steps_fit (b := 1) (S := atS S) GK.out H64.out MQ.out; rw [hUS, LQ.out] at h; rw [LQ.out]; exact h)
        have SR := Lib.hid (steps_round (b := 1) GK.out H64.out MQ.out LKQ.out (vAt_range RN r).1 (vAt_range RN r).2 (by first | exact .inl rfl | exact .inr rfl) SK.out)
        rw [hUS] at SR
        have O_x := Lib.hid o7
        have E_x : Hid (osOf x = mkU US) := Lib.hid (by rw [h7, ← hUS]; unfold stepsU; rw [LQ.out])
        clear y h7 o7 hUS SK
        have Z_M := Lib.hid (made_in (l := l0) (N := k) (most := (k : Int)) E_x.out (by have := O_x.out.at_.b; have := O_x.out.at_.len; omega) MQ.out FT.out (by have := G0.out; omega) (Int.le_refl _))
        go_wp2_with (go_at_call 33; refine Hid.out ?_)
        refine Lib.hid ?_
        refine (applyDoc (most := k) DQ.out O_x.out.at_ HS.out HT.out H64.out (by have := G0.out; omega) Z_M.out.1 Z_M.out.2.2).mono ?_
        rintro e wn ⟨A8, c8, M2, rfl, h_M, m_M, b_M, d_M, y⟩
        have YB := Lib.hid (ext_trans YB.out y)
        have HS := Lib.hid (HS.out.ext y)
        have HT := Lib.hid (Utf8Tabs_below HT.out y)
        have DQ := Lib.hid (DQ.out.ext y)
        have O_x := Lib.hid (O_x.out.ext y)
        replace hx := ext_trans hx y
        have D_M := Lib.hid d_M
        have E_M := Lib.hid h_M
        have M_M := Lib.hid m_M
        clear d_M h_M m_M b_M
        clear y
        have L2 : M2.length = k := by rw [← clsOf_len, E_M.out, SR.out.2, LQ.out]
        rw [L2] at D_M ⊢
        clear L2
        have LK2 : Hid (LinesK key (vAt RN (r + 1)) (clsOf M2)) := Lib.hid (by rw [E_M.out, ← vAt_up (by have := HRN.out; omega)]; exact SR.out.1)
        clear SR E_M O_x E_x Z_M FT DQ MQ LKQ
        obtain ⟨ad8, hA8⟩ : ∃ ad, A8 = some ad := by
          obtain ⟨ad, _, h, _⟩ := D_M.out.rd.1.el (i := 0) (by have := D_M.out.len; have := B1.out; omega)
          exact ⟨ad, h⟩
        subst hA8
        obtain ⟨W, hW⟩ : ∃ X : Int, vAt RN (r + 1) = X := ⟨_, rfl⟩
        have HW := Lib.hid hW
        rw [hW] at LK2
        clear hW
        have hmn : min ((r : Int) + 1) 8 = W := by rw [← HW.out]; unfold vAt; rw [if_pos (by have := HRN.out; omega)]; omega
        go_wp2_with (fail)
        go_loopg [164] k (fun g v164 wr => ∃ j : Nat, j ≤ k ∧ g = k - j ∧ v164 = .int .i64 (j : Int) ∧ Hid (Below wm1.heap.size wm1 wr) ∧ Hid (DocAt wr (some ad8) k c8 M2))
        case atStart => exact ⟨0, Nat.zero_le _, rfl, rfl, YB, D_M⟩
        case round =>
          obtain ⟨j, hj, hg, rfl, YB, D_M⟩ := hrel
          have HG2 := Lib.hid hg
          clear hg
          obtain ⟨wn, hwn⟩ : ∃ X, X = wr := ⟨_, rfl⟩
          subst hwn
          by_cases hlj : j < k
          rotate_left
          · skip
            have hlj' : ¬ ((j : Int) < (k : Int)) := by omega
            go_wp2_with (fail)
            go_roundg (RR - (r + 1))
            case measure => have := HG.out; have := HLT.out; clear hwr; omega
            case rel => exact ⟨r + 1, some ad8, c8, M2, by have := HLT.out; clear hwr; omega, rfl, rfl, by go_num, YB, M_M, D_M, Lib.hid (fun _ => by rw [HW.out]; exact LK2.out), Lib.hid (fun h => absurd h (Nat.succ_ne_zero r))⟩
          have hlj' : (j : Int) < (k : Int) := by omega
          have hw2 : IntKind.i64.wrap ((j : Int) + 1) = (j : Int) + 1 := IntWalk.i64_in _ (by have := G0.out; omega)
          obtain ⟨ad2, z, hA2, _, _, hz, hc1⟩ := D_M.out.rd.1.el (i := j) (by have := D_M.out.len; omega)
          injection hA2 with hA2
          subst hA2
          obtain ⟨⟨rn, st⟩, As, cs⟩ := z
          have HZ := Lib.hid hz
          have HC : Hid ((clsOf M2)[j]? = some ⟨rn, st⟩) := Lib.hid (clsOf_at hz)
          obtain ⟨z0, z1⟩ := cl_cells hc1
          clear hz hc1
          by_cases hrn : rn = 10
          rotate_left
          · skip
            have hrn' : (rn == 10) = false := beq_eq_false_iff_ne.2 hrn
            have hrn'' : (rn != 10) = true := by rw [bne, hrn']; rfl
            clear hrn
            go_wp2_with (fail)
            go_roundg (k - (j + 1))
            case measure => have h9 := HG2.out; clear hw2; omega
            case rel => exact ⟨j + 1, by clear hw2; omega, rfl, by go_num, YB, D_M⟩
          have hrn' : (rn == 10) = true := by rw [hrn]; rfl
          have hrn'' : (rn != 10) = false := by rw [hrn]; rfl
          have GV : Hid (getA st key = valK W) := Lib.hid (LK2.out _ (List.mem_of_getElem? HC.out) hrn)
          clear hrn
          go_wp2_with (go_at_call 66; refine Hid.out ?_)
          refine Lib.hid ?_
          clear z0 z1
          refine (get05_any As st.length cs st key _ rfl (D_M.out.rd.2 _ (List.mem_of_getElem? HZ.out)) (by have := (D_M.out.vr _ (List.mem_of_getElem? HZ.out)).1; simp only at this; omega)).mono ?_
          rintro e w5 ⟨v1, v2, v3, v4, has, rfl, hget, hhas, y⟩
          rw [GV.out] at hget hhas
          have HGT := Lib.hid hget
          have HHS := Lib.hid hhas
          have y2 := ext_trans y (ext_alloc w5 (.cells #[.int .u8 v1, .int .i64 v2, .int .u64 v3, .string v4] 41))
          have hbv := heap_alloc_new w5 (.cells #[.int .u8 v1, .int .i64 v2, .int .u64 v3, .string v4] 41)
          obtain ⟨f0, f1, f2, f3⟩ := box_v hbv
          replace YB := Lib.hid (ext_trans YB.out y2)
          replace D_M := Lib.hid (D_M.out.ext y2)
          clear y y2 hbv hget hhas
          by_cases hW0 : W = 0
          · skip
            have hh : has = false := by rw [← HHS.out, hW0]; rfl
            subst hh
            have hW1 : decide ((0 : Int) < W) = false := decide_eq_false (by omega)
            clear hW0
            go_wp2_with (fail)
            go_roundg (k - (j + 1))
            case measure => have h9 := HG2.out; clear hw2; omega
            case rel => exact ⟨j + 1, by clear hw2; omega, rfl, by go_num, YB, D_M⟩
          have hh : has = true := by rw [← HHS.out]; unfold valK; rw [if_neg hW0]; rfl
          subst hh
          have hv2 : v2 = W := by
            have h := HGT.out
            unfold valK at h
            rw [if_neg hW0, Option.getD_some] at h
            injection h with _ h _ _
            exact h.symm
          have hW1 : (0 : Int) < W := by have h := vAt_range RN (r + 1); rw [HW.out] at h; omega
          subst hv2
          have hvv : (v2 != v2) = false := bne_self_eq_false _
          have hvv' : (v2 == v2) = true := beq_self_eq_true _
          clear hW0
          go_wp2_with (fail)
          go_roundg (k - (j + 1))
          case measure => have h9 := HG2.out; clear hw2; omega
          case rel => exact ⟨j + 1, by clear hw2; omega, rfl, by go_num, YB, D_M⟩
    have HR0 : Hid (r ≠ 0) := Lib.hid hr0
    have hr1 : ((r : Int) == 0) = false := by rw [beq_eq_false_iff_ne]; omega
    clear hr0
    clear OWN
    go_wp2_with (fail)
    go_loopg [15, 16, 85] n1 (fun g v15 v16 v85 wr => ∃ (k n5 n6 : Nat) (A5 A6 : Option Addr) (c5 c6 : Nat) (ats : List Int) (S : List AX) , k ≤ n1 ∧ g = n1 - k ∧ v15 = .slice A5 n5 c5 ∧ v16 = .slice A6 n6 c6 ∧ v85 = .int .i64 (k : Int) ∧ Hid (LinesInv wv.heap.size wr (.slice none 0 0) [] (.slice A5 n5 c5) ats (.slice A6 n6 c6) S) ∧ Hid (LinesP (clsOf M) M k ats S) ∧ Hid (n5 = ats.length ∧ n6 = S.length) ∧ Hid (Below wv.heap.size wv wr))
    case atStart => exact ⟨0, 0, 0, none, none, 0, 0, [], [], Nat.zero_le _, rfl, rfl, rfl, rfl, Lib.hid ⟨Ow.nil _ _, (fun z hz => by cases hz), Ow.nil _ _, Ow.nil _ _⟩, Lib.hid (LinesP.new _ _), Lib.hid ⟨rfl, rfl⟩, Lib.hid (Below.refl _ _)⟩
    case round =>
      obtain ⟨k, n5, n6, A5, A6, c5, c6, ats, S, hk, hg, rfl, rfl, rfl, HI, HP, HN, HY⟩ := hrel
      have HG2 := Lib.hid hg
      clear hg
      by_cases hlk : k < n1
      · skip
        have hlk' : (k : Int) < (n1 : Int) := by omega
        have hw2 : IntKind.i64.wrap ((k : Int) + 1) = (k : Int) + 1 := IntWalk.i64_in _ (by have := G0.out; omega)
        obtain ⟨ad2, z, hA2, _, _, hz, hc1⟩ := (DM.out.rd.ext HY.out).1.el (i := k) (by have := DM.out.len; omega)
        injection hA2 with hA2
        subst hA2
        obtain ⟨⟨rn, st⟩, As, cs⟩ := z
        have HZ := Lib.hid hz
        have HC : Hid ((clsOf M)[k]? = some ⟨rn, st⟩) := Lib.hid (clsOf_at hz)
        have HC1 := Lib.hid hc1
        obtain ⟨z0, z1⟩ := cl_cells hc1
        clear hz hc1
        by_cases hrn : rn = 10
        rotate_left
        · skip
          have hrn' : (rn == 10) = false := beq_eq_false_iff_ne.2 hrn
          have hrn'' : (rn != 10) = true := by rw [bne, hrn']; rfl
          have HP2 := Lib.hid (HP.out.no HC.out hrn)
          clear hrn
          go_wp2_with (fail)
          go_roundg (n1 - (k + 1))
          case measure => have h9 := HG2.out; clear hw2; omega
          case rel => exact ⟨k + 1, n5, n6, A5, A6, c5, c6, ats, S, by clear hw2; omega, rfl, rfl, rfl, by go_num, HI, HP2, HN, HY⟩
        have hrn' : (rn == 10) = true := by rw [hrn]; rfl
        have hrn'' : (rn != 10) = false := by rw [hrn]; rfl
        have HP := Lib.hid (HP.out.yes HC.out hrn HZ.out rfl)
        clear hrn
        go_wp2_with (fail)
        obtain ⟨wx, hwx⟩ : ∃ X, X = wr := ⟨_, rfl⟩
        subst hwx
        have YW : Hid (Below wx.heap.size wx wx) := Lib.hid (Below.refl _ _)
        have opc : ∀ {W : World}, Below wv.heap.size wv W → W.cell? { block := (ad.add (k * 2)).block, off := (ad.add (k * 2)).off + 1 } = some (.slice As st.length cs) := fun {W} y => by
          obtain ⟨ad2, z, hA2, _, _, hz, hc1⟩ := (DM.out.rd.ext y).1.el (i := k) (by have := DM.out.len; have := HN.out; omega)
          injection hA2 with hA2
          subst hA2
          rw [HZ.out] at hz
          injection hz with hz
          subst hz
          exact (cl_cells hc1).2
        have Cw := opc HY.out
        go_region_held_law (fun w' => w'.cell? { block := (ad.add (k * 2)).block, off := (ad.add (k * 2)).off + 1 } = some (.slice As st.length cs)) (first | exact C9 | exact opc (ext_trans HY.out (by repeat (first | exact YW.out | refine ext_trans ?_ (ext_alloc _ _) | refine up_drew ?_)))) (first
          | (refine step_int (l := ats) (m := [(k : Int)]) rfl (.tmp 107) (.tmp 109) (by rfl) (by rfl) (HI.out.below (by repeat (first | exact YW.out | refine ext_trans ?_ (ext_alloc _ _) | refine up_drew ?_))).ats _ _ 1 1 (by rfl) rfl (lit_int (k := (k : Int)) (by first | exact LT1.out | exact lit_eq LT1.out (by simp; done) | exact heap_alloc_new _ _ | exact lit_at (by simp; done) | exact ((ext_alloc _ _).block _ (by simp)).trans (heap_alloc_new _ _) | exact ((ext_alloc _ _).block _ (by simp)).trans (lit_at (by simp; done)))) (by have := HN.out; have := HP.out.len; have := G0.out; simp only [List.length_singleton, List.length_append] at *; omega) (Nat.le_trans HY.out.size ((by repeat (first | exact YW.out | refine ext_trans ?_ (ext_alloc _ _) | refine up_drew ?_)) : Below wx.heap.size wx _).size) ?_
             intro v9 w9 ho9 hg9 hw9
             obtain ⟨A9, c9, hv9, _, _⟩ := ho9.form
             subst hv9
             obtain ⟨n5, hn9⟩ : ∃ X, (ats ++ [(k : Int)]).length = X := ⟨_, rfl⟩
             rw [hn9] at ho9 ⊢
             have HN1 := Lib.hid hn9
             have HY := Lib.hid (below_app (ext_trans HY.out (by repeat (first | exact YW.out | refine ext_trans ?_ (ext_alloc _ _) | refine up_drew ?_))) (Nat.le_trans HY.out.size ((by repeat (first | exact YW.out | refine ext_trans ?_ (ext_alloc _ _) | refine up_drew ?_)) : Below wx.heap.size wx _).size) (HI.out.below (by repeat (first | exact YW.out | refine ext_trans ?_ (ext_alloc _ _) | refine up_drew ?_))).ats (Nat.le_refl _) hg9)
             try (have LT2 := Lib.hid (lit_keep (o := Obj.cells #[.slice As st.length cs] 36 (0, 0)) HI.out.ats (by repeat (first | exact YW.out | refine ext_trans ?_ (ext_alloc _ _) | refine up_drew ?_)) hg9 (by first | exact LT2.out | exact heap_alloc_new _ _ | exact ((ext_alloc _ _).block _ (by simp)).trans (heap_alloc_new _ _)) (by first | (simp; done) | exact ((by repeat (first | exact YW.out | refine ext_trans ?_ (ext_alloc _ _) | refine up_drew ?_)) : Below wx.heap.size wx _).size)))
             have HI := Lib.hid ((HI.out.below (by repeat (first | exact YW.out | refine ext_trans ?_ (ext_alloc _ _) | refine up_drew ?_))).appI ho9 hg9)
             obtain ⟨A5, hA9⟩ : ∃ X, X = A9 := ⟨_, rfl⟩
             subst hA9
             obtain ⟨wx, hwx⟩ : ∃ X, X = w9 := ⟨_, rfl⟩
             subst hwx
             have YW : Hid (Below wx.heap.size wx wx) := Lib.hid (Below.refl _ _)
             have C9 := opc HY.out
             clear ho9 hg9 hw9 hn9)
          | (refine step_ax (l := S) (m := [(⟨As, cs, st⟩ : AX)]) rfl (.tmp 111) (.tmp 117) (by rfl) (by rfl) (HI.out.below (by repeat (first | exact YW.out | refine ext_trans ?_ (ext_alloc _ _) | refine up_drew ?_))).sets _ _ 1 1 (by rfl) rfl (lit_ax (z := ⟨As, cs, st⟩) (by first | exact LT2.out | exact lit_eq LT2.out (by simp; done) | exact heap_alloc_new _ _ | exact lit_at (by simp; done) | exact ((ext_alloc _ _).block _ (by simp)).trans (heap_alloc_new _ _) | exact ((ext_alloc _ _).block _ (by simp)).trans (lit_at (by simp; done)))) (by have := HN.out; have := HP.out.len; have := G0.out; simp only [List.length_singleton, List.length_append] at *; omega) (Nat.le_trans HY.out.size ((by repeat (first | exact YW.out | refine ext_trans ?_ (ext_alloc _ _) | refine up_drew ?_)) : Below wx.heap.size wx _).size) ?_
             intro v9 w9 ho9 hg9 hw9
             obtain ⟨A9, c9, hv9, _, _⟩ := ho9.form
             subst hv9
             obtain ⟨n6, hn9⟩ : ∃ X, (S ++ [(⟨As, cs, st⟩ : AX)]).length = X := ⟨_, rfl⟩
             rw [hn9] at ho9 ⊢
             have HN2 := Lib.hid hn9
             have HY := Lib.hid (below_app (ext_trans HY.out (by repeat (first | exact YW.out | refine ext_trans ?_ (ext_alloc _ _) | refine up_drew ?_))) (Nat.le_trans HY.out.size ((by repeat (first | exact YW.out | refine ext_trans ?_ (ext_alloc _ _) | refine up_drew ?_)) : Below wx.heap.size wx _).size) (HI.out.below (by repeat (first | exact YW.out | refine ext_trans ?_ (ext_alloc _ _) | refine up_drew ?_))).sets (Nat.le_refl _) hg9)
             try (have LT1 := Lib.hid (lit_keep (o := Obj.cells #[.int .i64 (k : Int)] 3 (0, 0)) HI.out.sets (by repeat (first | exact YW.out | refine ext_trans ?_ (ext_alloc _ _) | refine up_drew ?_)) hg9 (by first | exact LT1.out | exact heap_alloc_new _ _ | exact ((ext_alloc _ _).block _ (by simp)).trans (heap_alloc_new _ _)) (by first | (simp; done) | exact ((by repeat (first | exact YW.out | refine ext_trans ?_ (ext_alloc _ _) | refine up_drew ?_)) : Below wx.heap.size wx _).size)))
             have HI := Lib.hid ((HI.out.below (by repeat (first | exact YW.out | refine ext_trans ?_ (ext_alloc _ _) | refine up_drew ?_))).appS ho9 hg9)
             obtain ⟨A6, hA9⟩ : ∃ X, X = A9 := ⟨_, rfl⟩
             subst hA9
             obtain ⟨wx, hwx⟩ : ∃ X, X = w9 := ⟨_, rfl⟩
             subst hwx
             have YW : Hid (Below wx.heap.size wx wx) := Lib.hid (Below.refl _ _)
             have C9 := opc HY.out
             clear ho9 hg9 hw9 hn9))
        all_goals
          go_wp2_with (fail)
          go_roundg (n1 - (k + 1))
        all_goals first
          | (have h9 := HG2.out; clear hw2; omega)
          | exact ⟨k + 1, _, _, _, _, _, _, _, _, by clear hw2; omega, rfl, rfl, rfl, by go_num, HI, HP, Lib.hid ⟨HN1.out.symm, HN2.out.symm⟩, HY⟩
      have hlk' : ¬ ((k : Int) < (n1 : Int)) := by omega
      have hkn : k = n1 := by omega
      subst hkn
      obtain ⟨wn, hwn⟩ : ∃ X, X = wr := ⟨_, rfl⟩
      subst hwn
      have MQ := MD
      have LKQ := Lib.hid (LK.out HR0.out)
      have HPQ := HP
      have DQ := Lib.hid (DM.out.ext HY.out)
      have YB := Lib.hid (ext_trans YB.out HY.out)
      obtain ⟨Q, hQQ⟩ : ∃ X, X = M := ⟨_, rfl⟩
      subst hQQ
      have HS := Lib.hid (HS_1.out.ext YB.out)
      have HT := Lib.hid (Utf8Tabs_below HT_1.out YB.out)
      have hx := ext_trans hx_1 YB.out
      have LQ : Hid ((clsOf Q).length = k) := Lib.hid DQ.out.clen
      have SA : Hid (SetsAt wn S) := Lib.hid (fun z hz => by
        obtain ⟨i, x, h1, h2, h3, h4, h5⟩ := HPQ.out.rel z hz
        have hm := List.mem_of_getElem? h2
        have r1 := DQ.out.rd.2 x hm
        have r2 := DQ.out.caps x hm
        have r3 := DQ.out.vr x hm
        have r4 := (mayS_zero ((mayD_iff.1 MQ.out).2.1 x.c (mem_cls hm)).2.1).2.1
        rw [h3] at r1
        rw [h4] at r2
        rw [h5] at r1 r2 r3 r4
        exact ⟨r1, r2.1, r2.2, r3.1, r4⟩)
      have RA : Hid (RdInt wn wn.heap.size A5 ((nlsF (clsOf Q) 0 k).map (fun p : Nat => (p : Int)))) := Lib.hid (by rw [← HPQ.out.ats]; exact HI.out.ats.rd encInt_len)
      have RS : Hid (RdAX wn wn.heap.size A6 S) := Lib.hid (HI.out.sets.rd AX.enc_len)
      have NN : Hid (n5 = (nlsF (clsOf Q) 0 k).length ∧ n6 = S.length ∧ n5 ≤ 200 ∧ n6 ≤ 200) := Lib.hid (by
        have h1 := congrArg List.length HPQ.out.ats
        rw [List.length_map] at h1
        have h2 := HPQ.out.len
        have h3 := HN.out
        have h4 := G0.out
        omega)
      have SK : Hid (∀ j q, (nlsF (clsOf Q) 0 (clsOf Q).length)[j]? = some q → ∃ c, (clsOf Q)[q]? = some c ∧ atS S j = c.s) := Lib.hid (fun j q h => by
        rw [LQ.out] at h
        obtain ⟨c9, h1, h2⟩ := sets_at h
        refine ⟨c9, h1, ?_⟩
        rw [← HPQ.out.sets, List.getElem?_map] at h2
        unfold atS
        rw [h2]
        rfl)
      clear HI HP HN HY HG2
      by_cases hrn0 : r < RN
      · skip
        have HRN := Lib.hid hrn0
        have hge : ¬ ((RN : Int) ≤ (r : Int)) := by omega
        have hgeN : decide (RN ≤ r) = false := decide_eq_false (by omega)
        clear hrn0
        go_wp2_with (go_at_call 65; refine Hid.out ?_)
        refine Lib.hid ?_
        refine (stepB_any s l0 A5 A6 n5 c5 n6 c6 (nlsF (clsOf Q) 0 k) S key 1 _ GK.out HS.out H64.out NN.out.1 RA.out (by have := NN.out; omega) (fun z hz => by have := (nls_mem hz).2.1; have := G0.out; omega) NN.out.2.1 RS.out SA.out (by have := NN.out; omega)).mono ?_
        rintro e wn ⟨A7, c7, x, rfl, h7, o7, y⟩
        have YB := Lib.hid (ext_trans YB.out y)
        have HS := Lib.hid (HS.out.ext y)
        have HT := Lib.hid (Utf8Tabs_below HT.out y)
        have DQ := Lib.hid (DQ.out.ext y)
        replace hx := ext_trans hx y
        clear SA RA RS
        obtain ⟨US, hUS⟩ : ∃ X, stepsU l0 key 1 (atS S) (clsOf Q) = X := ⟨_, rfl⟩
        have FT : Hid (FitU l0 US (clsOf Q).length k) := Lib.hid (by have h := steps_fit (b := 1) (S := atS S) GK.out H64.out MQ.out; rw [hUS, LQ.out] at h; rw [LQ.out]; exact h)
        have SR := Lib.hid (steps_round (b := 1) GK.out H64.out MQ.out LKQ.out (vAt_range RN r).1 (vAt_range RN r).2 (by first | exact .inl rfl | exact .inr rfl) SK.out)
        rw [hUS] at SR
        have O_x := Lib.hid o7
        have E_x : Hid (osOf x = mkU US) := Lib.hid (by rw [h7, ← hUS]; unfold stepsU; rw [LQ.out])
        clear y h7 o7 hUS SK
        have Z_M := Lib.hid (made_in (l := l0) (N := k) (most := (k : Int)) E_x.out (by have := O_x.out.at_.b; have := O_x.out.at_.len; omega) MQ.out FT.out (by have := G0.out; omega) (Int.le_refl _))
        go_wp2_with (go_at_call 33; refine Hid.out ?_)
        refine Lib.hid ?_
        refine (applyDoc (most := k) DQ.out O_x.out.at_ HS.out HT.out H64.out (by have := G0.out; omega) Z_M.out.1 Z_M.out.2.2).mono ?_
        rintro e wn ⟨A8, c8, M2, rfl, h_M, m_M, b_M, d_M, y⟩
        have YB := Lib.hid (ext_trans YB.out y)
        have HS := Lib.hid (HS.out.ext y)
        have HT := Lib.hid (Utf8Tabs_below HT.out y)
        have DQ := Lib.hid (DQ.out.ext y)
        have O_x := Lib.hid (O_x.out.ext y)
        replace hx := ext_trans hx y
        have D_M := Lib.hid d_M
        have E_M := Lib.hid h_M
        have M_M := Lib.hid m_M
        clear d_M h_M m_M b_M
        clear y
        have L2 : M2.length = k := by rw [← clsOf_len, E_M.out, SR.out.2, LQ.out]
        rw [L2] at D_M ⊢
        clear L2
        have LK2 : Hid (LinesK key (vAt RN (r + 1)) (clsOf M2)) := Lib.hid (by rw [E_M.out, ← vAt_up (by have := HRN.out; omega)]; exact SR.out.1)
        clear SR E_M O_x E_x Z_M FT DQ MQ LKQ
        obtain ⟨ad8, hA8⟩ : ∃ ad, A8 = some ad := by
          obtain ⟨ad, _, h, _⟩ := D_M.out.rd.1.el (i := 0) (by have := D_M.out.len; have := B1.out; omega)
          exact ⟨ad, h⟩
        subst hA8
        obtain ⟨W, hW⟩ : ∃ X : Int, vAt RN (r + 1) = X := ⟨_, rfl⟩
        have HW := Lib.hid hW
        rw [hW] at LK2
        clear hW
        have hmn : min ((r : Int) + 1) 8 = W := by rw [← HW.out]; unfold vAt; rw [if_pos (by have := HRN.out; omega)]; omega
        go_wp2_with (fail)
        go_loopg [164] k (fun g v164 wr => ∃ j : Nat, j ≤ k ∧ g = k - j ∧ v164 = .int .i64 (j : Int) ∧ Hid (Below wm1.heap.size wm1 wr) ∧ Hid (DocAt wr (some ad8) k c8 M2))
        case atStart => exact ⟨0, Nat.zero_le _, rfl, rfl, YB, D_M⟩
        case round =>
          obtain ⟨j, hj, hg, rfl, YB, D_M⟩ := hrel
          have HG2 := Lib.hid hg
          clear hg
          obtain ⟨wn, hwn⟩ : ∃ X, X = wr := ⟨_, rfl⟩
          subst hwn
          by_cases hlj : j < k
          rotate_left
          · skip
            have hlj' : ¬ ((j : Int) < (k : Int)) := by omega
            go_wp2_with (fail)
            go_roundg (RR - (r + 1))
            case measure => have := HG.out; have := HLT.out; clear hwr; omega
            case rel => exact ⟨r + 1, some ad8, c8, M2, by have := HLT.out; clear hwr; omega, rfl, rfl, by go_num, YB, M_M, D_M, Lib.hid (fun _ => by rw [HW.out]; exact LK2.out), Lib.hid (fun h => absurd h (Nat.succ_ne_zero r))⟩
          have hlj' : (j : Int) < (k : Int) := by omega
          have hw2 : IntKind.i64.wrap ((j : Int) + 1) = (j : Int) + 1 := IntWalk.i64_in _ (by have := G0.out; omega)
          obtain ⟨ad2, z, hA2, _, _, hz, hc1⟩ := D_M.out.rd.1.el (i := j) (by have := D_M.out.len; omega)
          injection hA2 with hA2
          subst hA2
          obtain ⟨⟨rn, st⟩, As, cs⟩ := z
          have HZ := Lib.hid hz
          have HC : Hid ((clsOf M2)[j]? = some ⟨rn, st⟩) := Lib.hid (clsOf_at hz)
          obtain ⟨z0, z1⟩ := cl_cells hc1
          clear hz hc1
          by_cases hrn : rn = 10
          rotate_left
          · skip
            have hrn' : (rn == 10) = false := beq_eq_false_iff_ne.2 hrn
            have hrn'' : (rn != 10) = true := by rw [bne, hrn']; rfl
            clear hrn
            go_wp2_with (fail)
            go_roundg (k - (j + 1))
            case measure => have h9 := HG2.out; clear hw2; omega
            case rel => exact ⟨j + 1, by clear hw2; omega, rfl, by go_num, YB, D_M⟩
          have hrn' : (rn == 10) = true := by rw [hrn]; rfl
          have hrn'' : (rn != 10) = false := by rw [hrn]; rfl
          have GV : Hid (getA st key = valK W) := Lib.hid (LK2.out _ (List.mem_of_getElem? HC.out) hrn)
          clear hrn
          go_wp2_with (go_at_call 66; refine Hid.out ?_)
          refine Lib.hid ?_
          clear z0 z1
          refine (get05_any As st.length cs st key _ rfl (D_M.out.rd.2 _ (List.mem_of_getElem? HZ.out)) (by have := (D_M.out.vr _ (List.mem_of_getElem? HZ.out)).1; simp only at this; omega)).mono ?_
          rintro e w5 ⟨v1, v2, v3, v4, has, rfl, hget, hhas, y⟩
          rw [GV.out] at hget hhas
          have HGT := Lib.hid hget
          have HHS := Lib.hid hhas
          have y2 := ext_trans y (ext_alloc w5 (.cells #[.int .u8 v1, .int .i64 v2, .int .u64 v3, .string v4] 41))
          have hbv := heap_alloc_new w5 (.cells #[.int .u8 v1, .int .i64 v2, .int .u64 v3, .string v4] 41)
          obtain ⟨f0, f1, f2, f3⟩ := box_v hbv
          replace YB := Lib.hid (ext_trans YB.out y2)
          replace D_M := Lib.hid (D_M.out.ext y2)
          clear y y2 hbv hget hhas
          by_cases hW0 : W = 0
          · skip
            have hh : has = false := by rw [← HHS.out, hW0]; rfl
            subst hh
            have hW1 : decide ((0 : Int) < W) = false := decide_eq_false (by omega)
            clear hW0
            go_wp2_with (fail)
            go_roundg (k - (j + 1))
            case measure => have h9 := HG2.out; clear hw2; omega
            case rel => exact ⟨j + 1, by clear hw2; omega, rfl, by go_num, YB, D_M⟩
          have hh : has = true := by rw [← HHS.out]; unfold valK; rw [if_neg hW0]; rfl
          subst hh
          have hv2 : v2 = W := by
            have h := HGT.out
            unfold valK at h
            rw [if_neg hW0, Option.getD_some] at h
            injection h with _ h _ _
            exact h.symm
          have hW1 : (0 : Int) < W := by have h := vAt_range RN (r + 1); rw [HW.out] at h; omega
          subst hv2
          have hvv : (v2 != v2) = false := bne_self_eq_false _
          have hvv' : (v2 == v2) = true := beq_self_eq_true _
          clear hW0
          go_wp2_with (fail)
          go_roundg (k - (j + 1))
          case measure => have h9 := HG2.out; clear hw2; omega
          case rel => exact ⟨j + 1, by clear hw2; omega, rfl, by go_num, YB, D_M⟩
      have HRN : Hid (RN ≤ r) := Lib.hid (by omega)
      have hge : (RN : Int) ≤ (r : Int) := by omega
      have hgeN : decide (RN ≤ r) = true := decide_eq_true (by omega)
      clear hrn0
      go_wp2_with (go_at_call 65; refine Hid.out ?_)
      refine Lib.hid ?_
      refine (stepB_any s l0 A5 A6 n5 c5 n6 c6 (nlsF (clsOf Q) 0 k) S key (-1) _ GK.out HS.out H64.out NN.out.1 RA.out (by have := NN.out; omega) (fun z hz => by have := (nls_mem hz).2.1; have := G0.out; omega) NN.out.2.1 RS.out SA.out (by have := NN.out; omega)).mono ?_
      rintro e wn ⟨A7, c7, x, rfl, h7, o7, y⟩
      have YB := Lib.hid (ext_trans YB.out y)
      have HS := Lib.hid (HS.out.ext y)
      have HT := Lib.hid (Utf8Tabs_below HT.out y)
      have DQ := Lib.hid (DQ.out.ext y)
      replace hx := ext_trans hx y
      clear SA RA RS
      obtain ⟨US, hUS⟩ : ∃ X, stepsU l0 key (-1) (atS S) (clsOf Q) = X := ⟨_, rfl⟩
      have FT : Hid (FitU l0 US (clsOf Q).length k) := Lib.hid (by have h := steps_fit (b := (-1)) (S := atS S) GK.out H64.out MQ.out; rw [hUS, LQ.out] at h; rw [LQ.out]; exact h)
      have SR := Lib.hid (steps_round (b := (-1)) GK.out H64.out MQ.out LKQ.out (vAt_range RN r).1 (vAt_range RN r).2 (by first | exact .inl rfl | exact .inr rfl) SK.out)
      rw [hUS] at SR
      have O_x := Lib.hid o7
      have E_x : Hid (osOf x = mkU US) := Lib.hid (by rw [h7, ← hUS]; unfold stepsU; rw [LQ.out])
      clear y h7 o7 hUS SK
      have Z_M := Lib.hid (made_in (l := l0) (N := k) (most := (k : Int)) E_x.out (by have := O_x.out.at_.b; have := O_x.out.at_.len; omega) MQ.out FT.out (by have := G0.out; omega) (Int.le_refl _))
      go_wp2_with (go_at_call 33; refine Hid.out ?_)
      refine Lib.hid ?_
      refine (applyDoc (most := k) DQ.out O_x.out.at_ HS.out HT.out H64.out (by have := G0.out; omega) Z_M.out.1 Z_M.out.2.2).mono ?_
      rintro e wn ⟨A8, c8, M2, rfl, h_M, m_M, b_M, d_M, y⟩
      have YB := Lib.hid (ext_trans YB.out y)
      have HS := Lib.hid (HS.out.ext y)
      have HT := Lib.hid (Utf8Tabs_below HT.out y)
      have DQ := Lib.hid (DQ.out.ext y)
      have O_x := Lib.hid (O_x.out.ext y)
      replace hx := ext_trans hx y
      have D_M := Lib.hid d_M
      have E_M := Lib.hid h_M
      have M_M := Lib.hid m_M
      clear d_M h_M m_M b_M
      clear y
      have L2 : M2.length = k := by rw [← clsOf_len, E_M.out, SR.out.2, LQ.out]
      rw [L2] at D_M ⊢
      clear L2
      have LK2 : Hid (LinesK key (vAt RN (r + 1)) (clsOf M2)) := Lib.hid (by rw [E_M.out, ← vAt_down HRN.out]; exact SR.out.1)
      clear SR E_M O_x E_x Z_M FT DQ MQ LKQ
      obtain ⟨ad8, hA8⟩ : ∃ ad, A8 = some ad := by
        obtain ⟨ad, _, h, _⟩ := D_M.out.rd.1.el (i := 0) (by have := D_M.out.len; have := B1.out; omega)
        exact ⟨ad, h⟩
      subst hA8
      obtain ⟨W, hW⟩ : ∃ X : Int, vAt RN (r + 1) = X := ⟨_, rfl⟩
      have HW := Lib.hid hW
      rw [hW] at LK2
      clear hW
      have hwa : IntKind.i64.wrap ((r : Int) + 1 - (RN : Int)) = (r : Int) + 1 - (RN : Int) := IntWalk.i64_in _ (by have := G0.out; have := HRR.out; have := HLT.out; omega)
      have hwb : IntKind.i64.wrap (min (RN : Int) 8 - ((r : Int) + 1 - (RN : Int))) = min (RN : Int) 8 - ((r : Int) + 1 - (RN : Int)) := IntWalk.i64_in _ (by have := G0.out; have := HRR.out; have := HLT.out; omega)
      have hmx : max (min (RN : Int) 8 - ((r : Int) + 1 - (RN : Int))) 0 = W := by rw [← HW.out]; unfold vAt; rw [if_neg (by have := HRN.out; omega)]; have := HRN.out; omega
      go_wp2_with (fail)
      go_loopg [164] k (fun g v164 wr => ∃ j : Nat, j ≤ k ∧ g = k - j ∧ v164 = .int .i64 (j : Int) ∧ Hid (Below wm1.heap.size wm1 wr) ∧ Hid (DocAt wr (some ad8) k c8 M2))
      case atStart => exact ⟨0, Nat.zero_le _, rfl, rfl, YB, D_M⟩
      case round =>
        obtain ⟨j, hj, hg, rfl, YB, D_M⟩ := hrel
        have HG2 := Lib.hid hg
        clear hg
        obtain ⟨wn, hwn⟩ : ∃ X, X = wr := ⟨_, rfl⟩
        subst hwn
        by_cases hlj : j < k
        rotate_left
        · skip
          have hlj' : ¬ ((j : Int) < (k : Int)) := by omega
          go_wp2_with (fail)
          go_roundg (RR - (r + 1))
          case measure => have := HG.out; have := HLT.out; clear hwr; omega
          case rel => exact ⟨r + 1, some ad8, c8, M2, by have := HLT.out; clear hwr; omega, rfl, rfl, by go_num, YB, M_M, D_M, Lib.hid (fun _ => by rw [HW.out]; exact LK2.out), Lib.hid (fun h => absurd h (Nat.succ_ne_zero r))⟩
        have hlj' : (j : Int) < (k : Int) := by omega
        have hw2 : IntKind.i64.wrap ((j : Int) + 1) = (j : Int) + 1 := IntWalk.i64_in _ (by have := G0.out; omega)
        obtain ⟨ad2, z, hA2, _, _, hz, hc1⟩ := D_M.out.rd.1.el (i := j) (by have := D_M.out.len; omega)
        injection hA2 with hA2
        subst hA2
        obtain ⟨⟨rn, st⟩, As, cs⟩ := z
        have HZ := Lib.hid hz
        have HC : Hid ((clsOf M2)[j]? = some ⟨rn, st⟩) := Lib.hid (clsOf_at hz)
        obtain ⟨z0, z1⟩ := cl_cells hc1
        clear hz hc1
        by_cases hrn : rn = 10
        rotate_left
        · skip
          have hrn' : (rn == 10) = false := beq_eq_false_iff_ne.2 hrn
          have hrn'' : (rn != 10) = true := by rw [bne, hrn']; rfl
          clear hrn
          go_wp2_with (fail)
          go_roundg (k - (j + 1))
          case measure => have h9 := HG2.out; clear hw2; omega
          case rel => exact ⟨j + 1, by clear hw2; omega, rfl, by go_num, YB, D_M⟩
        have hrn' : (rn == 10) = true := by rw [hrn]; rfl
        have hrn'' : (rn != 10) = false := by rw [hrn]; rfl
        have GV : Hid (getA st key = valK W) := Lib.hid (LK2.out _ (List.mem_of_getElem? HC.out) hrn)
        clear hrn
        go_wp2_with (go_at_call 66; refine Hid.out ?_)
        refine Lib.hid ?_
        clear z0 z1
        refine (get05_any As st.length cs st key _ rfl (D_M.out.rd.2 _ (List.mem_of_getElem? HZ.out)) (by have := (D_M.out.vr _ (List.mem_of_getElem? HZ.out)).1; simp only at this; omega)).mono ?_
        rintro e w5 ⟨v1, v2, v3, v4, has, rfl, hget, hhas, y⟩
        rw [GV.out] at hget hhas
        have HGT := Lib.hid hget
        have HHS := Lib.hid hhas
        have y2 := ext_trans y (ext_alloc w5 (.cells #[.int .u8 v1, .int .i64 v2, .int .u64 v3, .string v4] 41))
        have hbv := heap_alloc_new w5 (.cells #[.int .u8 v1, .int .i64 v2, .int .u64 v3, .string v4] 41)
        obtain ⟨f0, f1, f2, f3⟩ := box_v hbv
        replace YB := Lib.hid (ext_trans YB.out y2)
        replace D_M := Lib.hid (D_M.out.ext y2)
        clear y y2 hbv hget hhas
        by_cases hW0 : W = 0
        · skip
          have hh : has = false := by rw [← HHS.out, hW0]; rfl
          subst hh
          have hW1 : decide ((0 : Int) < W) = false := decide_eq_false (by omega)
          clear hW0
          go_wp2_with (fail)
          go_roundg (k - (j + 1))
          case measure => have h9 := HG2.out; clear hw2; omega
          case rel => exact ⟨j + 1, by clear hw2; omega, rfl, by go_num, YB, D_M⟩
        have hh : has = true := by rw [← HHS.out]; unfold valK; rw [if_neg hW0]; rfl
        subst hh
        have hv2 : v2 = W := by
          have h := HGT.out
          unfold valK at h
          rw [if_neg hW0, Option.getD_some] at h
          injection h with _ h _ _
          exact h.symm
        have hW1 : (0 : Int) < W := by have h := vAt_range RN (r + 1); rw [HW.out] at h; omega
        subst hv2
        have hvv : (v2 != v2) = false := bne_self_eq_false _
        have hvv' : (v2 == v2) = true := beq_self_eq_true _
        clear hW0
        go_wp2_with (fail)
        go_roundg (k - (j + 1))
        case measure => have h9 := HG2.out; clear hw2; omega
        case rel => exact ⟨j + 1, by clear hw2; omega, rfl, by go_num, YB, D_M⟩
end Go.Proofs.YtfnkjcodcoehcaaGreatDoor
