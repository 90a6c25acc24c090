/- Merged texts: BuilderFormats. -/
import Derived.Test.YtfnkjcodcoehcaaGreatDoorW17
import Derived.Test.YtfnkjcodcoehcaaGreatDoorW19
import Derived.Test.YtfnkjcodcoehcaaGreatDoorW20
import Derived.Test.YtfnkjcodcoehcaaGreatDoorW11
import Derived.Test.YtfnkjcodcoehcaaGreatDoorW2
import Derived.Test.YtfnkjcodcoehcaaGreatDoorW21
namespace Go.Proofs.YtfnkjcodcoehcaaGreatDoor
open Go.RowKit
set_option linter.unusedVariables false
set_option linter.unusedSimpArgs false

theorem ix0B (v0 v1 : Value) (W : World) : (Instr.index 92 (.agg #[v0, v1]) (.int .i64 0)).run Tryz.prog W = .ok v0 W := by kernel_rfl
theorem ix1B (v0 v1 : Value) (W : World) : (Instr.index 92 (.agg #[v0, v1]) (.int .i64 1)).run Tryz.prog W = .ok v1 W := by kernel_rfl
set_option maxRecDepth 100000 in
set_option maxHeartbeats 12800000 in
theorem builderFormats_any (A0 A1 A2 : Option Addr) (n0 n1 n2 c0 c1 c2 : Nat) (l0 : List Ky) (d : List ClS) (l2 : List Ch) (x2 x3 : Int) (w : World)
    (e0 : n0 = l0.length) (r0 : RdKy w w.heap.size A0 l0) (b0 : n0 ≤ 1048576) (e1 : n1 = d.length) (r1 : RdCl w w.heap.size A1 d) (b1 : n1 ≤ 1048576) (k1 : n1 ≤ c1) (q1 : ∀ x ∈ d, x.c.s.length ≤ 100000000 ∧ okVr x.c.s) (g1 : ∀ x ∈ d, x.c.s.length ≤ x.cs ∧ x.cs ≤ maxLen)
    (e2 : n2 = l2.length) (r2 : RdCh w w.heap.size A2 l2) (b2 : n2 ≤ 1048576) (k2 : n2 ≤ c2) (m2 : c2 ≤ maxLen) (q2 : ∀ c ∈ l2, okV c.v ∧ c.v.s.size ≤ 100000000)
    (hT : Lib.Utf8Tabs 1 2 w) :
    Calls Tryz.prog 9 #[.slice A0 n0 c0, .slice A1 n1 c1, .int .i64 x2, .int .i64 x3, .slice A2 n2 c2] w fun e w' => e = .returned (.bool true) ∧ Below w.heap.size w w' := by
  have N0 := Lib.hid e0
  have R0 := Lib.hid r0
  have HT := Lib.hid hT
  have hx := Below.refl w.heap.size w
  have N1 := Lib.hid e1
  have R1 := Lib.hid r1
  have Q1 := Lib.hid q1
  have C1 := Lib.hid g1
  clear e0 r0 hT e1 r1 q1 g1
  go_enter Tryz.func9, Tryz.ntmps9
  have N2 := Lib.hid e2
  have R2 := Lib.hid r2
  have Q2 := Lib.hid q2
  clear e2 r2 q2
  by_cases g0 : (64 : Int) < (n0 : Int)
  · skip
    go_wp2_with (go_at_call 55; refine Hid.out ?_)
    refine Lib.hid ?_
    refine (known24_any _ HT.out).mono ?_
    rintro e w2 ⟨rfl, y⟩
    replace hx := ext_trans hx y
    go_wp2_with (fail)
    go_ret
    exact ⟨rfl, hx⟩
  go_wp2_with (go_at_call 11; refine Hid.out ?_)
  refine Lib.hid ?_
  refine (great18_any A1 n1 c1 d 300 _ N1.out R1.out (by omega) (fun z hz => by have := (Q1.out z hz).1; omega)).mono ?_
  rintro e wn ⟨g, rfl, hgr, dr, hd⟩
  have y := drew_ext hd
  clear hd
  have R0 := Lib.hid (R0.out.ext y)
  have HT := Lib.hid (Utf8Tabs_below HT.out y)
  have R1 := Lib.hid (R1.out.ext y)
  have R2 := Lib.hid (R2.out.ext y)
  replace hx := ext_trans hx y
  clear y
  cases g
  case true =>
    clear hgr
    go_wp2_with (go_at_call 55; refine Hid.out ?_)
    refine Lib.hid ?_
    refine (known24_any _ HT.out).mono ?_
    rintro e w2 ⟨rfl, y⟩
    replace hx := ext_trans hx y
    go_wp2_with (fail)
    go_ret
    exact ⟨rfl, hx⟩
  have G1 : Hid (n1 ≤ 300 ∧ ∀ z ∈ d, z.c.s.length ≤ 64) := Lib.hid ⟨by have := (hgr rfl).1; omega, (hgr rfl).2⟩
  clear hgr
  by_cases g1 : (64 : Int) < (n2 : Int)
  · skip
    go_wp2_with (go_at_call 55; refine Hid.out ?_)
    refine Lib.hid ?_
    refine (known24_any _ HT.out).mono ?_
    rintro e w2 ⟨rfl, y⟩
    replace hx := ext_trans hx y
    go_wp2_with (fail)
    go_ret
    exact ⟨rfl, hx⟩
  by_cases g2 : x2 < 0
  · skip
    go_wp2_with (go_at_call 55; refine Hid.out ?_)
    refine Lib.hid ?_
    refine (known24_any _ HT.out).mono ?_
    rintro e w2 ⟨rfl, y⟩
    replace hx := ext_trans hx y
    go_wp2_with (fail)
    go_ret
    exact ⟨rfl, hx⟩
  by_cases g3 : x3 < x2
  · skip
    go_wp2_with (go_at_call 55; refine Hid.out ?_)
    refine Lib.hid ?_
    refine (known24_any _ HT.out).mono ?_
    rintro e w2 ⟨rfl, y⟩
    replace hx := ext_trans hx y
    go_wp2_with (fail)
    go_ret
    exact ⟨rfl, hx⟩
  by_cases g4 : (n1 : Int) < x3
  · skip
    go_wp2_with (go_at_call 55; refine Hid.out ?_)
    refine Lib.hid ?_
    refine (known24_any _ HT.out).mono ?_
    rintro e w2 ⟨rfl, y⟩
    replace hx := ext_trans hx y
    go_wp2_with (fail)
    go_ret
    exact ⟨rfl, hx⟩
  obtain ⟨i0, hi0⟩ : ∃ k : Nat, x2 = (k : Int) := ⟨x2.toNat, by omega⟩
  obtain ⟨m0, hm0⟩ : ∃ k : Nat, x3 = (i0 : Int) + (k : Int) := ⟨(x3 - x2).toNat, by omega⟩
  have G0 : Hid (n0 ≤ 64 ∧ n2 ≤ 64 ∧ i0 + m0 ≤ n1 ∧ n1 ≤ 300) := Lib.hid (by have := G1.out.1; omega)
  obtain ⟨j0, hj0⟩ : ∃ X, i0 + m0 = X := ⟨_, rfl⟩
  have hx3 : x3 = (j0 : Int) := by omega
  subst hi0 hx3
  have HJ0 := Lib.hid hj0
  clear hm0 hj0
  go_wp2_with (go_at_call 13; refine Hid.out ?_)
  refine Lib.hid ?_
  refine (new_any A0 n0 c0 l0 _ N0.out R0.out (by omega)).mono ?_
  rintro e wn ⟨y, ⟨hm, s, rfl, hS⟩ | ⟨hm, rfl⟩⟩
  all_goals clear g0 g1 g2 g3 g4
  all_goals
    have R0 := Lib.hid (R0.out.ext y)
    have HT := Lib.hid (Utf8Tabs_below HT.out y)
    have R1 := Lib.hid (R1.out.ext y)
    have R2 := Lib.hid (R2.out.ext y)
    replace hx := ext_trans hx y
    clear y hm
  rotate_left
  · skip
    go_wp2_with (go_at_call 55; refine Hid.out ?_)
    refine Lib.hid ?_
    refine (known24_any _ HT.out).mono ?_
    rintro e w2 ⟨rfl, y⟩
    replace hx := ext_trans hx y
    go_wp2_with (fail)
    go_ret
    exact ⟨rfl, hx⟩
  have HS := Lib.hid hS
  clear hS
  have H64 : Hid (l0.length ≤ 64) := Lib.hid (by have := N0.out; have := G0.out; omega)
  have D1 : Hid (DocAt _ A1 n1 c1 d) := Lib.hid ⟨R1.out, N1.out, k1, C1.out, fun z hz => ⟨by have := G1.out.2 z hz; omega, (Q1.out z hz).2⟩, by have := G1.out; omega⟩
  have LD : Hid ((clsOf d).length = n1) := Lib.hid D1.out.clen
  obtain ⟨md, hmd⟩ : ∃ X, mayD l0 (clsOf d) = X := ⟨_, rfl⟩
  have MD := Lib.hid hmd
  clear hmd
  go_wp2_with (go_at_call 56; refine Hid.out ?_)
  refine Lib.hid ?_
  refine (mayDoc D1.out HS.out HT.out MD.out).mono ?_
  rintro e wn ⟨rfl, y⟩
  have HT := Lib.hid (Utf8Tabs_below HT.out y)
  have R2 := Lib.hid (R2.out.ext y)
  have HS := Lib.hid (HS.out.ext y)
  have D1 := Lib.hid (D1.out.ext y)
  replace hx := ext_trans hx y
  clear y
  by_cases h0 : md = 0
  rotate_left
  · skip
    have h0' : (md == 0) = false := beq_eq_false_iff_ne.2 h0
    have h0'' : (md != 0) = true := by rw [bne, h0']; rfl
    clear h0 MD
    go_wp2_with (go_at_call 55; refine Hid.out ?_)
    refine Lib.hid ?_
    refine (known24_any _ HT.out).mono ?_
    rintro e w2 ⟨rfl, y⟩
    replace hx := ext_trans hx y
    go_wp2_with (fail)
    go_ret
    exact ⟨rfl, hx⟩
  subst h0
  have B1 : Hid (1 ≤ n1) := Lib.hid (by obtain ⟨_, _, t, c, h, _⟩ := mayD_iff.1 MD.out; have := LD.out; rw [h] at this; simp at this; omega)
  go_wp2_with (fail)
  go_loopg [13, 14] m0 (fun g v13 v14 wr => ∃ (k q : Nat) (A9 : Option Addr) (c9 : Nat), Hid (k = i0 + q) ∧ q ≤ m0 ∧ g = m0 - q ∧ v13 = .slice A9 (nlsF (clsOf d) i0 q).length c9 ∧ v14 = .int .i64 (k : Int) ∧ Hid (OwInt wr wn.heap.size (.slice A9 (nlsF (clsOf d) i0 q).length c9) ((nlsF (clsOf d) i0 q).map (fun p : Nat => (p : Int)))) ∧ Hid (Below wn.heap.size wn wr))
  case atStart => exact ⟨i0, 0, none, 0, Lib.hid rfl, Nat.zero_le _, rfl, rfl, rfl, Lib.hid (Ow.empty _ _ _), Lib.hid (Below.refl _ _)⟩
  case round =>
    obtain ⟨k, q, A9, c9, HKQ, hq, hg, rfl, rfl, HOW, HY⟩ := hrel
    have HG := Lib.hid hg
    clear hg
    by_cases hlt : q < m0
    · skip
      have hlt' : (k : Int) < (j0 : Int) := by have := HJ0.out; have := HKQ.out; omega
      have hin : k < n1 := by have := G0.out; have := HKQ.out; omega
      have hin' : (k : Int) < (n1 : Int) := by omega
      obtain ⟨ad, z, hA, _, _, hx1, hc1⟩ := (D1.out.rd.ext HY.out).1.el (i := k) (by have := N1.out; omega)
      have hzc := clsOf_at hx1
      rw [HKQ.out] at hzc
      have HZC := Lib.hid hzc
      obtain ⟨⟨r, st⟩, As, cs⟩ := z
      obtain ⟨z0, -⟩ := cl_cells hc1
      have hw2 : IntKind.i64.wrap ((k : Int) + 1) = (k : Int) + 1 := IntWalk.i64_in _ (by have := G0.out; omega)
      have LQ : Hid ((nlsF (clsOf d) i0 q).length ≤ 300) := Lib.hid (by have := nls_len (clsOf d) i0 q; have := G0.out; omega)
      clear hx1 hc1 hzc
      rw [hA]
      by_cases hr : r = 10
      rotate_left
      · skip
        have hr' : (r == 10) = false := beq_eq_false_iff_ne.2 hr
        have E9 : Hid (nlsF (clsOf d) i0 (q + 1) = nlsF (clsOf d) i0 q) := Lib.hid (by
          show nlsF (clsOf d) i0 q ++ (match (clsOf d)[i0 + q]? with | some c => if c.r = 10 then [i0 + q] else [] | none => []) = _
          rw [HZC.out]
          show _ ++ (if r = 10 then [i0 + q] else []) = _
          rw [if_neg hr, List.append_nil])
        clear hr
        go_wp2_with (fail)
        rw [← hA]
        go_roundg (m0 - (q + 1))
        case measure => have h9 := HG.out; clear hw2; omega
        case rel => exact ⟨k + 1, q + 1, A9, c9, Lib.hid (by have := HKQ.out; omega), by clear hw2; omega, rfl, by rw [E9.out], by go_num, Lib.hid (by rw [E9.out]; exact HOW.out), HY⟩
      have hr' : (r == 10) = true := by rw [hr]; rfl
      have E9 : Hid (nlsF (clsOf d) i0 (q + 1) = nlsF (clsOf d) i0 q ++ [k]) := Lib.hid (by
        rw [HKQ.out]
        show nlsF (clsOf d) i0 q ++ (match (clsOf d)[i0 + q]? with | some c => if c.r = 10 then [i0 + q] else [] | none => []) = _
        rw [HZC.out]
        show _ ++ (if r = 10 then [i0 + q] else []) = _
        rw [if_pos hr])
      clear hr
      have y1 := ext_alloc wr (.cells #[.int .i64 (k : Int)] 3)
      have rl : RdInt (wr.alloc (.cells #[.int .i64 (k : Int)] 3)) (wr.alloc (.cells #[.int .i64 (k : Int)] 3)).heap.size (some ⟨wr.heap.size, 0, none⟩) [(k : Int)] := Rd.new (enc := encInt) (size := 1) encInt_len wr 3 [(k : Int)] (cs := #[.int .i64 (k : Int)]) rfl rfl
      have HO2 := Lib.hid (HOW.out.below y1 (Nat.le_refl _))
      have hbs : wn.heap.size ≤ (wr.alloc (.cells #[.int .i64 (k : Int)] 3)).heap.size := Nat.le_trans HY.out.size y1.size
      go_wp2_with (at_builtin; refine app_int (m := [(k : Int)]) rfl (.tmp 79) (.tmp 81) rfl rfl HO2.out _ (some ⟨wr.heap.size, 0, none⟩) 1 1 rfl rfl rl (by rw [List.length_map]; have := LQ.out; simp only [List.length_singleton]; omega) hbs ?_; intro v2 w9 hown hgr hv; obtain ⟨A10, c10, hv10, _, _⟩ := hown.form; subst hv10; obtain ⟨nl9, hnl9⟩ : ∃ X, ((nlsF (clsOf d) i0 q).map (fun p : Nat => (p : Int)) ++ [(k : Int)]).length = X := ⟨_, rfl⟩; rw [hnl9])
      have YN := Lib.hid (below_app (HY.out.trans (y1.mono HY.out.size)) hbs HO2.out (Nat.le_refl _) hgr)
      have HL9 : nl9 = (nlsF (clsOf d) i0 (q + 1)).length := by rw [← hnl9, E9.out]; simp
      have HM9 : (nlsF (clsOf d) i0 q).map (fun p : Nat => (p : Int)) ++ [(k : Int)] = (nlsF (clsOf d) i0 (q + 1)).map (fun p : Nat => (p : Int)) := by rw [E9.out]; simp
      have HO3 : Hid (OwInt w9 wn.heap.size (.slice A10 nl9 c10) ((nlsF (clsOf d) i0 (q + 1)).map (fun p : Nat => (p : Int)))) := Lib.hid (by rw [hnl9, HM9] at hown; exact hown)
      have HL9 := Lib.hid HL9
      clear hown hgr hv HM9 rl y1 hbs hnl9
      go_wp2_with (fail)
      rw [← hA]
      go_roundg (m0 - (q + 1))
      case measure => have h9 := HG.out; clear hw2; omega
      case rel => exact ⟨k + 1, q + 1, A10, c10, Lib.hid (by have := HKQ.out; omega), by clear hw2; omega, rfl, by rw [HL9.out], by go_num, Lib.hid (by rw [← HL9.out]; exact HO3.out), YN⟩
    have hlt' : ¬ ((k : Int) < (j0 : Int)) := by have := HJ0.out; have := HKQ.out; omega
    obtain rfl : q = m0 := by omega
    obtain ⟨AT, hAT⟩ : ∃ X, nlsF (clsOf d) i0 q = X := ⟨_, rfl⟩
    rw [hAT] at HOW ⊢
    have ATF : Hid (riseN i0 AT ∧ AT.length ≤ 300 ∧ ∀ z ∈ AT, i0 ≤ z ∧ z < j0 ∧ ∃ c, (clsOf d)[z]? = some c ∧ c.r = 10) := Lib.hid (by
      rw [← hAT]
      refine ⟨nls_rise _ _ _, by have := nls_len (clsOf d) i0 q; have := G0.out; omega, fun z hz => ?_⟩
      obtain ⟨h1, h2, h3⟩ := nls_mem hz
      have := HJ0.out
      exact ⟨h1, by omega, h3⟩)
    clear hAT
    have RAT : Hid (RdInt wr wr.heap.size A9 (AT.map (fun p : Nat => (p : Int)))) := Lib.hid (HOW.out.rd encInt_len)
    have y := HY.out
    have HT := Lib.hid (Utf8Tabs_below HT.out y)
    have R2 := Lib.hid (R2.out.ext y)
    have HS := Lib.hid (HS.out.ext y)
    have D1 := Lib.hid (D1.out.ext y)
    replace hx := ext_trans hx y
    clear y HOW HY HG
    obtain ⟨wv, hwv⟩ : ∃ X, X = wr := ⟨_, rfl⟩
    subst hwv
    go_wp2_with (go_at_call 57; refine Hid.out ?_)
    refine Lib.hid ?_
    refine (format_any s l0 i0 q (j0 : Int) A2 n2 c2 l2 _ HS.out (by have := HJ0.out; omega) (by have := G0.out; omega) N2.out R2.out (by have := G0.out; omega) Q2.out HT.out).mono ?_
    intro e wn hO
    obtain ⟨A5, na, c5, fa, xa, rfl, y, hf1, hf2⟩ : ∃ (A : Option Addr) (n c : Nat) (f : Int) (x : List OpS), e = .returned (.tuple #[.slice A n c, .int .i64 f]) ∧ Below _ _ wn ∧ (f ≠ 0 → n = 0) ∧ (f = 0 → (mayP l0 l2 = 0 ∧ partP l0 true l2 = []) ∧ x.length = n ∧ osOf x = mkU (onceU i0 q l2) ∧ OpsC wn A n c x) := by
      obtain ⟨y, ⟨r, hr, rfl⟩ | ⟨hok, A, c, x, rfl, hx, ox⟩⟩ := hO
      · exact ⟨none, 0, 0, r, [], rfl, y, fun _ => rfl, fun h => absurd h hr⟩
      · exact ⟨A, x.length, c, 0, x, rfl, y, fun h => absurd rfl h, fun _ => ⟨hok, rfl, hx, ox⟩⟩
    have Zxa := Lib.hid hf1
    have Fxa : Hid (fa = 0 → (mayP l0 l2 = 0 ∧ partP l0 true l2 = []) ∧ xa.length = na ∧ osOf xa = mkU (onceU i0 q l2)) := Lib.hid (fun h => ⟨(hf2 h).1, (hf2 h).2.1, (hf2 h).2.2.1⟩)
    have Oxa : Hid (fa = 0 → OpsC wn A5 na c5 xa) := Lib.hid (fun h => (hf2 h).2.2.2)
    clear hf1 hf2
    have HT := Lib.hid (Utf8Tabs_below HT.out y)
    have R2 := Lib.hid (R2.out.ext y)
    have HS := Lib.hid (HS.out.ext y)
    have D1 := Lib.hid (D1.out.ext y)
    have RAT := Lib.hid (RAT.out.ext y)
    replace hx := ext_trans hx y
    clear y
    go_wp2_with (go_at_call 58; refine Hid.out ?_)
    refine Lib.hid ?_
    refine (paragraph_any s l0 A2 A9 n2 c2 AT.length c9 AT l2 _ HS.out H64.out N2.out R2.out (by have := G0.out; omega) Q2.out rfl RAT.out (by have := ATF.out.2.1; omega) (fun z hz => by have := (ATF.out.2.2 z hz).2.1; have := G0.out; have := HJ0.out; omega) HT.out).mono ?_
    intro e wn hO
    obtain ⟨A6, nb, c6, fb, xb, rfl, y, hf1, hf2⟩ : ∃ (A : Option Addr) (n c : Nat) (f : Int) (x : List OpS), e = .returned (.tuple #[.slice A n c, .int .i64 f]) ∧ Below _ _ wn ∧ (f ≠ 0 → n = 0) ∧ (f = 0 → (mayP l0 l2 = 0) ∧ x.length = n ∧ osOf x = mkU (linesU (fun _ => completeP l0 l2) 0 0 AT) ∧ OpsC wn A n c x) := by
      obtain ⟨y, ⟨r, hr, rfl⟩ | ⟨hok, A, c, x, rfl, hx, ox⟩⟩ := hO
      · exact ⟨none, 0, 0, r, [], rfl, y, fun _ => rfl, fun h => absurd h hr⟩
      · exact ⟨A, x.length, c, 0, x, rfl, y, fun h => absurd rfl h, fun _ => ⟨hok, rfl, hx, ox⟩⟩
    have Zxb := Lib.hid hf1
    have Fxb : Hid (fb = 0 → (mayP l0 l2 = 0) ∧ xb.length = nb ∧ osOf xb = mkU (linesU (fun _ => completeP l0 l2) 0 0 AT)) := Lib.hid (fun h => ⟨(hf2 h).1, (hf2 h).2.1, (hf2 h).2.2.1⟩)
    have Oxb : Hid (fb = 0 → OpsC wn A6 nb c6 xb) := Lib.hid (fun h => (hf2 h).2.2.2)
    clear hf1 hf2
    have HT := Lib.hid (Utf8Tabs_below HT.out y)
    have R2 := Lib.hid (R2.out.ext y)
    have HS := Lib.hid (HS.out.ext y)
    have D1 := Lib.hid (D1.out.ext y)
    have RAT := Lib.hid (RAT.out.ext y)
    have Oxa := Lib.hid (fun h => (Oxa.out h).ext y)
    replace hx := ext_trans hx y
    clear y
    clear RAT R2
    go_wp2_with (fail)
    go_loopg [101] 2 (fun g tv wr => ∃ t : Nat, t ≤ 2 ∧ g = 2 - t ∧ tv = .int .i64 (t : Int) ∧ Below w.heap.size w wr ∧ Hid (DocAt wr A1 n1 c1 d) ∧ Hid (Sch wr s l0) ∧ Hid (Lib.Utf8Tabs 1 2 wr) ∧ Hid (fa = 0 → OpsC wr A5 na c5 xa) ∧ Hid (fb = 0 → OpsC wr A6 nb c6 xb))
    case atStart => exact ⟨0, by omega, rfl, rfl, hx, D1, HS, HT, Oxa, Oxb⟩
    case round =>
      obtain ⟨t, ht, hg, rfl, hx, D1, HS, HT, Oxa, Oxb⟩ := hrel
      have HG := Lib.hid hg
      clear hg
      by_cases ht2 : t = 2
      · subst ht2
        go_wp2_with (go_at_call 55; refine Hid.out ?_)
        refine Lib.hid ?_
        refine (known24_any _ HT.out).mono ?_
        rintro e w2 ⟨rfl, y⟩
        replace hx := ext_trans hx y
        go_wp2_with (fail)
        go_ret
        exact ⟨rfl, hx⟩
      obtain ⟨wv, hwv⟩ : ∃ X, X = wr := ⟨_, rfl⟩
      subst hwv
      by_cases ht0 : t = 0
      · subst ht0
        have ixt : ∀ (v0 v1 : Value) (W : World), (Instr.index 92 (.agg #[v0, v1]) (.int .i64 0)).run Tryz.prog W = .ok v0 W := ix0B
        have hn1b : n1 ≤ 300 := G0.out.2.2.2
        by_cases hf : fa = 0
        rotate_left
        · skip
          have hf' : (fa == 0) = false := beq_eq_false_iff_ne.2 hf
          have hf'' : (fa != 0) = true := by rw [bne, hf']; rfl
          have hz := Zxa.out hf
          have hz2 : (((na : Nat) : Int) != 0) = false := by rw [hz]; rfl
          go_wp2_with (fail)
          go_roundg (2 - (0 + 1))
          case measure => have := HG.out; omega
          case rel => exact ⟨0 + 1, by omega, rfl, rfl, hx, D1, HS, HT, Oxa, Oxb⟩
        have HF := Lib.hid hf
        obtain ⟨hok, hln, hxu⟩ := Fxa.out hf
        have OZ := Lib.hid (Oxa.out hf)
        have E_z := Lib.hid hxu
        have HOK := Lib.hid hok
        have hf' : (fa == 0) = true := by rw [hf]; rfl
        have hf'' : (fa != 0) = false := by rw [hf]; rfl
        clear hok hln hxu hf
        have RT : Hid (∀ u ∈ onceU i0 q l2, ∃ q, u = .ret q) := Lib.hid (onceU_ret)
        have FU : Hid (FitU l0 (onceU i0 q l2) (clsOf d).length n1) := Lib.hid (by rw [LD.out]; exact once_fit HOK.out.1 B1.out (by have := G0.out; omega) (by have := G0.out; omega))
        have Y_M1 := Lib.hid (made_in (N := n1) (most := (n1 : Int)) E_z.out (by have := OZ.out.at_.len; have := OZ.out.at_.b; omega) MD.out FU.out (by omega) (Int.le_refl _))
        go_wp2_with (go_at_call 33; refine Hid.out ?_)
        refine Lib.hid ?_
        refine (applyDocI (N := n1) (us := onceU i0 q l2) D1.out OZ.out.at_ HS.out HT.out H64.out (by omega) Y_M1.out.1 Y_M1.out.2.1 Y_M1.out.2.2).mono ?_
        rintro e wn ⟨A7, c7, M1, rfl, h_1, m_1, b_1, d_1, y⟩
        have HT := Lib.hid (Utf8Tabs_below HT.out y)
        have HS := Lib.hid (HS.out.ext y)
        have D1 := Lib.hid (D1.out.ext y)
        have Oxa := Lib.hid (fun h => (Oxa.out h).ext y)
        have Oxb := Lib.hid (fun h => (Oxb.out h).ext y)
        have OZ := Lib.hid (OZ.out.ext y)
        replace hx := ext_trans hx y
        have D_M1 := Lib.hid d_1
        have E_M1 := Lib.hid h_1
        have M_M1 := Lib.hid m_1
        clear d_1 h_1 m_1 b_1
        clear y
        obtain ⟨q1, q2, q3⟩ := rets_at l0 (onceU i0 q l2) (clsOf d) RT.out FU.out.t
        rw [← E_M1.out] at q1 q2 q3
        have LM : Hid (M1.length = n1) := Lib.hid (by rw [← clsOf_len, q1, LD.out])
        have TXT : Hid (M1.map (·.c.r) = d.map (·.c.r)) := Lib.hid (by unfold clsOf at q2; rw [List.map_map, List.map_map] at q2; exact q2)
        have Q3 := Lib.hid q3
        obtain ⟨nm, hnm⟩ : ∃ X, M1.length = X := ⟨_, rfl⟩
        rw [hnm] at D_M1 LM ⊢
        clear q1 q2 q3 hnm
        have LM2 : nm = n1 := LM.out
        subst LM2
        go_wp2_with (go_at_call 60; refine Hid.out ?_)
        refine Lib.hid ?_
        refine (cellsText_any A7 nm c7 M1 _ D_M1.out.len D_M1.out.rd.1 (by have := G0.out; omega)).mono ?_
        rw [TXT.out]
        rintro e wn ⟨T1, k1t, rfl, o1, y⟩
        have RT1 := Lib.hid (o1.rd encI32_len)
        clear o1
        have HT := Lib.hid (Utf8Tabs_below HT.out y)
        have HS := Lib.hid (HS.out.ext y)
        have D1 := Lib.hid (D1.out.ext y)
        have Oxa := Lib.hid (fun h => (Oxa.out h).ext y)
        have Oxb := Lib.hid (fun h => (Oxb.out h).ext y)
        have OZ := Lib.hid (OZ.out.ext y)
        have D_M1 := Lib.hid (D_M1.out.ext y)
        replace hx := ext_trans hx y
        clear y
        go_wp2_with (go_at_call 60; refine Hid.out ?_)
        refine Lib.hid ?_
        refine (cellsText_any A1 nm c1 d _ D1.out.len D1.out.rd.1 (by have := G0.out; omega)).mono ?_
        rintro e wn ⟨T2, k2t, rfl, o1, y⟩
        have RT2 := Lib.hid (o1.rd encI32_len)
        clear o1
        have HT := Lib.hid (Utf8Tabs_below HT.out y)
        have HS := Lib.hid (HS.out.ext y)
        have D1 := Lib.hid (D1.out.ext y)
        have Oxa := Lib.hid (fun h => (Oxa.out h).ext y)
        have Oxb := Lib.hid (fun h => (Oxb.out h).ext y)
        have OZ := Lib.hid (OZ.out.ext y)
        have D_M1 := Lib.hid (D_M1.out.ext y)
        have RT1 := Lib.hid (RT1.out.ext y)
        replace hx := ext_trans hx y
        clear y
        go_wp2_with (go_at_call 59; refine Hid.out ?_)
        refine Lib.hid ?_
        refine (refSame_any T1 T2 _ _ k1t k2t (d.map (·.c.r)) (d.map (·.c.r)) _ (by rw [List.length_map]) (by rw [List.length_map]) RT1.out RT2.out (by have := N1.out; have := G0.out; omega) (by have := N1.out; have := G0.out; omega)).mono ?_
        rw [decide_eq_true rfl]
        rintro e wn ⟨rfl, qc, hd⟩
        have y := drew_ext hd
        clear hd
        have HT := Lib.hid (Utf8Tabs_below HT.out y)
        have HS := Lib.hid (HS.out.ext y)
        have D1 := Lib.hid (D1.out.ext y)
        have Oxa := Lib.hid (fun h => (Oxa.out h).ext y)
        have Oxb := Lib.hid (fun h => (Oxb.out h).ext y)
        have OZ := Lib.hid (OZ.out.ext y)
        have D_M1 := Lib.hid (D_M1.out.ext y)
        replace hx := ext_trans hx y
        clear y RT1 RT2
        have hnn : ((nm : Int) != (nm : Int)) = false := bne_self_eq_false _
        go_wp2_with (fail)
        go_loopg [150] nm (fun g kv wr => ∃ k : Nat, k ≤ nm ∧ g = nm - k ∧ kv = .int .i64 (k : Int) ∧ Below w.heap.size w wr ∧ Hid (DocAt wr A1 nm c1 d) ∧ Hid (Sch wr s l0) ∧ Hid (Lib.Utf8Tabs 1 2 wr) ∧ Hid (fa = 0 → OpsC wr A5 na c5 xa) ∧ Hid (fb = 0 → OpsC wr A6 nb c6 xb) ∧ Hid (DocAt wr A7 nm c7 M1))
        case atStart => exact ⟨0, Nat.zero_le _, by omega, rfl, hx, D1, HS, HT, Oxa, Oxb, D_M1⟩
        case round =>
          obtain ⟨k, hk, hg2, rfl, hx, D1, HS, HT, Oxa, Oxb, D_M1⟩ := hrel
          have HG2 := Lib.hid hg2
          clear hg2
          by_cases hlt : k < nm
          · skip
            have hlt' : (k : Int) < (nm : Int) := by omega
            obtain ⟨ad, z, hA, _, _, hx1, hc1⟩ := D1.out.rd.1.el (i := k) (by have := N1.out; omega)
            have HZC := Lib.hid (clsOf_at hx1)
            obtain ⟨⟨r, st⟩, As, cs⟩ := z
            obtain ⟨z0, -⟩ := cl_cells hc1
            have hw2 : IntKind.i64.wrap ((k : Int) + 1) = (k : Int) + 1 := IntWalk.i64_in _ (by have := G0.out; omega)
            have hw2' : wrap64 ((k : Int) + 1) = (k : Int) + 1 := w64_in _ (by have := G0.out; clear hw2; omega)
            clear hx1 hc1
            by_cases hk1 : (i0 : Int) ≤ (k : Int)
            rotate_left
            · skip
              clear hA z0
              have CE : Hid ((clsOf M1)[k]? = some ⟨r, st⟩) := Lib.hid (Q3.out k ⟨r, st⟩ HZC.out (fun q9 h9 => by
                rcases onceU_at h9 with h | ⟨_, h2, h3⟩
                · rw [h]; exact part_nilC l0 _
                · exfalso; have := HJ0.out; clear hw2 hw2'; omega))
              have CS : Hid (clsOf ((M1.drop k).take 1) = clsOf ((d.drop k).take 1)) := Lib.hid (by
                rw [clsOf_take, clsOf_drop, clsOf_take, clsOf_drop]
                apply List.ext_getElem?
                intro m
                rw [List.getElem?_take, List.getElem?_take, List.getElem?_drop, List.getElem?_drop]
                cases m with
                | zero => rw [Nat.add_zero, CE.out, HZC.out]
                | succ m => rw [if_neg (by clear hw2 hw2'; omega), if_neg (by clear hw2 hw2'; omega)])
              have CM := D_M1.out.cap
              have CD := D1.out.cap
              obtain ⟨A8, hA8⟩ : ∃ X, advS A7 c7 k 2 = X := ⟨_, rfl⟩
              obtain ⟨c8, hc8⟩ : ∃ X, c7 - k = X := ⟨_, rfl⟩
              obtain ⟨A10, hA10⟩ : ∃ X, advS A1 c1 k 2 = X := ⟨_, rfl⟩
              obtain ⟨c10, hc10⟩ : ∃ X, c1 - k = X := ⟨_, rfl⟩
              have sl1 : ∀ W, (Instr.slice 23 (.slice A7 nm c7) (some (.int .i64 (k : Int))) (some (.int .i64 ((k : Int) + 1))) none).run Tryz.prog W = .ok (.slice A8 1 c8) W := sl_one hA8 hc8 (by clear hw2 hw2'; omega)
              have sl2 : ∀ W, (Instr.slice 23 (.slice A1 nm c1) (some (.int .i64 (k : Int))) (some (.int .i64 ((k : Int) + 1))) none).run Tryz.prog W = .ok (.slice A10 1 c10) W := sl_one hA10 hc10 (by clear hw2 hw2'; omega)
              have DA : Hid (DocAt _ A8 1 c8 ((M1.drop k).take 1)) := Lib.hid ((D_M1.out.drop (n' := nm - k) hA8 (by clear hw2 hw2'; omega) rfl hc8).take (by clear hw2 hw2'; omega))
              have DB : Hid (DocAt _ A10 1 c10 ((d.drop k).take 1)) := Lib.hid ((D1.out.drop (n' := nm - k) hA10 (by clear hw2 hw2'; omega) rfl hc10).take (by clear hw2 hw2'; omega))
              clear hA8 hc8 hA10 hc10 CM CD
              go_wp2_with (fail)
              go_region_held3 (fun w' => True) (go_keep) (first
                | (go_at_call 61
                   with_reducible refine (sameD (DA.out.ext (up_drew (Below.refl _ _))) (DB.out.ext (up_drew (Below.refl _ _))) (decide_eq_true CS.out)).mono ?_
                   rintro e wa ⟨rfl, ya⟩
                   have YA : Hid (Below wr.heap.size wr wa) := Lib.hid (ext_trans (up_drew (Below.refl _ _)) ya)
                   clear ya))
              have y := YA.out
              have HT := Lib.hid (Utf8Tabs_below HT.out y)
              have HS := Lib.hid (HS.out.ext y)
              have D1 := Lib.hid (D1.out.ext y)
              have Oxa := Lib.hid (fun h => (Oxa.out h).ext y)
              have Oxb := Lib.hid (fun h => (Oxb.out h).ext y)
              have D_M1 := Lib.hid (D_M1.out.ext y)
              replace hx := ext_trans hx y
              clear y YA DA DB sl1 sl2
              go_wp2_with (fail)
              go_roundg (nm - (k + 1))
              case measure => have := HG2.out; clear hw2 hw2'; omega
              case rel => exact ⟨k + 1, by clear hw2 hw2'; omega, rfl, by go_num, hx, D1, HS, HT, Oxa, Oxb, D_M1⟩
            by_cases hk2 : (k : Int) < (j0 : Int)
            rotate_left
            · skip
              clear hA z0
              have CE : Hid ((clsOf M1)[k]? = some ⟨r, st⟩) := Lib.hid (Q3.out k ⟨r, st⟩ HZC.out (fun q9 h9 => by
                rcases onceU_at h9 with h | ⟨_, h2, h3⟩
                · rw [h]; exact part_nilC l0 _
                · exfalso; have := HJ0.out; clear hw2 hw2'; omega))
              have CS : Hid (clsOf ((M1.drop k).take 1) = clsOf ((d.drop k).take 1)) := Lib.hid (by
                rw [clsOf_take, clsOf_drop, clsOf_take, clsOf_drop]
                apply List.ext_getElem?
                intro m
                rw [List.getElem?_take, List.getElem?_take, List.getElem?_drop, List.getElem?_drop]
                cases m with
                | zero => rw [Nat.add_zero, CE.out, HZC.out]
                | succ m => rw [if_neg (by clear hw2 hw2'; omega), if_neg (by clear hw2 hw2'; omega)])
              have CM := D_M1.out.cap
              have CD := D1.out.cap
              obtain ⟨A8, hA8⟩ : ∃ X, advS A7 c7 k 2 = X := ⟨_, rfl⟩
              obtain ⟨c8, hc8⟩ : ∃ X, c7 - k = X := ⟨_, rfl⟩
              obtain ⟨A10, hA10⟩ : ∃ X, advS A1 c1 k 2 = X := ⟨_, rfl⟩
              obtain ⟨c10, hc10⟩ : ∃ X, c1 - k = X := ⟨_, rfl⟩
              have sl1 : ∀ W, (Instr.slice 23 (.slice A7 nm c7) (some (.int .i64 (k : Int))) (some (.int .i64 ((k : Int) + 1))) none).run Tryz.prog W = .ok (.slice A8 1 c8) W := sl_one hA8 hc8 (by clear hw2 hw2'; omega)
              have sl2 : ∀ W, (Instr.slice 23 (.slice A1 nm c1) (some (.int .i64 (k : Int))) (some (.int .i64 ((k : Int) + 1))) none).run Tryz.prog W = .ok (.slice A10 1 c10) W := sl_one hA10 hc10 (by clear hw2 hw2'; omega)
              have DA : Hid (DocAt _ A8 1 c8 ((M1.drop k).take 1)) := Lib.hid ((D_M1.out.drop (n' := nm - k) hA8 (by clear hw2 hw2'; omega) rfl hc8).take (by clear hw2 hw2'; omega))
              have DB : Hid (DocAt _ A10 1 c10 ((d.drop k).take 1)) := Lib.hid ((D1.out.drop (n' := nm - k) hA10 (by clear hw2 hw2'; omega) rfl hc10).take (by clear hw2 hw2'; omega))
              clear hA8 hc8 hA10 hc10 CM CD
              go_wp2_with (fail)
              go_region_held3 (fun w' => True) (go_keep) (first
                | (go_at_call 61
                   with_reducible refine (sameD (DA.out.ext (up_drew (Below.refl _ _))) (DB.out.ext (up_drew (Below.refl _ _))) (decide_eq_true CS.out)).mono ?_
                   rintro e wa ⟨rfl, ya⟩
                   have YA : Hid (Below wr.heap.size wr wa) := Lib.hid (ext_trans (up_drew (Below.refl _ _)) ya)
                   clear ya))
              have y := YA.out
              have HT := Lib.hid (Utf8Tabs_below HT.out y)
              have HS := Lib.hid (HS.out.ext y)
              have D1 := Lib.hid (D1.out.ext y)
              have Oxa := Lib.hid (fun h => (Oxa.out h).ext y)
              have Oxb := Lib.hid (fun h => (Oxb.out h).ext y)
              have D_M1 := Lib.hid (D_M1.out.ext y)
              replace hx := ext_trans hx y
              clear y YA DA DB sl1 sl2
              go_wp2_with (fail)
              go_roundg (nm - (k + 1))
              case measure => have := HG2.out; clear hw2 hw2'; omega
              case rel => exact ⟨k + 1, by clear hw2 hw2'; omega, rfl, by go_num, hx, D1, HS, HT, Oxa, Oxb, D_M1⟩
            by_cases hr : r = 10
            · skip
              have hr' : (r == 10) = true := by rw [hr]; rfl
              have hr'' : (r != 10) = false := by rw [hr]; rfl
              clear hr
              have CE : Hid ((clsOf M1)[k]? = some ⟨r, st⟩) := Lib.hid (Q3.out k ⟨r, st⟩ HZC.out (fun q9 h9 => by
                rcases onceU_at h9 with h | ⟨h, _, _⟩
                · rw [h]; exact part_nilC l0 _
                · rw [h]; exact part_other HOK.out.2 hr'))
              have CS : Hid (clsOf ((M1.drop k).take 1) = clsOf ((d.drop k).take 1)) := Lib.hid (by
                rw [clsOf_take, clsOf_drop, clsOf_take, clsOf_drop]
                apply List.ext_getElem?
                intro m
                rw [List.getElem?_take, List.getElem?_take, List.getElem?_drop, List.getElem?_drop]
                cases m with
                | zero => rw [Nat.add_zero, CE.out, HZC.out]
                | succ m => rw [if_neg (by clear hw2 hw2'; omega), if_neg (by clear hw2 hw2'; omega)])
              have CM := D_M1.out.cap
              have CD := D1.out.cap
              obtain ⟨A8, hA8⟩ : ∃ X, advS A7 c7 k 2 = X := ⟨_, rfl⟩
              obtain ⟨c8, hc8⟩ : ∃ X, c7 - k = X := ⟨_, rfl⟩
              obtain ⟨A10, hA10⟩ : ∃ X, advS A1 c1 k 2 = X := ⟨_, rfl⟩
              obtain ⟨c10, hc10⟩ : ∃ X, c1 - k = X := ⟨_, rfl⟩
              have sl1 : ∀ W, (Instr.slice 23 (.slice A7 nm c7) (some (.int .i64 (k : Int))) (some (.int .i64 ((k : Int) + 1))) none).run Tryz.prog W = .ok (.slice A8 1 c8) W := sl_one hA8 hc8 (by clear hw2 hw2'; omega)
              have sl2 : ∀ W, (Instr.slice 23 (.slice A1 nm c1) (some (.int .i64 (k : Int))) (some (.int .i64 ((k : Int) + 1))) none).run Tryz.prog W = .ok (.slice A10 1 c10) W := sl_one hA10 hc10 (by clear hw2 hw2'; omega)
              have DA : Hid (DocAt _ A8 1 c8 ((M1.drop k).take 1)) := Lib.hid ((D_M1.out.drop (n' := nm - k) hA8 (by clear hw2 hw2'; omega) rfl hc8).take (by clear hw2 hw2'; omega))
              have DB : Hid (DocAt _ A10 1 c10 ((d.drop k).take 1)) := Lib.hid ((D1.out.drop (n' := nm - k) hA10 (by clear hw2 hw2'; omega) rfl hc10).take (by clear hw2 hw2'; omega))
              clear hA8 hc8 hA10 hc10 CM CD
              go_wp2_with (fail)
              rw [← hA]
              clear hA z0
              go_region_held3 (fun w' => True) (go_keep) (first
                | (go_at_call 61
                   with_reducible refine (sameD (DA.out.ext (up_drew (Below.refl _ _))) (DB.out.ext (up_drew (Below.refl _ _))) (decide_eq_true CS.out)).mono ?_
                   rintro e wa ⟨rfl, ya⟩
                   have YA : Hid (Below wr.heap.size wr wa) := Lib.hid (ext_trans (up_drew (Below.refl _ _)) ya)
                   clear ya))
              have y := YA.out
              have HT := Lib.hid (Utf8Tabs_below HT.out y)
              have HS := Lib.hid (HS.out.ext y)
              have D1 := Lib.hid (D1.out.ext y)
              have Oxa := Lib.hid (fun h => (Oxa.out h).ext y)
              have Oxb := Lib.hid (fun h => (Oxb.out h).ext y)
              have D_M1 := Lib.hid (D_M1.out.ext y)
              replace hx := ext_trans hx y
              clear y YA DA DB sl1 sl2
              go_wp2_with (fail)
              go_roundg (nm - (k + 1))
              case measure => have := HG2.out; clear hw2 hw2'; omega
              case rel => exact ⟨k + 1, by clear hw2 hw2'; omega, rfl, by go_num, hx, D1, HS, HT, Oxa, Oxb, D_M1⟩
            have hr' : (r == 10) = false := beq_eq_false_iff_ne.2 hr
            have hr'' : (r != 10) = true := by rw [bne, hr']; rfl
            have HR := Lib.hid hr
            clear hr
            go_wp2_with (fail)
            go_quiet (fail)
            have y := ext_drew wr nq
            generalize wr.drewN nq = wq at *
            have HT := Lib.hid (Utf8Tabs_below HT.out y)
            have HS := Lib.hid (HS.out.ext y)
            have D1 := Lib.hid (D1.out.ext y)
            have Oxa := Lib.hid (fun h => (Oxa.out h).ext y)
            have Oxb := Lib.hid (fun h => (Oxb.out h).ext y)
            have D_M1 := Lib.hid (D_M1.out.ext y)
            replace hx := ext_trans hx y
            clear y
            go_wp2_with (fail)
            rw [← hA]
            go_roundg (nm - (k + 1))
            case measure => have := HG2.out; clear hw2 hw2'; omega
            case rel => exact ⟨k + 1, by clear hw2 hw2'; omega, rfl, by go_num, hx, D1, HS, HT, Oxa, Oxb, D_M1⟩
          have hlt' : ¬ ((k : Int) < (nm : Int)) := by omega
          go_wp2_with (fail)
          go_roundg (2 - (0 + 1))
          case measure => have := HG.out; omega
          case rel => exact ⟨0 + 1, by omega, rfl, rfl, hx, D1, HS, HT, Oxa, Oxb⟩
      obtain rfl : t = 1 := by omega
      have ixt : ∀ (v0 v1 : Value) (W : World), (Instr.index 92 (.agg #[v0, v1]) (.int .i64 1)).run Tryz.prog W = .ok v1 W := ix1B
      have hn1b : n1 ≤ 300 := G0.out.2.2.2
      by_cases hf : fb = 0
      rotate_left
      · skip
        have hf' : (fb == 0) = false := beq_eq_false_iff_ne.2 hf
        have hf'' : (fb != 0) = true := by rw [bne, hf']; rfl
        have hz := Zxb.out hf
        have hz2 : (((nb : Nat) : Int) != 0) = false := by rw [hz]; rfl
        go_wp2_with (fail)
        go_roundg (2 - (1 + 1))
        case measure => have := HG.out; omega
        case rel => exact ⟨1 + 1, by omega, rfl, rfl, hx, D1, HS, HT, Oxa, Oxb⟩
      have HF := Lib.hid hf
      obtain ⟨hok, hln, hxu⟩ := Fxb.out hf
      have OZ := Lib.hid (Oxb.out hf)
      have E_z := Lib.hid hxu
      have HOK := Lib.hid hok
      have hf' : (fb == 0) = true := by rw [hf]; rfl
      have hf'' : (fb != 0) = false := by rw [hf]; rfl
      clear hok hln hxu hf
      have RT : Hid (∀ u ∈ linesU (fun _ => completeP l0 l2) 0 0 AT, ∃ q, u = .ret q) := Lib.hid (linesU_ret _ _ _)
      have FU : Hid (FitU l0 (linesU (fun _ => completeP l0 l2) 0 0 AT) (clsOf d).length n1) := Lib.hid (by
        rw [LD.out]
        obtain ⟨h1, h2⟩ := linesU_takes (fun _ => completeP l0 l2) AT 0 0 n1 (riseN_less (Nat.zero_le _) ATF.out.1) (fun z hz => by have := (ATF.out.2.2 z hz).2.1; have := G0.out; have := HJ0.out; omega) (Nat.zero_le _)
        exact rets_fit RT.out (linesU_vU (fun _ => compl_may HOK.out H64.out) _ _ _) (by omega) h2 B1.out (by have := G0.out; omega))
      have Y_M1 := Lib.hid (made_in (N := n1) (most := (n1 : Int)) E_z.out (by have := OZ.out.at_.len; have := OZ.out.at_.b; omega) MD.out FU.out (by omega) (Int.le_refl _))
      go_wp2_with (go_at_call 33; refine Hid.out ?_)
      refine Lib.hid ?_
      refine (applyDocI (N := n1) (us := linesU (fun _ => completeP l0 l2) 0 0 AT) D1.out OZ.out.at_ HS.out HT.out H64.out (by omega) Y_M1.out.1 Y_M1.out.2.1 Y_M1.out.2.2).mono ?_
      rintro e wn ⟨A7, c7, M1, rfl, h_1, m_1, b_1, d_1, y⟩
      have HT := Lib.hid (Utf8Tabs_below HT.out y)
      have HS := Lib.hid (HS.out.ext y)
      have D1 := Lib.hid (D1.out.ext y)
      have Oxa := Lib.hid (fun h => (Oxa.out h).ext y)
      have Oxb := Lib.hid (fun h => (Oxb.out h).ext y)
      have OZ := Lib.hid (OZ.out.ext y)
      replace hx := ext_trans hx y
      have D_M1 := Lib.hid d_1
      have E_M1 := Lib.hid h_1
      have M_M1 := Lib.hid m_1
      clear d_1 h_1 m_1 b_1
      clear y
      obtain ⟨q1, q2, q3⟩ := rets_at l0 (linesU (fun _ => completeP l0 l2) 0 0 AT) (clsOf d) RT.out FU.out.t
      rw [← E_M1.out] at q1 q2 q3
      have LM : Hid (M1.length = n1) := Lib.hid (by rw [← clsOf_len, q1, LD.out])
      have TXT : Hid (M1.map (·.c.r) = d.map (·.c.r)) := Lib.hid (by unfold clsOf at q2; rw [List.map_map, List.map_map] at q2; exact q2)
      have Q3 := Lib.hid q3
      obtain ⟨nm, hnm⟩ : ∃ X, M1.length = X := ⟨_, rfl⟩
      rw [hnm] at D_M1 LM ⊢
      clear q1 q2 q3 hnm
      have LM2 : nm = n1 := LM.out
      subst LM2
      go_wp2_with (go_at_call 60; refine Hid.out ?_)
      refine Lib.hid ?_
      refine (cellsText_any A7 nm c7 M1 _ D_M1.out.len D_M1.out.rd.1 (by have := G0.out; omega)).mono ?_
      rw [TXT.out]
      rintro e wn ⟨T1, k1t, rfl, o1, y⟩
      have RT1 := Lib.hid (o1.rd encI32_len)
      clear o1
      have HT := Lib.hid (Utf8Tabs_below HT.out y)
      have HS := Lib.hid (HS.out.ext y)
      have D1 := Lib.hid (D1.out.ext y)
      have Oxa := Lib.hid (fun h => (Oxa.out h).ext y)
      have Oxb := Lib.hid (fun h => (Oxb.out h).ext y)
      have OZ := Lib.hid (OZ.out.ext y)
      have D_M1 := Lib.hid (D_M1.out.ext y)
      replace hx := ext_trans hx y
      clear y
      go_wp2_with (go_at_call 60; refine Hid.out ?_)
      refine Lib.hid ?_
      refine (cellsText_any A1 nm c1 d _ D1.out.len D1.out.rd.1 (by have := G0.out; omega)).mono ?_
      rintro e wn ⟨T2, k2t, rfl, o1, y⟩
      have RT2 := Lib.hid (o1.rd encI32_len)
      clear o1
      have HT := Lib.hid (Utf8Tabs_below HT.out y)
      have HS := Lib.hid (HS.out.ext y)
      have D1 := Lib.hid (D1.out.ext y)
      have Oxa := Lib.hid (fun h => (Oxa.out h).ext y)
      have Oxb := Lib.hid (fun h => (Oxb.out h).ext y)
      have OZ := Lib.hid (OZ.out.ext y)
      have D_M1 := Lib.hid (D_M1.out.ext y)
      have RT1 := Lib.hid (RT1.out.ext y)
      replace hx := ext_trans hx y
      clear y
      go_wp2_with (go_at_call 59; refine Hid.out ?_)
      refine Lib.hid ?_
      refine (refSame_any T1 T2 _ _ k1t k2t (d.map (·.c.r)) (d.map (·.c.r)) _ (by rw [List.length_map]) (by rw [List.length_map]) RT1.out RT2.out (by have := N1.out; have := G0.out; omega) (by have := N1.out; have := G0.out; omega)).mono ?_
      rw [decide_eq_true rfl]
      rintro e wn ⟨rfl, qc, hd⟩
      have y := drew_ext hd
      clear hd
      have HT := Lib.hid (Utf8Tabs_below HT.out y)
      have HS := Lib.hid (HS.out.ext y)
      have D1 := Lib.hid (D1.out.ext y)
      have Oxa := Lib.hid (fun h => (Oxa.out h).ext y)
      have Oxb := Lib.hid (fun h => (Oxb.out h).ext y)
      have OZ := Lib.hid (OZ.out.ext y)
      have D_M1 := Lib.hid (D_M1.out.ext y)
      replace hx := ext_trans hx y
      clear y RT1 RT2
      have hnn : ((nm : Int) != (nm : Int)) = false := bne_self_eq_false _
      go_wp2_with (fail)
      go_loopg [150] nm (fun g kv wr => ∃ k : Nat, k ≤ nm ∧ g = nm - k ∧ kv = .int .i64 (k : Int) ∧ Below w.heap.size w wr ∧ Hid (DocAt wr A1 nm c1 d) ∧ Hid (Sch wr s l0) ∧ Hid (Lib.Utf8Tabs 1 2 wr) ∧ Hid (fa = 0 → OpsC wr A5 na c5 xa) ∧ Hid (fb = 0 → OpsC wr A6 nb c6 xb) ∧ Hid (DocAt wr A7 nm c7 M1))
      case atStart => exact ⟨0, Nat.zero_le _, by omega, rfl, hx, D1, HS, HT, Oxa, Oxb, D_M1⟩
      case round =>
        obtain ⟨k, hk, hg2, rfl, hx, D1, HS, HT, Oxa, Oxb, D_M1⟩ := hrel
        have HG2 := Lib.hid hg2
        clear hg2
        by_cases hlt : k < nm
        · skip
          have hlt' : (k : Int) < (nm : Int) := by omega
          obtain ⟨ad, z, hA, _, _, hx1, hc1⟩ := D1.out.rd.1.el (i := k) (by have := N1.out; omega)
          have HZC := Lib.hid (clsOf_at hx1)
          obtain ⟨⟨r, st⟩, As, cs⟩ := z
          obtain ⟨z0, -⟩ := cl_cells hc1
          have hw2 : IntKind.i64.wrap ((k : Int) + 1) = (k : Int) + 1 := IntWalk.i64_in _ (by have := G0.out; omega)
          have hw2' : wrap64 ((k : Int) + 1) = (k : Int) + 1 := w64_in _ (by have := G0.out; clear hw2; omega)
          clear hx1 hc1
          by_cases hk1 : (i0 : Int) ≤ (k : Int)
          rotate_left
          · skip
            clear hA z0
            have CE : Hid ((clsOf M1)[k]? = some ⟨r, st⟩) := Lib.hid (Q3.out k ⟨r, st⟩ HZC.out (fun q9 h9 => by
              rcases linesU_at _ _ 0 0 k q9 (riseN_less (Nat.zero_le _) ATF.out.1) h9 with h | ⟨_, h2⟩
              · rw [h]; exact part_nilC l0 _
              · exfalso; obtain ⟨h3, h4, _⟩ := ATF.out.2.2 _ h2; clear hw2 hw2'; omega))
            have CS : Hid (clsOf ((M1.drop k).take 1) = clsOf ((d.drop k).take 1)) := Lib.hid (by
              rw [clsOf_take, clsOf_drop, clsOf_take, clsOf_drop]
              apply List.ext_getElem?
              intro m
              rw [List.getElem?_take, List.getElem?_take, List.getElem?_drop, List.getElem?_drop]
              cases m with
              | zero => rw [Nat.add_zero, CE.out, HZC.out]
              | succ m => rw [if_neg (by clear hw2 hw2'; omega), if_neg (by clear hw2 hw2'; omega)])
            have CM := D_M1.out.cap
            have CD := D1.out.cap
            obtain ⟨A8, hA8⟩ : ∃ X, advS A7 c7 k 2 = X := ⟨_, rfl⟩
            obtain ⟨c8, hc8⟩ : ∃ X, c7 - k = X := ⟨_, rfl⟩
            obtain ⟨A10, hA10⟩ : ∃ X, advS A1 c1 k 2 = X := ⟨_, rfl⟩
            obtain ⟨c10, hc10⟩ : ∃ X, c1 - k = X := ⟨_, rfl⟩
            have sl1 : ∀ W, (Instr.slice 23 (.slice A7 nm c7) (some (.int .i64 (k : Int))) (some (.int .i64 ((k : Int) + 1))) none).run Tryz.prog W = .ok (.slice A8 1 c8) W := sl_one hA8 hc8 (by clear hw2 hw2'; omega)
            have sl2 : ∀ W, (Instr.slice 23 (.slice A1 nm c1) (some (.int .i64 (k : Int))) (some (.int .i64 ((k : Int) + 1))) none).run Tryz.prog W = .ok (.slice A10 1 c10) W := sl_one hA10 hc10 (by clear hw2 hw2'; omega)
            have DA : Hid (DocAt _ A8 1 c8 ((M1.drop k).take 1)) := Lib.hid ((D_M1.out.drop (n' := nm - k) hA8 (by clear hw2 hw2'; omega) rfl hc8).take (by clear hw2 hw2'; omega))
            have DB : Hid (DocAt _ A10 1 c10 ((d.drop k).take 1)) := Lib.hid ((D1.out.drop (n' := nm - k) hA10 (by clear hw2 hw2'; omega) rfl hc10).take (by clear hw2 hw2'; omega))
            clear hA8 hc8 hA10 hc10 CM CD
            go_wp2_with (fail)
            go_region_held3 (fun w' => True) (go_keep) (first
              | (go_at_call 61
                 with_reducible refine (sameD (DA.out.ext (up_drew (Below.refl _ _))) (DB.out.ext (up_drew (Below.refl _ _))) (decide_eq_true CS.out)).mono ?_
                 rintro e wa ⟨rfl, ya⟩
                 have YA : Hid (Below wr.heap.size wr wa) := Lib.hid (ext_trans (up_drew (Below.refl _ _)) ya)
                 clear ya))
            have y := YA.out
            have HT := Lib.hid (Utf8Tabs_below HT.out y)
            have HS := Lib.hid (HS.out.ext y)
            have D1 := Lib.hid (D1.out.ext y)
            have Oxa := Lib.hid (fun h => (Oxa.out h).ext y)
            have Oxb := Lib.hid (fun h => (Oxb.out h).ext y)
            have D_M1 := Lib.hid (D_M1.out.ext y)
            replace hx := ext_trans hx y
            clear y YA DA DB sl1 sl2
            go_wp2_with (fail)
            go_roundg (nm - (k + 1))
            case measure => have := HG2.out; clear hw2 hw2'; omega
            case rel => exact ⟨k + 1, by clear hw2 hw2'; omega, rfl, by go_num, hx, D1, HS, HT, Oxa, Oxb, D_M1⟩
          by_cases hk2 : (k : Int) < (j0 : Int)
          rotate_left
          · skip
            clear hA z0
            have CE : Hid ((clsOf M1)[k]? = some ⟨r, st⟩) := Lib.hid (Q3.out k ⟨r, st⟩ HZC.out (fun q9 h9 => by
              rcases linesU_at _ _ 0 0 k q9 (riseN_less (Nat.zero_le _) ATF.out.1) h9 with h | ⟨_, h2⟩
              · rw [h]; exact part_nilC l0 _
              · exfalso; obtain ⟨h3, h4, _⟩ := ATF.out.2.2 _ h2; clear hw2 hw2'; omega))
            have CS : Hid (clsOf ((M1.drop k).take 1) = clsOf ((d.drop k).take 1)) := Lib.hid (by
              rw [clsOf_take, clsOf_drop, clsOf_take, clsOf_drop]
              apply List.ext_getElem?
              intro m
              rw [List.getElem?_take, List.getElem?_take, List.getElem?_drop, List.getElem?_drop]
              cases m with
              | zero => rw [Nat.add_zero, CE.out, HZC.out]
              | succ m => rw [if_neg (by clear hw2 hw2'; omega), if_neg (by clear hw2 hw2'; omega)])
            have CM := D_M1.out.cap
            have CD := D1.out.cap
            obtain ⟨A8, hA8⟩ : ∃ X, advS A7 c7 k 2 = X := ⟨_, rfl⟩
            obtain ⟨c8, hc8⟩ : ∃ X, c7 - k = X := ⟨_, rfl⟩
            obtain ⟨A10, hA10⟩ : ∃ X, advS A1 c1 k 2 = X := ⟨_, rfl⟩
            obtain ⟨c10, hc10⟩ : ∃ X, c1 - k = X := ⟨_, rfl⟩
            have sl1 : ∀ W, (Instr.slice 23 (.slice A7 nm c7) (some (.int .i64 (k : Int))) (some (.int .i64 ((k : Int) + 1))) none).run Tryz.prog W = .ok (.slice A8 1 c8) W := sl_one hA8 hc8 (by clear hw2 hw2'; omega)
            have sl2 : ∀ W, (Instr.slice 23 (.slice A1 nm c1) (some (.int .i64 (k : Int))) (some (.int .i64 ((k : Int) + 1))) none).run Tryz.prog W = .ok (.slice A10 1 c10) W := sl_one hA10 hc10 (by clear hw2 hw2'; omega)
            have DA : Hid (DocAt _ A8 1 c8 ((M1.drop k).take 1)) := Lib.hid ((D_M1.out.drop (n' := nm - k) hA8 (by clear hw2 hw2'; omega) rfl hc8).take (by clear hw2 hw2'; omega))
            have DB : Hid (DocAt _ A10 1 c10 ((d.drop k).take 1)) := Lib.hid ((D1.out.drop (n' := nm - k) hA10 (by clear hw2 hw2'; omega) rfl hc10).take (by clear hw2 hw2'; omega))
            clear hA8 hc8 hA10 hc10 CM CD
            go_wp2_with (fail)
            go_region_held3 (fun w' => True) (go_keep) (first
              | (go_at_call 61
                 with_reducible refine (sameD (DA.out.ext (up_drew (Below.refl _ _))) (DB.out.ext (up_drew (Below.refl _ _))) (decide_eq_true CS.out)).mono ?_
                 rintro e wa ⟨rfl, ya⟩
                 have YA : Hid (Below wr.heap.size wr wa) := Lib.hid (ext_trans (up_drew (Below.refl _ _)) ya)
                 clear ya))
            have y := YA.out
            have HT := Lib.hid (Utf8Tabs_below HT.out y)
            have HS := Lib.hid (HS.out.ext y)
            have D1 := Lib.hid (D1.out.ext y)
            have Oxa := Lib.hid (fun h => (Oxa.out h).ext y)
            have Oxb := Lib.hid (fun h => (Oxb.out h).ext y)
            have D_M1 := Lib.hid (D_M1.out.ext y)
            replace hx := ext_trans hx y
            clear y YA DA DB sl1 sl2
            go_wp2_with (fail)
            go_roundg (nm - (k + 1))
            case measure => have := HG2.out; clear hw2 hw2'; omega
            case rel => exact ⟨k + 1, by clear hw2 hw2'; omega, rfl, by go_num, hx, D1, HS, HT, Oxa, Oxb, D_M1⟩
          by_cases hr : r = 10
          · skip
            have hr' : (r == 10) = true := by rw [hr]; rfl
            have hr'' : (r != 10) = false := by rw [hr]; rfl
            clear hr
            go_wp2_with (fail)
            go_quiet (fail)
            have y := ext_drew wr nq
            generalize wr.drewN nq = wq at *
            have HT := Lib.hid (Utf8Tabs_below HT.out y)
            have HS := Lib.hid (HS.out.ext y)
            have D1 := Lib.hid (D1.out.ext y)
            have Oxa := Lib.hid (fun h => (Oxa.out h).ext y)
            have Oxb := Lib.hid (fun h => (Oxb.out h).ext y)
            have D_M1 := Lib.hid (D_M1.out.ext y)
            replace hx := ext_trans hx y
            clear y
            go_wp2_with (fail)
            rw [← hA]
            go_roundg (nm - (k + 1))
            case measure => have := HG2.out; clear hw2 hw2'; omega
            case rel => exact ⟨k + 1, by clear hw2 hw2'; omega, rfl, by go_num, hx, D1, HS, HT, Oxa, Oxb, D_M1⟩
          have hr' : (r == 10) = false := beq_eq_false_iff_ne.2 hr
          have hr'' : (r != 10) = true := by rw [bne, hr']; rfl
          have HR := Lib.hid hr
          clear hr
          have CE : Hid ((clsOf M1)[k]? = some ⟨r, st⟩) := Lib.hid (Q3.out k ⟨r, st⟩ HZC.out (fun q9 h9 => by
            rcases linesU_at _ _ 0 0 k q9 (riseN_less (Nat.zero_le _) ATF.out.1) h9 with h | ⟨_, h2⟩
            · rw [h]; exact part_nilC l0 _
            · exfalso
              obtain ⟨_, _, c9, h5, h6⟩ := ATF.out.2.2 _ h2
              rw [Nat.zero_add, HZC.out] at h5
              injection h5 with h5
              rw [← h5] at h6
              exact HR.out h6))
          have CS : Hid (clsOf ((M1.drop k).take 1) = clsOf ((d.drop k).take 1)) := Lib.hid (by
            rw [clsOf_take, clsOf_drop, clsOf_take, clsOf_drop]
            apply List.ext_getElem?
            intro m
            rw [List.getElem?_take, List.getElem?_take, List.getElem?_drop, List.getElem?_drop]
            cases m with
            | zero => rw [Nat.add_zero, CE.out, HZC.out]
            | succ m => rw [if_neg (by clear hw2 hw2'; omega), if_neg (by clear hw2 hw2'; omega)])
          have CM := D_M1.out.cap
          have CD := D1.out.cap
          obtain ⟨A8, hA8⟩ : ∃ X, advS A7 c7 k 2 = X := ⟨_, rfl⟩
          obtain ⟨c8, hc8⟩ : ∃ X, c7 - k = X := ⟨_, rfl⟩
          obtain ⟨A10, hA10⟩ : ∃ X, advS A1 c1 k 2 = X := ⟨_, rfl⟩
          obtain ⟨c10, hc10⟩ : ∃ X, c1 - k = X := ⟨_, rfl⟩
          have sl1 : ∀ W, (Instr.slice 23 (.slice A7 nm c7) (some (.int .i64 (k : Int))) (some (.int .i64 ((k : Int) + 1))) none).run Tryz.prog W = .ok (.slice A8 1 c8) W := sl_one hA8 hc8 (by clear hw2 hw2'; omega)
          have sl2 : ∀ W, (Instr.slice 23 (.slice A1 nm c1) (some (.int .i64 (k : Int))) (some (.int .i64 ((k : Int) + 1))) none).run Tryz.prog W = .ok (.slice A10 1 c10) W := sl_one hA10 hc10 (by clear hw2 hw2'; omega)
          have DA : Hid (DocAt _ A8 1 c8 ((M1.drop k).take 1)) := Lib.hid ((D_M1.out.drop (n' := nm - k) hA8 (by clear hw2 hw2'; omega) rfl hc8).take (by clear hw2 hw2'; omega))
          have DB : Hid (DocAt _ A10 1 c10 ((d.drop k).take 1)) := Lib.hid ((D1.out.drop (n' := nm - k) hA10 (by clear hw2 hw2'; omega) rfl hc10).take (by clear hw2 hw2'; omega))
          clear hA8 hc8 hA10 hc10 CM CD
          go_wp2_with (fail)
          rw [← hA]
          clear hA z0
          go_region_held3 (fun w' => True) (go_keep) (first
            | (go_at_call 61
               with_reducible refine (sameD (DA.out.ext (up_drew (Below.refl _ _))) (DB.out.ext (up_drew (Below.refl _ _))) (decide_eq_true CS.out)).mono ?_
               rintro e wa ⟨rfl, ya⟩
               have YA : Hid (Below wr.heap.size wr wa) := Lib.hid (ext_trans (up_drew (Below.refl _ _)) ya)
               clear ya))
          have y := YA.out
          have HT := Lib.hid (Utf8Tabs_below HT.out y)
          have HS := Lib.hid (HS.out.ext y)
          have D1 := Lib.hid (D1.out.ext y)
          have Oxa := Lib.hid (fun h => (Oxa.out h).ext y)
          have Oxb := Lib.hid (fun h => (Oxb.out h).ext y)
          have D_M1 := Lib.hid (D_M1.out.ext y)
          replace hx := ext_trans hx y
          clear y YA DA DB sl1 sl2
          go_wp2_with (fail)
          go_roundg (nm - (k + 1))
          case measure => have := HG2.out; clear hw2 hw2'; omega
          case rel => exact ⟨k + 1, by clear hw2 hw2'; omega, rfl, by go_num, hx, D1, HS, HT, Oxa, Oxb, D_M1⟩
        have hlt' : ¬ ((k : Int) < (nm : Int)) := by omega
        go_wp2_with (fail)
        go_roundg (2 - (1 + 1))
        case measure => have := HG.out; omega
        case rel => exact ⟨1 + 1, by omega, rfl, rfl, hx, D1, HS, HT, Oxa, Oxb⟩
end Go.Proofs.YtfnkjcodcoehcaaGreatDoor
