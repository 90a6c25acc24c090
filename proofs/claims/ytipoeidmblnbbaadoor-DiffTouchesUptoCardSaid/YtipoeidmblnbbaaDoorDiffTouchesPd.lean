/- The walk of rubriclaw23.DiffTouches. Printed by wip/gen_difftouches.py. -/
import Derived.Test.YtipoeidmblnbbaaDoorKnown23Pd
import Derived.Test.YtipoeidmblnbbaaDoorGreat23Pd
namespace Go.Proofs.YtipoeidmblnbbaaDoor
open Go.RowKit
set_option linter.unusedVariables false
set_option linter.unusedSimpArgs false

set_option maxRecDepth 100000 in
set_option maxHeartbeats 6400000 in
theorem diffTouches_any (A0 A1 A2 : Option Addr) (n0 n1 n2 c0 c1 c2 : Nat) (l0 : List Ky) (d o : List ClS) (w : World)
    (e0 : n0 = l0.length) (e1 : n1 = d.length) (e2 : n2 = o.length) (r0 : RdKy w w.heap.size A0 l0) (r1 : RdCl w w.heap.size A1 d) (r2 : RdCl w w.heap.size A2 o) (b0 : n0 ≤ 1048576) (b1 : n1 ≤ 1048576) (b2 : n2 ≤ 1048576) (k1 : n1 ≤ c1) (k2 : n2 ≤ c2)
    (q1 : ∀ x ∈ d, x.c.s.length ≤ 100000000 ∧ okVr x.c.s) (q2 : ∀ x ∈ o, x.c.s.length ≤ 100000000 ∧ okVr x.c.s) (g1 : ∀ x ∈ d, x.c.s.length ≤ x.cs ∧ x.cs ≤ maxLen) (hT : Lib.Utf8Tabs 1 2 w) :
    Calls Tryd.prog 4 #[.slice A0 n0 c0, .slice A1 n1 c1, .slice A2 n2 c2] w fun e w' => e = .returned (.bool true) ∧ Below w.heap.size w w' := by
  have N0 := Lib.hid e0
  have N1 := Lib.hid e1
  have N2 := Lib.hid e2
  have R0 := Lib.hid r0
  have R1 := Lib.hid r1
  have R2 := Lib.hid r2
  have Q1 := Lib.hid q1
  have Q2 := Lib.hid q2
  have C1 := Lib.hid g1
  clear e0 e1 e2 r0 r1 r2 q1 q2 g1
  go_enter Tryd.func4, Tryd.ntmps4
  go_wp2_with (go_at_call 16; refine Hid.out ?_)
  refine Lib.hid ?_
  have ya := ext_alloc w (.cells #[.slice A1 n1 c1, .slice A2 n2 c2] 23)
  have ra : Rd DocS.enc 1 _ _ _ [⟨A1, n1, c1, d⟩, ⟨A2, n2, c2, o⟩] := Rd.new (enc := DocS.enc) (size := 1) DocS.enc_len w 23 [⟨A1, n1, c1, d⟩, ⟨A2, n2, c2, o⟩] (cs := #[.slice A1 n1 c1, .slice A2 n2 c2]) rfl rfl
  refine (great23_any A0 (some ⟨w.heap.size, 0, none⟩) n0 c0 2 2 [⟨A1, n1, c1, d⟩, ⟨A2, n2, c2, o⟩] _ rfl ra (by omega) (by omega) (fun x hx => by
    simp only [List.mem_cons, List.not_mem_nil, or_false] at hx
    rcases hx with rfl | rfl
    · exact ⟨N1.out, R1.out.ext ya, by simp only; omega, fun z hz => by have := (Q1.out z hz).1; omega⟩
    · exact ⟨N2.out, R2.out.ext ya, by simp only; omega, fun z hz => by have := (Q2.out z hz).1; omega⟩)).mono ?_
  rintro e w1 ⟨gb, rfl, h1, x1, rfl⟩
  have Y1 := Lib.hid (ext_trans ya (ext_drew _ x1))
  clear ya ra
  generalize World.drewN (w.alloc (.cells #[.slice A1 n1 c1, .slice A2 n2 c2] 23)) x1 = w1 at *
  cases gb with
  | true =>
    clear h1
    go_wp2_with (go_at_call 17; refine Hid.out ?_)
    refine Lib.hid ?_
    refine (known23_any _ (Utf8Tabs_below hT Y1.out)).mono ?_
    rintro e wk ⟨rfl, yk⟩
    have yy := ext_trans Y1.out yk
    go_wp2_with (fail)
    go_ret
    exact ⟨rfl, yy⟩
  | false =>
  have h2 := h1 rfl
  have G0 := Lib.hid h2.1
  have G1 : Hid (n1 ≤ 400 ∧ ∀ c ∈ d, c.c.s.length ≤ 64) := Lib.hid (h2.2 ⟨A1, n1, c1, d⟩ (by simp))
  have G2 : Hid (n2 ≤ 400 ∧ ∀ c ∈ o, c.c.s.length ≤ 64) := Lib.hid (h2.2 ⟨A2, n2, c2, o⟩ (by simp))
  clear h1 h2
  go_wp2_with (go_at_call 9; refine Hid.out ?_)
  refine Lib.hid ?_
  refine (new_any A0 n0 c0 l0 w1 N0.out (R0.out.ext Y1.out) (by omega)).mono ?_
  rintro e w3 ⟨y3, ⟨hm, s, rfl, hS⟩ | ⟨hm, rfl⟩⟩
  all_goals
    have Y3 := Lib.hid (ext_trans Y1.out y3)
    clear y3 hm
  rotate_left
  · skip
    go_wp2_with (go_at_call 17; refine Hid.out ?_)
    refine Lib.hid ?_
    refine (known23_any _ (Utf8Tabs_below hT Y3.out)).mono ?_
    rintro e wk ⟨rfl, yk⟩
    have yy := ext_trans Y3.out yk
    go_wp2_with (fail)
    go_ret
    exact ⟨rfl, yy⟩
  have HS := Lib.hid hS
  clear hS
  go_wp2_with (go_at_call 10; refine Hid.out ?_)
  refine Lib.hid ?_
  refine (mayCells_any s l0 A1 n1 c1 d w3 N1.out (R1.out.ext Y3.out) (by have := G1.out.1; omega) HS.out Q1.out (Utf8Tabs_below hT Y3.out)).mono ?_
  generalize hmd : mayD l0 (clsOf d) = md
  rintro e w4 ⟨rfl, y4⟩
  have Y4 := Lib.hid (ext_trans Y3.out y4)
  have HS4 := Lib.hid (HS.out.ext y4)
  clear y4
  by_cases hd : md = 0
  rotate_left
  · have hd' : (md == 0) = false := beq_eq_false_iff_ne.2 hd
    clear hmd
    go_wp2_with (go_at_call 17; refine Hid.out ?_)
    refine Lib.hid ?_
    refine (known23_any _ (Utf8Tabs_below hT Y4.out)).mono ?_
    rintro e wk ⟨rfl, yk⟩
    have yy := ext_trans Y4.out yk
    go_wp2_with (fail)
    go_ret
    exact ⟨rfl, yy⟩
  subst hd
  have MD := Lib.hid hmd
  clear hmd
  go_wp2_with (go_at_call 10; refine Hid.out ?_)
  refine Lib.hid ?_
  refine (mayCells_any s l0 A2 n2 c2 o w4 N2.out (R2.out.ext Y4.out) (by have := G2.out.1; omega) HS4.out Q2.out (Utf8Tabs_below hT Y4.out)).mono ?_
  generalize hmo : mayD l0 (clsOf o) = mo
  rintro e w5 ⟨rfl, y5⟩
  have Y5 := Lib.hid (ext_trans Y4.out y5)
  have HS := Lib.hid (HS4.out.ext y5)
  clear y5
  by_cases hd : mo = 0
  rotate_left
  · have hd' : (mo == 0) = false := beq_eq_false_iff_ne.2 hd
    clear hmo
    go_wp2_with (go_at_call 17; refine Hid.out ?_)
    refine Lib.hid ?_
    refine (known23_any _ (Utf8Tabs_below hT Y5.out)).mono ?_
    rintro e wk ⟨rfl, yk⟩
    have yy := ext_trans Y5.out yk
    go_wp2_with (fail)
    go_ret
    exact ⟨rfl, yy⟩
  subst hd
  have MO := Lib.hid hmo
  clear hmo HS4
  have DNE : Hid (clsOf d ≠ []) := Lib.hid (by obtain ⟨_, _, t, c, h, _⟩ := mayD_iff.1 MD.out; rw [h]; simp)
  have ENE : Hid (clsOf o ≠ []) := Lib.hid (by obtain ⟨_, _, t, c, h, _⟩ := mayD_iff.1 MO.out; rw [h]; simp)
  have LD : Hid ((clsOf d).length ≤ 1000000) := Lib.hid (by rw [clsOf_len, ← N1.out]; have := G1.out.1; omega)
  have LO : Hid ((clsOf o).length ≤ 1000000) := Lib.hid (by rw [clsOf_len, ← N2.out]; have := G2.out.1; omega)
  have P1 : 1 ≤ n1 := by have := List.length_pos_iff.2 DNE.out; rw [clsOf_len, ← N1.out] at this; omega
  have P2 : 1 ≤ n2 := by have := List.length_pos_iff.2 ENE.out; rw [clsOf_len, ← N2.out] at this; omega
  have B1 := G1.out.1
  have B2 := G2.out.1
  go_wp2_with (fail)
  go_loopg [9] n1 (fun g iv wr => ∃ i : Nat, i ≤ n1 - 1 ∧ i ≤ n2 - 1 ∧ g = n1 - i ∧ iv = .int .i64 (i : Int) ∧ Below w5.heap.size w5 wr ∧ Hid ((clsOf d).take i = (clsOf o).take i))
  case atStart => exact ⟨0, by omega, by omega, rfl, rfl, Below.refl _ _, Lib.hid rfl⟩
  case round =>
    obtain ⟨i, hi1, hi2, hg, rfl, y, HI⟩ := hrel
    have HG := Lib.hid hg
    clear hg
    have f1 : (i : Int) ≤ 1000000 := by omega
    have f2 : (n1 : Int) ≤ 1000000 := by omega
    have f3 : (n2 : Int) ≤ 1000000 := by omega
    have hwA := Lib.hid (IntWalk.i64_in ((n1 : Int) - 1) (by omega))
    have hwB := Lib.hid (w64_in ((n1 : Int) - 1) (by omega))
    have hwC := Lib.hid (IntWalk.i64_in ((n2 : Int) - 1) (by omega))
    have hwD := Lib.hid (w64_in ((n2 : Int) - 1) (by omega))
    have hwE := Lib.hid (IntWalk.i64_in ((i : Int) + 1) (by omega))
    have hwF := Lib.hid (w64_in ((i : Int) + 1) (by omega))
    by_cases hl1 : i < n1 - 1
    · have m1 : (i : Int) < (n1 : Int) - 1 := by omega
      have m1' : decide ((i : Int) < (n1 : Int) - 1) = true := decide_eq_true m1
      by_cases hl2 : i < n2 - 1
      · have m2 : (i : Int) < (n2 : Int) - 1 := by omega
        have hd1 : i < d.length := by have := N1.out; omega
        have hd2 : i < o.length := by have := N2.out; omega
        obtain ⟨x, hx⟩ : ∃ x, d[i]? = some x := ⟨d[i], by rw [List.getElem?_eq_getElem hd1]⟩
        obtain ⟨z, hz⟩ : ∃ x, o[i]? = some x := ⟨o[i], by rw [List.getElem?_eq_getElem hd2]⟩
        have hdx : (d.drop i).take 1 = [x] := by rw [List.drop_eq_getElem_cons hd1]; rw [List.getElem?_eq_getElem hd1] at hx; injection hx with hx; rw [hx]; rfl
        have hez : (o.drop i).take 1 = [z] := by rw [List.drop_eq_getElem_cons hd2]; rw [List.getElem?_eq_getElem hd2] at hz; injection hz with hz; rw [hz]; rfl
        obtain ⟨A8, hA8⟩ : ∃ X, advS A1 c1 i 2 = X := ⟨_, rfl⟩
        obtain ⟨B8, hB8⟩ : ∃ X, advS A2 c2 i 2 = X := ⟨_, rfl⟩
        obtain ⟨c8, hc8⟩ : ∃ X, c1 - i = X := ⟨_, rfl⟩
        obtain ⟨c9, hc9⟩ : ∃ X, c2 - i = X := ⟨_, rfl⟩
        have sl1 : ∀ W, (Instr.slice 23 (.slice A1 n1 c1) (some (.int .i64 (i : Int))) (some (.int .i64 ((i : Int) + 1))) none).run Tryd.prog W = .ok (.slice A8 1 c8) W := sl_one hA8 hc8 (by omega)
        have sl2 : ∀ W, (Instr.slice 23 (.slice A2 n2 c2) (some (.int .i64 (i : Int))) (some (.int .i64 ((i : Int) + 1))) none).run Tryd.prog W = .ok (.slice B8 1 c9) W := sl_one hB8 hc9 (by omega)
        have R8 : Hid (∀ v, Below w5.heap.size w5 v → RdCl v v.heap.size A8 [x]) := Lib.hid (fun v hv => by
          have := ((R1.out.ext (ext_trans Y5.out hv)).from hA8 (by have := N1.out; omega) (by have := N1.out; omega)).take 1
          rwa [hdx] at this)
        have R9 : Hid (∀ v, Below w5.heap.size w5 v → RdCl v v.heap.size B8 [z]) := Lib.hid (fun v hv => by
          have := ((R2.out.ext (ext_trans Y5.out hv)).from hB8 (by have := N2.out; omega) (by have := N2.out; omega)).take 1
          rwa [hez] at this)
        have SX := Lib.hid (G1.out.2 x (List.mem_of_getElem? hx))
        have SZ := Lib.hid (G2.out.2 z (List.mem_of_getElem? hz))
        have CX := Lib.hid (clsOf_at hx)
        have CZ := Lib.hid (clsOf_at hz)
        have Y := Lib.hid y
        clear hx hz hdx hez hA8 hB8 hc8 hc9 hd1 hd2 y
        generalize hs : decide (clsOf [x] = clsOf [z]) = S
        have HSM := Lib.hid hs
        clear hs
        have wA := hwA.out
        have wB := hwB.out
        have wC := hwC.out
        have wD := hwD.out
        have wE := hwE.out
        have wF := hwF.out
        go_wp2_with (fail)
        go_region_held3 (fun w' => True) (go_keep) (first
         | (go_at_call 11
            with_reducible refine (cellsSame_any A8 B8 1 1 c8 c9 [x] [z] wr.drew rfl rfl (R8.out _ (up_drew Y.out)) (R9.out _ (up_drew Y.out)) (by decide) (by decide) (fun q hq => by simp at hq; subst hq; have := SX.out; clear wA wB wC wD wE wF; omega) (fun q hq => by simp at hq; subst hq; have := SZ.out; clear wA wB wC wD wE wF; omega)).mono ?_
            rw [HSM.out]
            rintro r v8 ⟨rfl, y2⟩))
        have Y3' := Lib.hid (ext_trans Y.out (ext_trans (ext_drew wr 1) y2))
        clear wA wB wC wD wF
        cases S with
        | true =>
          have hxz : x.c = z.c := by have := of_decide_eq_true HSM.out; simpa [clsOf] using this
          have HI2 : Hid ((clsOf d).take (i + 1) = (clsOf o).take (i + 1)) := Lib.hid (by rw [List.take_add_one, List.take_add_one, HI.out, CX.out, CZ.out, hxz])
          go_wp2_with (fail)
          go_roundg (n1 - (i + 1))
          case measure => have := HG.out; clear wE; omega
          case rel => exact ⟨i + 1, by clear wE; omega, by clear wE; omega, rfl, by go_num, Y3'.out, HI2⟩
        | false =>
          have hxz : x.c ≠ z.c := by have := of_decide_eq_false HSM.out; simpa [clsOf] using this
          have HRI : Hid (begD (clsOf d) (clsOf o) = i) := Lib.hid (by
            unfold begD
            have hd : (clsOf d).drop i = x.c :: (clsOf d).drop (i + 1) := by
              obtain ⟨hl, hv⟩ := List.getElem?_eq_some_iff.1 CX.out
              rw [List.drop_eq_getElem_cons hl, hv]
            have he : (clsOf o).drop i = z.c :: (clsOf o).drop (i + 1) := by
              obtain ⟨hl, hv⟩ := List.getElem?_eq_some_iff.1 CZ.out
              rw [List.drop_eq_getElem_cons hl, hv]
            have hk := cpl_at i (clsOf d) (clsOf o) (by rw [clsOf_len]; have := N1.out; clear wE; omega) (by rw [clsOf_len]; have := N2.out; clear wE; omega) HI.out
            rw [hd, he, cpl_cons_ne hxz] at hk
            rw [hk, clsOf_len, clsOf_len, ← N1.out, ← N2.out]
            clear wE
            omega)
          have YS := Lib.hid Y3'.out
          have Y8 := Lib.hid (ext_trans Y5.out Y3'.out)
          clear wE CX CZ SX SZ R8 R9 sl1 sl2
          go_wp2_with (go_at_call 18; refine Hid.out ?_)
          refine Lib.hid ?_
          refine (cdiff_ok s l0 A1 A2 n1 n2 c1 c2 d o v8 N1.out N2.out (R1.out.ext Y8.out) (R2.out.ext Y8.out) k1 k2 (by have := G1.out.1; omega) (by have := G2.out.1; omega) (HS.out.ext YS.out) Q1.out Q2.out C1.out (Utf8Tabs_below hT Y8.out) MD.out MO.out).mono ?_
          rintro e v9 ⟨A9, c9, x9, rfl, o9, p9, s9, y9⟩
          have Y9 := Lib.hid (ext_trans Y8.out y9)
          have O9 := Lib.hid o9
          have P9 := Lib.hid p9
          clear y9 o9 p9 s9
          have LX : Hid (x9.length = (mkOps (diffM (clsOf d) (clsOf o))).length) := Lib.hid (by rw [← O9.out]; unfold osOf; simp)
          cases x9 with
          | nil =>
            go_wp2_with (go_at_call 17; refine Hid.out ?_)
            refine Lib.hid ?_
            refine (known23_any _ (Utf8Tabs_below hT Y9.out)).mono ?_
            rintro e wk ⟨rfl, yk⟩
            have yy := ext_trans Y9.out yk
            go_wp2_with (fail)
            go_ret
            exact ⟨rfl, yy⟩
          | cons x xs =>
            have hl0 : ¬ (((x :: xs).length : Int) = 0) := by simp; omega
            have hl1 : 0 < (x :: xs).length := by simp
            by_cases hi0 : i = 0
            · subst hi0
              generalize hlx : (x :: xs).length = lx at *
              go_wp2_with (go_at_call 17; refine Hid.out ?_)
              refine Lib.hid ?_
              refine (known23_any _ (Utf8Tabs_below hT Y9.out)).mono ?_
              rintro e wk ⟨rfl, yk⟩
              have yy := ext_trans Y9.out yk
              go_wp2_with (fail)
              go_ret
              exact ⟨rfl, yy⟩
            · have hi1 : ¬ ((i : Int) = 0) := by omega
              have TT := Lib.hid (diff_touches DNE.out ENE.out LD.out LO.out (by rw [HRI.out]; omega) (fun h => by have := LX.out; rw [h] at this; simp at this))
              obtain ⟨oo, tt, e1, e2, e3, e4⟩ := TT.out
              have hxo : x.o = oo := by have h := O9.out; rw [e1] at h; unfold osOf at h; simp only [List.map_cons, List.cons.injEq] at h; exact h.1
              obtain ⟨g, cur, hA, _, _, _, _, _, _, _⟩ := P9.out.row (by simp)
              subst hA
              obtain ⟨ad1, hA1, _, hc1⟩ := (P9.out.rd OpS.enc_len).at_ (i := 0) (by simp)
              injection hA1 with hA1; subst hA1
              rw [add_row] at hc1
              simp only [List.getElem_cons_zero, Nat.zero_mul] at hc1
              obtain ⟨⟨kx, nx, rx, sx, px⟩, Arx, crx, Asx, csx, Apx, cpx⟩ := x
              simp only at hxo
              rw [← hxo] at e2 e3 e4
              simp only at e2 e3 e4
              subst e2 e3
              rw [HRI.out] at e4
              obtain ⟨f0, f1, f2, f3, f4⟩ := op_cells hc1
              have hge : (i : Int) ≤ nx := e4
              clear TT e1 hxo hc1 LX O9 P9
              generalize hlx : (_ :: xs).length = lx at *
              have hb0 : ((lx : Int) == 0) = false := beq_eq_false_iff_ne.2 hl0
              have hb1 : ((i : Int) == 0) = false := beq_eq_false_iff_ne.2 hi1
              go_wp2_with (go_at_call 17; refine Hid.out ?_)
              refine Lib.hid ?_
              refine (known23_any _ (Utf8Tabs_below hT Y9.out)).mono ?_
              rintro e wk ⟨rfl, yk⟩
              have yy := ext_trans Y9.out yk
              go_wp2_with (fail)
              go_ret
              exact ⟨rfl, yy⟩
      · have m2 : (n2 : Int) - 1 ≤ (i : Int) := by omega
        have m2' : decide ((i : Int) < (n2 : Int) - 1) = false := decide_eq_false (by omega)
        have HRI : Hid (begD (clsOf d) (clsOf o) = i) := Lib.hid (by
          unfold begD
          have hk := cpl_at i (clsOf d) (clsOf o) (by rw [clsOf_len]; have := N1.out; omega) (by rw [clsOf_len]; have := N2.out; omega) HI.out
          rw [hk, clsOf_len, clsOf_len, ← N1.out, ← N2.out]
          omega)
        have wA := hwA.out
        have wB := hwB.out
        have wC := hwC.out
        have wD := hwD.out
        go_wp2_with (fail)
        go_quiet (fail)
        clear wA wB wC wD
        have YS := Lib.hid (ext_trans y (ext_drew _ nq))
        have Y8 := Lib.hid (ext_trans Y5.out YS.out)
        generalize World.drewN wr nq = v8 at *
        go_wp2_with (go_at_call 18; refine Hid.out ?_)
        refine Lib.hid ?_
        refine (cdiff_ok s l0 A1 A2 n1 n2 c1 c2 d o v8 N1.out N2.out (R1.out.ext Y8.out) (R2.out.ext Y8.out) k1 k2 (by have := G1.out.1; omega) (by have := G2.out.1; omega) (HS.out.ext YS.out) Q1.out Q2.out C1.out (Utf8Tabs_below hT Y8.out) MD.out MO.out).mono ?_
        rintro e v9 ⟨A9, c9, x9, rfl, o9, p9, s9, y9⟩
        have Y9 := Lib.hid (ext_trans Y8.out y9)
        have O9 := Lib.hid o9
        have P9 := Lib.hid p9
        clear y9 o9 p9 s9
        have LX : Hid (x9.length = (mkOps (diffM (clsOf d) (clsOf o))).length) := Lib.hid (by rw [← O9.out]; unfold osOf; simp)
        cases x9 with
        | nil =>
          go_wp2_with (go_at_call 17; refine Hid.out ?_)
          refine Lib.hid ?_
          refine (known23_any _ (Utf8Tabs_below hT Y9.out)).mono ?_
          rintro e wk ⟨rfl, yk⟩
          have yy := ext_trans Y9.out yk
          go_wp2_with (fail)
          go_ret
          exact ⟨rfl, yy⟩
        | cons x xs =>
          have hl0 : ¬ (((x :: xs).length : Int) = 0) := by simp; omega
          have hl1 : 0 < (x :: xs).length := by simp
          by_cases hi0 : i = 0
          · subst hi0
            generalize hlx : (x :: xs).length = lx at *
            go_wp2_with (go_at_call 17; refine Hid.out ?_)
            refine Lib.hid ?_
            refine (known23_any _ (Utf8Tabs_below hT Y9.out)).mono ?_
            rintro e wk ⟨rfl, yk⟩
            have yy := ext_trans Y9.out yk
            go_wp2_with (fail)
            go_ret
            exact ⟨rfl, yy⟩
          · have hi1 : ¬ ((i : Int) = 0) := by omega
            have TT := Lib.hid (diff_touches DNE.out ENE.out LD.out LO.out (by rw [HRI.out]; omega) (fun h => by have := LX.out; rw [h] at this; simp at this))
            obtain ⟨oo, tt, e1, e2, e3, e4⟩ := TT.out
            have hxo : x.o = oo := by have h := O9.out; rw [e1] at h; unfold osOf at h; simp only [List.map_cons, List.cons.injEq] at h; exact h.1
            obtain ⟨g, cur, hA, _, _, _, _, _, _, _⟩ := P9.out.row (by simp)
            subst hA
            obtain ⟨ad1, hA1, _, hc1⟩ := (P9.out.rd OpS.enc_len).at_ (i := 0) (by simp)
            injection hA1 with hA1; subst hA1
            rw [add_row] at hc1
            simp only [List.getElem_cons_zero, Nat.zero_mul] at hc1
            obtain ⟨⟨kx, nx, rx, sx, px⟩, Arx, crx, Asx, csx, Apx, cpx⟩ := x
            simp only at hxo
            rw [← hxo] at e2 e3 e4
            simp only at e2 e3 e4
            subst e2 e3
            rw [HRI.out] at e4
            obtain ⟨f0, f1, f2, f3, f4⟩ := op_cells hc1
            have hge : (i : Int) ≤ nx := e4
            clear TT e1 hxo hc1 LX O9 P9
            generalize hlx : (_ :: xs).length = lx at *
            have hb0 : ((lx : Int) == 0) = false := beq_eq_false_iff_ne.2 hl0
            have hb1 : ((i : Int) == 0) = false := beq_eq_false_iff_ne.2 hi1
            go_wp2_with (go_at_call 17; refine Hid.out ?_)
            refine Lib.hid ?_
            refine (known23_any _ (Utf8Tabs_below hT Y9.out)).mono ?_
            rintro e wk ⟨rfl, yk⟩
            have yy := ext_trans Y9.out yk
            go_wp2_with (fail)
            go_ret
            exact ⟨rfl, yy⟩
    · have m1 : (n1 : Int) - 1 ≤ (i : Int) := by omega
      have m1' : decide ((i : Int) < (n1 : Int) - 1) = false := decide_eq_false (by omega)
      have HRI : Hid (begD (clsOf d) (clsOf o) = i) := Lib.hid (by
        unfold begD
        have hk := cpl_at i (clsOf d) (clsOf o) (by rw [clsOf_len]; have := N1.out; omega) (by rw [clsOf_len]; have := N2.out; omega) HI.out
        rw [hk, clsOf_len, clsOf_len, ← N1.out, ← N2.out]
        omega)
      have wA := hwA.out
      have wB := hwB.out
      go_wp2_with (fail)
      go_quiet (fail)
      clear wA wB
      have YS := Lib.hid (ext_trans y (ext_drew _ nq))
      have Y8 := Lib.hid (ext_trans Y5.out YS.out)
      generalize World.drewN wr nq = v8 at *
      go_wp2_with (go_at_call 18; refine Hid.out ?_)
      refine Lib.hid ?_
      refine (cdiff_ok s l0 A1 A2 n1 n2 c1 c2 d o v8 N1.out N2.out (R1.out.ext Y8.out) (R2.out.ext Y8.out) k1 k2 (by have := G1.out.1; omega) (by have := G2.out.1; omega) (HS.out.ext YS.out) Q1.out Q2.out C1.out (Utf8Tabs_below hT Y8.out) MD.out MO.out).mono ?_
      rintro e v9 ⟨A9, c9, x9, rfl, o9, p9, s9, y9⟩
      have Y9 := Lib.hid (ext_trans Y8.out y9)
      have O9 := Lib.hid o9
      have P9 := Lib.hid p9
      clear y9 o9 p9 s9
      have LX : Hid (x9.length = (mkOps (diffM (clsOf d) (clsOf o))).length) := Lib.hid (by rw [← O9.out]; unfold osOf; simp)
      cases x9 with
      | nil =>
        go_wp2_with (go_at_call 17; refine Hid.out ?_)
        refine Lib.hid ?_
        refine (known23_any _ (Utf8Tabs_below hT Y9.out)).mono ?_
        rintro e wk ⟨rfl, yk⟩
        have yy := ext_trans Y9.out yk
        go_wp2_with (fail)
        go_ret
        exact ⟨rfl, yy⟩
      | cons x xs =>
        have hl0 : ¬ (((x :: xs).length : Int) = 0) := by simp; omega
        have hl1 : 0 < (x :: xs).length := by simp
        by_cases hi0 : i = 0
        · subst hi0
          generalize hlx : (x :: xs).length = lx at *
          go_wp2_with (go_at_call 17; refine Hid.out ?_)
          refine Lib.hid ?_
          refine (known23_any _ (Utf8Tabs_below hT Y9.out)).mono ?_
          rintro e wk ⟨rfl, yk⟩
          have yy := ext_trans Y9.out yk
          go_wp2_with (fail)
          go_ret
          exact ⟨rfl, yy⟩
        · have hi1 : ¬ ((i : Int) = 0) := by omega
          have TT := Lib.hid (diff_touches DNE.out ENE.out LD.out LO.out (by rw [HRI.out]; omega) (fun h => by have := LX.out; rw [h] at this; simp at this))
          obtain ⟨oo, tt, e1, e2, e3, e4⟩ := TT.out
          have hxo : x.o = oo := by have h := O9.out; rw [e1] at h; unfold osOf at h; simp only [List.map_cons, List.cons.injEq] at h; exact h.1
          obtain ⟨g, cur, hA, _, _, _, _, _, _, _⟩ := P9.out.row (by simp)
          subst hA
          obtain ⟨ad1, hA1, _, hc1⟩ := (P9.out.rd OpS.enc_len).at_ (i := 0) (by simp)
          injection hA1 with hA1; subst hA1
          rw [add_row] at hc1
          simp only [List.getElem_cons_zero, Nat.zero_mul] at hc1
          obtain ⟨⟨kx, nx, rx, sx, px⟩, Arx, crx, Asx, csx, Apx, cpx⟩ := x
          simp only at hxo
          rw [← hxo] at e2 e3 e4
          simp only at e2 e3 e4
          subst e2 e3
          rw [HRI.out] at e4
          obtain ⟨f0, f1, f2, f3, f4⟩ := op_cells hc1
          have hge : (i : Int) ≤ nx := e4
          clear TT e1 hxo hc1 LX O9 P9
          generalize hlx : (_ :: xs).length = lx at *
          have hb0 : ((lx : Int) == 0) = false := beq_eq_false_iff_ne.2 hl0
          have hb1 : ((i : Int) == 0) = false := beq_eq_false_iff_ne.2 hi1
          go_wp2_with (go_at_call 17; refine Hid.out ?_)
          refine Lib.hid ?_
          refine (known23_any _ (Utf8Tabs_below hT Y9.out)).mono ?_
          rintro e wk ⟨rfl, yk⟩
          have yy := ext_trans Y9.out yk
          go_wp2_with (fail)
          go_ret
          exact ⟨rfl, yy⟩
end Go.Proofs.YtipoeidmblnbbaaDoor
