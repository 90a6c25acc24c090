/- Merged texts: Tran22F. -/
import Derived.Test.YtfnkjcodcoehcaaGreatDoorV21
namespace Go.Proofs.YtfnkjcodcoehcaaGreatDoor
open Go.RowKit Go.MapKept
set_option linter.unusedVariables false
set_option linter.unusedSimpArgs false

set_option maxRecDepth 100000 in
set_option maxHeartbeats 40000000 in
theorem tran22_false {w : World} {A B : Option Addr} {n c k d : Nat} {l : List Ky} {x y : List OpS} (h1 : OpsC w A n c x) (h2 : OpsC w B k d y) (m1 : mayO l x = 0) (m2 : mayO l y = 0) (z1 : szN x ≤ 100000) (z2 : szN y ≤ 100000) (u1 : (units (osOf x)).length ≤ 100000) (u2 : (units (osOf y)).length ≤ 100000) :
  Calls Tryz.prog 52 #[.slice A n c, .slice B k d, .bool false] w (NewOps (mkU (traU false (nf (units (osOf x))) (nf (units (osOf y))))) w) := by
 have H1 := Lib.hid h1
 have H2 := Lib.hid h2
 have M1 := Lib.hid m1
 have M2 := Lib.hid m2
 have Z1 := Lib.hid z1
 have Z2 := Lib.hid z2
 have B1 : Hid (∀ o ∈ x, o.o.s.length ≤ 1000 ∧ o.o.p.length ≤ 1000) := Lib.hid (fun o ho => by have h := one_facts ((mayO_zero m1).1 o ho); have := (mayS_zero h.2.2.2.1).1; have := (mayP_zero h.2.2.2.2).1; omega)
 have B2 : Hid (∀ o ∈ y, o.o.s.length ≤ 1000 ∧ o.o.p.length ≤ 1000) := Lib.hid (fun o ho => by have h := one_facts ((mayO_zero m2).1 o ho); have := (mayS_zero h.2.2.2.1).1; have := (mayP_zero h.2.2.2.2).1; omega)
 have U1 : Hid ((nf (units (osOf x))).length ≤ 100000) := Lib.hid (Nat.le_trans (nf_len _) u1)
 have U2 : Hid ((nf (units (osOf y))).length ≤ 100000) := Lib.hid (Nat.le_trans (nf_len _) u2)
 clear h1 h2 m1 m2 z1 z2 u1 u2
 go_enter Tryz.func52, Tryz.ntmps52
 go_wp2_with (go_at_call 122; refine Hid.out ?_)
 refine Lib.hid ?_
 refine (planned_any H1.out M1.out (by have := Z1.out; omega)).mono ?_
 rintro e w1 ⟨iI, iG, iP, A1, c1, P, rfl, hP, oP, pP, y1⟩
 have OP := Lib.hid oP
 have PP := Lib.hid pP
 have HP := Lib.hid hP
 have H2 := Lib.hid (H2.out.ext y1)
 clear oP pP hP
 go_wp2_with (go_at_call 122; refine Hid.out ?_)
 refine Lib.hid ?_
 refine (planned_any H2.out M2.out (by have := Z2.out; omega)).mono ?_
 rintro e w2 ⟨jI, jG, jP, A2, c2, Q, rfl, hQ, oQ, pQ, y2⟩
 obtain ⟨NP, hNP⟩ : ∃ X, X = takPl P := ⟨_, rfl⟩
 obtain ⟨NQ, hNQ⟩ : ∃ X, X = takPl Q := ⟨_, rfl⟩
 rw [← hNP, ← hNQ]
 have HNP := Lib.hid hNP
 have HNQ := Lib.hid hNQ
 have q1 := ext_alloc w2 (.cells #[.int .i64 (NP : Int), .map (some iI), .map (some iG), .map (some iP)] 161)
 have q2 := ext_alloc (w2.alloc (.cells #[.int .i64 (NP : Int), .map (some iI), .map (some iG), .map (some iP)] 161)) (.cells #[.int .i64 (NQ : Int), .map (some jI), .map (some jG), .map (some jP)] 161)
 have hbp := heap_alloc_new w2 (.cells #[.int .i64 (NP : Int), .map (some iI), .map (some iG), .map (some iP)] 161)
 have hbq := heap_alloc_new (w2.alloc (.cells #[.int .i64 (NP : Int), .map (some iI), .map (some iG), .map (some iP)] 161)) (.cells #[.int .i64 (NQ : Int), .map (some jI), .map (some jG), .map (some jP)] 161)
 have hbp2 := (q2.block _ (lt_of_some hbp)).trans hbp
 have sz2 : (w2.alloc (.cells #[.int .i64 (NP : Int), .map (some iI), .map (some iG), .map (some iP)] 161)).heap.size = w2.heap.size + 1 := by simp
 rw [sz2] at hbq
 have q12 := ext_trans q1 q2
 have OP := Lib.hid (OP.out.ext (ext_trans y2 q12))
 have PP := Lib.hid (PP.out.ext (ext_trans y2 q12))
 have OQ := Lib.hid (oQ.ext q12)
 have PQ := Lib.hid (pQ.ext q12)
 have HQ := Lib.hid hQ
 have HBP := Lib.hid hbp2
 have HBQ := Lib.hid hbq
 have YW := Lib.hid (ext_trans y1 (ext_trans y2 q12))
 clear hNP hNQ q1 q2 hbp hbq hbp2 sz2 q12 oQ pQ hQ y1 y2
 go_wp2_with (fail)
 generalize hwb : (w2.alloc (.cells #[.int .i64 (NP : Int), .map (some iI), .map (some iG), .map (some iP)] 161)).alloc (.cells #[.int .i64 (NQ : Int), .map (some jI), .map (some jG), .map (some jP)] 161) = wB at *
 clear hwb H1 H2
 have UP : Hid ((units (osOf P)).length ≤ 100000) := Lib.hid (by rw [mkU_units HP.out]; exact U1.out)
 have UQ : Hid ((units (osOf Q)).length ≤ 100000) := Lib.hid (by rw [mkU_units HQ.out]; exact U2.out)
 have BP : Hid (OpsB 1000 P) := Lib.hid (fun z hz => ⟨mkU_isOp HP.out z hz, plan_bnd B1.out HP.out z hz⟩)
 have BQ : Hid (OpsB 1000 Q) := Lib.hid (fun z hz => ⟨mkU_isOp HQ.out z hz, plan_bnd B2.out HQ.out z hz⟩)
 have LP : Hid (NP ≤ 100000) := Lib.hid (by rw [HNP.out, takPl_units]; have := takes_le_len (units (osOf P)); have := UP.out; omega)
 have LQ : Hid (NQ ≤ 100000) := Lib.hid (by rw [HNQ.out, takPl_units]; have := takes_le_len (units (osOf Q)); have := UQ.out; omega)
 have FQ : Hid (∀ z ∈ Q, PartF wB (fun _ => False) z) := Lib.hid (fun z hz => part_of OQ.out.at_.rd hz)
 have PR : Hid (∀ z ∈ P, RdCh wB wB.heap.size z.Ap z.o.p) := Lib.hid (fun z hz => (OP.out.at_.rd.2 z hz).2.2)
 have QR : Hid (∀ z ∈ Q, RdCh wB wB.heap.size z.Ap z.o.p) := Lib.hid (fun z hz => (OQ.out.at_.rd.2 z hz).2.2)
 obtain ⟨kI, kG, kP, pm1, pm2, pm3, pm4, pm5, pm6⟩ := PP.out
 obtain ⟨lI, lG, lP, qm1, qm2, qm3, qm4, qm5, qm6⟩ := PQ.out
 have PM1 := Lib.hid pm1
 have PM2 := Lib.hid pm2
 have PM3 := Lib.hid pm3
 have PM4 := Lib.hid pm4
 have PM5 := Lib.hid pm5
 have PM6 := Lib.hid pm6
 have QM1 := Lib.hid qm1
 have QM2 := Lib.hid qm2
 have QM3 := Lib.hid qm3
 have QM4 := Lib.hid qm4
 have QM5 := Lib.hid qm5
 have QM6 := Lib.hid qm6
 clear pm1 pm2 pm3 pm4 pm5 pm6 qm1 qm2 qm3 qm4 qm5 qm6 PP PQ
 go_loopg [9, 10] NQ (fun gh ov iv wr => ∃ (g : Nat) (D : List OpS), g ≤ NQ ∧ gh = NQ - g ∧ iv = .int .i64 (g : Int) ∧ RowF wr (fun _ => False) wB.heap.size ov D ∧ Hid (TranI false P Q D g) ∧ Hid (OpsB 1000 D) ∧ Below wB.heap.size wB wr)
 case atStart => exact ⟨0, [], Nat.zero_le _, rfl, rfl, RowF.nil _ _ _, Lib.hid (TranI.new _ _ _), Lib.hid (OpsB.nil _), Below.refl _ _⟩
 case round =>
  obtain ⟨g, D, hg, hgh, rfl, hrow, TI, BD, y⟩ := hrel
  have HG := Lib.hid hgh
  have RW := Lib.hid hrow
  clear hgh hrow
  obtain ⟨p0, p1, p2, p3⟩ := box_v ((y.block _ (lt_of_some HBP.out)).trans HBP.out)
  obtain ⟨q0, q1, q2, q3⟩ := box_v ((y.block _ (lt_of_some HBQ.out)).trans HBQ.out)
  have hw2 : IntKind.i64.wrap ((g:Int) + 1) = (g : Int) + 1 := IntWalk.i64_in _ (by have := LQ.out; omega)
  have hgq0 : (g : Int) ≤ (NQ : Int) := by omega
  by_cases hgp0 : (g : Int) ≤ (NP : Int)
  ·have hgp : (g : Int) ≤ (NP : Int) := hgp0
   obtain ⟨wo, hwo⟩ : ∃ X, X = wr := ⟨_, rfl⟩
   subst hwo
   obtain ⟨A3, n3, c3, eI, nI, cI1, cI2, rI⟩ := PM4.out g
   obtain ⟨A4, n4, c4, eJ, nJ, cJ1, cJ2, rJ⟩ := QM4.out g
   have EI := Lib.hid eI
   have EJ := Lib.hid eJ
   have NI := Lib.hid nI
   have NJ := Lib.hid nJ
   have RI := Lib.hid rI
   have RJ := Lib.hid rJ
   obtain ⟨S, hS⟩ : ∃ X, X = skO P g := ⟨_, rfl⟩
   have HS := Lib.hid hS
   have SM : Hid (((insPl P g).map (fun z => z.o.r.length)).sum = S) := Lib.hid (by rw [hS]; exact (ins_count _ insPl_kind).symm)
   have LS : Hid (S ≤ 100000) := Lib.hid (by rw [hS]; exact Nat.le_trans (skO_len _ _) UP.out)
   have LI : Hid (n3 ≤ 1000000) := Lib.hid (by rw [nI]; exact Nat.le_trans (insPl_len _ _) OP.out.at_.b)
   have LJ : Hid ((insPl Q g).length ≤ 1000000) := Lib.hid (Nat.le_trans (insPl_len _ _) OQ.out.at_.b)
   have LD : Hid (D.length ≤ 400000) := Lib.hid (by have := row_cap RW.out BD.out (K := 200000) (by have h1 := TI.out.len; have := UP.out; have := UQ.out; omega); omega)
   have YO := Lib.hid y
   clear eI eJ nI nJ rI rJ cI1 cI2 cJ1 cJ2 hS
   go_wp2_with (fail)
   go_loopg [11, 12] n3 (fun gh sv iv wi => ∃ (m : Nat), m ≤ n3 ∧ gh = n3 - m ∧ sv = .int .i64 ((((insPl P g).take m).map (fun z => z.o.r.length)).sum : Nat) ∧ iv = .int .i64 (m : Int) ∧ wi = wo)
   case atStart => exact ⟨0, Nat.zero_le _, rfl, by rw [List.take_zero]; rfl, rfl, rfl⟩
   case round =>
    obtain ⟨m, hm, hg2, rfl, rfl, hwr⟩ := hrel
    have hwr2 := hwr.symm
    clear hwr
    subst hwr2
    have HG2 := Lib.hid hg2
    clear hg2
    by_cases hlm : (m : Int) < (n3 : Int)
    ·obtain ⟨ad, z, rfl, -, hz, hc⟩ := (RI.out.ext YO.out).elIn (i := m) (by have := NI.out; omega)
     have ST := Lib.hid (sum_take hz)
     have SL := Lib.hid (sum_le (insPl P g) (m + 1))
     obtain ⟨⟨kz, nz, rz, sz, pz⟩, Arz, crz, Asz, csz, Apz, cpz⟩ := z
     obtain ⟨r0, r1, r2, r3, r4⟩ := op_cells hc.2
     obtain ⟨s0, hs0⟩ : ∃ X, X = (((insPl P g).take m).map (fun z => z.o.r.length)).sum := ⟨_, rfl⟩
     rw [← hs0] at ST ⊢
     have hb : s0 + rz.length ≤ 100000 := by have h1 := ST.out; have h2 := SL.out; have h3 := SM.out; have h4 := LS.out; simp only at h1; omega
     have hw5 : IntKind.i64.wrap ((s0:Int) + (rz.length : Int)) = ((s0 + rz.length : Nat) : Int) := by rw [IntWalk.i64_in _ (by omega)]; omega
     have hw6 : IntKind.i64.wrap ((m:Int) + 1) = (m : Int) + 1 := IntWalk.i64_in _ (by have := LI.out; omega)
     clear hc hz hs0 hb
     go_wp2_with (first | (at_lookup; refine lkO EI PM1 (YO) rfl _ _ rfl rfl rfl ?_))
     go_roundg (n3 - (m + 1))
     case measure => have := HG2.out; omega
     case rel => exact ⟨m + 1, by omega, rfl, by rw [ST.out, Int.natCast_add], by go_num, rfl⟩
    ·have hmn : m = n3 := by omega
     have hsum : (((insPl P g).take m).map (fun z => z.o.r.length)).sum = S := by rw [hmn, NI.out, List.take_length]; exact SM.out
     rw [hsum]
     clear hsum hmn
     by_cases hS0 : 0 < S
     ·have hSi : (0 : Int) < (S : Int) := by omega
      have VPQ : Hid ((findV lP (g : Int)).getD (.slice none 0 0) = patV (celPl Q g)) := Lib.hid (QM6.out g)
      by_cases hpg : isGone (celPl P g)
      ·have PG := Lib.hid hpg
       have VGP : Hid ((findV kG (g : Int)).getD (.int .i64 0) = .int .i64 1) := Lib.hid (by rw [PM5.out g]; exact goneV_pos hpg)
       have VPP : Hid ((findV kP (g : Int)).getD (.slice none 0 0) = patV (celPl P g)) := Lib.hid (by rw [PM6.out g])
       clear hpg
       by_cases hgq : g < NQ
       ·have hgq2 : ¬ ((NQ : Int) ≤ (g : Int)) := by omega
        obtain ⟨zq, hzq, hzm, hz2⟩ := celPl_there Q g (by have := HNQ.out; omega)
        have ZQ := Lib.hid hzq
        have ZM := Lib.hid hzm
        have Z2 := Lib.hid hz2
        have hgone := goneV_neg (c := celPl Q g)
        clear hgone hzm hz2
        have VGQ : Hid ((findV lG (g : Int)).getD (.int .i64 0) = goneV (celPl Q g)) := Lib.hid (QM5.out g)
        clear hzq
        go_wp2_with (first
         | (at_lookup; refine lkO EI PM1 (by first | exact Y2 | exact Y1 | exact YO) rfl _ _ rfl rfl rfl ?_)
         | (at_lookup; refine lkO EJ QM1 (by first | exact Y2 | exact Y1 | exact YO) rfl _ _ rfl rfl rfl ?_)
         | (at_lookup; refine lkN VGP PM2 (by first | exact Y2 | exact Y1 | exact YO) rfl _ _ rfl rfl rfl ?_)
         | (at_lookup; refine lkN VGQ QM2 (by first | exact Y2 | exact Y1 | exact YO) rfl _ _ rfl rfl rfl ?_)
         | (at_lookup; refine lkC VPQ QM3 (by first | exact Y2 | exact Y1 | exact YO) rfl _ _ rfl rfl rfl ?_)
         | (at_lookup; refine lkC VPP PM3 (by first | exact Y2 | exact Y1 | exact YO) rfl _ _ rfl rfl rfl ?_)
         | (at_builtin; refine app_os (l := D) (m := insPl Q g) rfl (.tmp 60) (.tmp 64) rfl rfl RW.out.own _ A4 c4 n4 rfl NJ.out (RJ.out.ext YO.out) (by have := LD.out; have := LJ.out; (try simp only [List.length_append, List.length_singleton, List.length_nil]); omega) (by exact YO.out.size) ?_; intro v1 w1 ho hgr hv; have RR := push_many RW.out YO.out (Below.refl _ _) (fun z hz => FQ.out z (insPl_mem Q g z hz).1) ho hgr hv; have RW1 := Lib.hid RR.1; have Y1 := Lib.hid RR.2; clear ho hgr hv RR; clear p0 p1 p2 p3 q0 q1 q2 q3; obtain ⟨p0, p1, p2, p3⟩ := box_y Y1 (lt_of_some HBP.out) HBP; obtain ⟨q0, q1, q2, q3⟩ := box_y Y1 (lt_of_some HBQ.out) HBQ)
         | (at_builtin; refine app_os (l := (D ++ insPl Q g)) (m := [(⟨opR (S : Int) [], none, 0, none, 0, none, 0⟩ : OpS)]) rfl (.tmp 72) (.tmp 75) rfl rfl (RW1.out.own.below (ext_alloc w1 _) (Nat.le_refl _)) _ _ 1 1 rfl rfl (rd_one_at (enc := OpS.enc) (size := 5) _ _ _ rfl rfl) (by have := LD.out; have := LJ.out; (try simp only [List.length_append, List.length_singleton, List.length_nil]); omega) (by exact Nat.le_trans Y1.out.size (le_alloc _ _)) ?_; intro v2 w2 ho hgr hv; have RR := push_bare RW1.out Y1.out rfl rfl rfl ho hgr hv; have RW2 := Lib.hid RR.1; have Y2 := Lib.hid RR.2; clear ho hgr hv RR; clear p0 p1 p2 p3 q0 q1 q2 q3; obtain ⟨p0, p1, p2, p3⟩ := box_y Y2 (lt_of_some HBP.out) HBP; obtain ⟨q0, q1, q2, q3⟩ := box_y Y2 (lt_of_some HBQ.out) HBQ))
        have hM : units (osOf (insPl Q g ++ [(⟨opR (S : Int) [], none, 0, none, 0, none, 0⟩ : OpS)])) = gapM false P Q g ++ pastCell false ((celPl P g).map cel1) (cel1 zq) := by
         rw [past_pos _ _ PG.out, List.append_nil]
         unfold gapM; simp only [Bool.false_eq_true, if_false, ← HS.out]
         try simp only [units_app, units_oneS, unitsO_sk, opR1_units, opD1_units]
         try simp [rets, List.append_assoc]
        go_roundg (NQ - (g + 1))
        case measure => have := HG.out; omega
        case rel => exact ⟨g + 1, _, by omega, rfl, by go_num, RW2.out, Lib.hid (by have h := TI.out.cell ZQ.out hM; simpa only [List.append_assoc] using h), Lib.hid (((BD.out).app (OpsB.ins BQ.out g)).app (OpsB.ret (by have := hS0; omega) (Nat.zero_le _))), Y2.out⟩
       ·have hgq2 : (NQ : Int) ≤ (g : Int) := by omega
        have ZN : Hid (celPl Q g = none) := Lib.hid (celPl_past Q g (by have := HNQ.out; omega))
        have VGQ : Hid ((findV lG (g : Int)).getD (.int .i64 0) = goneV (celPl Q g)) := Lib.hid (QM5.out g)
        go_wp2_with (first
         | (at_lookup; refine lkO EI PM1 (by first | exact Y2 | exact Y1 | exact YO) rfl _ _ rfl rfl rfl ?_)
         | (at_lookup; refine lkO EJ QM1 (by first | exact Y2 | exact Y1 | exact YO) rfl _ _ rfl rfl rfl ?_)
         | (at_lookup; refine lkN VGP PM2 (by first | exact Y2 | exact Y1 | exact YO) rfl _ _ rfl rfl rfl ?_)
         | (at_lookup; refine lkN VGQ QM2 (by first | exact Y2 | exact Y1 | exact YO) rfl _ _ rfl rfl rfl ?_)
         | (at_lookup; refine lkC VPQ QM3 (by first | exact Y2 | exact Y1 | exact YO) rfl _ _ rfl rfl rfl ?_)
         | (at_lookup; refine lkC VPP PM3 (by first | exact Y2 | exact Y1 | exact YO) rfl _ _ rfl rfl rfl ?_)
         | (at_builtin; refine app_os (l := D) (m := insPl Q g) rfl (.tmp 60) (.tmp 64) rfl rfl RW.out.own _ A4 c4 n4 rfl NJ.out (RJ.out.ext YO.out) (by have := LD.out; have := LJ.out; (try simp only [List.length_append, List.length_singleton, List.length_nil]); omega) (by exact YO.out.size) ?_; intro v1 w1 ho hgr hv; have RR := push_many RW.out YO.out (Below.refl _ _) (fun z hz => FQ.out z (insPl_mem Q g z hz).1) ho hgr hv; have RW1 := Lib.hid RR.1; have Y1 := Lib.hid RR.2; clear ho hgr hv RR; clear p0 p1 p2 p3 q0 q1 q2 q3; obtain ⟨p0, p1, p2, p3⟩ := box_y Y1 (lt_of_some HBP.out) HBP; obtain ⟨q0, q1, q2, q3⟩ := box_y Y1 (lt_of_some HBQ.out) HBQ)
         | (at_builtin; refine app_os (l := (D ++ insPl Q g)) (m := [(⟨opR (S : Int) [], none, 0, none, 0, none, 0⟩ : OpS)]) rfl (.tmp 72) (.tmp 75) rfl rfl (RW1.out.own.below (ext_alloc w1 _) (Nat.le_refl _)) _ _ 1 1 rfl rfl (rd_one_at (enc := OpS.enc) (size := 5) _ _ _ rfl rfl) (by have := LD.out; have := LJ.out; (try simp only [List.length_append, List.length_singleton, List.length_nil]); omega) (by exact Nat.le_trans Y1.out.size (le_alloc _ _)) ?_; intro v2 w2 ho hgr hv; have RR := push_bare RW1.out Y1.out rfl rfl rfl ho hgr hv; have RW2 := Lib.hid RR.1; have Y2 := Lib.hid RR.2; clear ho hgr hv RR; clear p0 p1 p2 p3 q0 q1 q2 q3; obtain ⟨p0, p1, p2, p3⟩ := box_y Y2 (lt_of_some HBP.out) HBP; obtain ⟨q0, q1, q2, q3⟩ := box_y Y2 (lt_of_some HBQ.out) HBQ; obtain ⟨A9, c9, rfl, hc9, -⟩ := RW2.out.own.form)
         | (go_at_call 79; refine Hid.out ?_))
        have hM : units (osOf (insPl Q g ++ [(⟨opR (S : Int) [], none, 0, none, 0, none, 0⟩ : OpS)])) = gapM false P Q g := by
         unfold gapM; simp only [Bool.false_eq_true, if_false, ← HS.out]
         try simp only [units_app, units_oneS, unitsO_sk, opR1_units, opD1_units]
         try simp [rets, List.append_assoc]
        have BE : Hid (OpsB 1000 (((D ++ insPl Q g) ++ [(⟨opR (S : Int) [], none, 0, none, 0, none, 0⟩ : OpS)]))) := Lib.hid (((BD.out).app (OpsB.ins BQ.out g)).app (OpsB.ret (by have := hS0; omega) (Nat.zero_le _)))
        obtain ⟨nx, hnx, hux⟩ := TI.out.last ZN.out hM
        obtain ⟨E, hE⟩ : ∃ X, X = ((D ++ insPl Q g) ++ [(⟨opR (S : Int) [], none, 0, none, 0, none, 0⟩ : OpS)]) := ⟨_, rfl⟩
        have hED : D ++ (insPl Q g ++ [(⟨opR (S : Int) [], none, 0, none, 0, none, 0⟩ : OpS)]) = E := by simp only [hE, List.append_assoc]
        rw [hED] at hux
        rw [← hE] at BE RW2 hc9
        have LE : (units (osOf E)).length ≤ 300000 := by rw [hux, List.length_append]; have h1 := (tra_size false (units (osOf Q)) (units (osOf P))).2.2; have := UP.out; have := UQ.out; have := LS.out; have h2 := HS.out; have h3 : (rets nx).length = nx := (by unfold rets; simp); omega
        refine Lib.hid ?_
        refine (of16_any A9 _ c9 E w2 (by simp only [hE, List.length_append, List.length_singleton, List.length_nil]; try omega) (by have h9 := hc9; rw [hE] at h9; simp only [List.length_append, List.length_singleton, List.length_nil] at h9; omega) RW2.out.rdop (fun z hz => (BE.out z hz).1) (by have := szN_unitsT (fun z hz => (BE.out z hz).1); omega) (fun z hz => ⟨Nat.le_trans (BE.out z hz).2.1 (by decide), Nat.le_trans (BE.out z hz).2.2 (by decide)⟩)).mono ?_
        rintro e w10 hN
        rw [told_mkU (ofM_told (osOf E) (fun o ho => by obtain ⟨z, hz, rfl⟩ := List.mem_map.1 ho; exact (BE.out z hz).1) (by omega)), hux, mkU_trail, mkU_units HP.out, mkU_units HQ.out] at hN
        have hF := NewOps.late (ext_trans YW.out Y2.out) hN
        obtain ⟨A10, c10, l10, rfl, hl, ho, hp, yy⟩ := hF
        have HF := Lib.hid (And.intro hl (And.intro ho (And.intro hp yy)))
        clear hl ho hp yy hN
        go_wp2_with (fail)
        go_ret
        exact ⟨A10, c10, l10, rfl, HF.out⟩
      ·have PG := Lib.hid hpg
       have VGP : Hid ((findV kG (g : Int)).getD (.int .i64 0) = .int .i64 0) := Lib.hid (by rw [PM5.out g]; exact goneV_neg hpg)
       have VPP : Hid ((findV kP (g : Int)).getD (.slice none 0 0) = .slice (patA (celPl P g)) (patL (celPl P g)).length (patC (celPl P g))) := Lib.hid (by rw [PM6.out g]; exact patV_eq hpg)
       clear hpg
       by_cases hgq : g < NQ
       ·have hgq2 : ¬ ((NQ : Int) ≤ (g : Int)) := by omega
        obtain ⟨zq, hzq, hzm, hz2⟩ := celPl_there Q g (by have := HNQ.out; omega)
        have ZQ := Lib.hid hzq
        have ZM := Lib.hid hzm
        have Z2 := Lib.hid hz2
        have hgone := goneV_neg (c := celPl Q g)
        clear hgone hzm hz2
        by_cases hq3 : zq.o.k = 3
        ·have VGQ : Hid ((findV lG (g : Int)).getD (.int .i64 0) = .int .i64 1) := Lib.hid (by rw [QM5.out g]; exact goneV_pos ⟨zq, hzq, hq3⟩)
         have CZ : Hid (cel1 zq = .del) := Lib.hid (by unfold cel1; rw [if_neg (by rw [hq3]; decide)])
         clear hzq hq3
         go_wp2_with (first
          | (at_lookup; refine lkO EI PM1 (by first | exact Y3 | exact Y2 | exact Y1 | exact YO) rfl _ _ rfl rfl rfl ?_)
          | (at_lookup; refine lkO EJ QM1 (by first | exact Y3 | exact Y2 | exact Y1 | exact YO) rfl _ _ rfl rfl rfl ?_)
          | (at_lookup; refine lkN VGP PM2 (by first | exact Y3 | exact Y2 | exact Y1 | exact YO) rfl _ _ rfl rfl rfl ?_)
          | (at_lookup; refine lkN VGQ QM2 (by first | exact Y3 | exact Y2 | exact Y1 | exact YO) rfl _ _ rfl rfl rfl ?_)
          | (at_lookup; refine lkC VPQ QM3 (by first | exact Y3 | exact Y2 | exact Y1 | exact YO) rfl _ _ rfl rfl rfl ?_)
          | (at_lookup; refine lkC VPP PM3 (by first | exact Y3 | exact Y2 | exact Y1 | exact YO) rfl _ _ rfl rfl rfl ?_)
          | (at_builtin; refine app_os (l := D) (m := insPl Q g) rfl (.tmp 60) (.tmp 64) rfl rfl RW.out.own _ A4 c4 n4 rfl NJ.out (RJ.out.ext YO.out) (by have := LD.out; have := LJ.out; (try simp only [List.length_append, List.length_singleton, List.length_nil]); omega) (by exact YO.out.size) ?_; intro v1 w1 ho hgr hv; have RR := push_many RW.out YO.out (Below.refl _ _) (fun z hz => FQ.out z (insPl_mem Q g z hz).1) ho hgr hv; have RW1 := Lib.hid RR.1; have Y1 := Lib.hid RR.2; clear ho hgr hv RR; clear p0 p1 p2 p3 q0 q1 q2 q3; obtain ⟨p0, p1, p2, p3⟩ := box_y Y1 (lt_of_some HBP.out) HBP; obtain ⟨q0, q1, q2, q3⟩ := box_y Y1 (lt_of_some HBQ.out) HBQ)
          | (at_builtin; refine app_os (l := (D ++ insPl Q g)) (m := [(⟨opR (S : Int) [], none, 0, none, 0, none, 0⟩ : OpS)]) rfl (.tmp 72) (.tmp 75) rfl rfl (RW1.out.own.below (ext_alloc w1 _) (Nat.le_refl _)) _ _ 1 1 rfl rfl (rd_one_at (enc := OpS.enc) (size := 5) _ _ _ rfl rfl) (by have := LD.out; have := LJ.out; (try simp only [List.length_append, List.length_singleton, List.length_nil]); omega) (by exact Nat.le_trans Y1.out.size (le_alloc _ _)) ?_; intro v2 w2 ho hgr hv; have RR := push_bare RW1.out Y1.out rfl rfl rfl ho hgr hv; have RW2 := Lib.hid RR.1; have Y2 := Lib.hid RR.2; clear ho hgr hv RR; clear p0 p1 p2 p3 q0 q1 q2 q3; obtain ⟨p0, p1, p2, p3⟩ := box_y Y2 (lt_of_some HBP.out) HBP; obtain ⟨q0, q1, q2, q3⟩ := box_y Y2 (lt_of_some HBQ.out) HBQ)
          | (at_builtin; refine app_os (l := ((D ++ insPl Q g) ++ [(⟨opR (S : Int) [], none, 0, none, 0, none, 0⟩ : OpS)])) (m := [(⟨opD 1, none, 0, none, 0, none, 0⟩ : OpS)]) rfl (.tmp 111) (.tmp 113) rfl rfl (RW2.out.own.below (ext_alloc w2 _) (Nat.le_refl _)) _ _ 1 1 rfl rfl (rd_one_at (enc := OpS.enc) (size := 5) _ _ _ rfl rfl) (by have := LD.out; have := LJ.out; (try simp only [List.length_append, List.length_singleton, List.length_nil]); omega) (by exact Nat.le_trans Y2.out.size (le_alloc _ _)) ?_; intro v3 w3 ho hgr hv; have RR := push_bare RW2.out Y2.out rfl rfl rfl ho hgr hv; have RW3 := Lib.hid RR.1; have Y3 := Lib.hid RR.2; clear ho hgr hv RR; clear p0 p1 p2 p3 q0 q1 q2 q3; obtain ⟨p0, p1, p2, p3⟩ := box_y Y3 (lt_of_some HBP.out) HBP; obtain ⟨q0, q1, q2, q3⟩ := box_y Y3 (lt_of_some HBQ.out) HBQ))
         have hM : units (osOf (insPl Q g ++ [(⟨opR (S : Int) [], none, 0, none, 0, none, 0⟩ : OpS)] ++ [(⟨opD 1, none, 0, none, 0, none, 0⟩ : OpS)])) = gapM false P Q g ++ pastCell false ((celPl P g).map cel1) (cel1 zq) := by
          rw [CZ.out, past_del _ PG.out (cel_in (fun z hz => (BP.out z hz).1))]
          unfold gapM; simp only [Bool.false_eq_true, if_false, ← HS.out]
          try simp only [units_app, units_oneS, unitsO_sk, opR1_units, opD1_units]
          try simp [rets, List.append_assoc]
         go_roundg (NQ - (g + 1))
         case measure => have := HG.out; omega
         case rel => exact ⟨g + 1, _, by omega, rfl, by go_num, RW3.out, Lib.hid (by have h := TI.out.cell ZQ.out hM; simpa only [List.append_assoc] using h), Lib.hid ((((BD.out).app (OpsB.ins BQ.out g)).app (OpsB.ret (by have := hS0; omega) (Nat.zero_le _))).app OpsB.del), Y3.out⟩
        ·have hng : ¬ isGone (celPl Q g) := fun ⟨z, e, e3⟩ => by rw [hzq] at e; injection e with e; subst e; exact hq3 e3
         have VGQ : Hid ((findV lG (g : Int)).getD (.int .i64 0) = .int .i64 0) := Lib.hid (by rw [QM5.out g]; exact goneV_neg hng)
         have VPQ : Hid ((findV lP (g : Int)).getD (.slice none 0 0) = .slice zq.Ap zq.o.p.length zq.cp) := Lib.hid (by rw [QM6.out g, patV_eq hng, hzq]; rfl)
         have CZ : Hid (cel1 zq = .ret zq.o.p) := Lib.hid (cel_ret (BQ.out zq ZM.out).1 Z2.out hq3)
         clear hzq hq3 hng
         go_wp2_with (first
          | (at_lookup; refine lkO EI PM1 (by first | exact Y3 | exact Y2 | exact Y1 | exact YO) rfl _ _ rfl rfl rfl ?_)
          | (at_lookup; refine lkO EJ QM1 (by first | exact Y3 | exact Y2 | exact Y1 | exact YO) rfl _ _ rfl rfl rfl ?_)
          | (at_lookup; refine lkN VGP PM2 (by first | exact Y3 | exact Y2 | exact Y1 | exact YO) rfl _ _ rfl rfl rfl ?_)
          | (at_lookup; refine lkN VGQ QM2 (by first | exact Y3 | exact Y2 | exact Y1 | exact YO) rfl _ _ rfl rfl rfl ?_)
          | (at_lookup; refine lkC VPQ QM3 (by first | exact Y3 | exact Y2 | exact Y1 | exact YO) rfl _ _ rfl rfl rfl ?_)
          | (at_lookup; refine lkC VPP PM3 (by first | exact Y3 | exact Y2 | exact Y1 | exact YO) rfl _ _ rfl rfl rfl ?_)
          | (at_builtin; refine app_os (l := D) (m := insPl Q g) rfl (.tmp 60) (.tmp 64) rfl rfl RW.out.own _ A4 c4 n4 rfl NJ.out (RJ.out.ext YO.out) (by have := LD.out; have := LJ.out; (try simp only [List.length_append, List.length_singleton, List.length_nil]); omega) (by exact YO.out.size) ?_; intro v1 w1 ho hgr hv; have RR := push_many RW.out YO.out (Below.refl _ _) (fun z hz => FQ.out z (insPl_mem Q g z hz).1) ho hgr hv; have RW1 := Lib.hid RR.1; have Y1 := Lib.hid RR.2; clear ho hgr hv RR; clear p0 p1 p2 p3 q0 q1 q2 q3; obtain ⟨p0, p1, p2, p3⟩ := box_y Y1 (lt_of_some HBP.out) HBP; obtain ⟨q0, q1, q2, q3⟩ := box_y Y1 (lt_of_some HBQ.out) HBQ)
          | (at_builtin; refine app_os (l := (D ++ insPl Q g)) (m := [(⟨opR (S : Int) [], none, 0, none, 0, none, 0⟩ : OpS)]) rfl (.tmp 72) (.tmp 75) rfl rfl (RW1.out.own.below (ext_alloc w1 _) (Nat.le_refl _)) _ _ 1 1 rfl rfl (rd_one_at (enc := OpS.enc) (size := 5) _ _ _ rfl rfl) (by have := LD.out; have := LJ.out; (try simp only [List.length_append, List.length_singleton, List.length_nil]); omega) (by exact Nat.le_trans Y1.out.size (le_alloc _ _)) ?_; intro v2 w2 ho hgr hv; have RR := push_bare RW1.out Y1.out rfl rfl rfl ho hgr hv; have RW2 := Lib.hid RR.1; have Y2 := Lib.hid RR.2; clear ho hgr hv RR; clear p0 p1 p2 p3 q0 q1 q2 q3; obtain ⟨p0, p1, p2, p3⟩ := box_y Y2 (lt_of_some HBP.out) HBP; obtain ⟨q0, q1, q2, q3⟩ := box_y Y2 (lt_of_some HBQ.out) HBQ)
          | (at_builtin; refine app_os (l := ((D ++ insPl Q g) ++ [(⟨opR (S : Int) [], none, 0, none, 0, none, 0⟩ : OpS)])) (m := [(⟨opR 1 zq.o.p, none, 0, none, 0, zq.Ap, zq.cp⟩ : OpS)]) rfl (.tmp 88) (.tmp 91) rfl rfl (RW2.out.own.below (ext_alloc w2 _) (Nat.le_refl _)) _ _ 1 1 rfl rfl (rd_one_at (enc := OpS.enc) (size := 5) _ _ _ rfl rfl) (by have := LD.out; have := LJ.out; (try simp only [List.length_append, List.length_singleton, List.length_nil]); omega) (by exact Nat.le_trans Y2.out.size (le_alloc _ _)) ?_; intro v3 w3 ho hgr hv; have RR := push_many RW2.out Y2.out (ext_alloc _ _) (fun z hz => by rw [List.mem_singleton] at hz; subst hz; exact part_pat (FQ.out zq ZM.out)) ho hgr hv; have RW3 := Lib.hid RR.1; have Y3 := Lib.hid RR.2; clear ho hgr hv RR; clear p0 p1 p2 p3 q0 q1 q2 q3; obtain ⟨p0, p1, p2, p3⟩ := box_y Y3 (lt_of_some HBP.out) HBP; obtain ⟨q0, q1, q2, q3⟩ := box_y Y3 (lt_of_some HBQ.out) HBQ))
         have hM : units (osOf (insPl Q g ++ [(⟨opR (S : Int) [], none, 0, none, 0, none, 0⟩ : OpS)] ++ [(⟨opR 1 zq.o.p, none, 0, none, 0, zq.Ap, zq.cp⟩ : OpS)])) = gapM false P Q g ++ pastCell false ((celPl P g).map cel1) (cel1 zq) := by
          rw [CZ.out, past_ret _ _ PG.out (cel_in (fun z hz => (BP.out z hz).1))]
          unfold gapM; simp only [Bool.false_eq_true, if_false, ← HS.out]
          simp only [pastP, Bool.false_eq_true, if_false]
          try simp only [units_app, units_oneS, unitsO_sk, opR1_units, opD1_units]
          try simp [rets, List.append_assoc]
         go_roundg (NQ - (g + 1))
         case measure => have := HG.out; omega
         case rel => exact ⟨g + 1, _, by omega, rfl, by go_num, RW3.out, Lib.hid (by have h := TI.out.cell ZQ.out hM; simpa only [List.append_assoc] using h), Lib.hid ((((BD.out).app (OpsB.ins BQ.out g)).app (OpsB.ret (by have := hS0; omega) (Nat.zero_le _))).app (OpsB.ret (by decide) (BQ.out zq ZM.out).2.2)), Y3.out⟩
       ·have hgq2 : (NQ : Int) ≤ (g : Int) := by omega
        have ZN : Hid (celPl Q g = none) := Lib.hid (celPl_past Q g (by have := HNQ.out; omega))
        have VGQ : Hid ((findV lG (g : Int)).getD (.int .i64 0) = goneV (celPl Q g)) := Lib.hid (QM5.out g)
        go_wp2_with (first
         | (at_lookup; refine lkO EI PM1 (by first | exact Y2 | exact Y1 | exact YO) rfl _ _ rfl rfl rfl ?_)
         | (at_lookup; refine lkO EJ QM1 (by first | exact Y2 | exact Y1 | exact YO) rfl _ _ rfl rfl rfl ?_)
         | (at_lookup; refine lkN VGP PM2 (by first | exact Y2 | exact Y1 | exact YO) rfl _ _ rfl rfl rfl ?_)
         | (at_lookup; refine lkN VGQ QM2 (by first | exact Y2 | exact Y1 | exact YO) rfl _ _ rfl rfl rfl ?_)
         | (at_lookup; refine lkC VPQ QM3 (by first | exact Y2 | exact Y1 | exact YO) rfl _ _ rfl rfl rfl ?_)
         | (at_lookup; refine lkC VPP PM3 (by first | exact Y2 | exact Y1 | exact YO) rfl _ _ rfl rfl rfl ?_)
         | (at_builtin; refine app_os (l := D) (m := insPl Q g) rfl (.tmp 60) (.tmp 64) rfl rfl RW.out.own _ A4 c4 n4 rfl NJ.out (RJ.out.ext YO.out) (by have := LD.out; have := LJ.out; (try simp only [List.length_append, List.length_singleton, List.length_nil]); omega) (by exact YO.out.size) ?_; intro v1 w1 ho hgr hv; have RR := push_many RW.out YO.out (Below.refl _ _) (fun z hz => FQ.out z (insPl_mem Q g z hz).1) ho hgr hv; have RW1 := Lib.hid RR.1; have Y1 := Lib.hid RR.2; clear ho hgr hv RR; clear p0 p1 p2 p3 q0 q1 q2 q3; obtain ⟨p0, p1, p2, p3⟩ := box_y Y1 (lt_of_some HBP.out) HBP; obtain ⟨q0, q1, q2, q3⟩ := box_y Y1 (lt_of_some HBQ.out) HBQ)
         | (at_builtin; refine app_os (l := (D ++ insPl Q g)) (m := [(⟨opR (S : Int) [], none, 0, none, 0, none, 0⟩ : OpS)]) rfl (.tmp 72) (.tmp 75) rfl rfl (RW1.out.own.below (ext_alloc w1 _) (Nat.le_refl _)) _ _ 1 1 rfl rfl (rd_one_at (enc := OpS.enc) (size := 5) _ _ _ rfl rfl) (by have := LD.out; have := LJ.out; (try simp only [List.length_append, List.length_singleton, List.length_nil]); omega) (by exact Nat.le_trans Y1.out.size (le_alloc _ _)) ?_; intro v2 w2 ho hgr hv; have RR := push_bare RW1.out Y1.out rfl rfl rfl ho hgr hv; have RW2 := Lib.hid RR.1; have Y2 := Lib.hid RR.2; clear ho hgr hv RR; clear p0 p1 p2 p3 q0 q1 q2 q3; obtain ⟨p0, p1, p2, p3⟩ := box_y Y2 (lt_of_some HBP.out) HBP; obtain ⟨q0, q1, q2, q3⟩ := box_y Y2 (lt_of_some HBQ.out) HBQ; obtain ⟨A9, c9, rfl, hc9, -⟩ := RW2.out.own.form)
         | (go_at_call 79; refine Hid.out ?_))
        have hM : units (osOf (insPl Q g ++ [(⟨opR (S : Int) [], none, 0, none, 0, none, 0⟩ : OpS)])) = gapM false P Q g := by
         unfold gapM; simp only [Bool.false_eq_true, if_false, ← HS.out]
         try simp only [units_app, units_oneS, unitsO_sk, opR1_units, opD1_units]
         try simp [rets, List.append_assoc]
        have BE : Hid (OpsB 1000 (((D ++ insPl Q g) ++ [(⟨opR (S : Int) [], none, 0, none, 0, none, 0⟩ : OpS)]))) := Lib.hid (((BD.out).app (OpsB.ins BQ.out g)).app (OpsB.ret (by have := hS0; omega) (Nat.zero_le _)))
        obtain ⟨nx, hnx, hux⟩ := TI.out.last ZN.out hM
        obtain ⟨E, hE⟩ : ∃ X, X = ((D ++ insPl Q g) ++ [(⟨opR (S : Int) [], none, 0, none, 0, none, 0⟩ : OpS)]) := ⟨_, rfl⟩
        have hED : D ++ (insPl Q g ++ [(⟨opR (S : Int) [], none, 0, none, 0, none, 0⟩ : OpS)]) = E := by simp only [hE, List.append_assoc]
        rw [hED] at hux
        rw [← hE] at BE RW2 hc9
        have LE : (units (osOf E)).length ≤ 300000 := by rw [hux, List.length_append]; have h1 := (tra_size false (units (osOf Q)) (units (osOf P))).2.2; have := UP.out; have := UQ.out; have := LS.out; have h2 := HS.out; have h3 : (rets nx).length = nx := (by unfold rets; simp); omega
        refine Lib.hid ?_
        refine (of16_any A9 _ c9 E w2 (by simp only [hE, List.length_append, List.length_singleton, List.length_nil]; try omega) (by have h9 := hc9; rw [hE] at h9; simp only [List.length_append, List.length_singleton, List.length_nil] at h9; omega) RW2.out.rdop (fun z hz => (BE.out z hz).1) (by have := szN_unitsT (fun z hz => (BE.out z hz).1); omega) (fun z hz => ⟨Nat.le_trans (BE.out z hz).2.1 (by decide), Nat.le_trans (BE.out z hz).2.2 (by decide)⟩)).mono ?_
        rintro e w10 hN
        rw [told_mkU (ofM_told (osOf E) (fun o ho => by obtain ⟨z, hz, rfl⟩ := List.mem_map.1 ho; exact (BE.out z hz).1) (by omega)), hux, mkU_trail, mkU_units HP.out, mkU_units HQ.out] at hN
        have hF := NewOps.late (ext_trans YW.out Y2.out) hN
        obtain ⟨A10, c10, l10, rfl, hl, ho, hp, yy⟩ := hF
        have HF := Lib.hid (And.intro hl (And.intro ho (And.intro hp yy)))
        clear hl ho hp yy hN
        go_wp2_with (fail)
        go_ret
        exact ⟨A10, c10, l10, rfl, HF.out⟩
     ·have hSi : ¬ ((0 : Int) < (S : Int)) := by omega
      have HZ : Hid (S = 0) := Lib.hid (by omega)
      have VPQ : Hid ((findV lP (g : Int)).getD (.slice none 0 0) = patV (celPl Q g)) := Lib.hid (QM6.out g)
      by_cases hpg : isGone (celPl P g)
      ·have PG := Lib.hid hpg
       have VGP : Hid ((findV kG (g : Int)).getD (.int .i64 0) = .int .i64 1) := Lib.hid (by rw [PM5.out g]; exact goneV_pos hpg)
       have VPP : Hid ((findV kP (g : Int)).getD (.slice none 0 0) = patV (celPl P g)) := Lib.hid (by rw [PM6.out g])
       clear hpg
       by_cases hgq : g < NQ
       ·have hgq2 : ¬ ((NQ : Int) ≤ (g : Int)) := by omega
        obtain ⟨zq, hzq, hzm, hz2⟩ := celPl_there Q g (by have := HNQ.out; omega)
        have ZQ := Lib.hid hzq
        have ZM := Lib.hid hzm
        have Z2 := Lib.hid hz2
        have hgone := goneV_neg (c := celPl Q g)
        clear hgone hzm hz2
        have VGQ : Hid ((findV lG (g : Int)).getD (.int .i64 0) = goneV (celPl Q g)) := Lib.hid (QM5.out g)
        clear hzq
        go_wp2_with (first
         | (at_lookup; refine lkO EI PM1 (by first | exact Y1 | exact YO) rfl _ _ rfl rfl rfl ?_)
         | (at_lookup; refine lkO EJ QM1 (by first | exact Y1 | exact YO) rfl _ _ rfl rfl rfl ?_)
         | (at_lookup; refine lkN VGP PM2 (by first | exact Y1 | exact YO) rfl _ _ rfl rfl rfl ?_)
         | (at_lookup; refine lkN VGQ QM2 (by first | exact Y1 | exact YO) rfl _ _ rfl rfl rfl ?_)
         | (at_lookup; refine lkC VPQ QM3 (by first | exact Y1 | exact YO) rfl _ _ rfl rfl rfl ?_)
         | (at_lookup; refine lkC VPP PM3 (by first | exact Y1 | exact YO) rfl _ _ rfl rfl rfl ?_)
         | (at_builtin; refine app_os (l := D) (m := insPl Q g) rfl (.tmp 60) (.tmp 64) rfl rfl RW.out.own _ A4 c4 n4 rfl NJ.out (RJ.out.ext YO.out) (by have := LD.out; have := LJ.out; (try simp only [List.length_append, List.length_singleton, List.length_nil]); omega) (by exact YO.out.size) ?_; intro v1 w1 ho hgr hv; have RR := push_many RW.out YO.out (Below.refl _ _) (fun z hz => FQ.out z (insPl_mem Q g z hz).1) ho hgr hv; have RW1 := Lib.hid RR.1; have Y1 := Lib.hid RR.2; clear ho hgr hv RR; clear p0 p1 p2 p3 q0 q1 q2 q3; obtain ⟨p0, p1, p2, p3⟩ := box_y Y1 (lt_of_some HBP.out) HBP; obtain ⟨q0, q1, q2, q3⟩ := box_y Y1 (lt_of_some HBQ.out) HBQ))
        have hM : units (osOf (insPl Q g)) = gapM false P Q g ++ pastCell false ((celPl P g).map cel1) (cel1 zq) := by
         rw [past_pos _ _ PG.out, List.append_nil]
         unfold gapM; simp only [Bool.false_eq_true, if_false, ← HS.out]; rw [HZ.out]
         try simp only [units_app, units_oneS, unitsO_sk, opR1_units, opD1_units]
         try simp [rets, List.append_assoc]
        go_roundg (NQ - (g + 1))
        case measure => have := HG.out; omega
        case rel => exact ⟨g + 1, _, by omega, rfl, by go_num, RW1.out, Lib.hid (by have h := TI.out.cell ZQ.out hM; simpa only [List.append_assoc] using h), Lib.hid ((BD.out).app (OpsB.ins BQ.out g)), Y1.out⟩
       ·have hgq2 : (NQ : Int) ≤ (g : Int) := by omega
        have ZN : Hid (celPl Q g = none) := Lib.hid (celPl_past Q g (by have := HNQ.out; omega))
        have VGQ : Hid ((findV lG (g : Int)).getD (.int .i64 0) = goneV (celPl Q g)) := Lib.hid (QM5.out g)
        go_wp2_with (first
         | (at_lookup; refine lkO EI PM1 (by first | exact Y1 | exact YO) rfl _ _ rfl rfl rfl ?_)
         | (at_lookup; refine lkO EJ QM1 (by first | exact Y1 | exact YO) rfl _ _ rfl rfl rfl ?_)
         | (at_lookup; refine lkN VGP PM2 (by first | exact Y1 | exact YO) rfl _ _ rfl rfl rfl ?_)
         | (at_lookup; refine lkN VGQ QM2 (by first | exact Y1 | exact YO) rfl _ _ rfl rfl rfl ?_)
         | (at_lookup; refine lkC VPQ QM3 (by first | exact Y1 | exact YO) rfl _ _ rfl rfl rfl ?_)
         | (at_lookup; refine lkC VPP PM3 (by first | exact Y1 | exact YO) rfl _ _ rfl rfl rfl ?_)
         | (at_builtin; refine app_os (l := D) (m := insPl Q g) rfl (.tmp 60) (.tmp 64) rfl rfl RW.out.own _ A4 c4 n4 rfl NJ.out (RJ.out.ext YO.out) (by have := LD.out; have := LJ.out; (try simp only [List.length_append, List.length_singleton, List.length_nil]); omega) (by exact YO.out.size) ?_; intro v1 w1 ho hgr hv; have RR := push_many RW.out YO.out (Below.refl _ _) (fun z hz => FQ.out z (insPl_mem Q g z hz).1) ho hgr hv; have RW1 := Lib.hid RR.1; have Y1 := Lib.hid RR.2; clear ho hgr hv RR; clear p0 p1 p2 p3 q0 q1 q2 q3; obtain ⟨p0, p1, p2, p3⟩ := box_y Y1 (lt_of_some HBP.out) HBP; obtain ⟨q0, q1, q2, q3⟩ := box_y Y1 (lt_of_some HBQ.out) HBQ; obtain ⟨A9, c9, rfl, hc9, -⟩ := RW1.out.own.form)
         | (go_at_call 79; refine Hid.out ?_))
        have hM : units (osOf (insPl Q g)) = gapM false P Q g := by
         unfold gapM; simp only [Bool.false_eq_true, if_false, ← HS.out]; rw [HZ.out]
         try simp only [units_app, units_oneS, unitsO_sk, opR1_units, opD1_units]
         try simp [rets, List.append_assoc]
        have BE : Hid (OpsB 1000 ((D ++ insPl Q g))) := Lib.hid ((BD.out).app (OpsB.ins BQ.out g))
        obtain ⟨nx, hnx, hux⟩ := TI.out.last ZN.out hM
        obtain ⟨E, hE⟩ : ∃ X, X = (D ++ insPl Q g) := ⟨_, rfl⟩
        have hED : D ++ (insPl Q g) = E := by simp only [hE, List.append_assoc]
        rw [hED] at hux
        rw [← hE] at BE RW1 hc9
        have LE : (units (osOf E)).length ≤ 300000 := by rw [hux, List.length_append]; have h1 := (tra_size false (units (osOf Q)) (units (osOf P))).2.2; have := UP.out; have := UQ.out; have := LS.out; have h2 := HS.out; have h3 : (rets nx).length = nx := (by unfold rets; simp); omega
        refine Lib.hid ?_
        refine (of16_any A9 _ c9 E w1 (by simp only [hE, List.length_append, List.length_singleton, List.length_nil]; try omega) (by have h9 := hc9; rw [hE] at h9; simp only [List.length_append, List.length_singleton, List.length_nil] at h9; omega) RW1.out.rdop (fun z hz => (BE.out z hz).1) (by have := szN_unitsT (fun z hz => (BE.out z hz).1); omega) (fun z hz => ⟨Nat.le_trans (BE.out z hz).2.1 (by decide), Nat.le_trans (BE.out z hz).2.2 (by decide)⟩)).mono ?_
        rintro e w10 hN
        rw [told_mkU (ofM_told (osOf E) (fun o ho => by obtain ⟨z, hz, rfl⟩ := List.mem_map.1 ho; exact (BE.out z hz).1) (by omega)), hux, mkU_trail, mkU_units HP.out, mkU_units HQ.out] at hN
        have hF := NewOps.late (ext_trans YW.out Y1.out) hN
        obtain ⟨A10, c10, l10, rfl, hl, ho, hp, yy⟩ := hF
        have HF := Lib.hid (And.intro hl (And.intro ho (And.intro hp yy)))
        clear hl ho hp yy hN
        go_wp2_with (fail)
        go_ret
        exact ⟨A10, c10, l10, rfl, HF.out⟩
      ·have PG := Lib.hid hpg
       have VGP : Hid ((findV kG (g : Int)).getD (.int .i64 0) = .int .i64 0) := Lib.hid (by rw [PM5.out g]; exact goneV_neg hpg)
       have VPP : Hid ((findV kP (g : Int)).getD (.slice none 0 0) = .slice (patA (celPl P g)) (patL (celPl P g)).length (patC (celPl P g))) := Lib.hid (by rw [PM6.out g]; exact patV_eq hpg)
       clear hpg
       by_cases hgq : g < NQ
       ·have hgq2 : ¬ ((NQ : Int) ≤ (g : Int)) := by omega
        obtain ⟨zq, hzq, hzm, hz2⟩ := celPl_there Q g (by have := HNQ.out; omega)
        have ZQ := Lib.hid hzq
        have ZM := Lib.hid hzm
        have Z2 := Lib.hid hz2
        have hgone := goneV_neg (c := celPl Q g)
        clear hgone hzm hz2
        by_cases hq3 : zq.o.k = 3
        ·have VGQ : Hid ((findV lG (g : Int)).getD (.int .i64 0) = .int .i64 1) := Lib.hid (by rw [QM5.out g]; exact goneV_pos ⟨zq, hzq, hq3⟩)
         have CZ : Hid (cel1 zq = .del) := Lib.hid (by unfold cel1; rw [if_neg (by rw [hq3]; decide)])
         clear hzq hq3
         go_wp2_with (first
          | (at_lookup; refine lkO EI PM1 (by first | exact Y2 | exact Y1 | exact YO) rfl _ _ rfl rfl rfl ?_)
          | (at_lookup; refine lkO EJ QM1 (by first | exact Y2 | exact Y1 | exact YO) rfl _ _ rfl rfl rfl ?_)
          | (at_lookup; refine lkN VGP PM2 (by first | exact Y2 | exact Y1 | exact YO) rfl _ _ rfl rfl rfl ?_)
          | (at_lookup; refine lkN VGQ QM2 (by first | exact Y2 | exact Y1 | exact YO) rfl _ _ rfl rfl rfl ?_)
          | (at_lookup; refine lkC VPQ QM3 (by first | exact Y2 | exact Y1 | exact YO) rfl _ _ rfl rfl rfl ?_)
          | (at_lookup; refine lkC VPP PM3 (by first | exact Y2 | exact Y1 | exact YO) rfl _ _ rfl rfl rfl ?_)
          | (at_builtin; refine app_os (l := D) (m := insPl Q g) rfl (.tmp 60) (.tmp 64) rfl rfl RW.out.own _ A4 c4 n4 rfl NJ.out (RJ.out.ext YO.out) (by have := LD.out; have := LJ.out; (try simp only [List.length_append, List.length_singleton, List.length_nil]); omega) (by exact YO.out.size) ?_; intro v1 w1 ho hgr hv; have RR := push_many RW.out YO.out (Below.refl _ _) (fun z hz => FQ.out z (insPl_mem Q g z hz).1) ho hgr hv; have RW1 := Lib.hid RR.1; have Y1 := Lib.hid RR.2; clear ho hgr hv RR; clear p0 p1 p2 p3 q0 q1 q2 q3; obtain ⟨p0, p1, p2, p3⟩ := box_y Y1 (lt_of_some HBP.out) HBP; obtain ⟨q0, q1, q2, q3⟩ := box_y Y1 (lt_of_some HBQ.out) HBQ)
          | (at_builtin; refine app_os (l := (D ++ insPl Q g)) (m := [(⟨opD 1, none, 0, none, 0, none, 0⟩ : OpS)]) rfl (.tmp 111) (.tmp 113) rfl rfl (RW1.out.own.below (ext_alloc w1 _) (Nat.le_refl _)) _ _ 1 1 rfl rfl (rd_one_at (enc := OpS.enc) (size := 5) _ _ _ rfl rfl) (by have := LD.out; have := LJ.out; (try simp only [List.length_append, List.length_singleton, List.length_nil]); omega) (by exact Nat.le_trans Y1.out.size (le_alloc _ _)) ?_; intro v2 w2 ho hgr hv; have RR := push_bare RW1.out Y1.out rfl rfl rfl ho hgr hv; have RW2 := Lib.hid RR.1; have Y2 := Lib.hid RR.2; clear ho hgr hv RR; clear p0 p1 p2 p3 q0 q1 q2 q3; obtain ⟨p0, p1, p2, p3⟩ := box_y Y2 (lt_of_some HBP.out) HBP; obtain ⟨q0, q1, q2, q3⟩ := box_y Y2 (lt_of_some HBQ.out) HBQ))
         have hM : units (osOf (insPl Q g ++ [(⟨opD 1, none, 0, none, 0, none, 0⟩ : OpS)])) = gapM false P Q g ++ pastCell false ((celPl P g).map cel1) (cel1 zq) := by
          rw [CZ.out, past_del _ PG.out (cel_in (fun z hz => (BP.out z hz).1))]
          unfold gapM; simp only [Bool.false_eq_true, if_false, ← HS.out]; rw [HZ.out]
          try simp only [units_app, units_oneS, unitsO_sk, opR1_units, opD1_units]
          try simp [rets, List.append_assoc]
         go_roundg (NQ - (g + 1))
         case measure => have := HG.out; omega
         case rel => exact ⟨g + 1, _, by omega, rfl, by go_num, RW2.out, Lib.hid (by have h := TI.out.cell ZQ.out hM; simpa only [List.append_assoc] using h), Lib.hid (((BD.out).app (OpsB.ins BQ.out g)).app OpsB.del), Y2.out⟩
        ·have hng : ¬ isGone (celPl Q g) := fun ⟨z, e, e3⟩ => by rw [hzq] at e; injection e with e; subst e; exact hq3 e3
         have VGQ : Hid ((findV lG (g : Int)).getD (.int .i64 0) = .int .i64 0) := Lib.hid (by rw [QM5.out g]; exact goneV_neg hng)
         have VPQ : Hid ((findV lP (g : Int)).getD (.slice none 0 0) = .slice zq.Ap zq.o.p.length zq.cp) := Lib.hid (by rw [QM6.out g, patV_eq hng, hzq]; rfl)
         have CZ : Hid (cel1 zq = .ret zq.o.p) := Lib.hid (cel_ret (BQ.out zq ZM.out).1 Z2.out hq3)
         clear hzq hq3 hng
         go_wp2_with (first
          | (at_lookup; refine lkO EI PM1 (by first | exact Y2 | exact Y1 | exact YO) rfl _ _ rfl rfl rfl ?_)
          | (at_lookup; refine lkO EJ QM1 (by first | exact Y2 | exact Y1 | exact YO) rfl _ _ rfl rfl rfl ?_)
          | (at_lookup; refine lkN VGP PM2 (by first | exact Y2 | exact Y1 | exact YO) rfl _ _ rfl rfl rfl ?_)
          | (at_lookup; refine lkN VGQ QM2 (by first | exact Y2 | exact Y1 | exact YO) rfl _ _ rfl rfl rfl ?_)
          | (at_lookup; refine lkC VPQ QM3 (by first | exact Y2 | exact Y1 | exact YO) rfl _ _ rfl rfl rfl ?_)
          | (at_lookup; refine lkC VPP PM3 (by first | exact Y2 | exact Y1 | exact YO) rfl _ _ rfl rfl rfl ?_)
          | (at_builtin; refine app_os (l := D) (m := insPl Q g) rfl (.tmp 60) (.tmp 64) rfl rfl RW.out.own _ A4 c4 n4 rfl NJ.out (RJ.out.ext YO.out) (by have := LD.out; have := LJ.out; (try simp only [List.length_append, List.length_singleton, List.length_nil]); omega) (by exact YO.out.size) ?_; intro v1 w1 ho hgr hv; have RR := push_many RW.out YO.out (Below.refl _ _) (fun z hz => FQ.out z (insPl_mem Q g z hz).1) ho hgr hv; have RW1 := Lib.hid RR.1; have Y1 := Lib.hid RR.2; clear ho hgr hv RR; clear p0 p1 p2 p3 q0 q1 q2 q3; obtain ⟨p0, p1, p2, p3⟩ := box_y Y1 (lt_of_some HBP.out) HBP; obtain ⟨q0, q1, q2, q3⟩ := box_y Y1 (lt_of_some HBQ.out) HBQ)
          | (at_builtin; refine app_os (l := (D ++ insPl Q g)) (m := [(⟨opR 1 zq.o.p, none, 0, none, 0, zq.Ap, zq.cp⟩ : OpS)]) rfl (.tmp 88) (.tmp 91) rfl rfl (RW1.out.own.below (ext_alloc w1 _) (Nat.le_refl _)) _ _ 1 1 rfl rfl (rd_one_at (enc := OpS.enc) (size := 5) _ _ _ rfl rfl) (by have := LD.out; have := LJ.out; (try simp only [List.length_append, List.length_singleton, List.length_nil]); omega) (by exact Nat.le_trans Y1.out.size (le_alloc _ _)) ?_; intro v2 w2 ho hgr hv; have RR := push_many RW1.out Y1.out (ext_alloc _ _) (fun z hz => by rw [List.mem_singleton] at hz; subst hz; exact part_pat (FQ.out zq ZM.out)) ho hgr hv; have RW2 := Lib.hid RR.1; have Y2 := Lib.hid RR.2; clear ho hgr hv RR; clear p0 p1 p2 p3 q0 q1 q2 q3; obtain ⟨p0, p1, p2, p3⟩ := box_y Y2 (lt_of_some HBP.out) HBP; obtain ⟨q0, q1, q2, q3⟩ := box_y Y2 (lt_of_some HBQ.out) HBQ))
         have hM : units (osOf (insPl Q g ++ [(⟨opR 1 zq.o.p, none, 0, none, 0, zq.Ap, zq.cp⟩ : OpS)])) = gapM false P Q g ++ pastCell false ((celPl P g).map cel1) (cel1 zq) := by
          rw [CZ.out, past_ret _ _ PG.out (cel_in (fun z hz => (BP.out z hz).1))]
          unfold gapM; simp only [Bool.false_eq_true, if_false, ← HS.out]; rw [HZ.out]
          simp only [pastP, Bool.false_eq_true, if_false]
          try simp only [units_app, units_oneS, unitsO_sk, opR1_units, opD1_units]
          try simp [rets, List.append_assoc]
         go_roundg (NQ - (g + 1))
         case measure => have := HG.out; omega
         case rel => exact ⟨g + 1, _, by omega, rfl, by go_num, RW2.out, Lib.hid (by have h := TI.out.cell ZQ.out hM; simpa only [List.append_assoc] using h), Lib.hid (((BD.out).app (OpsB.ins BQ.out g)).app (OpsB.ret (by decide) (BQ.out zq ZM.out).2.2)), Y2.out⟩
       ·have hgq2 : (NQ : Int) ≤ (g : Int) := by omega
        have ZN : Hid (celPl Q g = none) := Lib.hid (celPl_past Q g (by have := HNQ.out; omega))
        have VGQ : Hid ((findV lG (g : Int)).getD (.int .i64 0) = goneV (celPl Q g)) := Lib.hid (QM5.out g)
        go_wp2_with (first
         | (at_lookup; refine lkO EI PM1 (by first | exact Y1 | exact YO) rfl _ _ rfl rfl rfl ?_)
         | (at_lookup; refine lkO EJ QM1 (by first | exact Y1 | exact YO) rfl _ _ rfl rfl rfl ?_)
         | (at_lookup; refine lkN VGP PM2 (by first | exact Y1 | exact YO) rfl _ _ rfl rfl rfl ?_)
         | (at_lookup; refine lkN VGQ QM2 (by first | exact Y1 | exact YO) rfl _ _ rfl rfl rfl ?_)
         | (at_lookup; refine lkC VPQ QM3 (by first | exact Y1 | exact YO) rfl _ _ rfl rfl rfl ?_)
         | (at_lookup; refine lkC VPP PM3 (by first | exact Y1 | exact YO) rfl _ _ rfl rfl rfl ?_)
         | (at_builtin; refine app_os (l := D) (m := insPl Q g) rfl (.tmp 60) (.tmp 64) rfl rfl RW.out.own _ A4 c4 n4 rfl NJ.out (RJ.out.ext YO.out) (by have := LD.out; have := LJ.out; (try simp only [List.length_append, List.length_singleton, List.length_nil]); omega) (by exact YO.out.size) ?_; intro v1 w1 ho hgr hv; have RR := push_many RW.out YO.out (Below.refl _ _) (fun z hz => FQ.out z (insPl_mem Q g z hz).1) ho hgr hv; have RW1 := Lib.hid RR.1; have Y1 := Lib.hid RR.2; clear ho hgr hv RR; clear p0 p1 p2 p3 q0 q1 q2 q3; obtain ⟨p0, p1, p2, p3⟩ := box_y Y1 (lt_of_some HBP.out) HBP; obtain ⟨q0, q1, q2, q3⟩ := box_y Y1 (lt_of_some HBQ.out) HBQ; obtain ⟨A9, c9, rfl, hc9, -⟩ := RW1.out.own.form)
         | (go_at_call 79; refine Hid.out ?_))
        have hM : units (osOf (insPl Q g)) = gapM false P Q g := by
         unfold gapM; simp only [Bool.false_eq_true, if_false, ← HS.out]; rw [HZ.out]
         try simp only [units_app, units_oneS, unitsO_sk, opR1_units, opD1_units]
         try simp [rets, List.append_assoc]
        have BE : Hid (OpsB 1000 ((D ++ insPl Q g))) := Lib.hid ((BD.out).app (OpsB.ins BQ.out g))
        obtain ⟨nx, hnx, hux⟩ := TI.out.last ZN.out hM
        obtain ⟨E, hE⟩ : ∃ X, X = (D ++ insPl Q g) := ⟨_, rfl⟩
        have hED : D ++ (insPl Q g) = E := by simp only [hE, List.append_assoc]
        rw [hED] at hux
        rw [← hE] at BE RW1 hc9
        have LE : (units (osOf E)).length ≤ 300000 := by rw [hux, List.length_append]; have h1 := (tra_size false (units (osOf Q)) (units (osOf P))).2.2; have := UP.out; have := UQ.out; have := LS.out; have h2 := HS.out; have h3 : (rets nx).length = nx := (by unfold rets; simp); omega
        refine Lib.hid ?_
        refine (of16_any A9 _ c9 E w1 (by simp only [hE, List.length_append, List.length_singleton, List.length_nil]; try omega) (by have h9 := hc9; rw [hE] at h9; simp only [List.length_append, List.length_singleton, List.length_nil] at h9; omega) RW1.out.rdop (fun z hz => (BE.out z hz).1) (by have := szN_unitsT (fun z hz => (BE.out z hz).1); omega) (fun z hz => ⟨Nat.le_trans (BE.out z hz).2.1 (by decide), Nat.le_trans (BE.out z hz).2.2 (by decide)⟩)).mono ?_
        rintro e w10 hN
        rw [told_mkU (ofM_told (osOf E) (fun o ho => by obtain ⟨z, hz, rfl⟩ := List.mem_map.1 ho; exact (BE.out z hz).1) (by omega)), hux, mkU_trail, mkU_units HP.out, mkU_units HQ.out] at hN
        have hF := NewOps.late (ext_trans YW.out Y1.out) hN
        obtain ⟨A10, c10, l10, rfl, hl, ho, hp, yy⟩ := hF
        have HF := Lib.hid (And.intro hl (And.intro ho (And.intro hp yy)))
        clear hl ho hp yy hN
        go_wp2_with (fail)
        go_ret
        exact ⟨A10, c10, l10, rfl, HF.out⟩
  ·have hgp : ¬ ((g : Int) ≤ (NP : Int)) := hgp0
   obtain ⟨wo, hwo⟩ : ∃ X, X = wr := ⟨_, rfl⟩
   subst hwo
   obtain ⟨A3, n3, c3, eI, nI, cI1, cI2, rI⟩ := PM4.out g
   obtain ⟨A4, n4, c4, eJ, nJ, cJ1, cJ2, rJ⟩ := QM4.out g
   have EI := Lib.hid eI
   have EJ := Lib.hid eJ
   have NI := Lib.hid nI
   have NJ := Lib.hid nJ
   have RI := Lib.hid rI
   have RJ := Lib.hid rJ
   obtain ⟨S, hS⟩ : ∃ X, X = skO P g := ⟨_, rfl⟩
   have HS := Lib.hid hS
   have SM : Hid (((insPl P g).map (fun z => z.o.r.length)).sum = S) := Lib.hid (by rw [hS]; exact (ins_count _ insPl_kind).symm)
   have LS : Hid (S ≤ 100000) := Lib.hid (by rw [hS]; exact Nat.le_trans (skO_len _ _) UP.out)
   have LI : Hid (n3 ≤ 1000000) := Lib.hid (by rw [nI]; exact Nat.le_trans (insPl_len _ _) OP.out.at_.b)
   have LJ : Hid ((insPl Q g).length ≤ 1000000) := Lib.hid (Nat.le_trans (insPl_len _ _) OQ.out.at_.b)
   have LD : Hid (D.length ≤ 400000) := Lib.hid (by have := row_cap RW.out BD.out (K := 200000) (by have h1 := TI.out.len; have := UP.out; have := UQ.out; omega); omega)
   have YO := Lib.hid y
   clear eI eJ nI nJ rI rJ cI1 cI2 cJ1 cJ2 hS
   go_wp2_with (fail)
   go_loopg [11, 12] n3 (fun gh sv iv wi => ∃ (m : Nat), m ≤ n3 ∧ gh = n3 - m ∧ sv = .int .i64 ((((insPl P g).take m).map (fun z => z.o.r.length)).sum : Nat) ∧ iv = .int .i64 (m : Int) ∧ wi = wo)
   case atStart => exact ⟨0, Nat.zero_le _, rfl, by rw [List.take_zero]; rfl, rfl, rfl⟩
   case round =>
    obtain ⟨m, hm, hg2, rfl, rfl, hwr⟩ := hrel
    have hwr2 := hwr.symm
    clear hwr
    subst hwr2
    have HG2 := Lib.hid hg2
    clear hg2
    by_cases hlm : (m : Int) < (n3 : Int)
    ·obtain ⟨ad, z, rfl, -, hz, hc⟩ := (RI.out.ext YO.out).elIn (i := m) (by have := NI.out; omega)
     have ST := Lib.hid (sum_take hz)
     have SL := Lib.hid (sum_le (insPl P g) (m + 1))
     obtain ⟨⟨kz, nz, rz, sz, pz⟩, Arz, crz, Asz, csz, Apz, cpz⟩ := z
     obtain ⟨r0, r1, r2, r3, r4⟩ := op_cells hc.2
     obtain ⟨s0, hs0⟩ : ∃ X, X = (((insPl P g).take m).map (fun z => z.o.r.length)).sum := ⟨_, rfl⟩
     rw [← hs0] at ST ⊢
     have hb : s0 + rz.length ≤ 100000 := by have h1 := ST.out; have h2 := SL.out; have h3 := SM.out; have h4 := LS.out; simp only at h1; omega
     have hw5 : IntKind.i64.wrap ((s0:Int) + (rz.length : Int)) = ((s0 + rz.length : Nat) : Int) := by rw [IntWalk.i64_in _ (by omega)]; omega
     have hw6 : IntKind.i64.wrap ((m:Int) + 1) = (m : Int) + 1 := IntWalk.i64_in _ (by have := LI.out; omega)
     clear hc hz hs0 hb
     go_wp2_with (first | (at_lookup; refine lkO EI PM1 (YO) rfl _ _ rfl rfl rfl ?_))
     go_roundg (n3 - (m + 1))
     case measure => have := HG2.out; omega
     case rel => exact ⟨m + 1, by omega, rfl, by rw [ST.out, Int.natCast_add], by go_num, rfl⟩
    ·have hmn : m = n3 := by omega
     have hsum : (((insPl P g).take m).map (fun z => z.o.r.length)).sum = S := by rw [hmn, NI.out, List.take_length]; exact SM.out
     rw [hsum]
     clear hsum hmn
     by_cases hS0 : 0 < S
     ·have hSi : (0 : Int) < (S : Int) := by omega
      have VPQ : Hid ((findV lP (g : Int)).getD (.slice none 0 0) = patV (celPl Q g)) := Lib.hid (QM6.out g)
      by_cases hpg : isGone (celPl P g)
      ·have PG := Lib.hid hpg
       have VGP : Hid ((findV kG (g : Int)).getD (.int .i64 0) = .int .i64 1) := Lib.hid (by rw [PM5.out g]; exact goneV_pos hpg)
       have VPP : Hid ((findV kP (g : Int)).getD (.slice none 0 0) = patV (celPl P g)) := Lib.hid (by rw [PM6.out g])
       clear hpg
       by_cases hgq : g < NQ
       ·have hgq2 : ¬ ((NQ : Int) ≤ (g : Int)) := by omega
        obtain ⟨zq, hzq, hzm, hz2⟩ := celPl_there Q g (by have := HNQ.out; omega)
        have ZQ := Lib.hid hzq
        have ZM := Lib.hid hzm
        have Z2 := Lib.hid hz2
        have hgone := goneV_neg (c := celPl Q g)
        clear hgone hzm hz2
        have VGQ : Hid ((findV lG (g : Int)).getD (.int .i64 0) = goneV (celPl Q g)) := Lib.hid (QM5.out g)
        clear hzq
        go_wp2_with (first
         | (at_lookup; refine lkO EI PM1 (by first | exact Y2 | exact Y1 | exact YO) rfl _ _ rfl rfl rfl ?_)
         | (at_lookup; refine lkO EJ QM1 (by first | exact Y2 | exact Y1 | exact YO) rfl _ _ rfl rfl rfl ?_)
         | (at_lookup; refine lkN VGP PM2 (by first | exact Y2 | exact Y1 | exact YO) rfl _ _ rfl rfl rfl ?_)
         | (at_lookup; refine lkN VGQ QM2 (by first | exact Y2 | exact Y1 | exact YO) rfl _ _ rfl rfl rfl ?_)
         | (at_lookup; refine lkC VPQ QM3 (by first | exact Y2 | exact Y1 | exact YO) rfl _ _ rfl rfl rfl ?_)
         | (at_lookup; refine lkC VPP PM3 (by first | exact Y2 | exact Y1 | exact YO) rfl _ _ rfl rfl rfl ?_)
         | (at_builtin; refine app_os (l := D) (m := insPl Q g) rfl (.tmp 60) (.tmp 64) rfl rfl RW.out.own _ A4 c4 n4 rfl NJ.out (RJ.out.ext YO.out) (by have := LD.out; have := LJ.out; (try simp only [List.length_append, List.length_singleton, List.length_nil]); omega) (by exact YO.out.size) ?_; intro v1 w1 ho hgr hv; have RR := push_many RW.out YO.out (Below.refl _ _) (fun z hz => FQ.out z (insPl_mem Q g z hz).1) ho hgr hv; have RW1 := Lib.hid RR.1; have Y1 := Lib.hid RR.2; clear ho hgr hv RR; clear p0 p1 p2 p3 q0 q1 q2 q3; obtain ⟨p0, p1, p2, p3⟩ := box_y Y1 (lt_of_some HBP.out) HBP; obtain ⟨q0, q1, q2, q3⟩ := box_y Y1 (lt_of_some HBQ.out) HBQ)
         | (at_builtin; refine app_os (l := (D ++ insPl Q g)) (m := [(⟨opR (S : Int) [], none, 0, none, 0, none, 0⟩ : OpS)]) rfl (.tmp 72) (.tmp 75) rfl rfl (RW1.out.own.below (ext_alloc w1 _) (Nat.le_refl _)) _ _ 1 1 rfl rfl (rd_one_at (enc := OpS.enc) (size := 5) _ _ _ rfl rfl) (by have := LD.out; have := LJ.out; (try simp only [List.length_append, List.length_singleton, List.length_nil]); omega) (by exact Nat.le_trans Y1.out.size (le_alloc _ _)) ?_; intro v2 w2 ho hgr hv; have RR := push_bare RW1.out Y1.out rfl rfl rfl ho hgr hv; have RW2 := Lib.hid RR.1; have Y2 := Lib.hid RR.2; clear ho hgr hv RR; clear p0 p1 p2 p3 q0 q1 q2 q3; obtain ⟨p0, p1, p2, p3⟩ := box_y Y2 (lt_of_some HBP.out) HBP; obtain ⟨q0, q1, q2, q3⟩ := box_y Y2 (lt_of_some HBQ.out) HBQ))
        have hM : units (osOf (insPl Q g ++ [(⟨opR (S : Int) [], none, 0, none, 0, none, 0⟩ : OpS)])) = gapM false P Q g ++ pastCell false ((celPl P g).map cel1) (cel1 zq) := by
         rw [past_pos _ _ PG.out, List.append_nil]
         unfold gapM; simp only [Bool.false_eq_true, if_false, ← HS.out]
         try simp only [units_app, units_oneS, unitsO_sk, opR1_units, opD1_units]
         try simp [rets, List.append_assoc]
        go_roundg (NQ - (g + 1))
        case measure => have := HG.out; omega
        case rel => exact ⟨g + 1, _, by omega, rfl, by go_num, RW2.out, Lib.hid (by have h := TI.out.cell ZQ.out hM; simpa only [List.append_assoc] using h), Lib.hid (((BD.out).app (OpsB.ins BQ.out g)).app (OpsB.ret (by have := hS0; omega) (Nat.zero_le _))), Y2.out⟩
       ·have hgq2 : (NQ : Int) ≤ (g : Int) := by omega
        have ZN : Hid (celPl Q g = none) := Lib.hid (celPl_past Q g (by have := HNQ.out; omega))
        have VGQ : Hid ((findV lG (g : Int)).getD (.int .i64 0) = goneV (celPl Q g)) := Lib.hid (QM5.out g)
        go_wp2_with (first
         | (at_lookup; refine lkO EI PM1 (by first | exact Y2 | exact Y1 | exact YO) rfl _ _ rfl rfl rfl ?_)
         | (at_lookup; refine lkO EJ QM1 (by first | exact Y2 | exact Y1 | exact YO) rfl _ _ rfl rfl rfl ?_)
         | (at_lookup; refine lkN VGP PM2 (by first | exact Y2 | exact Y1 | exact YO) rfl _ _ rfl rfl rfl ?_)
         | (at_lookup; refine lkN VGQ QM2 (by first | exact Y2 | exact Y1 | exact YO) rfl _ _ rfl rfl rfl ?_)
         | (at_lookup; refine lkC VPQ QM3 (by first | exact Y2 | exact Y1 | exact YO) rfl _ _ rfl rfl rfl ?_)
         | (at_lookup; refine lkC VPP PM3 (by first | exact Y2 | exact Y1 | exact YO) rfl _ _ rfl rfl rfl ?_)
         | (at_builtin; refine app_os (l := D) (m := insPl Q g) rfl (.tmp 60) (.tmp 64) rfl rfl RW.out.own _ A4 c4 n4 rfl NJ.out (RJ.out.ext YO.out) (by have := LD.out; have := LJ.out; (try simp only [List.length_append, List.length_singleton, List.length_nil]); omega) (by exact YO.out.size) ?_; intro v1 w1 ho hgr hv; have RR := push_many RW.out YO.out (Below.refl _ _) (fun z hz => FQ.out z (insPl_mem Q g z hz).1) ho hgr hv; have RW1 := Lib.hid RR.1; have Y1 := Lib.hid RR.2; clear ho hgr hv RR; clear p0 p1 p2 p3 q0 q1 q2 q3; obtain ⟨p0, p1, p2, p3⟩ := box_y Y1 (lt_of_some HBP.out) HBP; obtain ⟨q0, q1, q2, q3⟩ := box_y Y1 (lt_of_some HBQ.out) HBQ)
         | (at_builtin; refine app_os (l := (D ++ insPl Q g)) (m := [(⟨opR (S : Int) [], none, 0, none, 0, none, 0⟩ : OpS)]) rfl (.tmp 72) (.tmp 75) rfl rfl (RW1.out.own.below (ext_alloc w1 _) (Nat.le_refl _)) _ _ 1 1 rfl rfl (rd_one_at (enc := OpS.enc) (size := 5) _ _ _ rfl rfl) (by have := LD.out; have := LJ.out; (try simp only [List.length_append, List.length_singleton, List.length_nil]); omega) (by exact Nat.le_trans Y1.out.size (le_alloc _ _)) ?_; intro v2 w2 ho hgr hv; have RR := push_bare RW1.out Y1.out rfl rfl rfl ho hgr hv; have RW2 := Lib.hid RR.1; have Y2 := Lib.hid RR.2; clear ho hgr hv RR; clear p0 p1 p2 p3 q0 q1 q2 q3; obtain ⟨p0, p1, p2, p3⟩ := box_y Y2 (lt_of_some HBP.out) HBP; obtain ⟨q0, q1, q2, q3⟩ := box_y Y2 (lt_of_some HBQ.out) HBQ; obtain ⟨A9, c9, rfl, hc9, -⟩ := RW2.out.own.form)
         | (go_at_call 79; refine Hid.out ?_))
        have hM : units (osOf (insPl Q g ++ [(⟨opR (S : Int) [], none, 0, none, 0, none, 0⟩ : OpS)])) = gapM false P Q g := by
         unfold gapM; simp only [Bool.false_eq_true, if_false, ← HS.out]
         try simp only [units_app, units_oneS, unitsO_sk, opR1_units, opD1_units]
         try simp [rets, List.append_assoc]
        have BE : Hid (OpsB 1000 (((D ++ insPl Q g) ++ [(⟨opR (S : Int) [], none, 0, none, 0, none, 0⟩ : OpS)]))) := Lib.hid (((BD.out).app (OpsB.ins BQ.out g)).app (OpsB.ret (by have := hS0; omega) (Nat.zero_le _)))
        obtain ⟨nx, hnx, hux⟩ := TI.out.last ZN.out hM
        obtain ⟨E, hE⟩ : ∃ X, X = ((D ++ insPl Q g) ++ [(⟨opR (S : Int) [], none, 0, none, 0, none, 0⟩ : OpS)]) := ⟨_, rfl⟩
        have hED : D ++ (insPl Q g ++ [(⟨opR (S : Int) [], none, 0, none, 0, none, 0⟩ : OpS)]) = E := by simp only [hE, List.append_assoc]
        rw [hED] at hux
        rw [← hE] at BE RW2 hc9
        have LE : (units (osOf E)).length ≤ 300000 := by rw [hux, List.length_append]; have h1 := (tra_size false (units (osOf Q)) (units (osOf P))).2.2; have := UP.out; have := UQ.out; have := LS.out; have h2 := HS.out; have h3 : (rets nx).length = nx := (by unfold rets; simp); omega
        refine Lib.hid ?_
        refine (of16_any A9 _ c9 E w2 (by simp only [hE, List.length_append, List.length_singleton, List.length_nil]; try omega) (by have h9 := hc9; rw [hE] at h9; simp only [List.length_append, List.length_singleton, List.length_nil] at h9; omega) RW2.out.rdop (fun z hz => (BE.out z hz).1) (by have := szN_unitsT (fun z hz => (BE.out z hz).1); omega) (fun z hz => ⟨Nat.le_trans (BE.out z hz).2.1 (by decide), Nat.le_trans (BE.out z hz).2.2 (by decide)⟩)).mono ?_
        rintro e w10 hN
        rw [told_mkU (ofM_told (osOf E) (fun o ho => by obtain ⟨z, hz, rfl⟩ := List.mem_map.1 ho; exact (BE.out z hz).1) (by omega)), hux, mkU_trail, mkU_units HP.out, mkU_units HQ.out] at hN
        have hF := NewOps.late (ext_trans YW.out Y2.out) hN
        obtain ⟨A10, c10, l10, rfl, hl, ho, hp, yy⟩ := hF
        have HF := Lib.hid (And.intro hl (And.intro ho (And.intro hp yy)))
        clear hl ho hp yy hN
        go_wp2_with (fail)
        go_ret
        exact ⟨A10, c10, l10, rfl, HF.out⟩
      ·have PG := Lib.hid hpg
       have VGP : Hid ((findV kG (g : Int)).getD (.int .i64 0) = .int .i64 0) := Lib.hid (by rw [PM5.out g]; exact goneV_neg hpg)
       have VPP : Hid ((findV kP (g : Int)).getD (.slice none 0 0) = .slice (patA (celPl P g)) (patL (celPl P g)).length (patC (celPl P g))) := Lib.hid (by rw [PM6.out g]; exact patV_eq hpg)
       clear hpg
       by_cases hgq : g < NQ
       ·have hgq2 : ¬ ((NQ : Int) ≤ (g : Int)) := by omega
        obtain ⟨zq, hzq, hzm, hz2⟩ := celPl_there Q g (by have := HNQ.out; omega)
        have ZQ := Lib.hid hzq
        have ZM := Lib.hid hzm
        have Z2 := Lib.hid hz2
        have hgone := goneV_neg (c := celPl Q g)
        clear hgone hzm hz2
        by_cases hq3 : zq.o.k = 3
        ·have VGQ : Hid ((findV lG (g : Int)).getD (.int .i64 0) = .int .i64 1) := Lib.hid (by rw [QM5.out g]; exact goneV_pos ⟨zq, hzq, hq3⟩)
         have CZ : Hid (cel1 zq = .del) := Lib.hid (by unfold cel1; rw [if_neg (by rw [hq3]; decide)])
         clear hzq hq3
         go_wp2_with (first
          | (at_lookup; refine lkO EI PM1 (by first | exact Y3 | exact Y2 | exact Y1 | exact YO) rfl _ _ rfl rfl rfl ?_)
          | (at_lookup; refine lkO EJ QM1 (by first | exact Y3 | exact Y2 | exact Y1 | exact YO) rfl _ _ rfl rfl rfl ?_)
          | (at_lookup; refine lkN VGP PM2 (by first | exact Y3 | exact Y2 | exact Y1 | exact YO) rfl _ _ rfl rfl rfl ?_)
          | (at_lookup; refine lkN VGQ QM2 (by first | exact Y3 | exact Y2 | exact Y1 | exact YO) rfl _ _ rfl rfl rfl ?_)
          | (at_lookup; refine lkC VPQ QM3 (by first | exact Y3 | exact Y2 | exact Y1 | exact YO) rfl _ _ rfl rfl rfl ?_)
          | (at_lookup; refine lkC VPP PM3 (by first | exact Y3 | exact Y2 | exact Y1 | exact YO) rfl _ _ rfl rfl rfl ?_)
          | (at_builtin; refine app_os (l := D) (m := insPl Q g) rfl (.tmp 60) (.tmp 64) rfl rfl RW.out.own _ A4 c4 n4 rfl NJ.out (RJ.out.ext YO.out) (by have := LD.out; have := LJ.out; (try simp only [List.length_append, List.length_singleton, List.length_nil]); omega) (by exact YO.out.size) ?_; intro v1 w1 ho hgr hv; have RR := push_many RW.out YO.out (Below.refl _ _) (fun z hz => FQ.out z (insPl_mem Q g z hz).1) ho hgr hv; have RW1 := Lib.hid RR.1; have Y1 := Lib.hid RR.2; clear ho hgr hv RR; clear p0 p1 p2 p3 q0 q1 q2 q3; obtain ⟨p0, p1, p2, p3⟩ := box_y Y1 (lt_of_some HBP.out) HBP; obtain ⟨q0, q1, q2, q3⟩ := box_y Y1 (lt_of_some HBQ.out) HBQ)
          | (at_builtin; refine app_os (l := (D ++ insPl Q g)) (m := [(⟨opR (S : Int) [], none, 0, none, 0, none, 0⟩ : OpS)]) rfl (.tmp 72) (.tmp 75) rfl rfl (RW1.out.own.below (ext_alloc w1 _) (Nat.le_refl _)) _ _ 1 1 rfl rfl (rd_one_at (enc := OpS.enc) (size := 5) _ _ _ rfl rfl) (by have := LD.out; have := LJ.out; (try simp only [List.length_append, List.length_singleton, List.length_nil]); omega) (by exact Nat.le_trans Y1.out.size (le_alloc _ _)) ?_; intro v2 w2 ho hgr hv; have RR := push_bare RW1.out Y1.out rfl rfl rfl ho hgr hv; have RW2 := Lib.hid RR.1; have Y2 := Lib.hid RR.2; clear ho hgr hv RR; clear p0 p1 p2 p3 q0 q1 q2 q3; obtain ⟨p0, p1, p2, p3⟩ := box_y Y2 (lt_of_some HBP.out) HBP; obtain ⟨q0, q1, q2, q3⟩ := box_y Y2 (lt_of_some HBQ.out) HBQ)
          | (at_builtin; refine app_os (l := ((D ++ insPl Q g) ++ [(⟨opR (S : Int) [], none, 0, none, 0, none, 0⟩ : OpS)])) (m := [(⟨opD 1, none, 0, none, 0, none, 0⟩ : OpS)]) rfl (.tmp 111) (.tmp 113) rfl rfl (RW2.out.own.below (ext_alloc w2 _) (Nat.le_refl _)) _ _ 1 1 rfl rfl (rd_one_at (enc := OpS.enc) (size := 5) _ _ _ rfl rfl) (by have := LD.out; have := LJ.out; (try simp only [List.length_append, List.length_singleton, List.length_nil]); omega) (by exact Nat.le_trans Y2.out.size (le_alloc _ _)) ?_; intro v3 w3 ho hgr hv; have RR := push_bare RW2.out Y2.out rfl rfl rfl ho hgr hv; have RW3 := Lib.hid RR.1; have Y3 := Lib.hid RR.2; clear ho hgr hv RR; clear p0 p1 p2 p3 q0 q1 q2 q3; obtain ⟨p0, p1, p2, p3⟩ := box_y Y3 (lt_of_some HBP.out) HBP; obtain ⟨q0, q1, q2, q3⟩ := box_y Y3 (lt_of_some HBQ.out) HBQ))
         have hM : units (osOf (insPl Q g ++ [(⟨opR (S : Int) [], none, 0, none, 0, none, 0⟩ : OpS)] ++ [(⟨opD 1, none, 0, none, 0, none, 0⟩ : OpS)])) = gapM false P Q g ++ pastCell false ((celPl P g).map cel1) (cel1 zq) := by
          rw [CZ.out, past_del _ PG.out (cel_in (fun z hz => (BP.out z hz).1))]
          unfold gapM; simp only [Bool.false_eq_true, if_false, ← HS.out]
          try simp only [units_app, units_oneS, unitsO_sk, opR1_units, opD1_units]
          try simp [rets, List.append_assoc]
         go_roundg (NQ - (g + 1))
         case measure => have := HG.out; omega
         case rel => exact ⟨g + 1, _, by omega, rfl, by go_num, RW3.out, Lib.hid (by have h := TI.out.cell ZQ.out hM; simpa only [List.append_assoc] using h), Lib.hid ((((BD.out).app (OpsB.ins BQ.out g)).app (OpsB.ret (by have := hS0; omega) (Nat.zero_le _))).app OpsB.del), Y3.out⟩
        ·have hng : ¬ isGone (celPl Q g) := fun ⟨z, e, e3⟩ => by rw [hzq] at e; injection e with e; subst e; exact hq3 e3
         have VGQ : Hid ((findV lG (g : Int)).getD (.int .i64 0) = .int .i64 0) := Lib.hid (by rw [QM5.out g]; exact goneV_neg hng)
         have VPQ : Hid ((findV lP (g : Int)).getD (.slice none 0 0) = .slice zq.Ap zq.o.p.length zq.cp) := Lib.hid (by rw [QM6.out g, patV_eq hng, hzq]; rfl)
         have CZ : Hid (cel1 zq = .ret zq.o.p) := Lib.hid (cel_ret (BQ.out zq ZM.out).1 Z2.out hq3)
         clear hzq hq3 hng
         go_wp2_with (first
          | (at_lookup; refine lkO EI PM1 (by first | exact Y3 | exact Y2 | exact Y1 | exact YO) rfl _ _ rfl rfl rfl ?_)
          | (at_lookup; refine lkO EJ QM1 (by first | exact Y3 | exact Y2 | exact Y1 | exact YO) rfl _ _ rfl rfl rfl ?_)
          | (at_lookup; refine lkN VGP PM2 (by first | exact Y3 | exact Y2 | exact Y1 | exact YO) rfl _ _ rfl rfl rfl ?_)
          | (at_lookup; refine lkN VGQ QM2 (by first | exact Y3 | exact Y2 | exact Y1 | exact YO) rfl _ _ rfl rfl rfl ?_)
          | (at_lookup; refine lkC VPQ QM3 (by first | exact Y3 | exact Y2 | exact Y1 | exact YO) rfl _ _ rfl rfl rfl ?_)
          | (at_lookup; refine lkC VPP PM3 (by first | exact Y3 | exact Y2 | exact Y1 | exact YO) rfl _ _ rfl rfl rfl ?_)
          | (at_builtin; refine app_os (l := D) (m := insPl Q g) rfl (.tmp 60) (.tmp 64) rfl rfl RW.out.own _ A4 c4 n4 rfl NJ.out (RJ.out.ext YO.out) (by have := LD.out; have := LJ.out; (try simp only [List.length_append, List.length_singleton, List.length_nil]); omega) (by exact YO.out.size) ?_; intro v1 w1 ho hgr hv; have RR := push_many RW.out YO.out (Below.refl _ _) (fun z hz => FQ.out z (insPl_mem Q g z hz).1) ho hgr hv; have RW1 := Lib.hid RR.1; have Y1 := Lib.hid RR.2; clear ho hgr hv RR; clear p0 p1 p2 p3 q0 q1 q2 q3; obtain ⟨p0, p1, p2, p3⟩ := box_y Y1 (lt_of_some HBP.out) HBP; obtain ⟨q0, q1, q2, q3⟩ := box_y Y1 (lt_of_some HBQ.out) HBQ)
          | (at_builtin; refine app_os (l := (D ++ insPl Q g)) (m := [(⟨opR (S : Int) [], none, 0, none, 0, none, 0⟩ : OpS)]) rfl (.tmp 72) (.tmp 75) rfl rfl (RW1.out.own.below (ext_alloc w1 _) (Nat.le_refl _)) _ _ 1 1 rfl rfl (rd_one_at (enc := OpS.enc) (size := 5) _ _ _ rfl rfl) (by have := LD.out; have := LJ.out; (try simp only [List.length_append, List.length_singleton, List.length_nil]); omega) (by exact Nat.le_trans Y1.out.size (le_alloc _ _)) ?_; intro v2 w2 ho hgr hv; have RR := push_bare RW1.out Y1.out rfl rfl rfl ho hgr hv; have RW2 := Lib.hid RR.1; have Y2 := Lib.hid RR.2; clear ho hgr hv RR; clear p0 p1 p2 p3 q0 q1 q2 q3; obtain ⟨p0, p1, p2, p3⟩ := box_y Y2 (lt_of_some HBP.out) HBP; obtain ⟨q0, q1, q2, q3⟩ := box_y Y2 (lt_of_some HBQ.out) HBQ)
          | (at_builtin; refine app_os (l := ((D ++ insPl Q g) ++ [(⟨opR (S : Int) [], none, 0, none, 0, none, 0⟩ : OpS)])) (m := [(⟨opR 1 zq.o.p, none, 0, none, 0, zq.Ap, zq.cp⟩ : OpS)]) rfl (.tmp 88) (.tmp 91) rfl rfl (RW2.out.own.below (ext_alloc w2 _) (Nat.le_refl _)) _ _ 1 1 rfl rfl (rd_one_at (enc := OpS.enc) (size := 5) _ _ _ rfl rfl) (by have := LD.out; have := LJ.out; (try simp only [List.length_append, List.length_singleton, List.length_nil]); omega) (by exact Nat.le_trans Y2.out.size (le_alloc _ _)) ?_; intro v3 w3 ho hgr hv; have RR := push_many RW2.out Y2.out (ext_alloc _ _) (fun z hz => by rw [List.mem_singleton] at hz; subst hz; exact part_pat (FQ.out zq ZM.out)) ho hgr hv; have RW3 := Lib.hid RR.1; have Y3 := Lib.hid RR.2; clear ho hgr hv RR; clear p0 p1 p2 p3 q0 q1 q2 q3; obtain ⟨p0, p1, p2, p3⟩ := box_y Y3 (lt_of_some HBP.out) HBP; obtain ⟨q0, q1, q2, q3⟩ := box_y Y3 (lt_of_some HBQ.out) HBQ))
         have hM : units (osOf (insPl Q g ++ [(⟨opR (S : Int) [], none, 0, none, 0, none, 0⟩ : OpS)] ++ [(⟨opR 1 zq.o.p, none, 0, none, 0, zq.Ap, zq.cp⟩ : OpS)])) = gapM false P Q g ++ pastCell false ((celPl P g).map cel1) (cel1 zq) := by
          rw [CZ.out, past_ret _ _ PG.out (cel_in (fun z hz => (BP.out z hz).1))]
          unfold gapM; simp only [Bool.false_eq_true, if_false, ← HS.out]
          simp only [pastP, Bool.false_eq_true, if_false]
          try simp only [units_app, units_oneS, unitsO_sk, opR1_units, opD1_units]
          try simp [rets, List.append_assoc]
         go_roundg (NQ - (g + 1))
         case measure => have := HG.out; omega
         case rel => exact ⟨g + 1, _, by omega, rfl, by go_num, RW3.out, Lib.hid (by have h := TI.out.cell ZQ.out hM; simpa only [List.append_assoc] using h), Lib.hid ((((BD.out).app (OpsB.ins BQ.out g)).app (OpsB.ret (by have := hS0; omega) (Nat.zero_le _))).app (OpsB.ret (by decide) (BQ.out zq ZM.out).2.2)), Y3.out⟩
       ·have hgq2 : (NQ : Int) ≤ (g : Int) := by omega
        have ZN : Hid (celPl Q g = none) := Lib.hid (celPl_past Q g (by have := HNQ.out; omega))
        have VGQ : Hid ((findV lG (g : Int)).getD (.int .i64 0) = goneV (celPl Q g)) := Lib.hid (QM5.out g)
        go_wp2_with (first
         | (at_lookup; refine lkO EI PM1 (by first | exact Y2 | exact Y1 | exact YO) rfl _ _ rfl rfl rfl ?_)
         | (at_lookup; refine lkO EJ QM1 (by first | exact Y2 | exact Y1 | exact YO) rfl _ _ rfl rfl rfl ?_)
         | (at_lookup; refine lkN VGP PM2 (by first | exact Y2 | exact Y1 | exact YO) rfl _ _ rfl rfl rfl ?_)
         | (at_lookup; refine lkN VGQ QM2 (by first | exact Y2 | exact Y1 | exact YO) rfl _ _ rfl rfl rfl ?_)
         | (at_lookup; refine lkC VPQ QM3 (by first | exact Y2 | exact Y1 | exact YO) rfl _ _ rfl rfl rfl ?_)
         | (at_lookup; refine lkC VPP PM3 (by first | exact Y2 | exact Y1 | exact YO) rfl _ _ rfl rfl rfl ?_)
         | (at_builtin; refine app_os (l := D) (m := insPl Q g) rfl (.tmp 60) (.tmp 64) rfl rfl RW.out.own _ A4 c4 n4 rfl NJ.out (RJ.out.ext YO.out) (by have := LD.out; have := LJ.out; (try simp only [List.length_append, List.length_singleton, List.length_nil]); omega) (by exact YO.out.size) ?_; intro v1 w1 ho hgr hv; have RR := push_many RW.out YO.out (Below.refl _ _) (fun z hz => FQ.out z (insPl_mem Q g z hz).1) ho hgr hv; have RW1 := Lib.hid RR.1; have Y1 := Lib.hid RR.2; clear ho hgr hv RR; clear p0 p1 p2 p3 q0 q1 q2 q3; obtain ⟨p0, p1, p2, p3⟩ := box_y Y1 (lt_of_some HBP.out) HBP; obtain ⟨q0, q1, q2, q3⟩ := box_y Y1 (lt_of_some HBQ.out) HBQ)
         | (at_builtin; refine app_os (l := (D ++ insPl Q g)) (m := [(⟨opR (S : Int) [], none, 0, none, 0, none, 0⟩ : OpS)]) rfl (.tmp 72) (.tmp 75) rfl rfl (RW1.out.own.below (ext_alloc w1 _) (Nat.le_refl _)) _ _ 1 1 rfl rfl (rd_one_at (enc := OpS.enc) (size := 5) _ _ _ rfl rfl) (by have := LD.out; have := LJ.out; (try simp only [List.length_append, List.length_singleton, List.length_nil]); omega) (by exact Nat.le_trans Y1.out.size (le_alloc _ _)) ?_; intro v2 w2 ho hgr hv; have RR := push_bare RW1.out Y1.out rfl rfl rfl ho hgr hv; have RW2 := Lib.hid RR.1; have Y2 := Lib.hid RR.2; clear ho hgr hv RR; clear p0 p1 p2 p3 q0 q1 q2 q3; obtain ⟨p0, p1, p2, p3⟩ := box_y Y2 (lt_of_some HBP.out) HBP; obtain ⟨q0, q1, q2, q3⟩ := box_y Y2 (lt_of_some HBQ.out) HBQ; obtain ⟨A9, c9, rfl, hc9, -⟩ := RW2.out.own.form)
         | (go_at_call 79; refine Hid.out ?_))
        have hM : units (osOf (insPl Q g ++ [(⟨opR (S : Int) [], none, 0, none, 0, none, 0⟩ : OpS)])) = gapM false P Q g := by
         unfold gapM; simp only [Bool.false_eq_true, if_false, ← HS.out]
         try simp only [units_app, units_oneS, unitsO_sk, opR1_units, opD1_units]
         try simp [rets, List.append_assoc]
        have BE : Hid (OpsB 1000 (((D ++ insPl Q g) ++ [(⟨opR (S : Int) [], none, 0, none, 0, none, 0⟩ : OpS)]))) := Lib.hid (((BD.out).app (OpsB.ins BQ.out g)).app (OpsB.ret (by have := hS0; omega) (Nat.zero_le _)))
        obtain ⟨nx, hnx, hux⟩ := TI.out.last ZN.out hM
        obtain ⟨E, hE⟩ : ∃ X, X = ((D ++ insPl Q g) ++ [(⟨opR (S : Int) [], none, 0, none, 0, none, 0⟩ : OpS)]) := ⟨_, rfl⟩
        have hED : D ++ (insPl Q g ++ [(⟨opR (S : Int) [], none, 0, none, 0, none, 0⟩ : OpS)]) = E := by simp only [hE, List.append_assoc]
        rw [hED] at hux
        rw [← hE] at BE RW2 hc9
        have LE : (units (osOf E)).length ≤ 300000 := by rw [hux, List.length_append]; have h1 := (tra_size false (units (osOf Q)) (units (osOf P))).2.2; have := UP.out; have := UQ.out; have := LS.out; have h2 := HS.out; have h3 : (rets nx).length = nx := (by unfold rets; simp); omega
        refine Lib.hid ?_
        refine (of16_any A9 _ c9 E w2 (by simp only [hE, List.length_append, List.length_singleton, List.length_nil]; try omega) (by have h9 := hc9; rw [hE] at h9; simp only [List.length_append, List.length_singleton, List.length_nil] at h9; omega) RW2.out.rdop (fun z hz => (BE.out z hz).1) (by have := szN_unitsT (fun z hz => (BE.out z hz).1); omega) (fun z hz => ⟨Nat.le_trans (BE.out z hz).2.1 (by decide), Nat.le_trans (BE.out z hz).2.2 (by decide)⟩)).mono ?_
        rintro e w10 hN
        rw [told_mkU (ofM_told (osOf E) (fun o ho => by obtain ⟨z, hz, rfl⟩ := List.mem_map.1 ho; exact (BE.out z hz).1) (by omega)), hux, mkU_trail, mkU_units HP.out, mkU_units HQ.out] at hN
        have hF := NewOps.late (ext_trans YW.out Y2.out) hN
        obtain ⟨A10, c10, l10, rfl, hl, ho, hp, yy⟩ := hF
        have HF := Lib.hid (And.intro hl (And.intro ho (And.intro hp yy)))
        clear hl ho hp yy hN
        go_wp2_with (fail)
        go_ret
        exact ⟨A10, c10, l10, rfl, HF.out⟩
     ·have hSi : ¬ ((0 : Int) < (S : Int)) := by omega
      have HZ : Hid (S = 0) := Lib.hid (by omega)
      have VPQ : Hid ((findV lP (g : Int)).getD (.slice none 0 0) = patV (celPl Q g)) := Lib.hid (QM6.out g)
      by_cases hpg : isGone (celPl P g)
      ·have PG := Lib.hid hpg
       have VGP : Hid ((findV kG (g : Int)).getD (.int .i64 0) = .int .i64 1) := Lib.hid (by rw [PM5.out g]; exact goneV_pos hpg)
       have VPP : Hid ((findV kP (g : Int)).getD (.slice none 0 0) = patV (celPl P g)) := Lib.hid (by rw [PM6.out g])
       clear hpg
       by_cases hgq : g < NQ
       ·have hgq2 : ¬ ((NQ : Int) ≤ (g : Int)) := by omega
        obtain ⟨zq, hzq, hzm, hz2⟩ := celPl_there Q g (by have := HNQ.out; omega)
        have ZQ := Lib.hid hzq
        have ZM := Lib.hid hzm
        have Z2 := Lib.hid hz2
        have hgone := goneV_neg (c := celPl Q g)
        clear hgone hzm hz2
        have VGQ : Hid ((findV lG (g : Int)).getD (.int .i64 0) = goneV (celPl Q g)) := Lib.hid (QM5.out g)
        clear hzq
        go_wp2_with (first
         | (at_lookup; refine lkO EI PM1 (by first | exact Y1 | exact YO) rfl _ _ rfl rfl rfl ?_)
         | (at_lookup; refine lkO EJ QM1 (by first | exact Y1 | exact YO) rfl _ _ rfl rfl rfl ?_)
         | (at_lookup; refine lkN VGP PM2 (by first | exact Y1 | exact YO) rfl _ _ rfl rfl rfl ?_)
         | (at_lookup; refine lkN VGQ QM2 (by first | exact Y1 | exact YO) rfl _ _ rfl rfl rfl ?_)
         | (at_lookup; refine lkC VPQ QM3 (by first | exact Y1 | exact YO) rfl _ _ rfl rfl rfl ?_)
         | (at_lookup; refine lkC VPP PM3 (by first | exact Y1 | exact YO) rfl _ _ rfl rfl rfl ?_)
         | (at_builtin; refine app_os (l := D) (m := insPl Q g) rfl (.tmp 60) (.tmp 64) rfl rfl RW.out.own _ A4 c4 n4 rfl NJ.out (RJ.out.ext YO.out) (by have := LD.out; have := LJ.out; (try simp only [List.length_append, List.length_singleton, List.length_nil]); omega) (by exact YO.out.size) ?_; intro v1 w1 ho hgr hv; have RR := push_many RW.out YO.out (Below.refl _ _) (fun z hz => FQ.out z (insPl_mem Q g z hz).1) ho hgr hv; have RW1 := Lib.hid RR.1; have Y1 := Lib.hid RR.2; clear ho hgr hv RR; clear p0 p1 p2 p3 q0 q1 q2 q3; obtain ⟨p0, p1, p2, p3⟩ := box_y Y1 (lt_of_some HBP.out) HBP; obtain ⟨q0, q1, q2, q3⟩ := box_y Y1 (lt_of_some HBQ.out) HBQ))
        have hM : units (osOf (insPl Q g)) = gapM false P Q g ++ pastCell false ((celPl P g).map cel1) (cel1 zq) := by
         rw [past_pos _ _ PG.out, List.append_nil]
         unfold gapM; simp only [Bool.false_eq_true, if_false, ← HS.out]; rw [HZ.out]
         try simp only [units_app, units_oneS, unitsO_sk, opR1_units, opD1_units]
         try simp [rets, List.append_assoc]
        go_roundg (NQ - (g + 1))
        case measure => have := HG.out; omega
        case rel => exact ⟨g + 1, _, by omega, rfl, by go_num, RW1.out, Lib.hid (by have h := TI.out.cell ZQ.out hM; simpa only [List.append_assoc] using h), Lib.hid ((BD.out).app (OpsB.ins BQ.out g)), Y1.out⟩
       ·have hgq2 : (NQ : Int) ≤ (g : Int) := by omega
        have ZN : Hid (celPl Q g = none) := Lib.hid (celPl_past Q g (by have := HNQ.out; omega))
        have VGQ : Hid ((findV lG (g : Int)).getD (.int .i64 0) = goneV (celPl Q g)) := Lib.hid (QM5.out g)
        go_wp2_with (first
         | (at_lookup; refine lkO EI PM1 (by first | exact Y1 | exact YO) rfl _ _ rfl rfl rfl ?_)
         | (at_lookup; refine lkO EJ QM1 (by first | exact Y1 | exact YO) rfl _ _ rfl rfl rfl ?_)
         | (at_lookup; refine lkN VGP PM2 (by first | exact Y1 | exact YO) rfl _ _ rfl rfl rfl ?_)
         | (at_lookup; refine lkN VGQ QM2 (by first | exact Y1 | exact YO) rfl _ _ rfl rfl rfl ?_)
         | (at_lookup; refine lkC VPQ QM3 (by first | exact Y1 | exact YO) rfl _ _ rfl rfl rfl ?_)
         | (at_lookup; refine lkC VPP PM3 (by first | exact Y1 | exact YO) rfl _ _ rfl rfl rfl ?_)
         | (at_builtin; refine app_os (l := D) (m := insPl Q g) rfl (.tmp 60) (.tmp 64) rfl rfl RW.out.own _ A4 c4 n4 rfl NJ.out (RJ.out.ext YO.out) (by have := LD.out; have := LJ.out; (try simp only [List.length_append, List.length_singleton, List.length_nil]); omega) (by exact YO.out.size) ?_; intro v1 w1 ho hgr hv; have RR := push_many RW.out YO.out (Below.refl _ _) (fun z hz => FQ.out z (insPl_mem Q g z hz).1) ho hgr hv; have RW1 := Lib.hid RR.1; have Y1 := Lib.hid RR.2; clear ho hgr hv RR; clear p0 p1 p2 p3 q0 q1 q2 q3; obtain ⟨p0, p1, p2, p3⟩ := box_y Y1 (lt_of_some HBP.out) HBP; obtain ⟨q0, q1, q2, q3⟩ := box_y Y1 (lt_of_some HBQ.out) HBQ; obtain ⟨A9, c9, rfl, hc9, -⟩ := RW1.out.own.form)
         | (go_at_call 79; refine Hid.out ?_))
        have hM : units (osOf (insPl Q g)) = gapM false P Q g := by
         unfold gapM; simp only [Bool.false_eq_true, if_false, ← HS.out]; rw [HZ.out]
         try simp only [units_app, units_oneS, unitsO_sk, opR1_units, opD1_units]
         try simp [rets, List.append_assoc]
        have BE : Hid (OpsB 1000 ((D ++ insPl Q g))) := Lib.hid ((BD.out).app (OpsB.ins BQ.out g))
        obtain ⟨nx, hnx, hux⟩ := TI.out.last ZN.out hM
        obtain ⟨E, hE⟩ : ∃ X, X = (D ++ insPl Q g) := ⟨_, rfl⟩
        have hED : D ++ (insPl Q g) = E := by simp only [hE, List.append_assoc]
        rw [hED] at hux
        rw [← hE] at BE RW1 hc9
        have LE : (units (osOf E)).length ≤ 300000 := by rw [hux, List.length_append]; have h1 := (tra_size false (units (osOf Q)) (units (osOf P))).2.2; have := UP.out; have := UQ.out; have := LS.out; have h2 := HS.out; have h3 : (rets nx).length = nx := (by unfold rets; simp); omega
        refine Lib.hid ?_
        refine (of16_any A9 _ c9 E w1 (by simp only [hE, List.length_append, List.length_singleton, List.length_nil]; try omega) (by have h9 := hc9; rw [hE] at h9; simp only [List.length_append, List.length_singleton, List.length_nil] at h9; omega) RW1.out.rdop (fun z hz => (BE.out z hz).1) (by have := szN_unitsT (fun z hz => (BE.out z hz).1); omega) (fun z hz => ⟨Nat.le_trans (BE.out z hz).2.1 (by decide), Nat.le_trans (BE.out z hz).2.2 (by decide)⟩)).mono ?_
        rintro e w10 hN
        rw [told_mkU (ofM_told (osOf E) (fun o ho => by obtain ⟨z, hz, rfl⟩ := List.mem_map.1 ho; exact (BE.out z hz).1) (by omega)), hux, mkU_trail, mkU_units HP.out, mkU_units HQ.out] at hN
        have hF := NewOps.late (ext_trans YW.out Y1.out) hN
        obtain ⟨A10, c10, l10, rfl, hl, ho, hp, yy⟩ := hF
        have HF := Lib.hid (And.intro hl (And.intro ho (And.intro hp yy)))
        clear hl ho hp yy hN
        go_wp2_with (fail)
        go_ret
        exact ⟨A10, c10, l10, rfl, HF.out⟩
      ·have PG := Lib.hid hpg
       have VGP : Hid ((findV kG (g : Int)).getD (.int .i64 0) = .int .i64 0) := Lib.hid (by rw [PM5.out g]; exact goneV_neg hpg)
       have VPP : Hid ((findV kP (g : Int)).getD (.slice none 0 0) = .slice (patA (celPl P g)) (patL (celPl P g)).length (patC (celPl P g))) := Lib.hid (by rw [PM6.out g]; exact patV_eq hpg)
       clear hpg
       by_cases hgq : g < NQ
       ·have hgq2 : ¬ ((NQ : Int) ≤ (g : Int)) := by omega
        obtain ⟨zq, hzq, hzm, hz2⟩ := celPl_there Q g (by have := HNQ.out; omega)
        have ZQ := Lib.hid hzq
        have ZM := Lib.hid hzm
        have Z2 := Lib.hid hz2
        have hgone := goneV_neg (c := celPl Q g)
        clear hgone hzm hz2
        by_cases hq3 : zq.o.k = 3
        ·have VGQ : Hid ((findV lG (g : Int)).getD (.int .i64 0) = .int .i64 1) := Lib.hid (by rw [QM5.out g]; exact goneV_pos ⟨zq, hzq, hq3⟩)
         have CZ : Hid (cel1 zq = .del) := Lib.hid (by unfold cel1; rw [if_neg (by rw [hq3]; decide)])
         clear hzq hq3
         go_wp2_with (first
          | (at_lookup; refine lkO EI PM1 (by first | exact Y2 | exact Y1 | exact YO) rfl _ _ rfl rfl rfl ?_)
          | (at_lookup; refine lkO EJ QM1 (by first | exact Y2 | exact Y1 | exact YO) rfl _ _ rfl rfl rfl ?_)
          | (at_lookup; refine lkN VGP PM2 (by first | exact Y2 | exact Y1 | exact YO) rfl _ _ rfl rfl rfl ?_)
          | (at_lookup; refine lkN VGQ QM2 (by first | exact Y2 | exact Y1 | exact YO) rfl _ _ rfl rfl rfl ?_)
          | (at_lookup; refine lkC VPQ QM3 (by first | exact Y2 | exact Y1 | exact YO) rfl _ _ rfl rfl rfl ?_)
          | (at_lookup; refine lkC VPP PM3 (by first | exact Y2 | exact Y1 | exact YO) rfl _ _ rfl rfl rfl ?_)
          | (at_builtin; refine app_os (l := D) (m := insPl Q g) rfl (.tmp 60) (.tmp 64) rfl rfl RW.out.own _ A4 c4 n4 rfl NJ.out (RJ.out.ext YO.out) (by have := LD.out; have := LJ.out; (try simp only [List.length_append, List.length_singleton, List.length_nil]); omega) (by exact YO.out.size) ?_; intro v1 w1 ho hgr hv; have RR := push_many RW.out YO.out (Below.refl _ _) (fun z hz => FQ.out z (insPl_mem Q g z hz).1) ho hgr hv; have RW1 := Lib.hid RR.1; have Y1 := Lib.hid RR.2; clear ho hgr hv RR; clear p0 p1 p2 p3 q0 q1 q2 q3; obtain ⟨p0, p1, p2, p3⟩ := box_y Y1 (lt_of_some HBP.out) HBP; obtain ⟨q0, q1, q2, q3⟩ := box_y Y1 (lt_of_some HBQ.out) HBQ)
          | (at_builtin; refine app_os (l := (D ++ insPl Q g)) (m := [(⟨opD 1, none, 0, none, 0, none, 0⟩ : OpS)]) rfl (.tmp 111) (.tmp 113) rfl rfl (RW1.out.own.below (ext_alloc w1 _) (Nat.le_refl _)) _ _ 1 1 rfl rfl (rd_one_at (enc := OpS.enc) (size := 5) _ _ _ rfl rfl) (by have := LD.out; have := LJ.out; (try simp only [List.length_append, List.length_singleton, List.length_nil]); omega) (by exact Nat.le_trans Y1.out.size (le_alloc _ _)) ?_; intro v2 w2 ho hgr hv; have RR := push_bare RW1.out Y1.out rfl rfl rfl ho hgr hv; have RW2 := Lib.hid RR.1; have Y2 := Lib.hid RR.2; clear ho hgr hv RR; clear p0 p1 p2 p3 q0 q1 q2 q3; obtain ⟨p0, p1, p2, p3⟩ := box_y Y2 (lt_of_some HBP.out) HBP; obtain ⟨q0, q1, q2, q3⟩ := box_y Y2 (lt_of_some HBQ.out) HBQ))
         have hM : units (osOf (insPl Q g ++ [(⟨opD 1, none, 0, none, 0, none, 0⟩ : OpS)])) = gapM false P Q g ++ pastCell false ((celPl P g).map cel1) (cel1 zq) := by
          rw [CZ.out, past_del _ PG.out (cel_in (fun z hz => (BP.out z hz).1))]
          unfold gapM; simp only [Bool.false_eq_true, if_false, ← HS.out]; rw [HZ.out]
          try simp only [units_app, units_oneS, unitsO_sk, opR1_units, opD1_units]
          try simp [rets, List.append_assoc]
         go_roundg (NQ - (g + 1))
         case measure => have := HG.out; omega
         case rel => exact ⟨g + 1, _, by omega, rfl, by go_num, RW2.out, Lib.hid (by have h := TI.out.cell ZQ.out hM; simpa only [List.append_assoc] using h), Lib.hid (((BD.out).app (OpsB.ins BQ.out g)).app OpsB.del), Y2.out⟩
        ·have hng : ¬ isGone (celPl Q g) := fun ⟨z, e, e3⟩ => by rw [hzq] at e; injection e with e; subst e; exact hq3 e3
         have VGQ : Hid ((findV lG (g : Int)).getD (.int .i64 0) = .int .i64 0) := Lib.hid (by rw [QM5.out g]; exact goneV_neg hng)
         have VPQ : Hid ((findV lP (g : Int)).getD (.slice none 0 0) = .slice zq.Ap zq.o.p.length zq.cp) := Lib.hid (by rw [QM6.out g, patV_eq hng, hzq]; rfl)
         have CZ : Hid (cel1 zq = .ret zq.o.p) := Lib.hid (cel_ret (BQ.out zq ZM.out).1 Z2.out hq3)
         clear hzq hq3 hng
         go_wp2_with (first
          | (at_lookup; refine lkO EI PM1 (by first | exact Y2 | exact Y1 | exact YO) rfl _ _ rfl rfl rfl ?_)
          | (at_lookup; refine lkO EJ QM1 (by first | exact Y2 | exact Y1 | exact YO) rfl _ _ rfl rfl rfl ?_)
          | (at_lookup; refine lkN VGP PM2 (by first | exact Y2 | exact Y1 | exact YO) rfl _ _ rfl rfl rfl ?_)
          | (at_lookup; refine lkN VGQ QM2 (by first | exact Y2 | exact Y1 | exact YO) rfl _ _ rfl rfl rfl ?_)
          | (at_lookup; refine lkC VPQ QM3 (by first | exact Y2 | exact Y1 | exact YO) rfl _ _ rfl rfl rfl ?_)
          | (at_lookup; refine lkC VPP PM3 (by first | exact Y2 | exact Y1 | exact YO) rfl _ _ rfl rfl rfl ?_)
          | (at_builtin; refine app_os (l := D) (m := insPl Q g) rfl (.tmp 60) (.tmp 64) rfl rfl RW.out.own _ A4 c4 n4 rfl NJ.out (RJ.out.ext YO.out) (by have := LD.out; have := LJ.out; (try simp only [List.length_append, List.length_singleton, List.length_nil]); omega) (by exact YO.out.size) ?_; intro v1 w1 ho hgr hv; have RR := push_many RW.out YO.out (Below.refl _ _) (fun z hz => FQ.out z (insPl_mem Q g z hz).1) ho hgr hv; have RW1 := Lib.hid RR.1; have Y1 := Lib.hid RR.2; clear ho hgr hv RR; clear p0 p1 p2 p3 q0 q1 q2 q3; obtain ⟨p0, p1, p2, p3⟩ := box_y Y1 (lt_of_some HBP.out) HBP; obtain ⟨q0, q1, q2, q3⟩ := box_y Y1 (lt_of_some HBQ.out) HBQ)
          | (at_builtin; refine app_os (l := (D ++ insPl Q g)) (m := [(⟨opR 1 zq.o.p, none, 0, none, 0, zq.Ap, zq.cp⟩ : OpS)]) rfl (.tmp 88) (.tmp 91) rfl rfl (RW1.out.own.below (ext_alloc w1 _) (Nat.le_refl _)) _ _ 1 1 rfl rfl (rd_one_at (enc := OpS.enc) (size := 5) _ _ _ rfl rfl) (by have := LD.out; have := LJ.out; (try simp only [List.length_append, List.length_singleton, List.length_nil]); omega) (by exact Nat.le_trans Y1.out.size (le_alloc _ _)) ?_; intro v2 w2 ho hgr hv; have RR := push_many RW1.out Y1.out (ext_alloc _ _) (fun z hz => by rw [List.mem_singleton] at hz; subst hz; exact part_pat (FQ.out zq ZM.out)) ho hgr hv; have RW2 := Lib.hid RR.1; have Y2 := Lib.hid RR.2; clear ho hgr hv RR; clear p0 p1 p2 p3 q0 q1 q2 q3; obtain ⟨p0, p1, p2, p3⟩ := box_y Y2 (lt_of_some HBP.out) HBP; obtain ⟨q0, q1, q2, q3⟩ := box_y Y2 (lt_of_some HBQ.out) HBQ))
         have hM : units (osOf (insPl Q g ++ [(⟨opR 1 zq.o.p, none, 0, none, 0, zq.Ap, zq.cp⟩ : OpS)])) = gapM false P Q g ++ pastCell false ((celPl P g).map cel1) (cel1 zq) := by
          rw [CZ.out, past_ret _ _ PG.out (cel_in (fun z hz => (BP.out z hz).1))]
          unfold gapM; simp only [Bool.false_eq_true, if_false, ← HS.out]; rw [HZ.out]
          simp only [pastP, Bool.false_eq_true, if_false]
          try simp only [units_app, units_oneS, unitsO_sk, opR1_units, opD1_units]
          try simp [rets, List.append_assoc]
         go_roundg (NQ - (g + 1))
         case measure => have := HG.out; omega
         case rel => exact ⟨g + 1, _, by omega, rfl, by go_num, RW2.out, Lib.hid (by have h := TI.out.cell ZQ.out hM; simpa only [List.append_assoc] using h), Lib.hid (((BD.out).app (OpsB.ins BQ.out g)).app (OpsB.ret (by decide) (BQ.out zq ZM.out).2.2)), Y2.out⟩
       ·have hgq2 : (NQ : Int) ≤ (g : Int) := by omega
        have ZN : Hid (celPl Q g = none) := Lib.hid (celPl_past Q g (by have := HNQ.out; omega))
        have VGQ : Hid ((findV lG (g : Int)).getD (.int .i64 0) = goneV (celPl Q g)) := Lib.hid (QM5.out g)
        go_wp2_with (first
         | (at_lookup; refine lkO EI PM1 (by first | exact Y1 | exact YO) rfl _ _ rfl rfl rfl ?_)
         | (at_lookup; refine lkO EJ QM1 (by first | exact Y1 | exact YO) rfl _ _ rfl rfl rfl ?_)
         | (at_lookup; refine lkN VGP PM2 (by first | exact Y1 | exact YO) rfl _ _ rfl rfl rfl ?_)
         | (at_lookup; refine lkN VGQ QM2 (by first | exact Y1 | exact YO) rfl _ _ rfl rfl rfl ?_)
         | (at_lookup; refine lkC VPQ QM3 (by first | exact Y1 | exact YO) rfl _ _ rfl rfl rfl ?_)
         | (at_lookup; refine lkC VPP PM3 (by first | exact Y1 | exact YO) rfl _ _ rfl rfl rfl ?_)
         | (at_builtin; refine app_os (l := D) (m := insPl Q g) rfl (.tmp 60) (.tmp 64) rfl rfl RW.out.own _ A4 c4 n4 rfl NJ.out (RJ.out.ext YO.out) (by have := LD.out; have := LJ.out; (try simp only [List.length_append, List.length_singleton, List.length_nil]); omega) (by exact YO.out.size) ?_; intro v1 w1 ho hgr hv; have RR := push_many RW.out YO.out (Below.refl _ _) (fun z hz => FQ.out z (insPl_mem Q g z hz).1) ho hgr hv; have RW1 := Lib.hid RR.1; have Y1 := Lib.hid RR.2; clear ho hgr hv RR; clear p0 p1 p2 p3 q0 q1 q2 q3; obtain ⟨p0, p1, p2, p3⟩ := box_y Y1 (lt_of_some HBP.out) HBP; obtain ⟨q0, q1, q2, q3⟩ := box_y Y1 (lt_of_some HBQ.out) HBQ; obtain ⟨A9, c9, rfl, hc9, -⟩ := RW1.out.own.form)
         | (go_at_call 79; refine Hid.out ?_))
        have hM : units (osOf (insPl Q g)) = gapM false P Q g := by
         unfold gapM; simp only [Bool.false_eq_true, if_false, ← HS.out]; rw [HZ.out]
         try simp only [units_app, units_oneS, unitsO_sk, opR1_units, opD1_units]
         try simp [rets, List.append_assoc]
        have BE : Hid (OpsB 1000 ((D ++ insPl Q g))) := Lib.hid ((BD.out).app (OpsB.ins BQ.out g))
        obtain ⟨nx, hnx, hux⟩ := TI.out.last ZN.out hM
        obtain ⟨E, hE⟩ : ∃ X, X = (D ++ insPl Q g) := ⟨_, rfl⟩
        have hED : D ++ (insPl Q g) = E := by simp only [hE, List.append_assoc]
        rw [hED] at hux
        rw [← hE] at BE RW1 hc9
        have LE : (units (osOf E)).length ≤ 300000 := by rw [hux, List.length_append]; have h1 := (tra_size false (units (osOf Q)) (units (osOf P))).2.2; have := UP.out; have := UQ.out; have := LS.out; have h2 := HS.out; have h3 : (rets nx).length = nx := (by unfold rets; simp); omega
        refine Lib.hid ?_
        refine (of16_any A9 _ c9 E w1 (by simp only [hE, List.length_append, List.length_singleton, List.length_nil]; try omega) (by have h9 := hc9; rw [hE] at h9; simp only [List.length_append, List.length_singleton, List.length_nil] at h9; omega) RW1.out.rdop (fun z hz => (BE.out z hz).1) (by have := szN_unitsT (fun z hz => (BE.out z hz).1); omega) (fun z hz => ⟨Nat.le_trans (BE.out z hz).2.1 (by decide), Nat.le_trans (BE.out z hz).2.2 (by decide)⟩)).mono ?_
        rintro e w10 hN
        rw [told_mkU (ofM_told (osOf E) (fun o ho => by obtain ⟨z, hz, rfl⟩ := List.mem_map.1 ho; exact (BE.out z hz).1) (by omega)), hux, mkU_trail, mkU_units HP.out, mkU_units HQ.out] at hN
        have hF := NewOps.late (ext_trans YW.out Y1.out) hN
        obtain ⟨A10, c10, l10, rfl, hl, ho, hp, yy⟩ := hF
        have HF := Lib.hid (And.intro hl (And.intro ho (And.intro hp yy)))
        clear hl ho hp yy hN
        go_wp2_with (fail)
        go_ret
        exact ⟨A10, c10, l10, rfl, HF.out⟩
end Go.Proofs.YtfnkjcodcoehcaaGreatDoor
