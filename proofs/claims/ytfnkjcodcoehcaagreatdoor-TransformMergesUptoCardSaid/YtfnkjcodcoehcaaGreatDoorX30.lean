/- Merged texts. -/
import Derived.StillTailTactics
import Derived.Test.YtfnkjcodcoehcaaGreatDoorX29
namespace Go.Proofs.YtfnkjcodcoehcaaGreatDoor
set_option maxRecDepth 100000
set_option maxHeartbeats 6400000
open Go.RowKit
open Go.Lib (hid)
set_option linter.unusedVariables false
set_option linter.unusedSimpArgs false
theorem Y4D (x : List OpS) : ∀ f, szN (x.drop f) ≤ szN x := by
 induction x with
 | nil => intro f; simp
 | cons a x ih =>
   intro f
   cases f with
   | zero => exact Nat.le_refl _
   | succ f => rw [List.drop_succ_cons, Z3R]; have := ih f; omega
theorem Y4E (x : List OpS) (f k : Nat) : szN ((x.drop f).take k) ≤ szN x := Nat.le_trans (Z5I _ _) (Y4D x f)
theorem Y4F (A : Option Addr) (n c : Nat) (x : List OpS) (w : World) (hn : n = x.length) (hc : n ≤ c) (h : RdOp w w.heap.size A x) (hi : ∀ o ∈ x, isOp o.o) (hz : szN x ≤ 1000000) (hz2 : ∀ o ∈ x, o.o.s.length ≤ 1000000 ∧ o.o.p.length ≤ 1000000) :
 Calls Tryz.prog 79 #[.slice A n c] w (NewOps (Z1z (ofM (osOf x))) w) := by
 have N := hid hn
 have HR := hid h.1
 have HP := hid h.2
 have HI := hid hi
 have HC := hid hc
 have HZ := hid hz
 have HZ2 := hid hz2
 have NB : Hid (n ≤ 1000000) := hid (by have h1 := Z9k x; omega)
 have HB : Hid (∀ i, MkB (ofM (osOf (x.take i))) 2000000 1000000) := hid (fun i => by
  have h1 := Z2c (S := 1000000) (x.take i) (fun o ho => hz2 o (List.mem_of_mem_take ho))
  have h2 := Z5I x i
  exact h1.mono (by omega) (Nat.le_refl _))
 clear hn h hi hz hz2 hc
 go_enter Tryz.func79, Tryz.ntmps79
 go_wp2_with (fail)
 go_loopg [3, 4, 5] (n + 1) (fun g ov fv iv wr => ∃ (i f : Nat) (D : List OpS), i ≤ n ∧ f ≤ i ∧ g = n + 1 - i ∧ iv = .int .i64 (i : Int) ∧ fv = .int .i64 (f : Int) ∧ RowF wr (fun _ => False) w.heap.size ov D ∧ Hid (osOf D = (ofM (osOf (x.take f))).done) ∧ Hid ((ofM (osOf (x.take f))).ins = [] ∧ (ofM (osOf (x.take f))).gone = 0) ∧ Hid (∀ o ∈ (x.drop f).take (i - f), o.o.k ≠ 1) ∧ Below w.heap.size w wr)
 case atStart => exact ⟨0, 0, [], by omega, by omega, rfl, rfl, rfl, RowF.nil _ _ _, hid rfl, hid ⟨rfl, rfl⟩, hid (fun o ho => by simp at ho), Below.refl _ _⟩
 case round =>
  obtain ⟨i, f, D, hi, hf, hg, rfl, rfl, hrow, HD, HE, HNR, y⟩ := hrel
  have HG := hid hg
  have HRW := hid hrow
  have Y := hid y
  clear hg hrow y
  obtain ⟨A1, k1, hv1, _, _⟩ := HRW.out.own.form
  subst hv1
  have hle : (i : Int) ≤ (n : Int) := by omega
  have hw2 : IntKind.i64.wrap ((i:Int) + 1) = (i : Int) + 1 := IntWalk.i64_in _ (by have := NB.out; omega)
  by_cases hcont : ∃ o, x[i]? = some o ∧ o.o.k ≠ 1
  ·obtain ⟨o, hx1, hk1⟩ := hcont
   have hlt : i < x.length := (List.getElem?_eq_some_iff.1 hx1).1
   obtain ⟨ad, o2, rfl, had, _, hx2, hc1⟩ := (HR.out.ext Y.out).el hlt
   have ho2 : o2 = o := by rw [hx1] at hx2; injection hx2 with h; exact h.symm
   subst ho2
   have hlt' : (i : Int) < (n : Int) := by have := N.out; omega
   have HNR2 : Hid (∀ o ∈ (x.drop f).take (i + 1 - f), o.o.k ≠ 1) := hid (fun z hz => by
    rw [show i + 1 - f = (i - f) + 1 by omega, List.take_add_one] at hz
    rcases List.mem_append.1 hz with hz | hz
    ·exact HNR.out z hz
    ·have e : (x.drop f)[i - f]? = some o2 := by rw [List.getElem?_drop, show f + (i - f) = i by omega]; exact hx1
     rw [e] at hz
     simp at hz
     subst hz
     exact hk1)
   obtain ⟨⟨k, nn, r, s, q⟩, Ar, cr, As, cs, Ap, cp⟩ := o2
   obtain ⟨z0, z1, z2, z3, z4⟩ := Z0o hc1
   have hk1' : (k != 1) = true := by rw [bne, beq_eq_false_iff_ne.2 hk1]; rfl
   clear hc1 hx1 hx2 had hk1
   go_wp2_with (fail)
   go_roundg (n + 1 - (i + 1))
   case measure => have := HG.out; omega
   case rel => exact ⟨i + 1, f, D, by omega, by omega, rfl, by go_num, rfl, HRW.out, HD, HE, HNR2, Y.out⟩
  ·have HCO := hid hcont
   clear hcont
   obtain ⟨g, hgd⟩ : ∃ g, (x.drop f).take (i - f) = g := ⟨_, rfl⟩
   obtain ⟨A7, hA7⟩ : ∃ X, advS A c f 5 = X := ⟨_, rfl⟩
   obtain ⟨n7, hn7⟩ : ∃ X, i - f = X := ⟨_, rfl⟩
   obtain ⟨c7, hc7⟩ : ∃ X, c - f = X := ⟨_, rfl⟩
   have sl1 : ∀ W, (Instr.slice 44 (.slice A n c) (some (.int .i64 (f : Int))) (some (.int .i64 (i : Int))) none).run Tryz.prog W = .ok (.slice A7 n7 c7) W := Y5f Tryz.slOp Tryz.elOpD Z4A rfl rfl hA7 hn7 hc7 hf (by have := HC.out; omega)
   have RG : Hid (RdOs wr wr.heap.size A7 g) := hid (by
    have h := (HR.out.ext Y.out).advS (k := f) (c := c) (by have := N.out; omega) (by have := N.out; have := HC.out; omega)
    rw [hA7] at h
    rw [← hgd]; exact h.take _)
   have LG : Hid (n7 = g.length) := hid (by rw [← hgd, ← hn7, List.length_take, List.length_drop]; have := N.out; omega)
   have MG : Hid (∀ z ∈ g, z ∈ x) := hid (fun z hz => by rw [← hgd] at hz; exact List.mem_of_mem_drop (List.mem_of_mem_take hz))
   have SG : Hid (szN g ≤ 1000000) := hid (by rw [← hgd]; exact Nat.le_trans (Y4E x f _) HZ.out)
   have SGK := hid SG.out
   have GK : Hid (∀ o ∈ g, isOp o.o ∧ o.o.k ≠ 1) := hid (fun z hz => ⟨HI.out z (MG.out z hz), by rw [← hgd, ← hn7] at *; exact HNR.out z hz⟩)
   have XT : Hid (x.take i = x.take f ++ g) := hid (by
    rw [← hgd]
    conv => lhs; rw [show i = f + (i - f) by omega, List.take_add])
   have PG : Hid (∀ z ∈ g, PartF wr (RowG (fun _ => False) (.slice A1 D.length k1)) z) := hid (fun z hz => by
    have p := HP.out z (MG.out z hz)
    have p0 : PartF w (fun _ => False) z := ⟨⟨p.1, fun _ _ _ h => h⟩, ⟨p.2.1, fun _ _ _ h => h⟩, ⟨p.2.2, fun _ _ _ h => h⟩⟩
    exact p0.fresh Y.out HRW.out.low)
   clear hA7 hn7 hc7 hgd
   have hnc : ∀ o, x[i]? = some o → o.o.k = 1 := fun o ho => by
    by_cases h : o.o.k = 1
    ·exact h
    ·exact absurd ⟨o, ho, h⟩ HCO.out
   have hguard : (decide ((i : Int) < (n : Int)) = false) ∨ (i < x.length) := by
    by_cases h : (i : Int) < (n : Int)
    ·right; have := N.out; omega
    ·left; exact decide_eq_false h
   by_cases hlt : i < x.length
   ·obtain ⟨ad, o, rfl, had, _, hx1, hc1⟩ := HR.out.el hlt
    have hk := hnc o hx1
    have hlt' : (i : Int) < (n : Int) := by have := N.out; omega
    have hne' : ((i : Int) == (n : Int)) = false := beq_eq_false_iff_ne.2 (by omega)
    have IOq := hid (HI.out o (List.mem_of_getElem? hx1))
    have XT2 : Hid (osOf (x.take (i + 1)) = osOf (x.take f) ++ osOf g ++ [o.o]) := hid (by
     rw [List.take_add_one, hx1, XT.out]; unfold osOf; simp)
    have PO : Hid (Z1V wr wr.heap.size o.Ar o.o.r ∧ RdAt wr wr.heap.size o.As o.o.s ∧ RdCh wr wr.heap.size o.Ap o.o.p) := hid (by
     have p := HP.out o (List.mem_of_getElem? hx1)
     exact ⟨p.1.ext Y.out, p.2.1.ext Y.out, p.2.2.ext Y.out⟩)
    have P0 : Hid (PartF w (fun _ => False) o) := hid (by
     have p := HP.out o (List.mem_of_getElem? hx1)
     exact ⟨⟨p.1, fun _ _ _ h => h⟩, ⟨p.2.1, fun _ _ _ h => h⟩, ⟨p.2.2, fun _ _ _ h => h⟩⟩)
    have SO := hid (HZ2.out o (List.mem_of_getElem? hx1))
    have HC1 := hid hc1
    have HAD := hid had
    obtain ⟨⟨k, nn, r, s, q⟩, Ar, cr, As, cs, Ap, cp⟩ := o
    simp only at hk
    subst hk
    obtain ⟨z0, z1, z2, z3, z4⟩ := Z0o (hc1.keep (w' := wr) fun p hp => Y.out.cell (by rw [hp, Z0q]; exact had))
    clear hnc hguard hc1 had hx1
    go_wp2_with (go_at_call 158; refine Hid.out ?_)
    refine hid ?_
    refine (Z8C A7 n7 c7 g wr (RowG (fun _ => False) (.slice A1 D.length k1)) LG.out RG.out PG.out (fun k hk => by
     rcases hk with hk | hk
     ·exact hk.elim
     ·exact (HRW.out.own.wb_lt k hk).2) GK.out SG.out (fun o ho => HZ2.out o (MG.out o ho))).mono ?_
    rintro e w1 ⟨A8, c8, L, rfl, hL, rowL, y1⟩
    have HL := hid hL
    have RL := hid rowL
    have Y1 := hid y1
    have LB : Hid (D.length ≤ 3000000 ∧ L.length ≤ 3000000) := hid (by
     have h1 := (HB.out f).len
     rw [← HD.out] at h1
     have h2 : (osOf D).length = D.length := by unfold osOf; simp
     have h3 := (Z2c (S := 1000000) g (fun o ho => HZ2.out o (MG.out o ho))).gap.1
     have h4 : (osOf L).length = L.length := by unfold osOf; simp
     rw [hL] at h4
     unfold gapP at h4
     rw [List.length_append] at h3
     have := SG.out
     omega)
    clear hL rowL y1
    go_wp2_with (at_builtin; refine Z3y (m := L) rfl (.tmp 26) (.tmp 31) rfl rfl (by exact HRW.out.own.below Y1.out (Nat.le_refl _)) _ A8 c8 L.length rfl rfl (by exact RL.out.own.rd OpS.enc_len) (by have := LB.out; omega) (by exact Nat.le_trans Y.out.size Y1.out.size) ?_; intro v2 w2 hown hgr hv; refine Hid.out ?_)
    refine hid ?_
    have HR2 := hid ((HRW.out.ext Y1.out).app (fun z hz => (RL.out.parts z hz).less (fun k hk => .inl hk)) hown hgr hv)
    have Y2 : Hid (Below w.heap.size w w2) := hid (Z0K (Y.out.trans (Y1.out.mono Y.out.size)) (Nat.le_trans Y.out.size Y1.out.size) (HRW.out.own.below Y1.out (Nat.le_refl _)) (Nat.le_refl _) hgr)
    have HD2 : Hid (osOf (D ++ L) = (ofM (osOf (x.take f))).done ++ gapP (osOf g)) := hid (by rw [← HD.out, ← HL.out]; unfold osOf; simp)
    have LB2 : Hid ((D ++ L).length ≤ 6000000) := hid (by have := LB.out; rw [List.length_append]; omega)
    have HE2 : Hid (∀ o : Opd, o.k = 1 → 1 ≤ o.n → ofM (osOf (x.take f) ++ osOf g ++ [o]) = ⟨addR ((ofM (osOf (x.take f))).done ++ gapP (osOf g)) o.n o.p, [], 0⟩) := hid (fun o h1 h2 => Y44 HE.out.1 HE.out.2 (fun z hz => by
     unfold osOf at hz
     obtain ⟨y, hy, rfl⟩ := List.mem_map.1 hz
     exact (GK.out y hy).2) h1 h2)
    have HE3 : Hid (Z1z (ofM (osOf (x.take f) ++ osOf g)) = cutR ((ofM (osOf (x.take f))).done ++ gapP (osOf g))) := hid (Y45 HE.out.1 HE.out.2 (fun z hz => by
     unfold osOf at hz
     obtain ⟨y, hy, rfl⟩ := List.mem_map.1 hz
     exact (GK.out y hy).2))
    obtain ⟨A2, k2, hv2, _, _⟩ := hown.form
    subst hv2
    clear hown hgr hv
    generalize hD2 : D ++ L = D2 at *
    clear hD2 HL RL Y1 LB HRW HD HE PG RG SG LG
    have HZW : Hid (CellsAt w2 (ad.add (i * 5)) (⟨⟨1, nn, r, s, q⟩, Ar, cr, As, cs, Ap, cp⟩ : OpS).enc) := hid (HC1.out.keep (w' := w2) fun p hp => Y2.out.cell (by rw [hp, Z0q]; exact HAD.out))
    obtain ⟨z0, z1, z2, z3, z4⟩ := Z0o HZW.out
    have PO2 : Hid (PartF w2 (RowG (fun _ => False) (.slice A2 D2.length k2)) (⟨⟨1, nn, r, s, q⟩, Ar, cr, As, cs, Ap, cp⟩ : OpS)) := hid (P0.out.fresh Y2.out HR2.out.low)
    have HN1 : Hid (1 ≤ nn) := hid (Z1K IOq.out rfl).2
    -- behind the round
    have DONE : Hid (∀ D3 : List OpS, osOf D3 = addR ((ofM (osOf (x.take f))).done ++ gapP (osOf g)) nn q → osOf D3 = (ofM (osOf (x.take (i + 1)))).done ∧ (ofM (osOf (x.take (i + 1)))).ins = [] ∧ (ofM (osOf (x.take (i + 1)))).gone = 0) := hid (fun D3 h3 => by
     rw [XT2.out, HE2.out _ rfl HN1.out]
     exact ⟨h3, rfl, rfl⟩)
    have NONE : Hid (∀ o ∈ (x.drop (i + 1)).take (i + 1 - (i + 1)), o.o.k ≠ 1) := hid (fun o ho => by simp at ho)
    rcases List.eq_nil_or_concat D2 with h0 | ⟨T, a, h0⟩
    ·subst h0
     simp only [List.length_nil] at *
     go_wp2_with (fail)
     go_quiet (fail)
     have YD : Hid (Below w.heap.size w (w2.drewN nq)) := hid (Z0t Y2.out nq)
     have HRD : Hid (RowF (w2.drewN nq) (fun _ => False) w.heap.size (.slice A2 0 k2) ([] : List OpS)) := hid (HR2.out.ext (Z0m _ nq))
     have PD : Hid (PartF (w2.drewN nq) (RowG (fun _ => False) (.slice A2 0 k2)) (⟨⟨1, nn, r, s, q⟩, Ar, cr, As, cs, Ap, cp⟩ : OpS)) := hid (PO2.out.grow (Grow.of (Z0m _ nq)))
     go_wp2_with (at_builtin; refine Z3y (m := [(⟨⟨1, nn, r, s, q⟩, Ar, cr, As, cs, Ap, cp⟩ : OpS)]) rfl (.tmp 80) (.tmp 85) rfl rfl (by exact HRD.out.own.alloc _) _ _ 1 1 rfl rfl (by exact Z1s (enc := OpS.enc) (size := 5) _ _ (⟨⟨1, nn, r, s, q⟩, Ar, cr, As, cs, Ap, cp⟩ : OpS) rfl (by simp)) (by have := LB2.out; simp only [List.length_singleton, List.length_nil]; omega) (by exact Nat.le_trans YD.out.size (Z0J _ _)) ?_; intro v3 w3 hown hgr hv)
     have HRN := hid ((HRD.out.ext (Z0b _ _)).app (fun z hz => by
      simp only [List.mem_singleton] at hz
      subst hz
      exact PD.out.grow (Grow.of (Z0b _ _))) hown hgr hv)
     have YN := hid (Z0K (YD.out.alloc YD.out.size _) (by exact Nat.le_trans YD.out.size (Z0J _ _)) (HRD.out.own.alloc _) (Nat.le_refl _) hgr)
     clear hown hgr hv
     have DN := hid (DONE.out (([] : List OpS) ++ [(⟨⟨1, nn, r, s, q⟩, Ar, cr, As, cs, Ap, cp⟩ : OpS)]) (by
      rw [Z7P (o := (⟨1, nn, r, s, q⟩ : Opd)) IOq.out rfl (fun a ha => by rw [← HD2.out] at ha; cases ha), ← HD2.out]
      unfold osOf; simp))
     go_wp2_with (fail)
     go_roundg (n + 1 - (i + 1))
     case measure => have := HG.out; omega
     case rel => exact ⟨i + 1, i + 1, _, by omega, by omega, rfl, by go_num, by go_num, HRN.out, hid DN.out.1, hid DN.out.2, NONE, YN.out⟩
    ·rw [List.concat_eq_append] at h0
     have hga : (osOf D2).getLast? = some a.o := by rw [h0]; unfold osOf; simp
     obtain ⟨g2, x1, hpos, hA1, hx1, hx1o, hD1, ⟨cur, hgc⟩, hcx⟩ := Z3P HR2.out.own hga
     have hxa : x1 = a := by rw [h0] at hx1; simpa using hx1.symm
     subst hxa hA1
     obtain ⟨L2, hL2⟩ : ∃ L, D2.length = L := ⟨_, rfl⟩
     obtain ⟨nd, hnd⟩ : ∃ X, L2 - 1 = X := ⟨_, rfl⟩
     rw [hL2, hnd] at hcx
     have hLn : L2 = nd + 1 := by omega
     subst hLn
     have HL2 := hid hL2
     have LBN : Hid (nd ≤ 6000000) := hid (by have := LB2.out; omega)
     have hrng : -9223372036854775808 ≤ (nd : Int) ∧ (nd : Int) ≤ 9223372036854775807 := by have := LBN.out; clear hw2; omega
     have hwr : wrap64 (nd : Int) = (nd : Int) := Z2K _ hrng
     have hwr2 : IntKind.i64.wrap (nd : Int) = (nd : Int) := IntWalk.i64_in _ hrng
     have HD1 := hid hD1
     have HX1 := hid hx1
     have HGC := hid hgc
     have GA : Hid (wb (.slice (some ⟨g2, 0, none⟩) D2.length k2) = some g2) := hid (Y0a HR2.out.own hpos)
     have PXA := hid (HR2.out.parts x1 (by rw [hD1]; simp))
     have HXS : Hid (x1.o.p.length ≤ 1000000) := hid (by
      have h3 : x1.o ∈ (ofM (osOf (x.take f))).done ++ gapP (osOf g) := by rw [← HD2.out, h0]; unfold osOf; simp
      rcases List.mem_append.1 h3 with h4 | h4
      ·exact ((HB.out f).prt _ (List.mem_append_left _ h4)).2.2
      ·exact ((Z2c (S := 1000000) g (fun o ho => HZ2.out o (MG.out o ho))).gap.2 _ (List.mem_append_right _ h4)).2.2)
     have HLS : Hid (osOf D2 = osOf D2.dropLast ++ [x1.o]) := hid (by
      conv => lhs; rw [hD1]
      unfold osOf; simp)
     rw [hL2] at HR2 GA PXA PO2 ⊢
     have hsub : ((nd + 1 : Nat) : Int) - 1 = (nd : Int) := by rw [Int.natCast_add]; exact Int.add_sub_cancel _ _
     have hnl : (nd : Int) < (nd : Int) + 1 := Int.lt_add_one_of_le (Int.le_refl _)
     have hn0 : decide ((0 : Int) ≤ (nd : Int)) = true := decide_eq_true (Int.natCast_nonneg nd)
     obtain ⟨⟨ka, na, ra, sa, qa⟩, Ara, cra, Asa, csa, Apa, cpa⟩ := x1
     obtain ⟨t0, t1, t2, t3, t4⟩ := Z0o hcx
     clear hcx h0 hga hx1 hgc hnd hD1 hx1o hpos hL2
     by_cases hka : ka = 1
     ·subst hka
      by_cases hqq : qa = q
      ·subst hqq
       have HSM : Hid (∀ v : Nat, Calls Tryz.prog 78 #[.slice Apa qa.length cpa, .slice Ap qa.length cp] (w2.drewN v) (fun e w' => e = .returned (.bool true) ∧ ∃ m, w' = (w2.drewN v).drewN m)) := hid (fun v => by
        have h := Z3Q Apa Ap qa.length qa.length cpa cp qa qa (w2.drewN v) rfl rfl (PXA.out.2.2.1.ext (Z0m _ v)) (PO2.out.2.2.1.ext (Z0m _ v)) (Nat.le_trans (show qa.length ≤ 1000000 from HXS.out) (by decide)) (Nat.le_trans (show qa.length ≤ 1000000 from HXS.out) (by decide))
        rw [decide_eq_true rfl] at h; exact h)
       go_wp2_with (fail)
       go_quiet ((go_at_call 78; exact Calls.quiet_of (HSM.out _)))
       clear hwr hwr2
       obtain ⟨N3, hN3⟩ : ∃ X, IntKind.i64.wrap (na + nn) = X := ⟨_, rfl⟩
       have HN3 := hid hN3
       have hN4 : wrap64 (na + nn) = N3 := by rw [← hN3, IntWalk.i64_left]
       have hfz : w2.frozen? ⟨g2, nd * 5 + 1, none⟩ = false := Z0g HGC.out _
       go_wp2_with (fail)
       go_region_law (fail)
       all_goals go_wp2_with (fail)
       all_goals
        have Y4 : Below w2.heap.size w2 (w2.drewN nq).drew := Z0j (Z0m _ nq)
        have hx9 : D2[nd]'(by rw [HL2.out]; clear hN3 hN4 hw2; omega) = (⟨⟨1, na, ra, sa, qa⟩, Ara, cra, Asa, csa, Apa, cpa⟩ : OpS) := by
         have h := HX1.out
         rw [List.getLast?_eq_getElem?, HL2.out, Nat.add_sub_cancel, List.getElem?_eq_getElem (by rw [HL2.out]; clear hN3 hN4 hw2; omega)] at h
         exact Option.some.inj h
        have P6 := PXA.out.grow (Grow.of Y4)
        have HRN := hid ((HR2.out.ext Y4).set (i := nd) (j := 1) (u := .int .i64 N3) (x' := (⟨⟨1, N3, ra, sa, qa⟩, Ara, cra, Asa, csa, Apa, cpa⟩ : OpS)) (by rw [HL2.out]; clear hN3 hN4 hw2; omega) (by decide) (by rw [hx9]; rfl) P6)
        have hset : osOf (D2.set nd (⟨⟨1, N3, ra, sa, qa⟩, Ara, cra, Asa, csa, Apa, cpa⟩ : OpS)) = osOf D2.dropLast ++ [(⟨1, N3, ra, sa, qa⟩ : Opd)] := by
         have h := Z5F (y := (⟨⟨1, N3, ra, sa, qa⟩, Ara, cra, Asa, csa, Apa, cpa⟩ : OpS)) HD1.out
         rw [HL2.out, Nat.add_sub_cancel] at h
         rw [h]; unfold osOf; simp
        have DN := hid (DONE.out (D2.set nd (⟨⟨1, N3, ra, sa, qa⟩, Ara, cra, Asa, csa, Apa, cpa⟩ : OpS)) (by
         rw [hset, ← HD2.out, HLS.out, ← HN3.out]
         exact (Y26 (a := (⟨1, na, ra, sa, qa⟩ : Opd)) rfl).symm))
        have YN := hid (Z7e (Z0a Y2.out Y4) (HR2.out.low g2 GA.out) (nd * 5 + 1) (.int .i64 N3))
        clear hset hx9 P6 Y4 hN3 hN4
        go_roundg (n + 1 - (i + 1))
       all_goals first
        | (have := HG.out; omega)
        | exact ⟨i + 1, i + 1, _, by omega, by omega, rfl, by go_num, by go_num, HRN.out, hid DN.out.1, hid DN.out.2, NONE, YN.out⟩
      ·have HQQ := hid hqq
       have HSM : Hid (∀ v : Nat, Calls Tryz.prog 78 #[.slice Apa qa.length cpa, .slice Ap q.length cp] (w2.drewN v) (fun e w' => e = .returned (.bool false) ∧ ∃ m, w' = (w2.drewN v).drewN m)) := hid (fun v => by
        have h := Z3Q Apa Ap qa.length q.length cpa cp qa q (w2.drewN v) rfl rfl (PXA.out.2.2.1.ext (Z0m _ v)) (PO2.out.2.2.1.ext (Z0m _ v)) (Nat.le_trans (show qa.length ≤ 1000000 from HXS.out) (by decide)) (by have := SO.out.2; omega)
        rw [decide_eq_false HQQ.out] at h; exact h)
       clear hqq
       go_wp2_with (fail)
       go_quiet ((go_at_call 78; exact Calls.quiet_of (HSM.out _)))
       clear hwr hwr2
       have YD : Hid (Below w.heap.size w (w2.drewN nq)) := hid (Z0t Y2.out nq)
       have HRD : Hid (RowF (w2.drewN nq) (fun _ => False) w.heap.size (.slice (some ⟨g2, 0, none⟩) (nd + 1) k2) D2) := hid (HR2.out.ext (Z0m _ nq))
       have PD : Hid (PartF (w2.drewN nq) (RowG (fun _ => False) (.slice (some ⟨g2, 0, none⟩) (nd + 1) k2)) (⟨⟨1, nn, r, s, q⟩, Ar, cr, As, cs, Ap, cp⟩ : OpS)) := hid (PO2.out.grow (Grow.of (Z0m _ nq)))
       go_wp2_with (at_builtin; refine Z3y (m := [(⟨⟨1, nn, r, s, q⟩, Ar, cr, As, cs, Ap, cp⟩ : OpS)]) rfl (.tmp 80) (.tmp 85) rfl rfl (by exact HRD.out.own.alloc _) _ _ 1 1 rfl rfl (by exact Z1s (enc := OpS.enc) (size := 5) _ _ (⟨⟨1, nn, r, s, q⟩, Ar, cr, As, cs, Ap, cp⟩ : OpS) rfl (by simp)) (by have := LB2.out; simp only [List.length_singleton, List.length_nil]; omega) (by exact Nat.le_trans YD.out.size (Z0J _ _)) ?_; intro v3 w3 hown hgr hv)
       have HRN := hid ((HRD.out.ext (Z0b _ _)).app (fun z hz => by
        simp only [List.mem_singleton] at hz
        subst hz
        exact PD.out.grow (Grow.of (Z0b _ _))) hown hgr hv)
       have YN := hid (Z0K (YD.out.alloc YD.out.size _) (by exact Nat.le_trans YD.out.size (Z0J _ _)) (HRD.out.own.alloc _) (Nat.le_refl _) hgr)
       clear hown hgr hv
       have DN := hid (DONE.out (D2 ++ [(⟨⟨1, nn, r, s, q⟩, Ar, cr, As, cs, Ap, cp⟩ : OpS)]) (by
        rw [Z7P (o := (⟨1, nn, r, s, q⟩ : Opd)) IOq.out rfl (fun a ha => by
         rw [← HD2.out, HLS.out] at ha
         simp at ha
         subst ha
         rintro ⟨_, h⟩
         exact HQQ.out h), ← HD2.out]
        unfold osOf; simp))
       go_wp2_with (fail)
       go_roundg (n + 1 - (i + 1))
       case measure => have := HG.out; omega
       case rel => exact ⟨i + 1, i + 1, _, by omega, by omega, rfl, by go_num, by go_num, HRN.out, hid DN.out.1, hid DN.out.2, NONE, YN.out⟩
     ·have hka' : (ka == 1) = false := beq_eq_false_iff_ne.2 hka
      have HKA := hid hka
      clear hka
      go_wp2_with (fail)
      go_quiet (fail)
      clear hwr hwr2
      have YD : Hid (Below w.heap.size w (w2.drewN nq)) := hid (Z0t Y2.out nq)
      have HRD : Hid (RowF (w2.drewN nq) (fun _ => False) w.heap.size (.slice (some ⟨g2, 0, none⟩) (nd + 1) k2) D2) := hid (HR2.out.ext (Z0m _ nq))
      have PD : Hid (PartF (w2.drewN nq) (RowG (fun _ => False) (.slice (some ⟨g2, 0, none⟩) (nd + 1) k2)) (⟨⟨1, nn, r, s, q⟩, Ar, cr, As, cs, Ap, cp⟩ : OpS)) := hid (PO2.out.grow (Grow.of (Z0m _ nq)))
      go_wp2_with (at_builtin; refine Z3y (m := [(⟨⟨1, nn, r, s, q⟩, Ar, cr, As, cs, Ap, cp⟩ : OpS)]) rfl (.tmp 80) (.tmp 85) rfl rfl (by exact HRD.out.own.alloc _) _ _ 1 1 rfl rfl (by exact Z1s (enc := OpS.enc) (size := 5) _ _ (⟨⟨1, nn, r, s, q⟩, Ar, cr, As, cs, Ap, cp⟩ : OpS) rfl (by simp)) (by have := LB2.out; simp only [List.length_singleton, List.length_nil]; omega) (by exact Nat.le_trans YD.out.size (Z0J _ _)) ?_; intro v3 w3 hown hgr hv)
      have HRN := hid ((HRD.out.ext (Z0b _ _)).app (fun z hz => by
       simp only [List.mem_singleton] at hz
       subst hz
       exact PD.out.grow (Grow.of (Z0b _ _))) hown hgr hv)
      have YN := hid (Z0K (YD.out.alloc YD.out.size _) (by exact Nat.le_trans YD.out.size (Z0J _ _)) (HRD.out.own.alloc _) (Nat.le_refl _) hgr)
      clear hown hgr hv
      have DN := hid (DONE.out (D2 ++ [(⟨⟨1, nn, r, s, q⟩, Ar, cr, As, cs, Ap, cp⟩ : OpS)]) (by
       rw [Z7P (o := (⟨1, nn, r, s, q⟩ : Opd)) IOq.out rfl (fun a ha => by
        rw [← HD2.out, HLS.out] at ha
        simp at ha
        subst ha
        rintro ⟨h, _⟩
        exact HKA.out h), ← HD2.out]
       unfold osOf; simp))
      go_wp2_with (fail)
      go_roundg (n + 1 - (i + 1))
      case measure => have := HG.out; omega
      case rel => exact ⟨i + 1, i + 1, _, by omega, by omega, rfl, by go_num, by go_num, HRN.out, hid DN.out.1, hid DN.out.2, NONE, YN.out⟩
   ·have hin : i = n := by have := N.out; omega
    subst hin
    have hlt' : ¬ ((i : Int) < (i : Int)) := by omega
    have heq' : ((i : Int) == (i : Int)) = true := by simp
    go_wp2_with (go_at_call 158; refine Hid.out ?_)
    refine hid ?_
    refine (Z8C A7 n7 c7 g wr (RowG (fun _ => False) (.slice A1 D.length k1)) LG.out RG.out PG.out (fun k hk => by
     rcases hk with hk | hk
     ·exact hk.elim
     ·exact (HRW.out.own.wb_lt k hk).2) GK.out SG.out (fun o ho => HZ2.out o (MG.out o ho))).mono ?_
    rintro e w1 ⟨A8, c8, L, rfl, hL, rowL, y1⟩
    have HL := hid hL
    have RL := hid rowL
    have Y1 := hid y1
    have LB : Hid (D.length ≤ 3000000 ∧ L.length ≤ 3000000) := hid (by
     have h1 := (HB.out f).len
     rw [← HD.out] at h1
     have h2 : (osOf D).length = D.length := by unfold osOf; simp
     have h3 := (Z2c (S := 1000000) g (fun o ho => HZ2.out o (MG.out o ho))).gap.1
     have h4 : (osOf L).length = L.length := by unfold osOf; simp
     rw [hL] at h4
     unfold gapP at h4
     rw [List.length_append] at h3
     have := SG.out
     omega)
    clear hL rowL y1
    go_wp2_with (at_builtin; refine Z3y (m := L) rfl (.tmp 26) (.tmp 31) rfl rfl (by exact HRW.out.own.below Y1.out (Nat.le_refl _)) _ A8 c8 L.length rfl rfl (by exact RL.out.own.rd OpS.enc_len) (by have := LB.out; omega) (by exact Nat.le_trans Y.out.size Y1.out.size) ?_; intro v2 w2 hown hgr hv; refine Hid.out ?_)
    refine hid ?_
    have HR2 := hid ((HRW.out.ext Y1.out).app (fun z hz => (RL.out.parts z hz).less (fun k hk => .inl hk)) hown hgr hv)
    have Y2 : Hid (Below w.heap.size w w2) := hid (Z0K (Y.out.trans (Y1.out.mono Y.out.size)) (Nat.le_trans Y.out.size Y1.out.size) (HRW.out.own.below Y1.out (Nat.le_refl _)) (Nat.le_refl _) hgr)
    have HD2 : Hid (osOf (D ++ L) = (ofM (osOf (x.take f))).done ++ gapP (osOf g)) := hid (by rw [← HD.out, ← HL.out]; unfold osOf; simp)
    have LB2 : Hid ((D ++ L).length ≤ 6000000) := hid (by have := LB.out; rw [List.length_append]; omega)
    have HE2 : Hid (∀ o : Opd, o.k = 1 → 1 ≤ o.n → ofM (osOf (x.take f) ++ osOf g ++ [o]) = ⟨addR ((ofM (osOf (x.take f))).done ++ gapP (osOf g)) o.n o.p, [], 0⟩) := hid (fun o h1 h2 => Y44 HE.out.1 HE.out.2 (fun z hz => by
     unfold osOf at hz
     obtain ⟨y, hy, rfl⟩ := List.mem_map.1 hz
     exact (GK.out y hy).2) h1 h2)
    have HE3 : Hid (Z1z (ofM (osOf (x.take f) ++ osOf g)) = cutR ((ofM (osOf (x.take f))).done ++ gapP (osOf g))) := hid (Y45 HE.out.1 HE.out.2 (fun z hz => by
     unfold osOf at hz
     obtain ⟨y, hy, rfl⟩ := List.mem_map.1 hz
     exact (GK.out y hy).2))
    obtain ⟨A2, k2, hv2, _, _⟩ := hown.form
    subst hv2
    clear hown hgr hv
    generalize hD2 : D ++ L = D2 at *
    clear hD2 HL RL Y1 LB HRW HD HE PG RG SG LG
    have XA : Hid (osOf (x.take f) ++ osOf g = osOf x) := hid (by
     have e := XT.out
     rw [N.out, List.take_length] at e
     conv => rhs; rw [e]
     unfold osOf; simp)
    rw [XA.out] at HE3
    have LN2 : Hid (∀ z ∈ D2, z.o.r.length ≤ 100000000 ∧ z.o.s.length ≤ 100000000 ∧ z.o.p.length ≤ 100000000) := hid (fun z hz => by
     have h3 : z.o ∈ (ofM (osOf (x.take f))).done ++ gapP (osOf g) := by rw [← HD2.out]; unfold osOf; exact List.mem_map_of_mem hz
     have h5 : z.o.r.length ≤ 3000000 ∧ z.o.s.length ≤ 3000000 ∧ z.o.p.length ≤ 3000000 := by
      rcases List.mem_append.1 h3 with h4 | h4
      ·obtain ⟨b1, b2, b3⟩ := (HB.out f).prt _ (List.mem_append_left _ h4); omega
      ·obtain ⟨b1, b2, b3⟩ := (Z2c (S := 1000000) g (fun o ho => HZ2.out o (MG.out o ho))).gap.2 _ (List.mem_append_right _ h4)
       have h6 : szN g ≤ 1000000 := SGK.out
       omega
     omega)
    have RD2 : Hid (RdOp w2 w2.heap.size A2 D2) := hid ⟨HR2.out.own.rd OpS.enc_len, fun z hz => by
     have p := HR2.out.parts z hz
     exact ⟨p.1.1, p.2.1.1, p.2.2.1⟩⟩
    rcases List.eq_nil_or_concat D2 with h0 | ⟨T, a, h0⟩
    ·subst h0
     simp only [List.length_nil] at *
     go_wp2_with (go_at_call 32; refine Hid.out ?_)
     refine hid ?_
     refine (Z21 A2 0 k2 ([] : List OpS) w2 rfl RD2.out (by omega) (fun z hz => by cases hz)).mono ?_
     intro e w3 hN
     obtain ⟨A9, c9, l9, rfl, hl9, ho9, hp9, y9⟩ := NewOps.late Y2.out hN
     have HF : Hid (NewOps (Z1z (ofM (osOf x))) w (.returned (.slice A9 l9.length c9)) w3) := hid ⟨A9, c9, l9, rfl, hl9.trans (by rw [HE3.out, ← HD2.out]; rfl), ho9, hp9, y9⟩
     clear hN hl9 ho9 hp9 y9
     go_wp2_with (fail)
     go_ret
     exact HF.out
    ·rw [List.concat_eq_append] at h0
     have hga : (osOf D2).getLast? = some a.o := by rw [h0]; unfold osOf; simp
     obtain ⟨g2, x1, hpos, hA1, hx1, hx1o, hD1, ⟨cur, hgc⟩, hcx⟩ := Z3P HR2.out.own hga
     have hxa : x1 = a := by rw [h0] at hx1; simpa using hx1.symm
     subst hxa hA1
     obtain ⟨L2, hL2⟩ : ∃ L, D2.length = L := ⟨_, rfl⟩
     obtain ⟨nd, hnd⟩ : ∃ X, L2 - 1 = X := ⟨_, rfl⟩
     rw [hL2, hnd] at hcx
     have hLn : L2 = nd + 1 := by omega
     subst hLn
     have HL2 := hid hL2
     have LBN : Hid (nd ≤ 6000000) := hid (by have := LB2.out; omega)
     have hrng : -9223372036854775808 ≤ (nd : Int) ∧ (nd : Int) ≤ 9223372036854775807 := by have := LBN.out; clear hw2; omega
     have hwr : wrap64 (nd : Int) = (nd : Int) := Z2K _ hrng
     have hwr2 : IntKind.i64.wrap (nd : Int) = (nd : Int) := IntWalk.i64_in _ hrng
     have HD1 := hid hD1
     have CUT : Hid (osOf D2.dropLast ++ [x1.o] = osOf D2) := hid (by
      conv => rhs; rw [hD1]
      unfold osOf; simp)
     have hcap : nd ≤ k2 := by have := (Z3f HR2.out.own).1; clear hwr hwr2 hw2; omega
     rw [hL2] at HR2 ⊢
     have hsub : ((nd + 1 : Nat) : Int) - 1 = (nd : Int) := by rw [Int.natCast_add]; exact Int.add_sub_cancel _ _
     have hnl : (nd : Int) < (nd : Int) + 1 := Int.lt_add_one_of_le (Int.le_refl _)
     have hn0 : decide ((0 : Int) ≤ (nd : Int)) = true := decide_eq_true (Int.natCast_nonneg nd)
     have HDL : Hid (nd = D2.dropLast.length) := hid (by rw [List.length_dropLast, hL2]; rfl)
     obtain ⟨⟨ka, na, ra, sa, qa⟩, Ara, cra, Asa, csa, Apa, cpa⟩ := x1
     obtain ⟨t0, t1, t2, t3, t4⟩ := Z0o hcx
     clear hcx h0 hga hx1 hgc hnd hD1 hx1o hpos hL2
     have CT : Hid (cutR (osOf D2) = if ka = 1 ∧ qa = [] then osOf D2.dropLast else osOf D2) := hid (by
      rw [← CUT.out]
      unfold cutR
      simp)
     by_cases hka : ka = 1
     ·subst hka
      by_cases hqq : qa = []
      ·subst hqq
       simp only [List.length_nil] at t4
       have sl2 : ∀ W, (Instr.slice 44 (.slice (some ⟨g2, 0, none⟩) (nd + 1) k2) none (some (.int .i64 (nd : Int))) none).run Tryz.prog W = .ok (.slice (some ⟨g2, 0, none⟩) nd k2) W := Y5Y (l := nd) Tryz.slOp Tryz.elOpD Z4A rfl hcap
       have RD3 : Hid (RdOp w2 w2.heap.size (some ⟨g2, 0, none⟩) D2.dropLast) := hid (by
        rw [List.dropLast_eq_take]
        exact ⟨RD2.out.1.take _, fun z hz => RD2.out.2 z (List.mem_of_mem_take hz)⟩)
       go_wp2_with (go_at_call 32; refine Hid.out ?_)
       refine hid ?_
       refine (Z21 (some ⟨g2, 0, none⟩) nd k2 D2.dropLast w2 HDL.out RD3.out (by have := LBN.out; clear hwr hwr2 hw2; omega) (fun z hz => LN2.out z ((List.dropLast_sublist _).subset hz))).mono ?_
       intro e w3 hN
       obtain ⟨A9, c9, l9, rfl, hl9, ho9, hp9, y9⟩ := NewOps.late Y2.out hN
       have HF : Hid (NewOps (Z1z (ofM (osOf x))) w (.returned (.slice A9 l9.length c9)) w3) := hid ⟨A9, c9, l9, rfl, hl9.trans (by rw [HE3.out, ← HD2.out, CT.out, if_pos (by simp)]), ho9, hp9, y9⟩
       clear hN hl9 ho9 hp9 y9
       go_wp2_with (fail)
       go_ret
       exact HF.out
      ·have HQ := hid hqq
       have hql : ((qa.length : Int) == 0) = false := beq_eq_false_iff_ne.2 (by have := List.length_pos_iff.2 hqq; clear hwr hwr2 hw2; omega)
       clear hqq
       go_wp2_with (go_at_call 32; refine Hid.out ?_)
       refine hid ?_
       refine (Z21 (some ⟨g2, 0, none⟩) (nd + 1) k2 D2 w2 HL2.out.symm RD2.out (by have := LBN.out; clear hwr hwr2 hw2; omega) LN2.out).mono ?_
       intro e w3 hN
       obtain ⟨A9, c9, l9, rfl, hl9, ho9, hp9, y9⟩ := NewOps.late Y2.out hN
       have HF : Hid (NewOps (Z1z (ofM (osOf x))) w (.returned (.slice A9 l9.length c9)) w3) := hid ⟨A9, c9, l9, rfl, hl9.trans (by rw [HE3.out, ← HD2.out, CT.out, if_neg (fun h => HQ.out h.2)]), ho9, hp9, y9⟩
       clear hN hl9 ho9 hp9 y9
       go_wp2_with (fail)
       go_ret
       exact HF.out
     ·have hka' : (ka == 1) = false := beq_eq_false_iff_ne.2 hka
      have HKA := hid hka
      clear hka
      go_wp2_with (go_at_call 32; refine Hid.out ?_)
      refine hid ?_
      refine (Z21 (some ⟨g2, 0, none⟩) (nd + 1) k2 D2 w2 HL2.out.symm RD2.out (by have := LBN.out; clear hwr hwr2 hw2; omega) LN2.out).mono ?_
      intro e w3 hN
      obtain ⟨A9, c9, l9, rfl, hl9, ho9, hp9, y9⟩ := NewOps.late Y2.out hN
      have HF : Hid (NewOps (Z1z (ofM (osOf x))) w (.returned (.slice A9 l9.length c9)) w3) := hid ⟨A9, c9, l9, rfl, hl9.trans (by rw [HE3.out, ← HD2.out, CT.out, if_neg (fun h => HKA.out h.1)]), ho9, hp9, y9⟩
      clear hN hl9 ho9 hp9 y9
      go_wp2_with (fail)
      go_ret
      exact HF.out
open Go.RowKit Go.MapKept
theorem Tryz.mpOps : Tryz.prog.underlying 157 = some (.map 3 44) := by kernel_rfl
theorem Tryz.mpNum : Tryz.prog.underlying 158 = some (.map 3 3) := by kernel_rfl
theorem Tryz.mpChs : Tryz.prog.underlying 159 = some (.map 3 48) := by kernel_rfl
theorem Tryz.zeroOps (w : World) : (zeroValue 44).run Tryz.prog w = .ok (.slice none 0 0) w := by kernel_rfl
theorem Tryz.zeroNum (w : World) : (zeroValue 3).run Tryz.prog w = .ok (.int .i64 0) w := by kernel_rfl
theorem Tryz.zeroChs (w : World) : (zeroValue 48).run Tryz.prog w = .ok (.slice none 0 0) w := by kernel_rfl
section
variable {ops : Array Oper} {rest : List Oper} {o : Oper} {a : Act} {Q : Exit → Act → World → Prop} {w : World} {K : Act → World → Prop} {E : Prop}
theorem Z5r {t e : TypeId} {z : Value} {b : Nat} {kv : List (Int × Value)} (hg : o.guard = none) (m x : Operand) (hop : o.op = Op.lookup t m x false) (id : Int) (hm : a.eval m = .map (some b)) (hx : a.eval x = .int .i64 id)
 (hu : Tryz.prog.underlying t = some (.map 3 e)) (hz : ∀ w, (zeroValue e).run Tryz.prog w = .ok z w) (hM : MapV w b kv)
 (hK : wpList Tryz.prog ops Q rest (a.put o.dst ((Z12 kv id).getD z)) w) : wpList Tryz.prog ops Q (o :: rest) a w := by
 refine wpList_plain hg fun K' hK' => ?_
 unfold Oper.wp
 simp [execOp, hop, hm, hx, hM.look hu hz id, Result.andThen]
 exact hK' _ _ hK
theorem Z6u {t e : TypeId} {b : Nat} {kv : List (Int × Value)} {val : Value} (hg : o.guard = none) (hd : o.dst = none) (m x v : Operand) (hop : o.op = Op.mapUpdate t m x v) (id : Int) (hm : a.eval m = .map (some b)) (hx : a.eval x = .int .i64 id) (hv : a.eval v = val)
 (hu : Tryz.prog.underlying t = some (.map 3 e)) (hM : MapV w b kv)
 (hK : ∀ w', MapV w' b (putV kv id val) → (∀ j, j ≠ b → w'.heap[j]? = w.heap[j]?) → w'.heap.size = w.heap.size → w'.os = w.os → w'.tape = w.tape → w'.output = w.output → wpList Tryz.prog ops Q rest a w') : wpList Tryz.prog ops Q (o :: rest) a w := by
 refine wpList_plain hg fun K' hK' => ?_
 obtain ⟨w', hrun, h1, h2, h3, h4, h5, h6⟩ := hM.store hu id val
 unfold Oper.wp
 simp [execOp, hop, hm, hx, hv, hrun, Result.andThen]
 unfold Oper.upon
 rw [hd]
 exact hK' _ _ (hK w' h1 h2 h3 h4 h5 h6)
end
def zk (z : OpS) (k : Nat) : OpS := { z with o := { z.o with n := (k : Int) } }
theorem Y6w {z : OpS} (h : 0 ≤ z.o.n) : zk z z.o.n.toNat = z := by
 unfold zk
 rw [Int.toNat_of_nonneg h]
def Z4J (c : Option OpS) : Value := .int .i64 (match c with | some z => if z.o.k = 3 then 1 else 0 | none => 0)
def patV (c : Option OpS) : Value := match c with | some z => if z.o.k = 3 then .slice none 0 0 else .slice z.Ap z.o.p.length z.cp | none => .slice none 0 0
def PlanGone (kv : List (Int × Value)) (X : List OpS) : Prop := ∀ g : Nat, (Z12 kv (g : Int)).getD (.int .i64 0) = Z4J (Z0C X g)
def PlanPat (kv : List (Int × Value)) (X : List OpS) : Prop := ∀ g : Nat, (Z12 kv (g : Int)).getD (.slice none 0 0) = patV (Z0C X g)
theorem Z8D {X : List OpS} {z : OpS} (hz : z.o.k = 2) (g : Nat) : Z0C (X ++ [z]) g = Z0C X g := by
 rw [Z17]
 by_cases h : g < Z0u X
 ·rw [if_pos h]
 ·rw [if_neg h, if_pos hz, Z1U X g (by omega)]
theorem Z7f {X : List OpS} {z : OpS} (hz : ¬ z.o.k = 2) (g : Nat) : Z0C (X ++ [zk z 0]) g = Z0C X g := by
 rw [Z17]
 by_cases h : g < Z0u X
 ·rw [if_pos h]
 ·rw [if_neg h, if_neg (show ¬ (zk z 0).o.k = 2 from hz), if_neg (show ¬ g < Z0u X + (zk z 0).o.n.toNat by show ¬ g < Z0u X + ((0 : Nat) : Int).toNat; simp; omega), Z1U X g (by omega)]
theorem Z3V {X : List OpS} {z : OpS} {k : Nat} (hz : ¬ z.o.k = 2) (g : Nat) : Z0C (X ++ [zk z (k + 1)]) g = if g = Z0u X + k then some (zk z (k + 1)) else (Z0C (X ++ [zk z k]) g).map (fun c => if g < Z0u X then c else zk z (k + 1)) := by
 rw [Z17, Z17]
 have e1 : (zk z (k + 1)).o.n.toNat = k + 1 := by show ((k + 1 : Nat) : Int).toNat = k + 1; simp
 have e2 : (zk z k).o.n.toNat = k := by show ((k : Nat) : Int).toNat = k; simp
 rw [e1, e2]
 have hz1 : ¬ (zk z (k + 1)).o.k = 2 := hz
 have hz2 : ¬ (zk z k).o.k = 2 := hz
 by_cases h : g < Z0u X
 ·rw [if_pos h, if_pos h, if_neg (by omega)]
  cases Z0C X g <;> simp [h]
 ·rw [if_neg h, if_neg h, if_neg hz1, if_neg hz2]
  by_cases h1 : g = Z0u X + k
  ·rw [if_pos (by omega), if_pos h1]
  ·rw [if_neg h1]
   by_cases h2 : g < Z0u X + k
   ·rw [if_pos (by omega), if_pos h2]; simp [h]
   ·rw [if_neg (by omega), if_neg h2]; rfl
theorem Z4K {X : List OpS} {z : OpS} {k : Nat} (hz : ¬ z.o.k = 2) (g : Nat) : Z1n (X ++ [zk z k]) g = Z1n X g := by
 rw [Z25, if_neg (fun h => hz h.1)]
theorem Z3i {X : List OpS} {z : OpS} {k : Nat} (hz : ¬ z.o.k = 2) : Z0u (X ++ [zk z k]) = Z0u X + k := by
 rw [Z7c, if_neg (show ¬ (zk z k).o.k = 2 from hz)]
 show Z0u X + ((k : Nat) : Int).toNat = _
 simp
theorem Y3b {c : Option OpS} {f : OpS → OpS} (h : ∀ z, c = some z → (f z).o.k = z.o.k) : Z4J (c.map f) = Z4J c := by
 cases c with
 | none => rfl
 | some z => unfold Z4J; simp only [Option.map_some]; rw [h z rfl]
theorem Y4G {c : Option OpS} {f : OpS → OpS} (h : ∀ z, c = some z → (f z).o.k = z.o.k ∧ (f z).Ap = z.Ap ∧ (f z).o.p = z.o.p ∧ (f z).cp = z.cp) : patV (c.map f) = patV c := by
 cases c with
 | none => rfl
 | some z =>
   unfold patV; simp only [Option.map_some]
   obtain ⟨h1, h2, h3, h4⟩ := h z rfl
   rw [h1, h2, h3, h4]
theorem Z7g {X : List OpS} {z c : OpS} {k g : Nat} (hz : ¬ z.o.k = 2) (h : Z0C (X ++ [zk z k]) g = some c) (hg : ¬ g < Z0u X) : c = zk z k := by
 rw [Z17, if_neg hg, if_neg (show ¬ (zk z k).o.k = 2 from hz)] at h
 split at h
 ·injection h with h; exact h.symm
 ·cases h
section
variable {kv : List (Int × Value)} {X : List OpS} {z : OpS} {k : Nat}
theorem PlanGone.ins (h : PlanGone kv X) (hz : z.o.k = 2) : PlanGone kv (X ++ [z]) := fun g => by rw [Z8D hz]; exact h g
theorem PlanPat.ins (h : PlanPat kv X) (hz : z.o.k = 2) : PlanPat kv (X ++ [z]) := fun g => by rw [Z8D hz]; exact h g
theorem PlanGone.zero (h : PlanGone kv X) (hz : ¬ z.o.k = 2) : PlanGone kv (X ++ [zk z 0]) := fun g => by rw [Z7f hz]; exact h g
theorem PlanPat.zero (h : PlanPat kv X) (hz : ¬ z.o.k = 2) : PlanPat kv (X ++ [zk z 0]) := fun g => by rw [Z7f hz]; exact h g
theorem Z8E (hz : ¬ z.o.k = 2) (g : Nat) : Z4J ((Z0C (X ++ [zk z k]) g).map (fun c => if g < Z0u X then c else zk z (k + 1))) = Z4J (Z0C (X ++ [zk z k]) g) :=
 Y3b fun c hc => by
  by_cases hg : g < Z0u X
  ·rw [if_pos hg]
  ·rw [if_neg hg, Z7g hz hc hg]; rfl
theorem Y0t (hz : ¬ z.o.k = 2) (g : Nat) : patV ((Z0C (X ++ [zk z k]) g).map (fun c => if g < Z0u X then c else zk z (k + 1))) = patV (Z0C (X ++ [zk z k]) g) :=
 Y4G fun c hc => by
  by_cases hg : g < Z0u X
  ·rw [if_pos hg]; exact ⟨rfl, rfl, rfl, rfl⟩
  ·rw [if_neg hg, Z7g hz hc hg]; exact ⟨rfl, rfl, rfl, rfl⟩
theorem Z8F (hz : ¬ z.o.k = 2) : Z0C (X ++ [zk z k]) (Z0u X + k) = none := Z1U _ _ (by rw [Z3i hz]; omega)
theorem PlanGone.put (h : PlanGone kv (X ++ [zk z k])) (hz : z.o.k = 3) : PlanGone (putV kv ((Z0u X + k : Nat) : Int) (.int .i64 1)) (X ++ [zk z (k + 1)]) := fun g => by
 have hz2 : ¬ z.o.k = 2 := by rw [hz]; decide
 rw [Z4I, Z3V hz2]
 by_cases hg : g = Z0u X + k
 ·subst hg
  rw [if_pos rfl, if_pos rfl]
  have : (zk z (k + 1)).o.k = 3 := hz
  unfold Z4J; simp [this]
 ·rw [if_neg (by omega), if_neg hg, Z8E hz2]; exact h g
theorem PlanGone.skip (h : PlanGone kv (X ++ [zk z k])) (hz : ¬ z.o.k = 2) (hz3 : ¬ z.o.k = 3) : PlanGone kv (X ++ [zk z (k + 1)]) := fun g => by
 rw [Z3V hz]
 by_cases hg : g = Z0u X + k
 ·subst hg
  rw [if_pos rfl]
  have h1 := h (Z0u X + k)
  rw [Z8F hz] at h1
  rw [h1]
  have : ¬ (zk z (k + 1)).o.k = 3 := hz3
  unfold Z4J; simp [this]
 ·rw [if_neg hg, Z8E hz]; exact h g
theorem PlanPat.skip (h : PlanPat kv (X ++ [zk z k])) (hz : z.o.k = 3) : PlanPat kv (X ++ [zk z (k + 1)]) := fun g => by
 have hz2 : ¬ z.o.k = 2 := by rw [hz]; decide
 rw [Z3V hz2]
 by_cases hg : g = Z0u X + k
 ·subst hg
  rw [if_pos rfl]
  have h1 := h (Z0u X + k)
  rw [Z8F hz2] at h1
  rw [h1]
  have : (zk z (k + 1)).o.k = 3 := hz
  unfold patV; simp [this]
 ·rw [if_neg hg, Y0t hz2]; exact h g
theorem PlanPat.put (h : PlanPat kv (X ++ [zk z k])) (hz : ¬ z.o.k = 2) (hz3 : ¬ z.o.k = 3) : PlanPat (putV kv ((Z0u X + k : Nat) : Int) (.slice z.Ap z.o.p.length z.cp)) (X ++ [zk z (k + 1)]) := fun g => by
 rw [Z4I, Z3V hz]
 by_cases hg : g = Z0u X + k
 ·subst hg
  rw [if_pos rfl, if_pos rfl]
  have : ¬ (zk z (k + 1)).o.k = 3 := hz3
  unfold patV; simp [this]; exact ⟨rfl, rfl, rfl⟩
 ·rw [if_neg (by omega), if_neg hg, Y0t hz]; exact h g
end
def PlanRows (w : World) (base lo N : Nat) (kv : List (Int × Value)) (X : List OpS) : Prop :=
 (∀ g : Nat, N < g → Z12 kv (g : Int) = none) ∧
 ∀ g : Nat, ∃ A n c, (Z12 kv (g : Int)).getD (.slice none 0 0) = .slice A n c ∧ n = (Z1n X g).length ∧ OwOs w base (.slice A n c) (Z1n X g) ∧ (g < N → ∀ k, wb (.slice A n c) = some k → k < lo) ∧ (N ≤ g → ∀ k, wb (.slice A n c) = some k → lo ≤ k)
theorem PlanRows.new (w : World) (base lo : Nat) : PlanRows w base lo 0 [] [] :=
 ⟨fun _ _ => rfl, fun g => ⟨none, 0, 0, rfl, rfl, Ow.nil _ _, fun h => by omega, fun _ k hk => by cases hk⟩⟩
section
variable {w w' : World} {base lo N : Nat} {kv : List (Int × Value)} {X : List OpS} {z : OpS}
theorem PlanRows.keep (h : PlanRows w base lo N kv X) (hk : ∀ k, base ≤ k → k < w.heap.size → w'.heap[k]? = w.heap[k]?) : PlanRows w' base lo N kv X :=
 ⟨h.1, fun g => by
  obtain ⟨A, n, c, h1, h2, h3, h4, h5⟩ := h.2 g
  exact ⟨A, n, c, h1, h2, h3.keep fun k hw => hk k (h3.wb_lt k hw).1 (h3.wb_lt k hw).2, h4, h5⟩⟩
theorem PlanRows.same (h : PlanRows w base lo N kv X) {Y : List OpS} (hY : ∀ g, Z1n Y g = Z1n X g) : PlanRows w base lo N kv Y :=
 ⟨h.1, fun g => by rw [hY g]; exact h.2 g⟩
theorem PlanRows.adv (h : PlanRows w base lo N kv X) (hs : lo ≤ w.heap.size) : PlanRows w base w.heap.size (N + 1) kv X :=
 ⟨fun g hg => h.1 g (by omega), fun g => by
  obtain ⟨A, n, c, h1, h2, h3, h4, h5⟩ := h.2 g
  refine ⟨A, n, c, h1, h2, h3, fun _ k hk => (h3.wb_lt k hk).2, fun hg k hk => ?_⟩
  rw [h.1 g (by omega)] at h1
  injection h1 with e1 e2 e3
  subst e1 e2 e3
  cases hk⟩
theorem PlanRows.push (h : PlanRows w base lo N kv X) (hN : N = Z0u X) (hz : z.o.k = 2) (hs : lo ≤ w.heap.size) {wa wb' : World} {v v' : Value} (hv : (Z12 kv (N : Int)).getD (.slice none 0 0) = v)
 (ha : w.heap.size ≤ wa.heap.size) (hab : ∀ k, k < w.heap.size → wa.heap[k]? = w.heap[k]?) (ho : OwOs wb' base v' (Z1n X N ++ [z])) (hg : wa.grownBy wb' (wb v)) (hw : v' = v ∧ wb' = wa ∨ wb v' = wb v ∨ wb v' = some wa.heap.size)
 {w'' : World} (hk : ∀ k, base ≤ k → w''.heap[k]? = wb'.heap[k]?) : PlanRows w'' base lo N (putV kv (N : Int) v') (X ++ [z]) := by
 obtain ⟨A0, n0, c0, e1, e2, e3, e4, e5⟩ := h.2 N
 rw [hv] at e1
 subst e1
 refine ⟨fun g hg' => by rw [Z4I, if_neg (by omega)]; exact h.1 g hg', fun g => ?_⟩
 rw [Z4I, Z25]
 by_cases hgN : g = N
 ·subst hgN
  rw [if_pos rfl, if_pos ⟨hz, hN⟩]
  obtain ⟨A, c, e6, _, _⟩ := ho.form
  subst e6
  refine ⟨A, _, c, rfl, rfl, ho.keep fun k hw2 => hk k (ho.wb_lt k hw2).1, fun h' => by omega, fun _ k hw2 => ?_⟩
  rcases hw with ⟨h1, _⟩ | h1 | h1
  ·rw [h1] at hw2; exact e5 (Nat.le_refl _) k hw2
  ·rw [h1] at hw2; exact e5 (Nat.le_refl _) k hw2
  ·rw [h1] at hw2; injection hw2 with hw2; omega
 ·rw [if_neg (by omega), if_neg (fun h' => hgN (h'.2.trans hN.symm))]
  obtain ⟨A, n, c, h1, h2, h3, h4, h5⟩ := h.2 g
  refine ⟨A, n, c, h1, h2, h3.keep fun k hw2 => ?_, h4, h5⟩
  have hb := h3.wb_lt k hw2
  rw [hk k hb.1]
  have hne : wb (.slice A0 n0 c0) ≠ some k := by
   intro e
   rcases Nat.lt_or_ge g N with hlt | hge
   ·have := h4 hlt k hw2
    have := e5 (Nat.le_refl _) k e
    omega
   ·rw [h.1 g (by omega)] at h1
    injection h1 with q1 q2 q3
    subst q1 q2 q3
    cases hw2
  exact (hg.block k (by omega) (fun e => hne e.symm)).trans (hab k hb.2)
end
end Go.Proofs.YtfnkjcodcoehcaaGreatDoor
