/- Merged texts: Of16. -/
import Derived.StillTailTactics
import Derived.Test.YtbdkbfoplpociaaGreatDoorC6
import Derived.Test.YtbdkbfoplpociaaGreatDoorC7
import Derived.Test.YtbdkbfoplpociaaGreatDoorK30
import Derived.Test.YtbdkbfoplpociaaGreatDoorK35
namespace Go.Proofs.YtbdkbfoplpociaaGreatDoor
open Go.RowKit
set_option linter.unusedVariables false
set_option linter.unusedSimpArgs false

theorem szN_drop (x : List OpS) : ∀ f, szN (x.drop f) ≤ szN x := by
  induction x with
  | nil => intro f; simp
  | cons a x ih =>
    intro f
    cases f with
    | zero => exact Nat.le_refl _
    | succ f => rw [List.drop_succ_cons, szN_cons]; have := ih f; omega
theorem szN_part (x : List OpS) (f k : Nat) : szN ((x.drop f).take k) ≤ szN x := Nat.le_trans (szN_take _ _) (szN_drop x f)
set_option maxRecDepth 100000 in
set_option maxHeartbeats 6400000 in
theorem of16_any (A : Option Addr) (n c : Nat) (x : List OpS) (w : World) (hn : n = x.length) (hc : n ≤ c) (h : RdOp w w.heap.size A x) (hi : ∀ o ∈ x, isOp o.o) (hz : szN x ≤ 1000000) (hz2 : ∀ o ∈ x, o.o.s.length ≤ 1000000 ∧ o.o.p.length ≤ 1000000) :
    Calls Tryz.prog 27 #[.slice A n c] w (NewOps (mkOps (ofM (osOf x))) w) := by
  have N := Lib.hid hn
  have HR := Lib.hid h.1
  have HP := Lib.hid h.2
  have HI := Lib.hid hi
  have HC := Lib.hid hc
  have HZ := Lib.hid hz
  have HZ2 := Lib.hid hz2
  have NB : Hid (n ≤ 1000000) := Lib.hid (by have h1 := szN_len x; omega)
  have HB : Hid (∀ i, MkB (ofM (osOf (x.take i))) 2000000 1000000) := Lib.hid (fun i => by
    have h1 := ofM_bndN (S := 1000000) (x.take i) (fun o ho => hz2 o (List.mem_of_mem_take ho))
    have h2 := szN_take x i
    exact h1.mono (by omega) (Nat.le_refl _))
  clear hn h hi hz hz2 hc
  go_enter Tryz.func27, Tryz.ntmps27
  go_wp2_with (fail)
  go_loopg [3, 4, 5] (n + 1) (fun g ov fv iv wr => ∃ (i f : Nat) (D : List OpS), i ≤ n ∧ f ≤ i ∧ g = n + 1 - i ∧ iv = .int .i64 (i : Int) ∧ fv = .int .i64 (f : Int) ∧ RowF wr (fun _ => False) w.heap.size ov D ∧ Hid (osOf D = (ofM (osOf (x.take f))).done) ∧ Hid ((ofM (osOf (x.take f))).ins = [] ∧ (ofM (osOf (x.take f))).gone = 0) ∧ Hid (∀ o ∈ (x.drop f).take (i - f), o.o.k ≠ 1) ∧ Below w.heap.size w wr)
  case atStart => exact ⟨0, 0, [], by omega, by omega, rfl, rfl, rfl, RowF.nil _ _ _, Lib.hid rfl, Lib.hid ⟨rfl, rfl⟩, Lib.hid (fun o ho => by simp at ho), Below.refl _ _⟩
  case round =>
    obtain ⟨i, f, D, hi, hf, hg, rfl, rfl, hrow, HD, HE, HNR, y⟩ := hrel
    have HG := Lib.hid hg
    have HRW := Lib.hid hrow
    have Y := Lib.hid y
    clear hg hrow y
    obtain ⟨A1, k1, hv1, _, _⟩ := HRW.out.own.form
    subst hv1
    have hle : (i : Int) ≤ (n : Int) := by omega
    have hw2 : IntKind.i64.wrap ((i:Int) + 1) = (i : Int) + 1 := IntWalk.i64_in _ (by have := NB.out; omega)
    by_cases hcont : ∃ o, x[i]? = some o ∧ o.o.k ≠ 1
    · obtain ⟨o, hx1, hk1⟩ := hcont
      have hlt : i < x.length := (List.getElem?_eq_some_iff.1 hx1).1
      obtain ⟨ad, o2, rfl, had, _, hx2, hc1⟩ := (HR.out.ext Y.out).el hlt
      have ho2 : o2 = o := by rw [hx1] at hx2; injection hx2 with h; exact h.symm
      subst ho2
      have hlt' : (i : Int) < (n : Int) := by have := N.out; omega
      have HNR2 : Hid (∀ o ∈ (x.drop f).take (i + 1 - f), o.o.k ≠ 1) := Lib.hid (fun z hz => by
        rw [show i + 1 - f = (i - f) + 1 by omega, List.take_add_one] at hz
        rcases List.mem_append.1 hz with hz | hz
        · exact HNR.out z hz
        · have e : (x.drop f)[i - f]? = some o2 := by rw [List.getElem?_drop, show f + (i - f) = i by omega]; exact hx1
          rw [e] at hz
          simp at hz
          subst hz
          exact hk1)
      obtain ⟨⟨k, nn, r, s, q⟩, Ar, cr, As, cs, Ap, cp⟩ := o2
      obtain ⟨z0, z1, z2, z3, z4⟩ := op_cells hc1
      have hk1' : (k != 1) = true := by rw [bne, beq_eq_false_iff_ne.2 hk1]; rfl
      clear hc1 hx1 hx2 had hk1
      go_wp2_with (fail)
      go_roundg (n + 1 - (i + 1))
      case measure => have := HG.out; omega
      case rel => exact ⟨i + 1, f, D, by omega, by omega, rfl, by go_num, rfl, HRW.out, HD, HE, HNR2, Y.out⟩
    · have HCO := Lib.hid hcont
      clear hcont
      obtain ⟨g, hgd⟩ : ∃ g, (x.drop f).take (i - f) = g := ⟨_, rfl⟩
      obtain ⟨A7, hA7⟩ : ∃ X, advS A c f 5 = X := ⟨_, rfl⟩
      obtain ⟨n7, hn7⟩ : ∃ X, i - f = X := ⟨_, rfl⟩
      obtain ⟨c7, hc7⟩ : ∃ X, c - f = X := ⟨_, rfl⟩
      have sl1 : ∀ W, (Instr.slice 23 (.slice A n c) (some (.int .i64 (f : Int))) (some (.int .i64 (i : Int))) none).run Tryz.prog W = .ok (.slice A7 n7 c7) W := sl_both Tryz.slOp Tryz.elOpD size_opD rfl rfl hA7 hn7 hc7 hf (by have := HC.out; omega)
      have RG : Hid (RdOs wr wr.heap.size A7 g) := Lib.hid (by
        have h := (HR.out.ext Y.out).advS (k := f) (c := c) (by have := N.out; omega) (by have := N.out; have := HC.out; omega)
        rw [hA7] at h
        rw [← hgd]; exact h.take _)
      have LG : Hid (n7 = g.length) := Lib.hid (by rw [← hgd, ← hn7, List.length_take, List.length_drop]; have := N.out; omega)
      have MG : Hid (∀ z ∈ g, z ∈ x) := Lib.hid (fun z hz => by rw [← hgd] at hz; exact List.mem_of_mem_drop (List.mem_of_mem_take hz))
      have SG : Hid (szN g ≤ 1000000) := Lib.hid (by rw [← hgd]; exact Nat.le_trans (szN_part x f _) HZ.out)
      have SGK := Lib.hid SG.out
      have GK : Hid (∀ o ∈ g, isOp o.o ∧ o.o.k ≠ 1) := Lib.hid (fun z hz => ⟨HI.out z (MG.out z hz), by rw [← hgd, ← hn7] at *; exact HNR.out z hz⟩)
      have XT : Hid (x.take i = x.take f ++ g) := Lib.hid (by
        rw [← hgd]
        conv => lhs; rw [show i = f + (i - f) by omega, List.take_add])
      have PG : Hid (∀ z ∈ g, PartF wr (RowG (fun _ => False) (.slice A1 D.length k1)) z) := Lib.hid (fun z hz => by
        have p := HP.out z (MG.out z hz)
        have p0 : PartF w (fun _ => False) z := ⟨⟨p.1, fun _ _ _ h => h⟩, ⟨p.2.1, fun _ _ _ h => h⟩, ⟨p.2.2, fun _ _ _ h => h⟩⟩
        exact p0.fresh Y.out HRW.out.low)
      clear hA7 hn7 hc7 hgd
      have hnc : ∀ o, x[i]? = some o → o.o.k = 1 := fun o ho => by
        by_cases h : o.o.k = 1
        · exact h
        · exact absurd ⟨o, ho, h⟩ HCO.out
      have hguard : (decide ((i : Int) < (n : Int)) = false) ∨ (i < x.length) := by
        by_cases h : (i : Int) < (n : Int)
        · right; have := N.out; omega
        · left; exact decide_eq_false h
      by_cases hlt : i < x.length
      · obtain ⟨ad, o, rfl, had, _, hx1, hc1⟩ := HR.out.el hlt
        have hk := hnc o hx1
        have hlt' : (i : Int) < (n : Int) := by have := N.out; omega
        have hne' : ((i : Int) == (n : Int)) = false := beq_eq_false_iff_ne.2 (by omega)
        have IOq := Lib.hid (HI.out o (List.mem_of_getElem? hx1))
        have XT2 : Hid (osOf (x.take (i + 1)) = osOf (x.take f) ++ osOf g ++ [o.o]) := Lib.hid (by
          rw [List.take_add_one, hx1, XT.out]; unfold osOf; simp)
        have PO : Hid (RdI32 wr wr.heap.size o.Ar o.o.r ∧ RdAt wr wr.heap.size o.As o.o.s ∧ RdCh wr wr.heap.size o.Ap o.o.p) := Lib.hid (by
          have p := HP.out o (List.mem_of_getElem? hx1)
          exact ⟨p.1.ext Y.out, p.2.1.ext Y.out, p.2.2.ext Y.out⟩)
        have P0 : Hid (PartF w (fun _ => False) o) := Lib.hid (by
          have p := HP.out o (List.mem_of_getElem? hx1)
          exact ⟨⟨p.1, fun _ _ _ h => h⟩, ⟨p.2.1, fun _ _ _ h => h⟩, ⟨p.2.2, fun _ _ _ h => h⟩⟩)
        have SO := Lib.hid (HZ2.out o (List.mem_of_getElem? hx1))
        have HC1 := Lib.hid hc1
        have HAD := Lib.hid had
        obtain ⟨⟨k, nn, r, s, q⟩, Ar, cr, As, cs, Ap, cp⟩ := o
        simp only at hk
        subst hk
        obtain ⟨z0, z1, z2, z3, z4⟩ := op_cells (hc1.keep (w' := wr) fun p hp => Y.out.cell (by rw [hp, add_block]; exact had))
        clear hnc hguard hc1 had hx1
        go_wp2_with (go_at_call 107; refine Hid.out ?_)
        refine Lib.hid ?_
        refine (gap16_any A7 n7 c7 g wr (RowG (fun _ => False) (.slice A1 D.length k1)) LG.out RG.out PG.out (fun k hk => by
          rcases hk with hk | hk
          · exact hk.elim
          · exact (HRW.out.own.wb_lt k hk).2) GK.out SG.out (fun o ho => HZ2.out o (MG.out o ho))).mono ?_
        rintro e w1 ⟨A8, c8, L, rfl, hL, rowL, y1⟩
        have HL := Lib.hid hL
        have RL := Lib.hid rowL
        have Y1 := Lib.hid y1
        have LB : Hid (D.length ≤ 3000000 ∧ L.length ≤ 3000000) := Lib.hid (by
          have h1 := (HB.out f).len
          rw [← HD.out] at h1
          have h2 : (osOf D).length = D.length := by unfold osOf; simp
          have h3 := (ofM_bndN (S := 1000000) g (fun o ho => HZ2.out o (MG.out o ho))).gap.1
          have h4 : (osOf L).length = L.length := by unfold osOf; simp
          rw [hL] at h4
          unfold gapP at h4
          rw [List.length_append] at h3
          have := SG.out
          omega)
        clear hL rowL y1
        go_wp2_with (at_builtin; refine app_os (m := L) rfl (.tmp 26) (.tmp 31) rfl rfl (by exact HRW.out.own.below Y1.out (Nat.le_refl _)) _ A8 c8 L.length rfl rfl (by exact RL.out.own.rd OpS.enc_len) (by have := LB.out; omega) (by exact Nat.le_trans Y.out.size Y1.out.size) ?_; intro v2 w2 hown hgr hv; refine Hid.out ?_)
        refine Lib.hid ?_
        have HR2 := Lib.hid ((HRW.out.ext Y1.out).app (fun z hz => (RL.out.parts z hz).less (fun k hk => .inl hk)) hown hgr hv)
        have Y2 : Hid (Below w.heap.size w w2) := Lib.hid (below_app (Y.out.trans (Y1.out.mono Y.out.size)) (Nat.le_trans Y.out.size Y1.out.size) (HRW.out.own.below Y1.out (Nat.le_refl _)) (Nat.le_refl _) hgr)
        have HD2 : Hid (osOf (D ++ L) = (ofM (osOf (x.take f))).done ++ gapP (osOf g)) := Lib.hid (by rw [← HD.out, ← HL.out]; unfold osOf; simp)
        have LB2 : Hid ((D ++ L).length ≤ 6000000) := Lib.hid (by have := LB.out; rw [List.length_append]; omega)
        have HE2 : Hid (∀ o : Opd, o.k = 1 → 1 ≤ o.n → ofM (osOf (x.take f) ++ osOf g ++ [o]) = ⟨addR ((ofM (osOf (x.take f))).done ++ gapP (osOf g)) o.n o.p, [], 0⟩) := Lib.hid (fun o h1 h2 => of_ret HE.out.1 HE.out.2 (fun z hz => by
          unfold osOf at hz
          obtain ⟨y, hy, rfl⟩ := List.mem_map.1 hz
          exact (GK.out y hy).2) h1 h2)
        have HE3 : Hid (mkOps (ofM (osOf (x.take f) ++ osOf g)) = cutR ((ofM (osOf (x.take f))).done ++ gapP (osOf g))) := Lib.hid (of_end HE.out.1 HE.out.2 (fun z hz => by
          unfold osOf at hz
          obtain ⟨y, hy, rfl⟩ := List.mem_map.1 hz
          exact (GK.out y hy).2))
        obtain ⟨A2, k2, hv2, _, _⟩ := hown.form
        subst hv2
        clear hown hgr hv
        generalize hD2 : D ++ L = D2 at *
        clear hD2 HL RL Y1 LB HRW HD HE PG RG SG LG
        have HZW : Hid (CellsAt w2 (ad.add (i * 5)) (⟨⟨1, nn, r, s, q⟩, Ar, cr, As, cs, Ap, cp⟩ : OpS).enc) := Lib.hid (HC1.out.keep (w' := w2) fun p hp => Y2.out.cell (by rw [hp, add_block]; exact HAD.out))
        obtain ⟨z0, z1, z2, z3, z4⟩ := op_cells HZW.out
        have PO2 : Hid (PartF w2 (RowG (fun _ => False) (.slice A2 D2.length k2)) (⟨⟨1, nn, r, s, q⟩, Ar, cr, As, cs, Ap, cp⟩ : OpS)) := Lib.hid (P0.out.fresh Y2.out HR2.out.low)
        have HN1 : Hid (1 ≤ nn) := Lib.hid (opR_of IOq.out rfl).2
        -- behind the round
        have DONE : Hid (∀ D3 : List OpS, osOf D3 = addR ((ofM (osOf (x.take f))).done ++ gapP (osOf g)) nn q → osOf D3 = (ofM (osOf (x.take (i + 1)))).done ∧ (ofM (osOf (x.take (i + 1)))).ins = [] ∧ (ofM (osOf (x.take (i + 1)))).gone = 0) := Lib.hid (fun D3 h3 => by
          rw [XT2.out, HE2.out _ rfl HN1.out]
          exact ⟨h3, rfl, rfl⟩)
        have NONE : Hid (∀ o ∈ (x.drop (i + 1)).take (i + 1 - (i + 1)), o.o.k ≠ 1) := Lib.hid (fun o ho => by simp at ho)
        rcases List.eq_nil_or_concat D2 with h0 | ⟨T, a, h0⟩
        · subst h0
          simp only [List.length_nil] at *
          go_wp2_with (fail)
          go_quiet (fail)
          have YD : Hid (Below w.heap.size w (w2.drewN nq)) := Lib.hid (below_drewN Y2.out nq)
          have HRD : Hid (RowF (w2.drewN nq) (fun _ => False) w.heap.size (.slice A2 0 k2) ([] : List OpS)) := Lib.hid (HR2.out.ext (ext_drew _ nq))
          have PD : Hid (PartF (w2.drewN nq) (RowG (fun _ => False) (.slice A2 0 k2)) (⟨⟨1, nn, r, s, q⟩, Ar, cr, As, cs, Ap, cp⟩ : OpS)) := Lib.hid (PO2.out.grow (Grow.of (ext_drew _ nq)))
          go_wp2_with (at_builtin; refine app_os (m := [(⟨⟨1, nn, r, s, q⟩, Ar, cr, As, cs, Ap, cp⟩ : OpS)]) rfl (.tmp 80) (.tmp 85) rfl rfl (by exact HRD.out.own.alloc _) _ _ 1 1 rfl rfl (by exact rd_one_at (enc := OpS.enc) (size := 5) _ _ (⟨⟨1, nn, r, s, q⟩, Ar, cr, As, cs, Ap, cp⟩ : OpS) rfl (by simp)) (by have := LB2.out; simp only [List.length_singleton, List.length_nil]; omega) (by exact Nat.le_trans YD.out.size (le_alloc _ _)) ?_; intro v3 w3 hown hgr hv)
          have HRN := Lib.hid ((HRD.out.ext (ext_alloc _ _)).app (fun z hz => by
            simp only [List.mem_singleton] at hz
            subst hz
            exact PD.out.grow (Grow.of (ext_alloc _ _))) hown hgr hv)
          have YN := Lib.hid (below_app (YD.out.alloc YD.out.size _) (by exact Nat.le_trans YD.out.size (le_alloc _ _)) (HRD.out.own.alloc _) (Nat.le_refl _) hgr)
          clear hown hgr hv
          have DN := Lib.hid (DONE.out (([] : List OpS) ++ [(⟨⟨1, nn, r, s, q⟩, Ar, cr, As, cs, Ap, cp⟩ : OpS)]) (by
            rw [addR_new (o := (⟨1, nn, r, s, q⟩ : Opd)) IOq.out rfl (fun a ha => by rw [← HD2.out] at ha; cases ha), ← HD2.out]
            unfold osOf; simp))
          go_wp2_with (fail)
          go_roundg (n + 1 - (i + 1))
          case measure => have := HG.out; omega
          case rel => exact ⟨i + 1, i + 1, _, by omega, by omega, rfl, by go_num, by go_num, HRN.out, Lib.hid DN.out.1, Lib.hid DN.out.2, NONE, YN.out⟩
        · rw [List.concat_eq_append] at h0
          have hga : (osOf D2).getLast? = some a.o := by rw [h0]; unfold osOf; simp
          obtain ⟨g2, x1, hpos, hA1, hx1, hx1o, hD1, ⟨cur, hgc⟩, hcx⟩ := own_last HR2.out.own hga
          have hxa : x1 = a := by rw [h0] at hx1; simpa using hx1.symm
          subst hxa hA1
          obtain ⟨L2, hL2⟩ : ∃ L, D2.length = L := ⟨_, rfl⟩
          obtain ⟨nd, hnd⟩ : ∃ X, L2 - 1 = X := ⟨_, rfl⟩
          rw [hL2, hnd] at hcx
          have hLn : L2 = nd + 1 := by omega
          subst hLn
          have HL2 := Lib.hid hL2
          have LBN : Hid (nd ≤ 6000000) := Lib.hid (by have := LB2.out; omega)
          have hrng : -9223372036854775808 ≤ (nd : Int) ∧ (nd : Int) ≤ 9223372036854775807 := by have := LBN.out; clear hw2; omega
          have hwr : wrap64 (nd : Int) = (nd : Int) := w64_in _ hrng
          have hwr2 : IntKind.i64.wrap (nd : Int) = (nd : Int) := IntWalk.i64_in _ hrng
          have HD1 := Lib.hid hD1
          have HX1 := Lib.hid hx1
          have HGC := Lib.hid hgc
          have GA : Hid (wb (.slice (some ⟨g2, 0, none⟩) D2.length k2) = some g2) := Lib.hid (own_wb HR2.out.own hpos)
          have PXA := Lib.hid (HR2.out.parts x1 (by rw [hD1]; simp))
          have HXS : Hid (x1.o.p.length ≤ 1000000) := Lib.hid (by
            have h3 : x1.o ∈ (ofM (osOf (x.take f))).done ++ gapP (osOf g) := by rw [← HD2.out, h0]; unfold osOf; simp
            rcases List.mem_append.1 h3 with h4 | h4
            · exact ((HB.out f).prt _ (List.mem_append_left _ h4)).2.2
            · exact ((ofM_bndN (S := 1000000) g (fun o ho => HZ2.out o (MG.out o ho))).gap.2 _ (List.mem_append_right _ h4)).2.2)
          have HLS : Hid (osOf D2 = osOf D2.dropLast ++ [x1.o]) := Lib.hid (by
            conv => lhs; rw [hD1]
            unfold osOf; simp)
          rw [hL2] at HR2 GA PXA PO2 ⊢
          have hsub : ((nd + 1 : Nat) : Int) - 1 = (nd : Int) := by rw [Int.natCast_add]; exact Int.add_sub_cancel _ _
          have hnl : (nd : Int) < (nd : Int) + 1 := Int.lt_add_one_of_le (Int.le_refl _)
          have hn0 : decide ((0 : Int) ≤ (nd : Int)) = true := decide_eq_true (Int.natCast_nonneg nd)
          obtain ⟨⟨ka, na, ra, sa, qa⟩, Ara, cra, Asa, csa, Apa, cpa⟩ := x1
          obtain ⟨t0, t1, t2, t3, t4⟩ := op_cells hcx
          clear hcx h0 hga hx1 hgc hnd hD1 hx1o hpos hL2
          by_cases hka : ka = 1
          · subst hka
            by_cases hqq : qa = q
            · subst hqq
              have HSM : Hid (∀ v : Nat, Calls Tryz.prog 106 #[.slice Apa qa.length cpa, .slice Ap qa.length cp] (w2.drewN v) (fun e w' => e = .returned (.bool true) ∧ ∃ m, w' = (w2.drewN v).drewN m)) := Lib.hid (fun v => by
                have h := sameR6_any Apa Ap qa.length qa.length cpa cp qa qa (w2.drewN v) rfl rfl (PXA.out.2.2.1.ext (ext_drew _ v)) (PO2.out.2.2.1.ext (ext_drew _ v)) (Nat.le_trans (show qa.length ≤ 1000000 from HXS.out) (by decide)) (Nat.le_trans (show qa.length ≤ 1000000 from HXS.out) (by decide))
                rw [decide_eq_true rfl] at h; exact h)
              go_wp2_with (fail)
              go_quiet ((go_at_call 106; exact Calls.quiet_of (HSM.out _)))
              clear hwr hwr2
              obtain ⟨N3, hN3⟩ : ∃ X, IntKind.i64.wrap (na + nn) = X := ⟨_, rfl⟩
              have HN3 := Lib.hid hN3
              have hN4 : wrap64 (na + nn) = N3 := by rw [← hN3, IntWalk.i64_left]
              have hfz : w2.frozen? ⟨g2, nd * 5 + 1, none⟩ = false := box_thaw HGC.out _
              go_wp2_with (fail)
              go_region_law (fail)
              all_goals go_wp2_with (fail)
              all_goals
                have Y4 : Below w2.heap.size w2 (w2.drewN nq).drew := up_drew (ext_drew _ nq)
                have hx9 : D2[nd]'(by rw [HL2.out]; clear hN3 hN4 hw2; omega) = (⟨⟨1, na, ra, sa, qa⟩, Ara, cra, Asa, csa, Apa, cpa⟩ : OpS) := by
                  have h := HX1.out
                  rw [List.getLast?_eq_getElem?, HL2.out, Nat.add_sub_cancel, List.getElem?_eq_getElem (by rw [HL2.out]; clear hN3 hN4 hw2; omega)] at h
                  exact Option.some.inj h
                have P6 := PXA.out.grow (Grow.of Y4)
                have HRN := Lib.hid ((HR2.out.ext Y4).set (i := nd) (j := 1) (u := .int .i64 N3) (x' := (⟨⟨1, N3, ra, sa, qa⟩, Ara, cra, Asa, csa, Apa, cpa⟩ : OpS)) (by rw [HL2.out]; clear hN3 hN4 hw2; omega) (by decide) (by rw [hx9]; rfl) P6)
                have hset : osOf (D2.set nd (⟨⟨1, N3, ra, sa, qa⟩, Ara, cra, Asa, csa, Apa, cpa⟩ : OpS)) = osOf D2.dropLast ++ [(⟨1, N3, ra, sa, qa⟩ : Opd)] := by
                  have h := set_last (y := (⟨⟨1, N3, ra, sa, qa⟩, Ara, cra, Asa, csa, Apa, cpa⟩ : OpS)) HD1.out
                  rw [HL2.out, Nat.add_sub_cancel] at h
                  rw [h]; unfold osOf; simp
                have DN := Lib.hid (DONE.out (D2.set nd (⟨⟨1, N3, ra, sa, qa⟩, Ara, cra, Asa, csa, Apa, cpa⟩ : OpS)) (by
                  rw [hset, ← HD2.out, HLS.out, ← HN3.out]
                  exact (addR_last (a := (⟨1, na, ra, sa, qa⟩ : Opd)) rfl).symm))
                have YN := Lib.hid (setCell_up (ext_trans Y2.out Y4) (HR2.out.low g2 GA.out) (nd * 5 + 1) (.int .i64 N3))
                clear hset hx9 P6 Y4 hN3 hN4
                go_roundg (n + 1 - (i + 1))
              all_goals first
                | (have := HG.out; omega)
                | exact ⟨i + 1, i + 1, _, by omega, by omega, rfl, by go_num, by go_num, HRN.out, Lib.hid DN.out.1, Lib.hid DN.out.2, NONE, YN.out⟩
            · have HQQ := Lib.hid hqq
              have HSM : Hid (∀ v : Nat, Calls Tryz.prog 106 #[.slice Apa qa.length cpa, .slice Ap q.length cp] (w2.drewN v) (fun e w' => e = .returned (.bool false) ∧ ∃ m, w' = (w2.drewN v).drewN m)) := Lib.hid (fun v => by
                have h := sameR6_any Apa Ap qa.length q.length cpa cp qa q (w2.drewN v) rfl rfl (PXA.out.2.2.1.ext (ext_drew _ v)) (PO2.out.2.2.1.ext (ext_drew _ v)) (Nat.le_trans (show qa.length ≤ 1000000 from HXS.out) (by decide)) (by have := SO.out.2; omega)
                rw [decide_eq_false HQQ.out] at h; exact h)
              clear hqq
              go_wp2_with (fail)
              go_quiet ((go_at_call 106; exact Calls.quiet_of (HSM.out _)))
              clear hwr hwr2
              have YD : Hid (Below w.heap.size w (w2.drewN nq)) := Lib.hid (below_drewN Y2.out nq)
              have HRD : Hid (RowF (w2.drewN nq) (fun _ => False) w.heap.size (.slice (some ⟨g2, 0, none⟩) (nd + 1) k2) D2) := Lib.hid (HR2.out.ext (ext_drew _ nq))
              have PD : Hid (PartF (w2.drewN nq) (RowG (fun _ => False) (.slice (some ⟨g2, 0, none⟩) (nd + 1) k2)) (⟨⟨1, nn, r, s, q⟩, Ar, cr, As, cs, Ap, cp⟩ : OpS)) := Lib.hid (PO2.out.grow (Grow.of (ext_drew _ nq)))
              go_wp2_with (at_builtin; refine app_os (m := [(⟨⟨1, nn, r, s, q⟩, Ar, cr, As, cs, Ap, cp⟩ : OpS)]) rfl (.tmp 80) (.tmp 85) rfl rfl (by exact HRD.out.own.alloc _) _ _ 1 1 rfl rfl (by exact rd_one_at (enc := OpS.enc) (size := 5) _ _ (⟨⟨1, nn, r, s, q⟩, Ar, cr, As, cs, Ap, cp⟩ : OpS) rfl (by simp)) (by have := LB2.out; simp only [List.length_singleton, List.length_nil]; omega) (by exact Nat.le_trans YD.out.size (le_alloc _ _)) ?_; intro v3 w3 hown hgr hv)
              have HRN := Lib.hid ((HRD.out.ext (ext_alloc _ _)).app (fun z hz => by
                simp only [List.mem_singleton] at hz
                subst hz
                exact PD.out.grow (Grow.of (ext_alloc _ _))) hown hgr hv)
              have YN := Lib.hid (below_app (YD.out.alloc YD.out.size _) (by exact Nat.le_trans YD.out.size (le_alloc _ _)) (HRD.out.own.alloc _) (Nat.le_refl _) hgr)
              clear hown hgr hv
              have DN := Lib.hid (DONE.out (D2 ++ [(⟨⟨1, nn, r, s, q⟩, Ar, cr, As, cs, Ap, cp⟩ : OpS)]) (by
                rw [addR_new (o := (⟨1, nn, r, s, q⟩ : Opd)) IOq.out rfl (fun a ha => by
                  rw [← HD2.out, HLS.out] at ha
                  simp at ha
                  subst ha
                  rintro ⟨_, h⟩
                  exact HQQ.out h), ← HD2.out]
                unfold osOf; simp))
              go_wp2_with (fail)
              go_roundg (n + 1 - (i + 1))
              case measure => have := HG.out; omega
              case rel => exact ⟨i + 1, i + 1, _, by omega, by omega, rfl, by go_num, by go_num, HRN.out, Lib.hid DN.out.1, Lib.hid DN.out.2, NONE, YN.out⟩
          · have hka' : (ka == 1) = false := beq_eq_false_iff_ne.2 hka
            have HKA := Lib.hid hka
            clear hka
            go_wp2_with (fail)
            go_quiet (fail)
            clear hwr hwr2
            have YD : Hid (Below w.heap.size w (w2.drewN nq)) := Lib.hid (below_drewN Y2.out nq)
            have HRD : Hid (RowF (w2.drewN nq) (fun _ => False) w.heap.size (.slice (some ⟨g2, 0, none⟩) (nd + 1) k2) D2) := Lib.hid (HR2.out.ext (ext_drew _ nq))
            have PD : Hid (PartF (w2.drewN nq) (RowG (fun _ => False) (.slice (some ⟨g2, 0, none⟩) (nd + 1) k2)) (⟨⟨1, nn, r, s, q⟩, Ar, cr, As, cs, Ap, cp⟩ : OpS)) := Lib.hid (PO2.out.grow (Grow.of (ext_drew _ nq)))
            go_wp2_with (at_builtin; refine app_os (m := [(⟨⟨1, nn, r, s, q⟩, Ar, cr, As, cs, Ap, cp⟩ : OpS)]) rfl (.tmp 80) (.tmp 85) rfl rfl (by exact HRD.out.own.alloc _) _ _ 1 1 rfl rfl (by exact rd_one_at (enc := OpS.enc) (size := 5) _ _ (⟨⟨1, nn, r, s, q⟩, Ar, cr, As, cs, Ap, cp⟩ : OpS) rfl (by simp)) (by have := LB2.out; simp only [List.length_singleton, List.length_nil]; omega) (by exact Nat.le_trans YD.out.size (le_alloc _ _)) ?_; intro v3 w3 hown hgr hv)
            have HRN := Lib.hid ((HRD.out.ext (ext_alloc _ _)).app (fun z hz => by
              simp only [List.mem_singleton] at hz
              subst hz
              exact PD.out.grow (Grow.of (ext_alloc _ _))) hown hgr hv)
            have YN := Lib.hid (below_app (YD.out.alloc YD.out.size _) (by exact Nat.le_trans YD.out.size (le_alloc _ _)) (HRD.out.own.alloc _) (Nat.le_refl _) hgr)
            clear hown hgr hv
            have DN := Lib.hid (DONE.out (D2 ++ [(⟨⟨1, nn, r, s, q⟩, Ar, cr, As, cs, Ap, cp⟩ : OpS)]) (by
              rw [addR_new (o := (⟨1, nn, r, s, q⟩ : Opd)) IOq.out rfl (fun a ha => by
                rw [← HD2.out, HLS.out] at ha
                simp at ha
                subst ha
                rintro ⟨h, _⟩
                exact HKA.out h), ← HD2.out]
              unfold osOf; simp))
            go_wp2_with (fail)
            go_roundg (n + 1 - (i + 1))
            case measure => have := HG.out; omega
            case rel => exact ⟨i + 1, i + 1, _, by omega, by omega, rfl, by go_num, by go_num, HRN.out, Lib.hid DN.out.1, Lib.hid DN.out.2, NONE, YN.out⟩
      · have hin : i = n := by have := N.out; omega
        subst hin
        have hlt' : ¬ ((i : Int) < (i : Int)) := by omega
        have heq' : ((i : Int) == (i : Int)) = true := by simp
        go_wp2_with (go_at_call 107; refine Hid.out ?_)
        refine Lib.hid ?_
        refine (gap16_any A7 n7 c7 g wr (RowG (fun _ => False) (.slice A1 D.length k1)) LG.out RG.out PG.out (fun k hk => by
          rcases hk with hk | hk
          · exact hk.elim
          · exact (HRW.out.own.wb_lt k hk).2) GK.out SG.out (fun o ho => HZ2.out o (MG.out o ho))).mono ?_
        rintro e w1 ⟨A8, c8, L, rfl, hL, rowL, y1⟩
        have HL := Lib.hid hL
        have RL := Lib.hid rowL
        have Y1 := Lib.hid y1
        have LB : Hid (D.length ≤ 3000000 ∧ L.length ≤ 3000000) := Lib.hid (by
          have h1 := (HB.out f).len
          rw [← HD.out] at h1
          have h2 : (osOf D).length = D.length := by unfold osOf; simp
          have h3 := (ofM_bndN (S := 1000000) g (fun o ho => HZ2.out o (MG.out o ho))).gap.1
          have h4 : (osOf L).length = L.length := by unfold osOf; simp
          rw [hL] at h4
          unfold gapP at h4
          rw [List.length_append] at h3
          have := SG.out
          omega)
        clear hL rowL y1
        go_wp2_with (at_builtin; refine app_os (m := L) rfl (.tmp 26) (.tmp 31) rfl rfl (by exact HRW.out.own.below Y1.out (Nat.le_refl _)) _ A8 c8 L.length rfl rfl (by exact RL.out.own.rd OpS.enc_len) (by have := LB.out; omega) (by exact Nat.le_trans Y.out.size Y1.out.size) ?_; intro v2 w2 hown hgr hv; refine Hid.out ?_)
        refine Lib.hid ?_
        have HR2 := Lib.hid ((HRW.out.ext Y1.out).app (fun z hz => (RL.out.parts z hz).less (fun k hk => .inl hk)) hown hgr hv)
        have Y2 : Hid (Below w.heap.size w w2) := Lib.hid (below_app (Y.out.trans (Y1.out.mono Y.out.size)) (Nat.le_trans Y.out.size Y1.out.size) (HRW.out.own.below Y1.out (Nat.le_refl _)) (Nat.le_refl _) hgr)
        have HD2 : Hid (osOf (D ++ L) = (ofM (osOf (x.take f))).done ++ gapP (osOf g)) := Lib.hid (by rw [← HD.out, ← HL.out]; unfold osOf; simp)
        have LB2 : Hid ((D ++ L).length ≤ 6000000) := Lib.hid (by have := LB.out; rw [List.length_append]; omega)
        have HE2 : Hid (∀ o : Opd, o.k = 1 → 1 ≤ o.n → ofM (osOf (x.take f) ++ osOf g ++ [o]) = ⟨addR ((ofM (osOf (x.take f))).done ++ gapP (osOf g)) o.n o.p, [], 0⟩) := Lib.hid (fun o h1 h2 => of_ret HE.out.1 HE.out.2 (fun z hz => by
          unfold osOf at hz
          obtain ⟨y, hy, rfl⟩ := List.mem_map.1 hz
          exact (GK.out y hy).2) h1 h2)
        have HE3 : Hid (mkOps (ofM (osOf (x.take f) ++ osOf g)) = cutR ((ofM (osOf (x.take f))).done ++ gapP (osOf g))) := Lib.hid (of_end HE.out.1 HE.out.2 (fun z hz => by
          unfold osOf at hz
          obtain ⟨y, hy, rfl⟩ := List.mem_map.1 hz
          exact (GK.out y hy).2))
        obtain ⟨A2, k2, hv2, _, _⟩ := hown.form
        subst hv2
        clear hown hgr hv
        generalize hD2 : D ++ L = D2 at *
        clear hD2 HL RL Y1 LB HRW HD HE PG RG SG LG
        have XA : Hid (osOf (x.take f) ++ osOf g = osOf x) := Lib.hid (by
          have e := XT.out
          rw [N.out, List.take_length] at e
          conv => rhs; rw [e]
          unfold osOf; simp)
        rw [XA.out] at HE3
        have LN2 : Hid (∀ z ∈ D2, z.o.r.length ≤ 100000000 ∧ z.o.s.length ≤ 100000000 ∧ z.o.p.length ≤ 100000000) := Lib.hid (fun z hz => by
          have h3 : z.o ∈ (ofM (osOf (x.take f))).done ++ gapP (osOf g) := by rw [← HD2.out]; unfold osOf; exact List.mem_map_of_mem hz
          have h5 : z.o.r.length ≤ 3000000 ∧ z.o.s.length ≤ 3000000 ∧ z.o.p.length ≤ 3000000 := by
            rcases List.mem_append.1 h3 with h4 | h4
            · obtain ⟨b1, b2, b3⟩ := (HB.out f).prt _ (List.mem_append_left _ h4); omega
            · obtain ⟨b1, b2, b3⟩ := (ofM_bndN (S := 1000000) g (fun o ho => HZ2.out o (MG.out o ho))).gap.2 _ (List.mem_append_right _ h4)
              have h6 : szN g ≤ 1000000 := SGK.out
              omega
          omega)
        have RD2 : Hid (RdOp w2 w2.heap.size A2 D2) := Lib.hid ⟨HR2.out.own.rd OpS.enc_len, fun z hz => by
          have p := HR2.out.parts z hz
          exact ⟨p.1.1, p.2.1.1, p.2.2.1⟩⟩
        rcases List.eq_nil_or_concat D2 with h0 | ⟨T, a, h0⟩
        · subst h0
          simp only [List.length_nil] at *
          go_wp2_with (go_at_call 32; refine Hid.out ?_)
          refine Lib.hid ?_
          refine (copy15_any A2 0 k2 ([] : List OpS) w2 rfl RD2.out (by omega) (fun z hz => by cases hz)).mono ?_
          intro e w3 hN
          obtain ⟨A9, c9, l9, rfl, hl9, ho9, hp9, y9⟩ := NewOps.late Y2.out hN
          have HF : Hid (NewOps (mkOps (ofM (osOf x))) w (.returned (.slice A9 l9.length c9)) w3) := Lib.hid ⟨A9, c9, l9, rfl, hl9.trans (by rw [HE3.out, ← HD2.out]; rfl), ho9, hp9, y9⟩
          clear hN hl9 ho9 hp9 y9
          go_wp2_with (fail)
          go_ret
          exact HF.out
        · rw [List.concat_eq_append] at h0
          have hga : (osOf D2).getLast? = some a.o := by rw [h0]; unfold osOf; simp
          obtain ⟨g2, x1, hpos, hA1, hx1, hx1o, hD1, ⟨cur, hgc⟩, hcx⟩ := own_last HR2.out.own hga
          have hxa : x1 = a := by rw [h0] at hx1; simpa using hx1.symm
          subst hxa hA1
          obtain ⟨L2, hL2⟩ : ∃ L, D2.length = L := ⟨_, rfl⟩
          obtain ⟨nd, hnd⟩ : ∃ X, L2 - 1 = X := ⟨_, rfl⟩
          rw [hL2, hnd] at hcx
          have hLn : L2 = nd + 1 := by omega
          subst hLn
          have HL2 := Lib.hid hL2
          have LBN : Hid (nd ≤ 6000000) := Lib.hid (by have := LB2.out; omega)
          have hrng : -9223372036854775808 ≤ (nd : Int) ∧ (nd : Int) ≤ 9223372036854775807 := by have := LBN.out; clear hw2; omega
          have hwr : wrap64 (nd : Int) = (nd : Int) := w64_in _ hrng
          have hwr2 : IntKind.i64.wrap (nd : Int) = (nd : Int) := IntWalk.i64_in _ hrng
          have HD1 := Lib.hid hD1
          have CUT : Hid (osOf D2.dropLast ++ [x1.o] = osOf D2) := Lib.hid (by
            conv => rhs; rw [hD1]
            unfold osOf; simp)
          have hcap : nd ≤ k2 := by have := (cap_own HR2.out.own).1; clear hwr hwr2 hw2; omega
          rw [hL2] at HR2 ⊢
          have hsub : ((nd + 1 : Nat) : Int) - 1 = (nd : Int) := by rw [Int.natCast_add]; exact Int.add_sub_cancel _ _
          have hnl : (nd : Int) < (nd : Int) + 1 := Int.lt_add_one_of_le (Int.le_refl _)
          have hn0 : decide ((0 : Int) ≤ (nd : Int)) = true := decide_eq_true (Int.natCast_nonneg nd)
          have HDL : Hid (nd = D2.dropLast.length) := Lib.hid (by rw [List.length_dropLast, hL2]; rfl)
          obtain ⟨⟨ka, na, ra, sa, qa⟩, Ara, cra, Asa, csa, Apa, cpa⟩ := x1
          obtain ⟨t0, t1, t2, t3, t4⟩ := op_cells hcx
          clear hcx h0 hga hx1 hgc hnd hD1 hx1o hpos hL2
          have CT : Hid (cutR (osOf D2) = if ka = 1 ∧ qa = [] then osOf D2.dropLast else osOf D2) := Lib.hid (by
            rw [← CUT.out]
            unfold cutR
            simp)
          by_cases hka : ka = 1
          · subst hka
            by_cases hqq : qa = []
            · subst hqq
              simp only [List.length_nil] at t4
              have sl2 : ∀ W, (Instr.slice 23 (.slice (some ⟨g2, 0, none⟩) (nd + 1) k2) none (some (.int .i64 (nd : Int))) none).run Tryz.prog W = .ok (.slice (some ⟨g2, 0, none⟩) nd k2) W := sl_to (l := nd) Tryz.slOp Tryz.elOpD size_opD rfl hcap
              have RD3 : Hid (RdOp w2 w2.heap.size (some ⟨g2, 0, none⟩) D2.dropLast) := Lib.hid (by
                rw [List.dropLast_eq_take]
                exact ⟨RD2.out.1.take _, fun z hz => RD2.out.2 z (List.mem_of_mem_take hz)⟩)
              go_wp2_with (go_at_call 32; refine Hid.out ?_)
              refine Lib.hid ?_
              refine (copy15_any (some ⟨g2, 0, none⟩) nd k2 D2.dropLast w2 HDL.out RD3.out (by have := LBN.out; clear hwr hwr2 hw2; omega) (fun z hz => LN2.out z ((List.dropLast_sublist _).subset hz))).mono ?_
              intro e w3 hN
              obtain ⟨A9, c9, l9, rfl, hl9, ho9, hp9, y9⟩ := NewOps.late Y2.out hN
              have HF : Hid (NewOps (mkOps (ofM (osOf x))) w (.returned (.slice A9 l9.length c9)) w3) := Lib.hid ⟨A9, c9, l9, rfl, hl9.trans (by rw [HE3.out, ← HD2.out, CT.out, if_pos (by simp)]), ho9, hp9, y9⟩
              clear hN hl9 ho9 hp9 y9
              go_wp2_with (fail)
              go_ret
              exact HF.out
            · have HQ := Lib.hid hqq
              have hql : ((qa.length : Int) == 0) = false := beq_eq_false_iff_ne.2 (by have := List.length_pos_iff.2 hqq; clear hwr hwr2 hw2; omega)
              clear hqq
              go_wp2_with (go_at_call 32; refine Hid.out ?_)
              refine Lib.hid ?_
              refine (copy15_any (some ⟨g2, 0, none⟩) (nd + 1) k2 D2 w2 HL2.out.symm RD2.out (by have := LBN.out; clear hwr hwr2 hw2; omega) LN2.out).mono ?_
              intro e w3 hN
              obtain ⟨A9, c9, l9, rfl, hl9, ho9, hp9, y9⟩ := NewOps.late Y2.out hN
              have HF : Hid (NewOps (mkOps (ofM (osOf x))) w (.returned (.slice A9 l9.length c9)) w3) := Lib.hid ⟨A9, c9, l9, rfl, hl9.trans (by rw [HE3.out, ← HD2.out, CT.out, if_neg (fun h => HQ.out h.2)]), ho9, hp9, y9⟩
              clear hN hl9 ho9 hp9 y9
              go_wp2_with (fail)
              go_ret
              exact HF.out
          · have hka' : (ka == 1) = false := beq_eq_false_iff_ne.2 hka
            have HKA := Lib.hid hka
            clear hka
            go_wp2_with (go_at_call 32; refine Hid.out ?_)
            refine Lib.hid ?_
            refine (copy15_any (some ⟨g2, 0, none⟩) (nd + 1) k2 D2 w2 HL2.out.symm RD2.out (by have := LBN.out; clear hwr hwr2 hw2; omega) LN2.out).mono ?_
            intro e w3 hN
            obtain ⟨A9, c9, l9, rfl, hl9, ho9, hp9, y9⟩ := NewOps.late Y2.out hN
            have HF : Hid (NewOps (mkOps (ofM (osOf x))) w (.returned (.slice A9 l9.length c9)) w3) := Lib.hid ⟨A9, c9, l9, rfl, hl9.trans (by rw [HE3.out, ← HD2.out, CT.out, if_neg (fun h => HKA.out h.1)]), ho9, hp9, y9⟩
            clear hN hl9 ho9 hp9 y9
            go_wp2_with (fail)
            go_ret
            exact HF.out
/-- the document's normal form of ops at hand -/
theorem of16D {w : World} {A : Option Addr} {n c : Nat} {l : List Ky} {x : List OpS} (h : OpsC w A n c x) (hm : mayO l x = 0) (hz : szN x ≤ 200000) :
    Calls Tryz.prog 27 #[.slice A n c] w (NewOpC (mkU (units (osOf x))) w) := by
  obtain ⟨gx, _, _⟩ := mayO_zero hm
  obtain ⟨s1, s2⟩ := sums_units x (good_isOp gx)
  have h1 := takes_sum gx (by have := h.at_.b; have := h.at_.len; omega)
  have h2 := makes_sum gx (by have := h.at_.b; have := h.at_.len; omega)
  have h5 := units_length (us := units (osOf x))
  have hs : ∀ o ∈ x, o.o.s.length ≤ 1000000 ∧ o.o.p.length ≤ 1000000 := fun o ho => by have h := one_facts (gx o ho); have := (mayS_zero h.2.2.2.1).1; have := (mayP_zero h.2.2.2.2).1; omega
  have ht := ofM_told (osOf x) (fun o ho => by obtain ⟨z, hz, rfl⟩ := List.mem_map.1 ho; exact good_isOp gx z hz) (by omega)
  refine (of16_any A n c x w h.at_.len h.cap h.at_.rd (good_isOp gx) (by omega) hs).mono fun e w' hN => hN.opC ht (fun u hu => ?_) (ofM_bndN x hs) (by omega) (by omega)
  obtain ⟨o, ho, hu⟩ := units_mem.1 hu
  exact okUn_of (h.at_.ok o ho) u hu
end Go.Proofs.YtbdkbfoplpociaaGreatDoor
