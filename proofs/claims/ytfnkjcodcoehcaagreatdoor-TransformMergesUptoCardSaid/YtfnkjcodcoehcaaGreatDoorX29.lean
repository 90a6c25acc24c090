/- Merged texts. -/
import Derived.Test.YtfnkjcodcoehcaaGreatDoorX28
namespace Go.Proofs.YtfnkjcodcoehcaaGreatDoor
set_option maxRecDepth 100000
set_option maxHeartbeats 3200000
open Go.RowKit
open Go.Lib (hid)
set_option linter.unusedVariables false
set_option linter.unusedSimpArgs false
def Y6v (o : List Opd) (F : Nat → Prop) (w : World) (e : Ending) (w' : World) : Prop :=
 ∃ A c L, e = .returned (.slice A L.length c) ∧ osOf L = o ∧ RowF w' F w.heap.size (.slice A L.length c) L ∧ Below w.heap.size w w'
theorem Z7e {B : Nat} {w0 w : World} (h : Below B w0 w) {g : Nat} (hg : B ≤ g) (j : Nat) (u : Value) : Below B w0 (w.setCell ⟨g, j, none⟩ u) := h.setCell (p := ⟨g, j, none⟩) hg u
theorem Z8C (A : Option Addr) (n c : Nat) (l : List OpS) (w : World) (F : Nat → Prop) (hn : n = l.length) (h : RdOs w w.heap.size A l) (hp : ∀ x ∈ l, PartF w F x) (hF : ∀ k, F k → k < w.heap.size) (hi : ∀ x ∈ l, isOp x.o ∧ x.o.k ≠ 1) (hz : szN l ≤ 1000000) (hz2 : ∀ o ∈ l, o.o.s.length ≤ 1000000 ∧ o.o.p.length ≤ 1000000) :
 Calls Tryz.prog 158 #[.slice A n c] w (Y6v (gapP (osOf l)) F w) := by
 have N := hid hn
 have HR := hid h
 have HP := hid hp
 have HI := hid hi
 have HFL := hid hF
 have NB : Hid (n ≤ 1000000) := hid (by have h1 := Z9k l; omega)
 have HB : Hid (∀ i, MkB (ofM (osOf (l.take i))) 2000000 1000000) := hid (fun i => by
  have h1 := Z2c (S := 1000000) (l.take i) (fun o ho => hz2 o (List.mem_of_mem_take ho))
  have h2 := Z5I l i
  exact h1.mono (by omega) (Nat.le_refl _))
 have SZ : Hid (∀ o ∈ l, o.o.r.length ≤ 1000000 ∧ o.o.s.length ≤ 1000000) := hid (fun o ho => ⟨by have := Y2J ho; omega, (hz2 o ho).1⟩)
 clear hn h hp hi hz hz2 hF
 go_enter Tryz.func158, Tryz.ntmps158
 go_wp2_with (fail)
 go_loopg [3, 4, 5] n (fun g ov gv iv wr => ∃ (m : Nat) (D : List OpS) (G : Int), m ≤ n ∧ g = n - m ∧ iv = .int .i64 (m : Int) ∧ gv = .int .i64 G ∧ RowF wr F w.heap.size ov D ∧ Hid (osOf D = (ofM (osOf (l.take m))).ins) ∧ Hid (G = (ofM (osOf (l.take m))).gone) ∧ Below w.heap.size w wr)
 case atStart => exact ⟨0, [], 0, by omega, rfl, rfl, rfl, RowF.nil _ _ _, hid rfl, hid rfl, Below.refl _ _⟩
 case round =>
  obtain ⟨m, D, G, hm, hg, rfl, rfl, hrow, HD, HGO, y⟩ := hrel
  have HG := hid hg
  have HRW := hid hrow
  clear hg hrow
  obtain ⟨A1, k1, hv1, _, _⟩ := HRW.out.own.form
  subst hv1
  by_cases hlt : m < n
  ·have hl1 : m < l.length := by have := N.out; omega
   have hlt' : (m : Int) < (n : Int) := by omega
   obtain ⟨ad, x, rfl, had, _, hx1, hc1⟩ := (HR.out.ext y).el hl1
   have hom := List.mem_of_getElem? hx1
   have HT : Hid (ofM (osOf (l.take (m + 1))) = tellO (ofM (osOf (l.take m))) x.o) := hid (by
    have e : osOf (l.take (m + 1)) = osOf (l.take m) ++ [x.o] := by unfold osOf; rw [List.take_add_one, hx1]; simp
    rw [e, Z4C])
   have PX := hid (HP.out x hom)
   have IX := hid (HI.out x hom)
   have SX := hid (SZ.out x hom)
   have MB := hid (HB.out m)
   have YR := hid y
   obtain ⟨⟨k, nn, r, s, q⟩, Ar, cr, As, cs, Ap, cp⟩ := x
   obtain ⟨z0, z1, z2, z3, z4⟩ := Z0o hc1
   have yb := Z0b wr (.cells #[.int .u8 k, .int .i64 nn, .slice Ar r.length cr, .slice As s.length cs, .slice Ap q.length cp] 50)
   have hbx := heap_alloc_new wr (.cells #[.int .u8 k, .int .i64 nn, .slice Ar r.length cr, .slice As s.length cs, .slice Ap q.length cp] 50)
   obtain ⟨q0, q1, q2, q3, q4⟩ := Z0L hbx
   have Y := hid yb
   have HBX := hid hbx
   have hw2 : IntKind.i64.wrap ((m:Int) + 1) = (m : Int) + 1 := IntWalk.i64_in _ (by have := NB.out; omega)
   have LD : Hid (D.length ≤ 2000000 ∧ ∀ z ∈ D, z.o.r.length ≤ 2000000 ∧ z.o.s.length ≤ 1000000) := hid (by
    have e := HD.out
    have h1 := MB.out.len
    rw [← e] at h1
    have h2 : (osOf D).length = D.length := by unfold osOf; simp
    refine ⟨by omega, fun z hz => ?_⟩
    have h3 := MB.out.prt z.o (List.mem_append_right _ (by rw [← e]; unfold osOf; exact List.mem_map_of_mem hz))
    exact ⟨h3.1, h3.2.1⟩)
   clear hx1 hom hl1 hc1 had yb hbx y
   by_cases hk3 : k = 3
   ·subst hk3
    have hnn : 1 ≤ nn := (Z14 IX.out.1 rfl).2
    obtain ⟨G', hG'⟩ : ∃ X, IntKind.i64.wrap (G + nn) = X := ⟨_, rfl⟩
    have hG2 : wrap64 (G + nn) = G' := by rw [← hG', IntWalk.i64_left]
    have HT2 : Hid (ofM (osOf (l.take (m + 1))) = { ofM (osOf (l.take m)) with gone := G' }) := hid (by
     rw [HT.out]
     unfold tellO
     rw [if_neg (show ¬ (3 : Int) = 1 by decide), if_neg (show ¬ (3 : Int) = 2 by decide)]
     unfold Z1M
     rw [if_neg (by show ¬ nn < 0; omega), ← HGO.out, hG'])
    go_wp2_with (fail)
    go_roundg (n - (m + 1))
    case measure => have := HG.out; omega
    case rel => exact ⟨m + 1, D, G', by omega, rfl, by go_num, rfl, HRW.out.ext Y.out, hid (by rw [HT2.out]; exact HD.out), hid (by rw [HT2.out]), YR.out.trans (Y.out.mono YR.out.size)⟩
   ·have hk2 : k = 2 := by
     rcases Z0x IX.out.1 with h | h | h
     ·exact h
     ·exact absurd h hk3
     ·exact absurd h IX.out.2
    subst hk2
    have HT2 : Hid (ofM (osOf (l.take (m + 1))) = { ofM (osOf (l.take m)) with ins := addI (ofM (osOf (l.take m))).ins r s }) := hid (by
     rw [HT.out]
     have e := Y5J (g := osOf (l.take m)) IX.out.1 rfl
     rw [Z4C] at e
     exact e)
    have YB := hid (YR.out.trans (Y.out.mono YR.out.size))
    have PB := hid (PX.out.fresh YB.out HRW.out.low)
    have HRB := hid (HRW.out.ext Y.out)
    rcases List.eq_nil_or_concat D with h0 | ⟨T, a, h0⟩
    ·subst h0
     have HDE : Hid ((ofM (osOf (l.take m))).ins = []) := hid HD.out.symm
     have HT3 : Hid ((ofM (osOf (l.take (m + 1)))).ins = osOf ([] ++ [(⟨⟨2, nn, r, s, q⟩, Ar, cr, As, cs, Ap, cp⟩ : OpS)]) ∧ (ofM (osOf (l.take (m + 1)))).gone = G) := hid (by
      rw [HT2.out]
      refine ⟨?_, HGO.out.symm⟩
      show addI _ r s = _
      rw [HDE.out]
      exact Y0p IX.out.1 rfl (fun a ha => by cases ha))
     simp only [List.length_nil] at *
     go_wp2_with (fail)
     go_quiet (fail)
     have YD : Hid (Below w.heap.size w ((wr.alloc (.cells #[.int .u8 2, .int .i64 nn, .slice Ar r.length cr, .slice As s.length cs, .slice Ap q.length cp] 50)).drewN nq)) := hid (Z0t YB.out nq)
     have HRD : Hid (RowF ((wr.alloc (.cells #[.int .u8 2, .int .i64 nn, .slice Ar r.length cr, .slice As s.length cs, .slice Ap q.length cp] 50)).drewN nq) F w.heap.size (.slice A1 0 k1) []) := hid (HRB.out.ext (Z0m _ nq))
     have PD : Hid (PartF ((wr.alloc (.cells #[.int .u8 2, .int .i64 nn, .slice Ar r.length cr, .slice As s.length cs, .slice Ap q.length cp] 50)).drewN nq) (RowG F (.slice A1 0 k1)) (⟨⟨2, nn, r, s, q⟩, Ar, cr, As, cs, Ap, cp⟩ : OpS)) := hid (PB.out.grow (Grow.of (Z0m _ nq)))
     go_wp2_with (at_builtin; refine Z3y (m := [(⟨⟨2, nn, r, s, q⟩, Ar, cr, As, cs, Ap, cp⟩ : OpS)]) rfl (.tmp 54) (.tmp 56) rfl rfl (by exact HRD.out.own.alloc _) _ _ 1 1 rfl rfl (by exact Z1s (enc := OpS.enc) (size := 5) _ _ (⟨⟨2, nn, r, s, q⟩, Ar, cr, As, cs, Ap, cp⟩ : OpS) rfl (by simp)) (by have := LD.out.1; simp only [List.length_singleton, List.length_nil]; omega) (by exact Nat.le_trans YD.out.size (Z0J _ _)) ?_; intro v' w' hown' hgr hv')
     have HRN := hid ((HRD.out.ext (Z0b _ _)).app (fun z hz => by
      simp only [List.mem_singleton] at hz
      subst hz
      exact PD.out.grow (Grow.of (Z0b _ _))) hown' hgr hv')
     have YN := hid (Z0K (YD.out.alloc YD.out.size _) (by exact Nat.le_trans YD.out.size (Z0J _ _)) (HRD.out.own.alloc _) (Nat.le_refl _) hgr)
     clear hown' hgr hv'
     go_wp2_with (fail)
     go_roundg (n - (m + 1))
     case measure => have := HG.out; omega
     case rel => exact ⟨m + 1, _, G, by omega, rfl, by go_num, rfl, HRN.out, hid HT3.out.1.symm, hid HT3.out.2.symm, YN.out⟩
    ·rw [List.concat_eq_append] at h0
     have hga : (osOf D).getLast? = some a.o := by rw [h0]; unfold osOf; simp
     obtain ⟨g, x1, hpos, hA1, hx1, hx1o, hD1, ⟨cur, hgc⟩, hcx⟩ := Z3P HRB.out.own hga
     have hxa : x1 = a := by rw [h0] at hx1; simpa using hx1.symm
     subst hxa hA1
     obtain ⟨L, hL⟩ : ∃ L, D.length = L := ⟨_, rfl⟩
     obtain ⟨nd, hnd⟩ : ∃ X, L - 1 = X := ⟨_, rfl⟩
     rw [hL, hnd] at hcx
     have hLn : L = nd + 1 := by omega
     subst hLn
     have hwr : wrap64 (nd : Int) = (nd : Int) := Z2K _ (by have := LD.out.1; omega)
     have hwr2 : IntKind.i64.wrap (nd : Int) = (nd : Int) := IntWalk.i64_in _ (by have := LD.out.1; omega)
     have HL := hid hL
     have HD1 := hid hD1
     have HX1 := hid hx1
     have HGC := hid hgc
     have hgl := Z0c hgc
     have GA : Hid (wb (.slice (some ⟨g, 0, none⟩) D.length k1) = some g) := hid (Y0a HRB.out.own hpos)
     have PXA := hid (HRB.out.parts x1 (by rw [hD1]; simp))
     have SA := hid (LD.out.2 x1 (by rw [h0]; simp))
     rw [hL] at HRB HRW PB GA PXA
     have hsub : ((nd + 1 : Nat) : Int) - 1 = (nd : Int) := by omega
     have hnl : (nd : Int) < (nd : Int) + 1 := by omega
     have hn0 : decide ((0 : Int) ≤ (nd : Int)) = true := decide_eq_true (by omega)
     have hgne : g ≠ wr.heap.size := fun e => by have h := (HRW.out.own.wb_lt g GA.out).2; omega
     obtain ⟨⟨ka, na, ra, sa, qa⟩, Ara, cra, Asa, csa, Apa, cpa⟩ := x1
     obtain ⟨t0, t1, t2, t3, t4⟩ := Z0o hcx
     clear hcx h0 hga hx1 hgc hnd hD1 hx1o hpos
     have hLs : (ofM (osOf (l.take m))).ins = osOf D.dropLast ++ [(⟨ka, na, ra, sa, qa⟩ : Opd)] := by
      rw [← HD.out]
      conv => lhs; rw [HD1.out]
      unfold osOf; simp
     have HLS := hid hLs
     clear hLs
     by_cases hss : sa = s
     ·subst hss
      have hds : decide (sa = sa) = true := decide_eq_true rfl
      have HSM : Hid (∀ v : Nat, Calls Tryz.prog 39 #[.slice Asa sa.length csa, .slice As sa.length cs] ((wr.alloc (.cells #[.int .u8 2, .int .i64 nn, .slice Ar r.length cr, .slice As sa.length cs, .slice Ap q.length cp] 50)).drewN v) (fun e w' => e = .returned (.bool true) ∧ ∃ m, w' = ((wr.alloc (.cells #[.int .u8 2, .int .i64 nn, .slice Ar r.length cr, .slice As sa.length cs, .slice Ap q.length cp] 50)).drewN v).drewN m)) := hid (fun v => by
       have h := Z3q Asa As sa.length sa.length csa cs sa sa ((wr.alloc (.cells #[.int .u8 2, .int .i64 nn, .slice Ar r.length cr, .slice As sa.length cs, .slice Ap q.length cp] 50)).drewN v) rfl rfl (PXA.out.2.1.1.ext (Z0m _ v)) (PB.out.2.1.1.ext (Z0m _ v)) (by have := SA.out; simp only at this; omega) (by have := SX.out; simp only at this; omega)
       rw [hds] at h; exact h)
      clear hds
      go_wp2_with (fail)
      go_quiet ((go_at_call 39; exact Calls.quiet_of (HSM.out _)))
      go_wp2_with (fail)
      have YD : Hid (Below w.heap.size w ((wr.alloc (.cells #[.int .u8 2, .int .i64 nn, .slice Ar r.length cr, .slice As sa.length cs, .slice Ap q.length cp] 50)).drewN nq)) := hid (Z0t YB.out nq)
      have HRD : Hid (RowF ((wr.alloc (.cells #[.int .u8 2, .int .i64 nn, .slice Ar r.length cr, .slice As sa.length cs, .slice Ap q.length cp] 50)).drewN nq) F w.heap.size (.slice (some ⟨g, 0, none⟩) (nd + 1) k1) D) := hid (HRB.out.ext (Z0m _ nq))
      have PD : Hid (PartF ((wr.alloc (.cells #[.int .u8 2, .int .i64 nn, .slice Ar r.length cr, .slice As sa.length cs, .slice Ap q.length cp] 50)).drewN nq) (RowG F (.slice (some ⟨g, 0, none⟩) (nd + 1) k1)) (⟨⟨2, nn, r, sa, q⟩, Ar, cr, As, cs, Ap, cp⟩ : OpS)) := hid (PB.out.grow (Grow.of (Z0m _ nq)))
      have PAD : Hid (PartF ((wr.alloc (.cells #[.int .u8 2, .int .i64 nn, .slice Ar r.length cr, .slice As sa.length cs, .slice Ap q.length cp] 50)).drewN nq) (RowG F (.slice (some ⟨g, 0, none⟩) (nd + 1) k1)) (⟨⟨ka, na, ra, sa, qa⟩, Ara, cra, Asa, csa, Apa, cpa⟩ : OpS)) := hid (PXA.out.grow (Grow.of (Z0m _ nq)))
      have HBD : Hid (((wr.alloc (.cells #[.int .u8 2, .int .i64 nn, .slice Ar r.length cr, .slice As sa.length cs, .slice Ap q.length cp] 50)).drewN nq).heap[wr.heap.size]? = _) := hid HBX.out
      have HGD : Hid (((wr.alloc (.cells #[.int .u8 2, .int .i64 nn, .slice Ar r.length cr, .slice As sa.length cs, .slice Ap q.length cp] 50)).drewN nq).heap[g]? = _) := hid HGC.out
      have HRO : Hid (∀ j u, (⟨⟨ka, na, ra, sa, qa⟩, Ara, cra, Asa, csa, Apa, cpa⟩ : OpS).enc[j]? = some u → ((wr.alloc (.cells #[.int .u8 2, .int .i64 nn, .slice Ar r.length cr, .slice As sa.length cs, .slice Ap q.length cp] 50)).drewN nq).cell? ⟨g, nd * 5 + j, none⟩ = some u) := hid (fun j u hu => by
       have h := (HRB.out.own.rd OpS.enc_len).at_ (i := nd) (by rw [HL.out]; omega)
       obtain ⟨ad9, e9, _, h9⟩ := h
       injection e9 with e9
       subst e9
       rw [Z40] at h9
       have hx9 : D[nd]'(by rw [HL.out]; omega) = (⟨⟨ka, na, ra, sa, qa⟩, Ara, cra, Asa, csa, Apa, cpa⟩ : OpS) := by
        have h := HX1.out
        rw [List.getLast?_eq_getElem?, HL.out] at h
        rw [Nat.add_sub_cancel] at h
        rw [List.getElem?_eq_getElem (by rw [HL.out]; omega)] at h
        exact Option.some.inj h
       rw [hx9] at h9
       have h10 := h9 j u hu
       have e10 : (⟨g, nd * 5, none⟩ : Addr).add j = ⟨g, nd * 5 + j, none⟩ := by
        unfold Addr.add
        by_cases hj : j = 0
        ·subst hj; rfl
        ·rw [if_neg hj]
       rw [e10] at h10
       exact h10)
      generalize ((wr.alloc (.cells #[.int .u8 2, .int .i64 nn, .slice Ar r.length cr, .slice As sa.length cs, .slice Ap q.length cp] 50)).drewN nq) = wd at *
      have yd1 : Below wd.heap.size wd (wd.alloc (.cells #[] 21)).drew := Z0j (Z0b _ _)
      have YD1 := hid yd1
      have hgl1 := Z0c HGD.out
      have hbl1 := Z0c HBD.out
      have b0 : wd.cell? ⟨wr.heap.size, 2, none⟩ = some (.slice Ar r.length cr) := (Z0L HBD.out).2.2.1
      have b1 : (wd.alloc (.cells #[] 21)).drew.cell? ⟨wr.heap.size, 2, none⟩ = some (.slice Ar r.length cr) := (Z0L ((yd1.block _ hbl1).trans HBD.out)).2.2.1
      have g0 : wd.cell? ⟨g, nd * 5 + 2, none⟩ = some (.slice Ara ra.length cra) := HRO.out 2 _ rfl
      have g1 : (wd.alloc (.cells #[] 21)).drew.cell? ⟨g, nd * 5 + 2, none⟩ = some (.slice Ara ra.length cra) := (YD1.out.cell (by exact hgl1)).trans g0
      clear yd1 t0 t1 t2 t3 t4 q0 q1 q2 q3 q4 z0 z1 z2 z3 z4
      go_region_law (first
       | (refine Z60 (m := ra) rfl (.tmp 42) (.tmp 47) (by rfl) ⟨_, rfl⟩ wd.heap.size _ Ara cra ra.length (by rfl) rfl (PAD.out.1.1.ext YD1.out) (by have := SA.out.1; omega) (YD1.out.size) ?_
          intro v5 w5 ho5 hgr5
          obtain ⟨A5, k5, hv5, _, _⟩ := ho5.form
          subst hv5
          have O5 := hid ho5
          have Y5 : Hid (Below wd.heap.size wd w5) := hid (YD1.out.grown hgr5 YD1.out.size (fun k hk => by cases hk))
          have b5 : w5.cell? ⟨wr.heap.size, 2, none⟩ = some (.slice Ar r.length cr) := (Z0L ((Y5.out.block _ hbl1).trans HBD.out)).2.2.1
          clear ho5 hgr5)
       | (refine Z7D (l := ra) (m := r) rfl (.tmp 48) (.tmp 50) (by rfl) (by rfl) O5.out _ Ar cr r.length (by rfl) rfl (PD.out.1.1.ext Y5.out) (by have := SA.out.1; have := SX.out.1; omega) Y5.out.size ?_
          intro v6 w6 ho6 hgr6 hv6
          obtain ⟨A6, c6, hv6', _, _⟩ := ho6.form
          subst hv6'
          generalize hnl6 : (ra ++ r).length = nl at ho6 hv6
          have O6 := hid ho6
          have Y6 : Hid (Below wd.heap.size wd w6) := hid (Y5.out.grown hgr6 Y5.out.size (fun k hk => (O5.out.wb_lt k hk).1))
          have hf6 : w6.frozen? ⟨g, nd * 5 + 2, none⟩ = false := Z0g ((Y6.out.block _ hgl1).trans HGD.out) _
          have g6 : w6.cell? ⟨g, nd * 5 + 2, none⟩ = some (.slice Ara ra.length cra) := (Y6.out.cell (by exact hgl1)).trans g0
          have HN6 := hid hnl6
          clear ho6 hgr6 hv6 hnl6))
      all_goals go_wp2_with (fail)
      all_goals
       have hnl := HN6.out
       subst hnl
       have hx9 : D[nd]'(by rw [HL.out]; omega) = (⟨⟨ka, na, ra, sa, qa⟩, Ara, cra, Asa, csa, Apa, cpa⟩ : OpS) := by
        have h := HX1.out
        rw [List.getLast?_eq_getElem?, HL.out, Nat.add_sub_cancel, List.getElem?_eq_getElem (by rw [HL.out]; omega)] at h
        exact Option.some.inj h
       have P6 := PAD.out.grow (Grow.of Y6.out)
       have HRN := hid ((HRD.out.ext Y6.out).set (i := nd) (j := 2) (u := .slice A6 (ra ++ r).length c6) (x' := (⟨⟨ka, na, ra ++ r, sa, qa⟩, A6, c6, Asa, csa, Apa, cpa⟩ : OpS)) (by rw [HL.out]; omega) (by omega) (by rw [hx9]; rfl) ⟨⟨O6.out.rd Z08, O6.out.offF Z08 rfl (fun k hk hf => by
        have h1 := (O6.out.wb_lt k hk).1
        rcases hf with hf | hf
        ·have := HFL.out k hf; have := YD.out.size; omega
        ·rw [GA.out] at hf; injection hf with hf; omega)⟩, P6.2.1, P6.2.2⟩)
       have hset : osOf (D.set nd (⟨⟨ka, na, ra ++ r, sa, qa⟩, A6, c6, Asa, csa, Apa, cpa⟩ : OpS)) = osOf D.dropLast ++ [(⟨ka, na, ra ++ r, sa, qa⟩ : Opd)] := by
        have h := Z5F (y := (⟨⟨ka, na, ra ++ r, sa, qa⟩, A6, c6, Asa, csa, Apa, cpa⟩ : OpS)) HD1.out
        rw [HL.out, Nat.add_sub_cancel] at h
        rw [h]; unfold osOf; simp
       have HT3 : Hid ((ofM (osOf (l.take (m + 1)))).ins = osOf (D.set nd (⟨⟨ka, na, ra ++ r, sa, qa⟩, A6, c6, Asa, csa, Apa, cpa⟩ : OpS)) ∧ (ofM (osOf (l.take (m + 1)))).gone = G) := hid (by
        rw [HT2.out, hset]
        refine ⟨?_, HGO.out.symm⟩
        show addI _ r sa = _
        rw [HLS.out]
        exact Y25 (a := (⟨ka, na, ra, sa, qa⟩ : Opd)))
       have YN := hid (Z7e (Z0a YD.out Y6.out) (HRD.out.low g GA.out) (nd * 5 + 2) (.slice A6 (ra ++ r).length c6))
       clear hset hx9 P6
       go_roundg (n - (m + 1))
      all_goals first
       | (have := HG.out; omega)
       | exact ⟨m + 1, _, G, by omega, rfl, by go_num, rfl, HRN.out, hid HT3.out.1.symm, hid HT3.out.2.symm, YN.out⟩
     ·have hds : decide (sa = s) = false := decide_eq_false hss
      have HSS := hid hss
      clear hss
      have HSM : Hid (∀ v : Nat, Calls Tryz.prog 39 #[.slice Asa sa.length csa, .slice As s.length cs] ((wr.alloc (.cells #[.int .u8 2, .int .i64 nn, .slice Ar r.length cr, .slice As s.length cs, .slice Ap q.length cp] 50)).drewN v) (fun e w' => e = .returned (.bool false) ∧ ∃ m, w' = ((wr.alloc (.cells #[.int .u8 2, .int .i64 nn, .slice Ar r.length cr, .slice As s.length cs, .slice Ap q.length cp] 50)).drewN v).drewN m)) := hid (fun v => by
       have h := Z3q Asa As sa.length s.length csa cs sa s ((wr.alloc (.cells #[.int .u8 2, .int .i64 nn, .slice Ar r.length cr, .slice As s.length cs, .slice Ap q.length cp] 50)).drewN v) rfl rfl (PXA.out.2.1.1.ext (Z0m _ v)) (PB.out.2.1.1.ext (Z0m _ v)) (by have := SA.out; simp only at this; omega) (by have := SX.out; simp only at this; omega)
       rw [hds] at h; exact h)
      clear hds
      go_wp2_with (fail)
      go_quiet ((go_at_call 39; exact Calls.quiet_of (HSM.out _)))
      have YD : Hid (Below w.heap.size w ((wr.alloc (.cells #[.int .u8 2, .int .i64 nn, .slice Ar r.length cr, .slice As s.length cs, .slice Ap q.length cp] 50)).drewN nq)) := hid (Z0t YB.out nq)
      have HRD : Hid (RowF ((wr.alloc (.cells #[.int .u8 2, .int .i64 nn, .slice Ar r.length cr, .slice As s.length cs, .slice Ap q.length cp] 50)).drewN nq) F w.heap.size (.slice (some ⟨g, 0, none⟩) (nd + 1) k1) D) := hid (HRB.out.ext (Z0m _ nq))
      have PD : Hid (PartF ((wr.alloc (.cells #[.int .u8 2, .int .i64 nn, .slice Ar r.length cr, .slice As s.length cs, .slice Ap q.length cp] 50)).drewN nq) (RowG F (.slice (some ⟨g, 0, none⟩) (nd + 1) k1)) (⟨⟨2, nn, r, s, q⟩, Ar, cr, As, cs, Ap, cp⟩ : OpS)) := hid (PB.out.grow (Grow.of (Z0m _ nq)))
      have HT3 : Hid ((ofM (osOf (l.take (m + 1)))).ins = osOf (D ++ [(⟨⟨2, nn, r, s, q⟩, Ar, cr, As, cs, Ap, cp⟩ : OpS)]) ∧ (ofM (osOf (l.take (m + 1)))).gone = G) := hid (by
       rw [HT2.out]
       refine ⟨?_, HGO.out.symm⟩
       show addI _ r s = _
       have e := Y0p (d := (ofM (osOf (l.take m))).ins) IX.out.1 rfl (fun a ha => by
        rw [HLS.out] at ha
        simp at ha
        subst ha
        exact HSS.out)
       rw [e, ← HD.out]
       unfold osOf; simp)
      go_wp2_with (at_builtin; refine Z3y (m := [(⟨⟨2, nn, r, s, q⟩, Ar, cr, As, cs, Ap, cp⟩ : OpS)]) rfl (.tmp 54) (.tmp 56) rfl rfl (by exact HRD.out.own.alloc _) _ _ 1 1 rfl rfl (by exact Z1s (enc := OpS.enc) (size := 5) _ _ (⟨⟨2, nn, r, s, q⟩, Ar, cr, As, cs, Ap, cp⟩ : OpS) rfl (by simp)) (by have := LD.out.1; simp only [List.length_singleton]; omega) (by exact Nat.le_trans YD.out.size (Z0J _ _)) ?_; intro v' w' hown' hgr hv')
      have HRN := hid ((HRD.out.ext (Z0b _ _)).app (fun z hz => by
       simp only [List.mem_singleton] at hz
       subst hz
       exact PD.out.grow (Grow.of (Z0b _ _))) hown' hgr hv')
      have YN := hid (Z0K (YD.out.alloc YD.out.size _) (by exact Nat.le_trans YD.out.size (Z0J _ _)) (HRD.out.own.alloc _) (Nat.le_refl _) hgr)
      clear hown' hgr hv'
      go_wp2_with (fail)
      go_roundg (n - (m + 1))
      case measure => have := HG.out; omega
      case rel => exact ⟨m + 1, _, G, by omega, rfl, by go_num, rfl, HRN.out, hid HT3.out.1.symm, hid HT3.out.2.symm, YN.out⟩
  ·have hmn : m = n := by omega
   subst hmn
   have hlt' : ¬ ((m : Int) < (m : Int)) := by omega
   have HD2 : Hid (osOf D = (ofM (osOf l)).ins ∧ G = (ofM (osOf l)).gone) := hid (by
    have h1 := HD.out
    have h2 := HGO.out
    rw [N.out, List.take_length] at h1 h2
    exact ⟨h1, h2⟩)
   by_cases hg0 : 0 < G
   ·have LD : Hid (D.length ≤ 2000000) := hid (by
     have h1 := (HB.out l.length).len
     rw [List.take_length, ← HD2.out.1] at h1
     have h2 : (osOf D).length = D.length := by unfold osOf; simp
     omega)
    go_wp2_with (at_builtin; refine Z3y (m := [delS G]) rfl (.tmp 60) (.tmp 63) rfl rfl (by exact HRW.out.own.alloc _) _ _ 1 1 rfl rfl (by exact Z1E (enc := OpS.enc) (size := 5) _ _ (delS G) rfl) (by have := LD.out; simp only [List.length_singleton]; omega) (by exact Nat.le_trans y.size (Z0J _ _)) ?_; intro v' w' hown' hgr hv')
    have HRN := hid ((HRW.out.ext (Z0b _ _)).app (fun z hz => by
     simp only [List.mem_singleton] at hz
     subst hz
     exact ⟨⟨Rd.nil, OffF.zero⟩, ⟨Rd.nil, OffF.zero⟩, ⟨Rd.nil, OffF.zero⟩⟩) hown' hgr hv')
    have YN := hid (Z0K (y.alloc y.size _) (by exact Nat.le_trans y.size (Z0J _ _)) (HRW.out.own.alloc _) (Nat.le_refl _) hgr)
    clear hgr hv'
    obtain ⟨A', c', rfl, _, _⟩ := hown'.form
    clear hown'
    go_wp2_with (fail)
    go_ret
    refine ⟨A', c', D ++ [delS G], rfl, ?_, HRN.out, YN.out⟩
    unfold gapP Z09
    rw [← HD2.out.1, ← HD2.out.2, if_pos hg0]
    unfold osOf; simp [delS]
   ·go_wp2_with (fail)
    go_ret
    refine ⟨A1, k1, D, rfl, ?_, HRW.out, y⟩
    unfold gapP Z09
    rw [← HD2.out.1, ← HD2.out.2, if_neg (show ¬ 0 < G by omega), List.append_nil]
section
variable {w : World} {A : Option Addr} {n c k : Nat} {x : List OpS}
theorem OpsC.first {o : OpS} {t : List OpS} (h : OpsC w A n c (o :: t)) : ∃ ad, A = some ad ∧ ad.block < w.heap.size ∧ CellsAt w ad o.enc := by
 obtain ⟨ad, e, hb, hc⟩ := h.at_.rd.1.at_ (i := 0) (by simp)
 rw [Nat.zero_mul, Z0v] at hc
 exact ⟨ad, e, hb, hc⟩
end
end Go.Proofs.YtfnkjcodcoehcaaGreatDoor
