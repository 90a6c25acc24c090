/- The walk of invert.Invert at deltas that fit. Printed by wip/gen_invw.py. -/
import Derived.Test.YtipoeidmblnbbaaGreatDoorPk26
import Derived.Test.YtipoeidmblnbbaaGreatDoorPk36
import Derived.Test.YtipoeidmblnbbaaGreatDoorPk34
import Derived.Test.YtipoeidmblnbbaaGreatDoorPk32
import Derived.Test.YtipoeidmblnbbaaGreatDoorPk35
import Derived.Test.YtipoeidmblnbbaaGreatDoorInvertPd
namespace Go.Proofs.YtipoeidmblnbbaaGreatDoor
open Go.RowKit
set_option linter.unusedVariables false
set_option linter.unusedSimpArgs false

/-- a maker that this call has made, and a box beside it -/
def MkIn2 (w wr : World) (b : Nat) (m : Mk) (bo : Nat) (ob : Obj) : Prop :=
  ∃ F, Mkr wr F b m ∧ (∀ k, F k → w.heap.size ≤ k) ∧ Below w.heap.size w wr ∧ ¬ F bo ∧ wr.heap[bo]? = some ob
theorem MkIn2.out {w wr w2 : World} {b bo : Nat} {m2 : Mk} {F F2 : Nat → Prop} {ob : Obj} (hF : ∀ k, F k → w.heap.size ≤ k) (y : Below w.heap.size w wr) (hn : ¬ F bo) (hb : wr.heap[bo]? = some ob) (h2 : Mkr w2 F2 b m2) (g : Grow wr F w2 F2) : MkIn2 w w2 b m2 bo ob :=
  ⟨F2, h2, g.low hF y.size, y.trans (g.below hF y.size), g.out (lt_of_some hb) hn, (g.block bo (lt_of_some hb) hn).trans hb⟩
theorem box_5 {w : World} {b : Nat} {t : TypeId} {c0 c1 c2 c3 c4 : Value} (h : w.heap[b]? = some (.cells #[c0, c1, c2, c3, c4] t (0, 0))) : w.cell? ⟨b, 0, none⟩ = some c0 ∧ w.cell? ⟨b, 1, none⟩ = some c1 ∧ w.cell? ⟨b, 2, none⟩ = some c2 ∧ w.cell? ⟨b, 3, none⟩ = some c3 ∧ w.cell? ⟨b, 4, none⟩ = some c4 := by
  simp [World.cell?, h]
/-- units of one op, one by one -/
theorem invU_reps_d (l : List Ky) (k : Nat) (rest : List Un) (c : Cl) (d : List Cl) : invU l (List.replicate (k + 1) .del ++ rest) (c :: d) = .ins c.r c.s :: invU l (List.replicate k .del ++ rest) d := rfl
theorem invU_reps_r (l : List Ky) (k : Nat) (p : List Ch) (rest : List Un) (c : Cl) (d : List Cl) : invU l (List.replicate (k + 1) (.ret p) ++ rest) (c :: d) = .ret (invC l c p) :: invU l (List.replicate k (.ret p) ++ rest) d := rfl
theorem invU_inss' (l : List Ky) (s : List At) (rest : List Un) (d : List Cl) : ∀ r : List Int, invU l (r.map (fun r => Un.ins r s) ++ rest) d = List.replicate r.length .del ++ invU l rest d
  | [] => rfl
  | a :: r => by
    show .del :: invU l (r.map (fun r => Un.ins r s) ++ rest) d = _
    rw [invU_inss' l s rest d r, List.length_cons, List.replicate_succ]; rfl
theorem len_left {us vs T : List Un} (h : us ++ vs = T) : us.length ≤ T.length := by rw [← h, List.length_append]; omega

set_option maxRecDepth 100000 in
set_option maxHeartbeats 12800000 in
theorem invertOk_any (s : Nat) (l : List Ky) (A1 Ax : Option Addr) (n1 c1 nx cx : Nat) (d : List ClS) (x : List OpS) (w : World) (hD : DocAt w A1 n1 c1 d) (hX : OpsAt w Ax nx x) (hS : Sch w s l) (hl : l.length ≤ 64)
    (hT : Lib.Utf8Tabs 1 2 w) (hz : applyN l x (clsOf d) 536870912 = 0) :
    Calls Tryz.prog 27 #[.pointer (some ⟨s, 0, none⟩), .slice A1 n1 c1, .slice Ax nx cx] w (NewOpOk (mkU (invU l (units (osOf x)) (clsOf d))) w) := by
  obtain ⟨hmd, hfo⟩ := applyN_zero hz
  obtain ⟨hgood, hfit⟩ := fits_units (most := 536870912) (by have := hX.len; have := hX.b; omega) (by omega) hfo
  obtain ⟨_, hok, _⟩ := mayD_iff.1 hmd
  have IS := Lib.hid (good_isOp hgood)
  have MU := Lib.hid (good_mU hgood)
  have TK : Hid (takesU (units (osOf x)) ≤ n1) := Lib.hid (by have := hfit.t; rw [hD.clen] at this; exact this)
  have TL : Hid ((units (osOf x)).length ≤ 1073741824) := Lib.hid (by have h1 := units_length (us := units (osOf x)); have h2 := hfit.tb; have h3 := hfit.mb; omega)
  have OKC : Hid (∀ z ∈ d, okCl l z.c ∧ okVr z.c.s) := Lib.hid (fun z hz => ⟨hok _ (mem_cls hz), (hD.vr z hz).2⟩)
  have OKU : Hid (∀ u ∈ invU l (units (osOf x)) (clsOf d), okUn u) := Lib.hid (inv_okUn _ _ MU.out (fun c hc => by
    obtain ⟨z, hz, rfl⟩ := cls_mem hc
    exact ⟨(OKC.out z hz).1.2.1, (OKC.out z hz).2⟩))
  have DD := Lib.hid hD
  have XX := Lib.hid hX
  have HS := Lib.hid hS
  have HZ := Lib.hid hz
  have HN := Lib.hid hX.len
  have HB : Hid (nx ≤ 1000000 ∧ n1 ≤ 20000) := Lib.hid ⟨hX.b, hD.b⟩
  obtain ⟨T, hT0⟩ : ∃ X, invU l (units (osOf x)) (clsOf d) = X := ⟨_, rfl⟩
  have TT := Lib.hid hT0
  rw [hT0] at OKU ⊢
  have TLEN : Hid (T.length ≤ 1073741824) := Lib.hid (by rw [← TT.out]; have := inv_len l (units (osOf x)) (clsOf d); have := TL.out; omega)
  clear hD hX hS hz hmd hfo hgood hfit hok hT0
  go_enter Tryz.func27, Tryz.ntmps27
  go_wp2_with (fail)
  go_step3
  go_wp2_with (go_at_call 17; refine Hid.out ?_)
  refine Lib.hid ?_
  refine (applyD_any s l A1 Ax n1 c1 nx cx d x 536870912 w DD.out.len XX.out.len DD.out.cap (by have := HB.out; omega) (by have := HB.out; omega) DD.out.rd XX.out.rd HS.out (fun z hz => ⟨by have := (DD.out.vr z hz).1; omega, (DD.out.vr z hz).2⟩) DD.out.caps XX.out.ok hT).mono ?_
  rintro e w1 ⟨y, ⟨hne, _⟩ | ⟨_, A2, c2, M, rfl, _, _, _⟩⟩
  · exact absurd HZ.out hne
  have Y1 := Lib.hid y
  clear y
  go_wp2_with (go_at_call 51; refine Hid.out ?_)
  refine Lib.hid ?_
  refine (mkNew_any w1).mono ?_
  rintro e w2 ⟨rfl, hm, y2⟩
  have HM2 := Lib.hid hm
  have Y2 := Lib.hid (ext_trans Y1.out y2)
  obtain ⟨b, hb⟩ : ∃ b, w1.heap.size = b := ⟨_, rfl⟩
  rw [hb] at HM2
  have HBB : Hid (w.heap.size ≤ b) := Lib.hid (by rw [← hb]; exact Y1.out.size)
  clear y2 hm
  rw [hb]
  clear hb
  have MI2 : Hid (MkIn w w2 b Mk.new) := Lib.hid ⟨_, HM2.out, (fun k hk => by have := HBB.out; omega), Y2.out⟩
  clear HM2 Y1
  go_wp2_with (fail)
  go_step3
  go_wp2_with (fail)
  go_loopg [1, 28] nx (fun g dv iv wr => ∃ (i k : Nat) (m : Mk) (us : List Un) (K : Nat) (A' : Option Addr) (n' c' : Nat), i ≤ nx ∧ g = nx - i ∧ iv = .int .i64 (i : Int) ∧ dv = .slice A' n' c' ∧ Hid (RdCl w w.heap.size A' (d.drop k) ∧ n' + k = n1 ∧ n' ≤ c') ∧
      Hid (Told m us ∧ MkB m K 64 ∧ K ≤ 2 * k ∧ us ++ invU l (units (osOf (x.drop i))) ((clsOf d).drop k) = T ∧ takesU (units (osOf (x.drop i))) + k ≤ n1) ∧ MkIn w wr b m)
  case atStart => exact ⟨0, 0, Mk.new, [], 0, A1, n1, c1, by omega, rfl, rfl, rfl, Lib.hid ⟨DD.out.rd, rfl, DD.out.cap⟩, Lib.hid ⟨Told.new, MkB.new 64, by omega, TT.out, by have := TK.out; exact this⟩, MI2.out⟩
  case round =>
    obtain ⟨i, k, m, us, K, A', n', c', hi, hg, rfl, rfl, HR, HQ, hmk⟩ := hrel
    have HG := Lib.hid hg
    clear hg MI2
    by_cases hlt : i < nx
    · have hl1 : i < x.length := by have := HN.out; omega
      obtain ⟨F, hm, low, y⟩ := hmk
      have HM := Lib.hid hm
      have LOW := Lib.hid low
      have Y := Lib.hid y
      clear hm low y
      obtain ⟨ad, o, rfl, had, hdrop, hx1, hc1⟩ := (XX.out.rd.ext Y.out).1.el hl1
      have hom := List.mem_of_getElem? hx1
      have RO := Lib.hid (XX.out.rd.2 o hom)
      have IOq := Lib.hid (IS.out o hom)
      have MO : Hid (∀ u ∈ unitsO o.o, mU l u) := Lib.hid (fun u hu => MU.out u (units_mem.2 ⟨o, hom, hu⟩))
      have OO := Lib.hid (XX.out.ok o hom)
      have HU : Hid (units (osOf (x.drop i)) = unitsO o.o ++ units (osOf (x.drop (i + 1)))) := Lib.hid (by rw [hdrop]; rfl)
      obtain ⟨rest, hrest⟩ : ∃ X, units (osOf (x.drop (i + 1))) = X := ⟨_, rfl⟩
      rw [hrest] at HU
      have HREST := Lib.hid hrest
      obtain ⟨⟨kk, nn, r, s', p⟩, Ar, cr, As, cs, Ap, cp⟩ := o
      obtain ⟨z0, z1, z2, z3, z4⟩ := op_cells hc1
      have yb := ext_alloc wr (.cells #[.int .u8 kk, .int .i64 nn, .slice Ar r.length cr, .slice As s'.length cs, .slice Ap p.length cp] 46)
      have hbx := heap_alloc_new wr (.cells #[.int .u8 kk, .int .i64 nn, .slice Ar r.length cr, .slice As s'.length cs, .slice Ap p.length cp] 46)
      obtain ⟨q0, q1, q2, q3, q4⟩ := box_5 hbx
      have YB := Lib.hid yb
      have HBX := Lib.hid hbx
      have hw2 : IntKind.i64.wrap ((i:Int) + 1) = (i : Int) + 1 := IntWalk.i64_in _ (by have := HB.out; omega)
      have hlt' : (i : Int) < (nx : Int) := by omega
      clear hx1 hom hl1 hc1 had yb hbx hdrop hrest
      by_cases hk2 : kk = 2
      · -- an insert: so many are deleted
        subst hk2
        go_wp2_with (go_at_call 62; refine Hid.out ?_)
        refine Lib.hid ?_
        refine (mkDelete_any b (r.length : Int) _ F m (HM.out.below YB.out)).mono ?_
        rintro e w3 ⟨rfl, F3, hm3, g3⟩
        have MI3 := Lib.hid (MkIn.out LOW.out (ext_trans Y.out YB.out) hm3 g3)
        clear hm3 g3
        go_wp2_with (fail)
        go_roundg (nx - (i + 1))
        case measure => have := HG.out; omega
        case rel =>
          refine ⟨i + 1, k, _, us ++ List.replicate r.length .del, K, A', n', c', by omega, rfl, by go_num, rfl, HR, Lib.hid ?_, MI3.out⟩
          obtain ⟨t1, t2, t3, t4, t5⟩ := HQ.out
          have hu : unitsO (⟨2, nn, r, s', p⟩ : Opd) = r.map (fun r => Un.ins r s') := rfl
          rw [HU.out, hu, invU_inss'] at t4
          rw [HU.out, hu, takesU_append, takesU_ins] at t5
          rw [HREST.out]
          have t4' : us ++ List.replicate r.length .del ++ invU l rest ((clsOf d).drop k) = T := by rw [List.append_assoc]; exact t4
          have hlen := len_left t4'
          rw [List.length_append, List.length_replicate] at hlen
          refine ⟨?_, t2.delete _, t3, t4', by omega⟩
          have := t1.delete (r.length : Int) (by have := TLEN.out; omega) (by have := TLEN.out; omega)
          simpa using this
      by_cases hk3 : kk = 3
      · subst hk3
        clear hk2
        have hk2' : ((3 : Int) == 2) = false := rfl
        have NN : Hid (1 ≤ nn) := Lib.hid ((opD_of IOq.out rfl).2)
        obtain ⟨N, hN⟩ : ∃ X : Nat, nn = (X : Int) := ⟨nn.toNat, by have := NN.out; omega⟩
        subst hN
        have hu : unitsO (⟨3, (N : Int), r, s', p⟩ : Opd) = List.replicate N .del := by
          unfold unitsO
          rw [if_neg (show ¬ (3 : Int) = 2 by decide), if_neg (show ¬ (3 : Int) = 1 by decide)]; rfl
        have HU2 : Hid (units (osOf (x.drop i)) = List.replicate N .del ++ rest) := Lib.hid (by rw [HU.out, hu])
        have NK : Hid (N + k ≤ n1 ∧ N ≤ n' ∧ takesU rest + (k + N) ≤ n1) := Lib.hid (by
          have h1 := HQ.out.2.2.2.2
          have h2 := HR.out.2.1
          rw [HU2.out, takesU_append, takesU_del] at h1
          omega)
        have QQ := Lib.hid HQ.out.2.2.2.1
        rw [HU2.out] at QQ
        clear hu
        have sl1 : ∀ W, (Instr.slice 23 (.slice A' n' c') none (some (.int .i64 (N : Int))) none).run Tryz.prog W = .ok (.slice A' N c') W := sl_to (l := N) Tryz.slCl Tryz.elCl size_cl rfl (by have := NK.out; have := HR.out; omega)
        obtain ⟨A'', hA''⟩ : ∃ X, advS A' c' N 2 = X := ⟨_, rfl⟩
        obtain ⟨c'', hc''⟩ : ∃ X, c' - N = X := ⟨_, rfl⟩
        obtain ⟨n'', hn''⟩ : ∃ X, n' - N = X := ⟨_, rfl⟩
        have sl2 : ∀ W, (Instr.slice 23 (.slice A' n' c') (some (.int .i64 (N : Int))) none none).run Tryz.prog W = .ok (.slice A'' n'' c'') W := sl_from Tryz.slCl Tryz.elCl size_cl rfl hA'' hn'' hc'' (by have := NK.out; omega) HR.out.2.2
        have HR2 : Hid (RdCl w w.heap.size A'' (d.drop (k + N)) ∧ n'' + (k + N) = n1 ∧ n'' ≤ c'') := Lib.hid (by
          have h1 := HR.out
          have h2 := NK.out
          have hl : (d.drop k).length = n' := by rw [List.length_drop, ← DD.out.len]; omega
          have h3 := h1.1.from hA'' (by rw [hl]; omega) (by rw [hl]; exact h1.2.2)
          rw [List.drop_drop] at h3
          exact ⟨h3, by omega, by omega⟩)
        have RC : Hid (RdCl w w.heap.size A' ((d.drop k).take N)) := Lib.hid (HR.out.1.take N)
        have LC : Hid (((d.drop k).take N).length = N) := Lib.hid (by rw [List.length_take, List.length_drop, ← DD.out.len]; have := NK.out; omega)
        obtain ⟨bo, hbo⟩ : ∃ X, wr.heap.size = X := ⟨_, rfl⟩
        have NF : Hid (¬ F bo) := Lib.hid (fun h => by have := HM.out.lt bo h; omega)
        rw [hbo] at HBX q0 q1 q2 q3 q4
        have M0 : Hid (MkIn2 w (wr.alloc (.cells #[.int .u8 3, .int .i64 (N : Int), .slice Ar r.length cr, .slice As s'.length cs, .slice Ap p.length cp] 46)) b m bo (.cells #[.int .u8 3, .int .i64 (N : Int), .slice Ar r.length cr, .slice As s'.length cs, .slice Ap p.length cp] 46 (0, 0))) := Lib.hid ⟨F, HM.out.below YB.out, LOW.out, ext_trans Y.out YB.out, NF.out, HBX.out⟩
        clear hA'' hc'' hn''
        go_wp2_with (fail)
        try rw [hbo]
        go_loopg [45] N (fun g jv wi => ∃ (j : Nat) (m' : Mk) (us' : List Un) (K' : Nat), j ≤ N ∧ g = N - j ∧ jv = .int .i64 (j : Int) ∧ Hid (Told m' us' ∧ MkB m' K' 64 ∧ K' ≤ 2 * (k + j) ∧ us' ++ invU l (List.replicate (N - j) .del ++ rest) ((clsOf d).drop (k + j)) = T) ∧
            MkIn2 w wi b m' bo (.cells #[.int .u8 3, .int .i64 (N : Int), .slice Ar r.length cr, .slice As s'.length cs, .slice Ap p.length cp] 46 (0, 0)))
        case atStart => exact ⟨0, m, us, K, by omega, rfl, rfl, Lib.hid ⟨HQ.out.1, HQ.out.2.1, HQ.out.2.2.1, QQ.out⟩, M0.out⟩
        case round =>
          obtain ⟨j, m', us', K', hj, hgj, rfl, HQ', F', hm', low', y', nf', hbx'⟩ := hrel
          have HGJ := Lib.hid hgj
          have HM' := Lib.hid hm'
          have LOW' := Lib.hid low'
          have Y' := Lib.hid y'
          have NF' := Lib.hid nf'
          have HBX' := Lib.hid hbx'
          clear hgj hm' low' y' nf' hbx' M0
          by_cases hltj : j < N
          · obtain ⟨ae, z, rfl, hae, _, hz1, hc2⟩ := (RC.out.ext Y'.out).1.el (i := j) (by rw [LC.out]; exact hltj)
            have hzm := List.mem_of_getElem? hz1
            have hzd : z ∈ d := List.mem_of_mem_drop (List.mem_of_mem_take hzm)
            have RZ := Lib.hid ((RC.out.ext Y'.out).2 z hzm)
            have OZ := Lib.hid (OKC.out z hzd)
            have CZ := Lib.hid (DD.out.caps z hzd)
            have HNX : Hid ((clsOf d).drop (k + j) = z.c :: (clsOf d).drop (k + (j + 1))) := Lib.hid (by
              have h1 : d[k + j]? = some z := by
                rw [List.getElem?_take_of_lt hltj, List.getElem?_drop] at hz1; exact hz1
              have h2 := clsOf_at h1
              obtain ⟨h3, h4⟩ := List.getElem?_eq_some_iff.1 h2
              rw [List.drop_eq_getElem_cons h3, h4, Nat.add_assoc])
            obtain ⟨⟨cr1, cs1⟩, Ac, cc⟩ := z
            obtain ⟨t0, t1⟩ := cl_cells hc2
            have yc := ext_alloc wr (.cells #[.int .i32 cr1, .slice Ac cs1.length cc] 59)
            have hbc := heap_alloc_new wr (.cells #[.int .i32 cr1, .slice Ac cs1.length cc] 59)
            have YC := Lib.hid yc
            have hbo2 := (yc.block bo (lt_of_some HBX'.out)).trans HBX'.out
            obtain ⟨p0, p1, p2, p3, p4⟩ := box_5 hbo2
            have HBO2 := Lib.hid hbo2
            have HBC := Lib.hid hbc
            obtain ⟨v0, v1⟩ := box_cl hbc
            have hwj : IntKind.i64.wrap ((j:Int) + 1) = (j : Int) + 1 := IntWalk.i64_in _ (by have := NK.out; have := HB.out; omega)
            have hltj' : (j : Int) < (N : Int) := by omega
            have S64 : Hid (cs1.length ≤ 64) := Lib.hid (mayS_zero OZ.out.1.2.1).1
            have KB : Hid (K' ≤ 40000) := Lib.hid (by have := HQ'.out.2.2.1; have := NK.out; have := HB.out; omega)
            clear hz1 hzm hzd hc2 hae yc hbo2 hbc
            have yd := ext_alloc (wr.alloc (.cells #[.int .i32 cr1, .slice Ac cs1.length cc] 59)) (.cells #[.int .i32 cr1] 21)
            have YD := Lib.hid (ext_trans YC.out yd)
            clear yd
            go_wp2_with (go_at_call 53; refine Hid.out ?_)
            refine Lib.hid ?_
            refine (mkInsert_any b _ Ac 1 1 cs1.length cc [cr1] cs1 _ F' m' (HM'.out.below YD.out) rfl rfl (by rw [World.size_alloc]; exact rd_one_at (enc := encI32) (size := 1) (wr.alloc (.cells #[.int .i32 cr1, .slice Ac cs1.length cc] 59)) 21 cr1 rfl (by simp)) (RZ.out.ext YD.out) (by omega) (by have := S64.out; omega) (by have := HQ'.out.2.1.len; have := KB.out; omega)
              (fun o ho => by have := HQ'.out.2.1.prt o (List.mem_append_right _ ho); have := KB.out; omega)).mono ?_
            rintro e w9 ⟨rfl, F3, hm3, g3⟩
            have MI9 := Lib.hid (MkIn2.out LOW'.out (ext_trans Y'.out YD.out) NF'.out ((YD.out.block bo (lt_of_some HBX'.out)).trans HBX'.out) hm3 g3)
            clear hm3 g3
            go_wp2_with (fail)
            go_roundg (N - (j + 1))
            case measure => have := HGJ.out; omega
            case rel =>
              refine ⟨j + 1, _, us' ++ [.ins cr1 cs1], K' + 1, by omega, rfl, by go_num, Lib.hid ?_, MI9.out⟩
              obtain ⟨t1, t2, t3, t4⟩ := HQ'.out
              obtain ⟨q, hq⟩ : ∃ q, N - j = q + 1 := ⟨N - j - 1, by omega⟩
              rw [hq, HNX.out, invU_reps_d] at t4
              refine ⟨t1.insert [cr1] cs1, t2.insert [cr1] (by have := S64.out; exact this), by omega, ?_⟩
              rw [List.append_assoc, show N - (j + 1) = q by omega]
              exact t4
          · have hjN : j = N := by omega
            subst hjN
            have hltj' : ¬ (j : Int) < (j : Int) := by omega
            obtain ⟨p0, p1, p2, p3, p4⟩ := box_5 HBX'.out
            have MI9 : Hid (MkIn w wr b m') := Lib.hid ⟨F', HM'.out, LOW'.out, Y'.out⟩
            go_wp2_with (fail)
            go_roundg (nx - (i + 1))
            case measure => have := HG.out; omega
            case rel =>
              refine ⟨i + 1, k + j, m', us', K', A'', n'', c'', by omega, rfl, by go_num, rfl, HR2, Lib.hid ?_, MI9.out⟩
              obtain ⟨t1, t2, t3, t4⟩ := HQ'.out
              rw [Nat.sub_self] at t4
              rw [HREST.out]
              exact ⟨t1, t2, t3, t4, by have := NK.out; omega⟩
      · have hk1 : kk = 1 := by
          rcases isOp_kind IOq.out with h | h | h
          · exact absurd h hk2
          · exact absurd h hk3
          · exact h
        subst hk1
        clear hk2 hk3
        have NN : Hid (1 ≤ nn) := Lib.hid ((opR_of IOq.out rfl).2)
        obtain ⟨N, hN⟩ : ∃ X : Nat, nn = (X : Int) := ⟨nn.toNat, by have := NN.out; omega⟩
        subst hN
        have hu : unitsO (⟨1, (N : Int), r, s', p⟩ : Opd) = List.replicate N (.ret p) := by
          unfold unitsO
          rw [if_neg (show ¬ (1 : Int) = 2 by decide), if_pos rfl]; rfl
        have MP : Hid (mayP l p = 0) := Lib.hid (MO.out (.ret p) (by rw [hu]; exact List.mem_replicate.2 ⟨by have := NN.out; omega, rfl⟩))
        have HU2 : Hid (units (osOf (x.drop i)) = List.replicate N (.ret p) ++ rest) := Lib.hid (by rw [HU.out, hu])
        have NK : Hid (N + k ≤ n1 ∧ N ≤ n' ∧ takesU rest + (k + N) ≤ n1) := Lib.hid (by
          have h1 := HQ.out.2.2.2.2
          have h2 := HR.out.2.1
          rw [HU2.out, takesU_append, takesU_ret] at h1
          omega)
        have QQ := Lib.hid HQ.out.2.2.2.1
        rw [HU2.out] at QQ
        clear hu
        have sl1 : ∀ W, (Instr.slice 23 (.slice A' n' c') none (some (.int .i64 (N : Int))) none).run Tryz.prog W = .ok (.slice A' N c') W := sl_to (l := N) Tryz.slCl Tryz.elCl size_cl rfl (by have := NK.out; have := HR.out; omega)
        obtain ⟨A'', hA''⟩ : ∃ X, advS A' c' N 2 = X := ⟨_, rfl⟩
        obtain ⟨c'', hc''⟩ : ∃ X, c' - N = X := ⟨_, rfl⟩
        obtain ⟨n'', hn''⟩ : ∃ X, n' - N = X := ⟨_, rfl⟩
        have sl2 : ∀ W, (Instr.slice 23 (.slice A' n' c') (some (.int .i64 (N : Int))) none none).run Tryz.prog W = .ok (.slice A'' n'' c'') W := sl_from Tryz.slCl Tryz.elCl size_cl rfl hA'' hn'' hc'' (by have := NK.out; omega) HR.out.2.2
        have HR2 : Hid (RdCl w w.heap.size A'' (d.drop (k + N)) ∧ n'' + (k + N) = n1 ∧ n'' ≤ c'') := Lib.hid (by
          have h1 := HR.out
          have h2 := NK.out
          have hl : (d.drop k).length = n' := by rw [List.length_drop, ← DD.out.len]; omega
          have h3 := h1.1.from hA'' (by rw [hl]; omega) (by rw [hl]; exact h1.2.2)
          rw [List.drop_drop] at h3
          exact ⟨h3, by omega, by omega⟩)
        have RC : Hid (RdCl w w.heap.size A' ((d.drop k).take N)) := Lib.hid (HR.out.1.take N)
        have LC : Hid (((d.drop k).take N).length = N) := Lib.hid (by rw [List.length_take, List.length_drop, ← DD.out.len]; have := NK.out; omega)
        obtain ⟨bo, hbo⟩ : ∃ X, wr.heap.size = X := ⟨_, rfl⟩
        have NF : Hid (¬ F bo) := Lib.hid (fun h => by have := HM.out.lt bo h; omega)
        rw [hbo] at HBX q0 q1 q2 q3 q4
        have M0 : Hid (MkIn2 w (wr.alloc (.cells #[.int .u8 1, .int .i64 (N : Int), .slice Ar r.length cr, .slice As s'.length cs, .slice Ap p.length cp] 46)) b m bo (.cells #[.int .u8 1, .int .i64 (N : Int), .slice Ar r.length cr, .slice As s'.length cs, .slice Ap p.length cp] 46 (0, 0))) := Lib.hid ⟨F, HM.out.below YB.out, LOW.out, ext_trans Y.out YB.out, NF.out, HBX.out⟩
        clear hA'' hc'' hn''
        go_wp2_with (fail)
        try rw [hbo]
        go_loopg [45] N (fun g jv wi => ∃ (j : Nat) (m' : Mk) (us' : List Un) (K' : Nat), j ≤ N ∧ g = N - j ∧ jv = .int .i64 (j : Int) ∧ Hid (Told m' us' ∧ MkB m' K' 64 ∧ K' ≤ 2 * (k + j) ∧ us' ++ invU l (List.replicate (N - j) (.ret p) ++ rest) ((clsOf d).drop (k + j)) = T) ∧
            MkIn2 w wi b m' bo (.cells #[.int .u8 1, .int .i64 (N : Int), .slice Ar r.length cr, .slice As s'.length cs, .slice Ap p.length cp] 46 (0, 0)))
        case atStart => exact ⟨0, m, us, K, by omega, rfl, rfl, Lib.hid ⟨HQ.out.1, HQ.out.2.1, HQ.out.2.2.1, QQ.out⟩, M0.out⟩
        case round =>
          obtain ⟨j, m', us', K', hj, hgj, rfl, HQ', F', hm', low', y', nf', hbx'⟩ := hrel
          have HGJ := Lib.hid hgj
          have HM' := Lib.hid hm'
          have LOW' := Lib.hid low'
          have Y' := Lib.hid y'
          have NF' := Lib.hid nf'
          have HBX' := Lib.hid hbx'
          clear hgj hm' low' y' nf' hbx' M0
          by_cases hltj : j < N
          · obtain ⟨ae, z, rfl, hae, _, hz1, hc2⟩ := (RC.out.ext Y'.out).1.el (i := j) (by rw [LC.out]; exact hltj)
            have hzm := List.mem_of_getElem? hz1
            have hzd : z ∈ d := List.mem_of_mem_drop (List.mem_of_mem_take hzm)
            have RZ := Lib.hid ((RC.out.ext Y'.out).2 z hzm)
            have OZ := Lib.hid (OKC.out z hzd)
            have CZ := Lib.hid (DD.out.caps z hzd)
            have HNX : Hid ((clsOf d).drop (k + j) = z.c :: (clsOf d).drop (k + (j + 1))) := Lib.hid (by
              have h1 : d[k + j]? = some z := by
                rw [List.getElem?_take_of_lt hltj, List.getElem?_drop] at hz1; exact hz1
              have h2 := clsOf_at h1
              obtain ⟨h3, h4⟩ := List.getElem?_eq_some_iff.1 h2
              rw [List.drop_eq_getElem_cons h3, h4, Nat.add_assoc])
            obtain ⟨⟨cr1, cs1⟩, Ac, cc⟩ := z
            obtain ⟨t0, t1⟩ := cl_cells hc2
            have yc := ext_alloc wr (.cells #[.int .i32 cr1, .slice Ac cs1.length cc] 59)
            have hbc := heap_alloc_new wr (.cells #[.int .i32 cr1, .slice Ac cs1.length cc] 59)
            have YC := Lib.hid yc
            have hbo2 := (yc.block bo (lt_of_some HBX'.out)).trans HBX'.out
            obtain ⟨p0, p1, p2, p3, p4⟩ := box_5 hbo2
            have HBO2 := Lib.hid hbo2
            have HBC := Lib.hid hbc
            obtain ⟨v0, v1⟩ := box_cl hbc
            have hwj : IntKind.i64.wrap ((j:Int) + 1) = (j : Int) + 1 := IntWalk.i64_in _ (by have := NK.out; have := HB.out; omega)
            have hltj' : (j : Int) < (N : Int) := by omega
            have S64 : Hid (cs1.length ≤ 64) := Lib.hid (mayS_zero OZ.out.1.2.1).1
            have KB : Hid (K' ≤ 40000) := Lib.hid (by have := HQ'.out.2.2.1; have := NK.out; have := HB.out; omega)
            clear hz1 hzm hzd hc2 hae yc hbo2 hbc
            obtain ⟨bc, hbc0⟩ : ∃ X, wr.heap.size = X := ⟨_, rfl⟩
            rw [hbc0] at HBC v0 v1
            have SF : Hid (∀ v, Below (wr.alloc (.cells #[.int .i32 cr1, .slice Ac cs1.length cc] 59)).heap.size (wr.alloc (.cells #[.int .i32 cr1, .slice Ac cs1.length cc] 59)) v → v.cell? ⟨bo, 4, none⟩ = some (.slice Ap p.length cp) ∧ v.cell? ⟨bc, 0, none⟩ = some (.int .i32 cr1) ∧ v.cell? ⟨bc, 1, none⟩ = some (.slice Ac cs1.length cc)) := Lib.hid (fun v hv =>
              ⟨(box_5 ((hv.block bo (lt_of_some HBO2.out)).trans HBO2.out)).2.2.2.2, (box_cl ((hv.block bc (lt_of_some HBC.out)).trans HBC.out)).1, (box_cl ((hv.block bc (lt_of_some HBC.out)).trans HBC.out)).2⟩)
            obtain ⟨X, hX⟩ : ∃ X, partP l (cr1 == 10) p = X := ⟨_, rfl⟩
            have HX := Lib.hid hX
            have XL : Hid (X.length ≤ 64) := Lib.hid (by rw [← hX]; exact Nat.le_trans (List.length_filter_le _ _) (mayP_zero MP.out).1)
            obtain ⟨Q, hQ⟩ : ∃ Q, invertP cs1 X = Q := ⟨_, rfl⟩
            have HQI : Hid (invC l ⟨cr1, cs1⟩ p = Q) := Lib.hid (by unfold invC; rw [← hQ, ← hX])
            have HQ9 := Lib.hid hQ
            have QL : Hid (Q.length ≤ 64) := Lib.hid (by rw [← hQ]; exact Nat.le_trans (invert_len (by rw [← hX]; exact riseC_srt.2 (part_srt (riseC_srt.1 (mayP_zero MP.out).2.1)))) XL.out)
            clear hX hQ
            have NFC : Hid (¬ F' bc) := Lib.hid (fun h => by have := HM'.out.lt bc h; omega)
            have RISE : Hid (riseA cs1 = true) := Lib.hid (mayS_zero OZ.out.1.2.1).2.1
            have SR : Hid (Sch (wr.alloc (.cells #[.int .i32 cr1, .slice Ac cs1.length cc] 59)) s l) := Lib.hid (HS.out.ext (ext_trans Y'.out YC.out))
            have YR : Hid (Below w.heap.size w (wr.alloc (.cells #[.int .i32 cr1, .slice Ac cs1.length cc] 59))) := Lib.hid (ext_trans Y'.out YC.out)
            have PRR : Hid (RdCh w w.heap.size Ap p) := Lib.hid RO.out.2.2
            generalize hwv : wr.alloc (.cells #[.int .i32 cr1, .slice Ac cs1.length cc] 59) = wv at *
            go_wp2_with (fail)
            try rw [hbc0]
            try rw [hwv]
            go_region_held3 (fun w' => w'.cell? ⟨bo, 4, none⟩ = some (.slice Ap p.length cp) ∧ w'.cell? ⟨bc, 0, none⟩ = some (.int .i32 cr1) ∧ w'.cell? ⟨bc, 1, none⟩ = some (.slice Ac cs1.length cc))
              (go_keep) (first
                | (go_at_call 66
                   with_reducible refine (part_any s l (cr1 == 10) Ap p.length cp p wv.drew rfl ((PRR.out.ext YR.out).ext (up_drew (Below.refl _ _))) (by have := (mayP_zero MP.out).1; omega) (SR.out.ext (up_drew (Below.refl _ _)))).mono ?_
                   rw [HX.out]
                   rintro e wd ⟨A3, k3, rfl, o3, y3⟩
                   have O3 := Lib.hid o3
                   have YP := Lib.hid (ext_trans (up_drew (Below.refl _ _)) y3)
                   obtain ⟨d0, d1, d2⟩ := SF.out _ YP.out
                   clear o3 y3)
                | (go_at_call 65
                   with_reducible refine (invert_any Ac A3 cs1.length X.length cc k3 cs1 X wd RISE.out rfl rfl ((RZ.out.ext YC.out).ext YP.out) (O3.out.rd Ch.enc_len) (by have := S64.out; omega) (by have := XL.out; omega)).mono ?_
                   rw [HQ9.out]
                   rintro e we ⟨A4, k4, rfl, o4, y4⟩
                   have O4 := Lib.hid o4
                   have YI := Lib.hid (ext_trans YP.out y4)
                   obtain ⟨e0, e1, e2⟩ := SF.out _ YI.out
                   clear o4 y4)
                | (go_at_call 52
                   with_reducible refine (mkRetain_any b A4 1 Q.length k4 Q we F' m' ((HM'.out.below YC.out).below YI.out) rfl (O4.out.rd Ch.enc_len) (O4.out.offF Ch.enc_len rfl (fun k hk hF => by have := (O4.out.wb_lt k hk).1; have := (HM'.out.below (YC.out.trans (YP.out.mono YC.out.size))).lt k hF; omega)) (by have := QL.out; omega)
                      (by have := HQ'.out.2.1.len; have := KB.out; omega) (fun o ho => by have := (HQ'.out.2.1.gap.2 o ho).2.2; omega)).mono ?_
                   rintro e wf ⟨rfl, F4, hm4, g4⟩
                   have hbo4 := (YI.out.block bo (lt_of_some HBO2.out)).trans HBO2.out
                   have hbc4 := (YI.out.block bc (lt_of_some HBC.out)).trans HBC.out
                   have MI4 := Lib.hid (MkIn2.out LOW'.out (ext_trans YR.out YI.out) NF'.out hbo4 hm4 g4)
                   obtain ⟨_, _, _, _, f0⟩ := box_5 ((g4.block bo (lt_of_some hbo4) NF'.out).trans hbo4)
                   obtain ⟨f1, f2⟩ := box_cl ((g4.block bc (lt_of_some hbc4) NFC.out).trans hbc4)
                   clear hbo4 hbc4))
            go_wp2_with (fail)
            go_roundg (N - (j + 1))
            case measure => have := HGJ.out; omega
            case rel =>
              refine ⟨j + 1, _, us' ++ [.ret Q], K' + 2, by omega, rfl, by go_num, Lib.hid ?_, MI4.out⟩
              obtain ⟨t1, t2, t3, t4⟩ := HQ'.out
              obtain ⟨q, hq⟩ : ∃ q, N - j = q + 1 := ⟨N - j - 1, by omega⟩
              rw [hq, HNX.out, invU_reps_r, HQI.out] at t4
              have hlen := len_left t4
              refine ⟨t1.retain 1 Q (by have := TLEN.out; omega), t2.retain 1 (by have := QL.out; exact this), by omega, ?_⟩
              rw [List.append_assoc, show N - (j + 1) = q by omega]
              exact t4
          · have hjN : j = N := by omega
            subst hjN
            have hltj' : ¬ (j : Int) < (j : Int) := by omega
            obtain ⟨p0, p1, p2, p3, p4⟩ := box_5 HBX'.out
            have MI9 : Hid (MkIn w wr b m') := Lib.hid ⟨F', HM'.out, LOW'.out, Y'.out⟩
            go_wp2_with (fail)
            go_roundg (nx - (i + 1))
            case measure => have := HG.out; omega
            case rel =>
              refine ⟨i + 1, k + j, m', us', K', A'', n'', c'', by omega, rfl, by go_num, rfl, HR2, Lib.hid ?_, MI9.out⟩
              obtain ⟨t1, t2, t3, t4⟩ := HQ'.out
              rw [Nat.sub_self] at t4
              rw [HREST.out]
              exact ⟨t1, t2, t3, t4, by have := NK.out; omega⟩
    · have hin : i = nx := by omega
      subst hin
      have hlt' : ¬ (i : Int) < (i : Int) := by omega
      obtain ⟨F, hm, low, y⟩ := hmk
      have HM := Lib.hid hm
      have Y := Lib.hid y
      clear hm low y
      obtain ⟨t1, t2, t3, t4, t5⟩ := HQ.out
      have hdr : x.drop i = [] := List.drop_eq_nil_of_le (by have := HN.out; omega)
      rw [hdr] at t4
      have ht : us = T := by rw [← t4]; show us = us ++ []; rw [List.append_nil]
      have KB : K ≤ 40000 := by have := HR.out.2.1; have := HB.out; omega
      have TD := Lib.hid (ht ▸ t1)
      have MB := Lib.hid t2
      clear t1 t2 t3 t4 t5 hdr ht HQ
      go_wp2_with (go_at_call 54; refine Hid.out ?_)
      refine Lib.hid ?_
      refine (mkOps_any b wr F m HM.out (by have := MB.out.len; omega) (fun o ho => by have := MB.out.gap.2 o ho; omega)).mono ?_
      intro e wz hN
      obtain ⟨A9, c9, x9, rfl, hx9, ho9, hy9⟩ := NewOps.opC hN TD.out OKU.out MB.out (by omega) (by omega)
      have FIN9 := Lib.hid (And.intro hx9 (And.intro ho9 (ext_trans Y.out hy9)))
      clear hx9 ho9 hy9 hN
      go_wp2_with (fail)
      refine bodyPost_ret (v := .tuple #[.slice A9 x9.length c9, .int .i64 0]) (by simp [results, Tryz.results27, go_sem]) rfl ?_
      exact ⟨A9, c9, x9, rfl, FIN9.out.1, FIN9.out.2.1, FIN9.out.2.2⟩

set_option maxHeartbeats 1600000 in
/-- a delta that does not fit has no inverse -/
theorem invertBad_any (s : Nat) (l : List Ky) (A1 Ax : Option Addr) (n1 c1 nx cx : Nat) (d : List ClS) (x : List OpS) (w : World) (hD : DocAt w A1 n1 c1 d) (hX : OpsAt w Ax nx x) (hS : Sch w s l)
    (hT : Lib.Utf8Tabs 1 2 w) {r : Int} (hr : applyN l x (clsOf d) 536870912 = r) (hz : r ≠ 0) :
    Calls Tryz.prog 27 #[.pointer (some ⟨s, 0, none⟩), .slice A1 n1 c1, .slice Ax nx cx] w (fun e w' => e = .returned (.tuple #[.slice none 0 0, .int .i64 r]) ∧ Below w.heap.size w w') := by
  have HC := Lib.hid (applyBad (c2 := cx) hD hX hS hT hr hz)
  have h0' : (r != 0) = true := by rw [bne, beq_eq_false_iff_ne.2 hz]; rfl
  clear hD hX hS hT hr
  go_enter Tryz.func27, Tryz.ntmps27
  go_wp2_with (fail)
  go_step3
  go_wp2_with (go_at_call 17; refine Hid.out ?_)
  refine Lib.hid ?_
  refine HC.out.mono ?_
  rintro e w1 ⟨rfl, y⟩
  have Y := Lib.hid y
  clear y
  go_wp2_with (fail)
  try rw [Exit.noGoto_ret]
  refine bodyPost_ret (v := .tuple #[.slice none 0 0, .int .i64 r]) (by simp [results, Tryz.results27, go_sem]) rfl ?_
  exact ⟨rfl, Y.out⟩
end Go.Proofs.YtipoeidmblnbbaaGreatDoor
