/- Merged texts: Com20. -/
import Derived.Test.YtfnkjcodcoehcaaGreatDoorS31
import Derived.Test.YtfnkjcodcoehcaaGreatDoorS32
import Derived.Test.YtfnkjcodcoehcaaGreatDoorS30
import Derived.Test.YtfnkjcodcoehcaaGreatDoorS28
import Derived.Test.YtfnkjcodcoehcaaGreatDoorS24
namespace Go.Proofs.YtfnkjcodcoehcaaGreatDoor
open Go.RowKit
set_option linter.unusedVariables false
set_option linter.unusedSimpArgs false

theorem part_of {w : World} {A : Option Addr} {D : List OpS} (h : RdOp w w.heap.size A D) {z : OpS} (hz : z ∈ D) : PartF w (fun _ => False) z := by
  obtain ⟨h1, h2, h3⟩ := h.2 z hz
  exact ⟨⟨h1, fun ad e hl hk => hk⟩, ⟨h2, fun ad e hl hk => hk⟩, ⟨h3, fun ad e hl hk => hk⟩⟩
theorem RowF.rdop {w : World} {B : Nat} {A : Option Addr} {n c : Nat} {D : List OpS} (h : RowF w (fun _ => False) B (.slice A n c) D) : RdOp w w.heap.size A D := ⟨h.own.rd OpS.enc_len, fun z hz => ⟨(h.parts z hz).1.1, (h.parts z hz).2.1.1, (h.parts z hz).2.2.1⟩⟩
theorem keep_app {w9 w3 wr : World} {ov : Value} {bx : Nat} (g : w3.grownBy w9 (wb ov)) (y3 : Below wr.heap.size wr w3) (hb : bx < wr.heap.size) (h : ∀ z, wb ov = some z → z ≠ bx) : w9.heap[bx]? = wr.heap[bx]? :=
  (g.block bx (Nat.lt_of_lt_of_le hb y3.size) (fun e => h bx e.symm rfl)).trans (y3.block bx hb)
/-- an insert of one rune with a set, both of the call's own, behind a row -/
theorem push_new {w wr W1 w9 : World} {ov v9 : Value} {D : List OpS} {r : Int} {s : List At} {As : Option Addr} {cs : Nat} {O : Obj} (row : RowF wr (fun _ => False) w.heap.size ov D) (y : Below w.heap.size w wr) (hs : OwAt W1 wr.heap.size (.slice As s.length cs) s) (y1 : Below wr.heap.size wr W1)
    (ho : OwOs w9 w.heap.size v9 (D ++ [⟨opI [r] s, some ⟨W1.heap.size, 0, none⟩, 1, As, cs, none, 0⟩])) (g : ((W1.alloc (.cells #[.int .i32 r] 21)).alloc O).grownBy w9 (wb ov))
    (hv : v9 = ov ∧ w9 = ((W1.alloc (.cells #[.int .i32 r] 21)).alloc O) ∨ wb v9 = wb ov ∨ wb v9 = some ((W1.alloc (.cells #[.int .i32 r] 21)).alloc O).heap.size) :
    RowF w9 (fun _ => False) w.heap.size v9 (D ++ [⟨opI [r] s, some ⟨W1.heap.size, 0, none⟩, 1, As, cs, none, 0⟩]) ∧ Below w.heap.size w w9 := by
  have y2 := ext_trans y1 (ext_alloc W1 (.cells #[.int .i32 r] 21))
  have ya := ext_trans (ext_alloc W1 (.cells #[.int .i32 r] 21)) (ext_alloc _ O)
  have y3 := ext_trans y1 ya
  have yy := ext_trans y y3
  have wl := row.own.wb_lt
  refine ⟨(row.ext y3).app (fun x hx => ?_) ho g hv, yy.grown g yy.size (fun k hk => (wl k hk).1)⟩
  rw [List.mem_singleton] at hx
  subst hx
  have ri : RdI32 (W1.alloc (.cells #[.int .i32 r] 21)) (W1.alloc (.cells #[.int .i32 r] 21)).heap.size (some ⟨W1.heap.size, 0, none⟩) [r] := Rd.new (enc := encI32) (size := 1) encI32_len W1 21 [r] (cs := #[.int .i32 r]) rfl rfl
  have hq2 := hs.below ya (Nat.le_refl _)
  refine ⟨⟨ri.ext (ext_alloc _ O), fun ad e hl hk => ?_⟩, ⟨hq2.rd At.enc_len, ?_⟩, ⟨Rd.nil, OffF.zero⟩⟩
  · injection e with e
    subst e
    rcases hk with hk | hk
    · exact hk
    · have := (wl _ hk).2
      have := y1.size
      simp only at *
      omega
  · refine hq2.offF At.enc_len rfl (fun k hk hg => ?_)
    have h1 := (hs.wb_lt k hk).1
    rcases hg with hg | hg
    · exact hg
    · have := (wl _ hg).2; omega
theorem ones_el {D : List OpS} {us : List Un} (h : osOf D = us.map op1) {i : Nat} {z : OpS} (hz : D[i]? = some z) : ∃ u, us[i]? = some u ∧ z.o = op1 u := by
  have h1 : (osOf D)[i]? = some z.o := by unfold osOf; rw [List.getElem?_map, hz]; rfl
  rw [h, List.getElem?_map] at h1
  cases hu : us[i]? with
  | none => rw [hu] at h1; cases h1
  | some u => rw [hu] at h1; injection h1 with h1; exact ⟨u, rfl, h1.symm⟩
theorem osOf_snoc (D : List OpS) (x : OpS) : osOf (D ++ [x]) = osOf D ++ [x.o] := by unfold osOf; rw [List.map_append]; rfl
theorem op1_ins {nn : Int} {r : List Int} {s : List At} {p : List Ch} {v : Un} (h : (⟨2, nn, r, s, p⟩ : Opd) = op1 v) : ∃ r0 s0, v = .ins r0 s0 := by
  cases v with
  | ins r0 s0 => exact ⟨r0, s0, rfl⟩
  | del => have := congrArg Opd.k h; simp [op1, opD] at this
  | ret q => have := congrArg Opd.k h; simp [op1, opR] at this
theorem op1_del {nn : Int} {r : List Int} {s : List At} {p : List Ch} {v : Un} (h : (⟨3, nn, r, s, p⟩ : Opd) = op1 v) : v = .del := by
  cases v with
  | ins r0 s0 => have := congrArg Opd.k h; simp [op1, opI] at this
  | del => rfl
  | ret q => have := congrArg Opd.k h; simp [op1, opR] at this
theorem op1_not {k nn : Int} {r : List Int} {s : List At} {p : List Ch} {v : Un} (h : (⟨k, nn, r, s, p⟩ : Opd) = op1 v) (hk : k ≠ 2) : k = 3 ∧ v = .del ∨ k = 1 ∧ v = .ret p := by
  cases v with
  | ins r0 s0 => exact absurd (congrArg Opd.k h) hk
  | del => exact .inl ⟨congrArg Opd.k h, rfl⟩
  | ret q => exact .inr ⟨congrArg Opd.k h, by rw [show p = q from congrArg Opd.p h]⟩
theorem op1_two {k nn : Int} {r : List Int} {s : List At} {p : List Ch} {v : Un} (h : (⟨k, nn, r, s, p⟩ : Opd) = op1 v) (hk : k ≠ 3) : k = 2 ∧ (∃ e, r = [e] ∧ v = .ins e s) ∨ k = 1 ∧ v = .ret p := by
  cases v with
  | ins r0 s0 => exact .inl ⟨congrArg Opd.k h, r0, congrArg Opd.r h, by rw [show s = s0 from congrArg Opd.s h]⟩
  | del => exact absurd (congrArg Opd.k h) hk
  | ret q => exact .inr ⟨congrArg Opd.k h, by rw [show p = q from congrArg Opd.p h]⟩
theorem rune_at {w : World} {A : Option Addr} {e : Int} (h : RdI32 w w.heap.size A [e]) : ∃ ad, A = some ad ∧ ad.block < w.heap.size ∧ w.cell? ad = some (.int .i32 e) := by
  obtain ⟨ad, rfl, hb, hc⟩ := h (by simp)
  have h0 := hc 0 (by simp) 0 _ rfl
  rw [Nat.zero_mul, add_zero', add_zero'] at h0
  exact ⟨ad, rfl, hb, h0⟩
theorem mret_rise {l : List Ky} {p : List Ch} (h : mU l (.ret p)) : riseC p = true ∧ p.length ≤ 64 := by
  have h1 : mayP l p = 0 := h
  have h2 := mayP_zero h1
  exact ⟨h2.2.1, h2.1⟩
theorem mins_rise {l : List Ky} {r : Int} {s : List At} (h : mU l (.ins r s)) : riseA s = true ∧ s.length ≤ 64 := by
  have h1 : mayS l s = 0 := h.2
  have h2 := mayS_zero h1
  exact ⟨h2.2.1, h2.1⟩
set_option maxRecDepth 100000 in
set_option maxHeartbeats 12800000 in
theorem compose20_any {A0 A1 A2 : Option Addr} {n0 n1 n2 c0 c1 c2 : Nat} {l : List Ky} {x y : List OpS} {w : World} (e0 : n0 = l.length) (r0 : RdKy w w.heap.size A0 l) (b0 : n0 ≤ 1048576) (o1 : OpsC w A1 n1 c1 x) (o2 : OpsC w A2 n2 c2 y) (i1 : ∀ o ∈ x, isOp o.o) (i2 : ∀ o ∈ y, isOp o.o) (hl : l.length ≤ 64)
    (m1 : ∀ u ∈ units (osOf x), mU l u) (m2 : ∀ u ∈ units (osOf y), mU l u) (u1 : (units (osOf x)).length ≤ 10000) (u2 : (units (osOf y)).length ≤ 10000) :
    Calls Tryz.prog 45 #[.slice A0 n0 c0, .slice A1 n1 c1, .slice A2 n2 c2] w (NewOps (mkU (compU l (units (osOf x)) (units (osOf y)))) w) := by
  have N0 := Lib.hid e0
  have R0 := Lib.hid r0
  have O1 := Lib.hid o1
  have O2 := Lib.hid o2
  have I1 := Lib.hid i1
  have I2 := Lib.hid i2
  clear e0 r0 o1 o2 i1 i2
  obtain ⟨us, hus⟩ : ∃ X, units (osOf x) = X := ⟨_, rfl⟩
  obtain ⟨vs, hvs⟩ : ∃ X, units (osOf y) = X := ⟨_, rfl⟩
  rw [hus] at m1 u1 ⊢
  rw [hvs] at m2 u2 ⊢
  have HUS := Lib.hid hus
  have HVS := Lib.hid hvs
  clear hus hvs
  go_enter Tryz.func45, Tryz.ntmps45
  go_wp2_with (go_at_call 112; refine Hid.out ?_)
  refine Lib.hid ?_
  refine (ones20_any A1 n1 c1 x _ O1.out.at_.len O1.out.at_.rd I1.out (fun o ho => (O1.out.caps o ho).1.1) O1.out.at_.b (by rw [HUS.out]; omega)).mono ?_
  rintro e w1 ⟨A5, k5, Da, rfl, ha, ra, y1⟩
  have HA := Lib.hid ha
  have RA := Lib.hid ra
  have Y1 := Lib.hid y1
  clear ha ra y1
  go_wp2_with (go_at_call 112; refine Hid.out ?_)
  refine Lib.hid ?_
  refine (ones20_any A2 n2 c2 y w1 (O2.out.ext Y1.out).at_.len (O2.out.ext Y1.out).at_.rd I2.out (fun o ho => (O2.out.caps o ho).1.1) O2.out.at_.b (by rw [HVS.out]; omega)).mono ?_
  rintro e w2 ⟨A6, k6, Db, rfl, hb, rb, y2⟩
  have RDA := Lib.hid ((RA.out.ext y2).rdop)
  have RDB := Lib.hid rb.rdop
  have HB := Lib.hid hb
  have CPA : Hid (Da.length ≤ k5) := Lib.hid (by obtain ⟨A', c', hv, h1, _⟩ := RA.out.own.form; injection hv with _ _ hc; omega)
  have YB := Lib.hid (ext_trans Y1.out y2)
  have K0 := Lib.hid (R0.out.ext YB.out)
  clear hb rb y2
  rw [HUS.out] at HA
  rw [HVS.out] at HB
  obtain ⟨na, hna⟩ : ∃ X, Da.length = X := ⟨_, rfl⟩
  obtain ⟨nb, hnb⟩ : ∃ X, Db.length = X := ⟨_, rfl⟩
  rw [hna] at CPA ⊢
  rw [hnb]
  have NA : Hid (na = Da.length ∧ na = us.length) := Lib.hid ⟨hna.symm, by have h := congrArg List.length HA.out; unfold osOf at h; rw [List.length_map, List.length_map] at h; omega⟩
  have NB : Hid (nb = Db.length ∧ nb = vs.length) := Lib.hid ⟨hnb.symm, by have h := congrArg List.length HB.out; unfold osOf at h; rw [List.length_map, List.length_map] at h; omega⟩
  have UB : Hid (na ≤ 10000 ∧ nb ≤ 10000) := Lib.hid (by have := NA.out; have := NB.out; omega)
  have MU := Lib.hid m1
  have MV := Lib.hid m2
  have MC : Hid (∀ u ∈ compU l us vs, mU l u) := Lib.hid (comp_mU hl m1 m2)
  have EA : Hid (∀ (i : Nat) (z : OpS), Da[i]? = some z → ∃ u, us[i]? = some u ∧ z.o = op1 u) := Lib.hid (fun i z hz => ones_el HA.out hz)
  have EB : Hid (∀ (i : Nat) (z : OpS), Db[i]? = some z → ∃ u, vs[i]? = some u ∧ z.o = op1 u) := Lib.hid (fun i z hz => ones_el HB.out hz)
  obtain ⟨wb0, hwb⟩ : ∃ X, X = w2 := ⟨_, rfl⟩
  subst hwb
  have ROW0 : Hid (RowF wb0 (fun _ => False) wb0.heap.size (.slice none 0 0) []) := Lib.hid (RowF.nil _ _ _)
  clear m1 m2 u1 u2 HUS HVS hna hnb RA Y1 O1 O2 I1 I2 R0 HB
  go_wp2_with (fail)
  go_loopg [9, 10, 11] nb (fun g ov iv kv wr => ∃ (m a : Nat) (D : List OpS), m ≤ nb ∧ a ≤ na ∧ g = nb - m ∧ iv = .int .i64 (a : Int) ∧ kv = .int .i64 (m : Int) ∧ RowF wr (fun _ => False) wb0.heap.size ov D ∧ Hid (ComSt l us vs a m (osOf D)) ∧ Below wb0.heap.size wb0 wr)
  case atStart => exact ⟨0, 0, [], Nat.zero_le _, Nat.zero_le _, rfl, rfl, rfl, ROW0.out, Lib.hid (ComSt.nil _ _ _), Below.refl _ _⟩
  case round =>
    clear ROW0
    obtain ⟨m, a, D, hm, ha, hg, rfl, rfl, hrow, HS, y⟩ := hrel
    have HG := Lib.hid hg
    have HRW := Lib.hid hrow
    have YR := Lib.hid y
    clear hg hrow
    have DL : Hid (D.length ≤ 20000) := Lib.hid (by have h := HS.out.len; unfold osOf at h; rw [List.length_map] at h; have := NA.out; have := NB.out; have := UB.out; omega)
    by_cases hlt : m < nb
    · have hlt' : (m : Int) < (nb : Int) := by omega
      have hw2 : IntKind.i64.wrap ((m : Int) + 1) = (m : Int) + 1 := IntWalk.i64_in _ (by have := UB.out; omega)
      obtain ⟨ad, z, rfl, _, _, hz, hcz⟩ := (RDB.out.ext y).1.el (i := m) (by have := NB.out; clear hw2; omega)
      have HAD : Hid (ad.block < wb0.heap.size) := Lib.hid (by
        obtain ⟨ad', e', hb', _⟩ := RDB.out.1 (by have := NB.out; clear hw2; omega)
        injection e' with e'; subst e'; exact hb')
      have PZ := Lib.hid (part_of RDB.out (List.mem_of_getElem? hz))
      obtain ⟨v, hv, hzo⟩ := EB.out m z hz
      have HV := Lib.hid hv
      obtain ⟨⟨k, nn, r, s, p⟩, Ar, cr, As, cs, Ap, cp⟩ := z
      simp only at hzo
      have HZO := Lib.hid hzo
      have HCZ := Lib.hid hcz
      have opb : ∀ {W : World}, Below wb0.heap.size wb0 W → CellsAt W (ad.add (m * 5)) [.int .u8 k, .int .i64 nn, .slice Ar r.length cr, .slice As s.length cs, .slice Ap p.length cp] := fun {W} yw =>
        HCZ.out.keep (w' := W) fun q hq => (yw.cell (by rw [hq, add_block]; exact HAD.out)).trans (y.cell (by rw [hq, add_block]; exact HAD.out)).symm
      clear hz hcz hv hzo
      by_cases hk : k = 2
      · subst hk
        have HI : Hid (∃ r0 s0, v = .ins r0 s0) := Lib.hid (op1_ins HZO.out)
        have HS2 : Hid (ComSt l us vs a (m + 1) (osOf (D ++ [(⟨⟨2, nn, r, s, p⟩, Ar, cr, As, cs, Ap, cp⟩ : OpS)]))) := Lib.hid (by
          obtain ⟨r0, s0, rfl⟩ := HI.out
          rw [osOf_snoc]
          show ComSt l us vs a (m + 1) (osOf D ++ [⟨2, nn, r, s, p⟩])
          rw [HZO.out]
          exact HS.out.ins HV.out)
        obtain ⟨z0, z1, z2, z3, z4⟩ := op_cells (opb y)
        go_wp2_with ((at_builtin; refine app_os (l := D) (m := [(⟨⟨2, nn, r, s, p⟩, Ar, cr, As, cs, Ap, cp⟩ : OpS)]) rfl (.tmp 30) (.tmp 35) rfl rfl (HRW.out.own.below (ext_alloc _ _) (Nat.le_refl _)) _ _ 1 1 rfl rfl (rd_one_at (enc := OpS.enc) (size := 5) _ _ (⟨⟨2, nn, r, s, p⟩, Ar, cr, As, cs, Ap, cp⟩ : OpS) rfl (by simp)) (by have := DL.out; simp only [List.length_singleton]; clear hw2; omega) (Nat.le_trans YR.out.size (Below.size (ext_alloc _ _))) ?_; intro v9 w9 ho9 hgr9 hw9))
        have RR := push_old HRW.out YR.out (ext_alloc _ _) PZ.out ho9 hgr9 hw9
        have R9 := Lib.hid RR.1
        have Y9 := Lib.hid RR.2.1
        clear ho9 hgr9 hw9 RR
        go_wp2_with (fail)
        go_roundg (nb - (m + 1))
        case measure => have := HG.out; clear hw2; omega
        case rel => exact ⟨m + 1, a, _, by clear hw2; omega, ha, rfl, rfl, by go_num, R9.out, HS2, Y9.out⟩
      · have hk1 : (k == 2) = false := beq_eq_false_iff_ne.2 hk
        have HN : Hid (∀ r0 s0, v ≠ .ins r0 s0) := Lib.hid (fun r0 s0 e => hk (by have h := HZO.out; rw [e] at h; exact congrArg Opd.k h))
        have HK : Hid (k = 3 ∧ v = .del ∨ k = 1 ∧ v = .ret p) := Lib.hid (op1_not HZO.out hk)
        clear hk
        obtain ⟨z0, z1, z2, z3, z4⟩ := op_cells (opb y)
        go_wp2_with (fail)
        clear z0 z1 z2 z3 z4
        go_loopg [9, 10] (na - a) (fun g ov iv wr => ∃ (b : Nat) (D : List OpS), b ≤ na ∧ g = na - b ∧ iv = .int .i64 (b : Int) ∧ RowF wr (fun _ => False) wb0.heap.size ov D ∧ Hid (ComSt l us vs b m (osOf D)) ∧ Below wb0.heap.size wb0 wr)
        case atStart => exact ⟨a, D, ha, rfl, rfl, HRW.out, HS, YR.out⟩
        case round =>
          clear HS HRW YR DL
          obtain ⟨b, D, hb, hg, rfl, hrow, HS, yi⟩ := hrel
          have HG2 := Lib.hid hg
          have HRW := Lib.hid hrow
          have YR := Lib.hid yi
          clear hg hrow
          have DL : Hid (D.length ≤ 20000) := Lib.hid (by have h := HS.out.len; unfold osOf at h; rw [List.length_map] at h; have := NA.out; have := NB.out; have := UB.out; clear hw2; omega)
          by_cases hlb : b < na
          · have hlb' : (b : Int) < (na : Int) := by clear hw2; omega
            have hw3 : IntKind.i64.wrap ((b : Int) + 1) = (b : Int) + 1 := IntWalk.i64_in _ (by have := UB.out; clear hw2; omega)
            obtain ⟨ad1, z1, rfl, _, _, hz1, hcz1⟩ := (RDA.out.ext yi).1.el (i := b) (by have := NA.out; clear hw2 hw3; omega)
            have HAD1 : Hid (ad1.block < wb0.heap.size) := Lib.hid (by
              obtain ⟨ad', e', hb', _⟩ := RDA.out.1 (by have := NA.out; clear hw2 hw3; omega)
              injection e' with e'; subst e'; exact hb')
            have PZ1 := Lib.hid (part_of RDA.out (List.mem_of_getElem? hz1))
            obtain ⟨u, hu, hzo1⟩ := EA.out b z1 hz1
            have HU := Lib.hid hu
            obtain ⟨⟨k1, n1, r1, s1, p1⟩, Ar1, cr1, As1, cs1, Ap1, cp1⟩ := z1
            simp only at hzo1
            have HZO1 := Lib.hid hzo1
            have HCZ1 := Lib.hid hcz1
            have opa : ∀ {W : World}, Below wb0.heap.size wb0 W → CellsAt W (ad1.add (b * 5)) [.int .u8 k1, .int .i64 n1, .slice Ar1 r1.length cr1, .slice As1 s1.length cs1, .slice Ap1 p1.length cp1] := fun {W} yw =>
              HCZ1.out.keep (w' := W) fun q hq => (yw.cell (by rw [hq, add_block]; exact HAD1.out)).trans (yi.cell (by rw [hq, add_block]; exact HAD1.out)).symm
            clear hz1 hcz1 hu hzo1
            by_cases hk3 : k1 = 3
            · subst hk3
              have HD1 : Hid (u = .del) := Lib.hid (op1_del HZO1.out)
              have HS2 : Hid (ComSt l us vs (b + 1) m (osOf (D ++ [(⟨⟨3, n1, r1, s1, p1⟩, Ar1, cr1, As1, cs1, Ap1, cp1⟩ : OpS)]))) := Lib.hid (by
                rw [osOf_snoc]
                show ComSt l us vs (b + 1) m (osOf D ++ [⟨3, n1, r1, s1, p1⟩])
                rw [HZO1.out, HD1.out]
                exact HS.out.skip (by rw [← HD1.out]; exact HU.out) HV.out HN.out)
              obtain ⟨t0, t1, t2, t3, t4⟩ := op_cells (opa yi)
              go_wp2_with ((at_builtin; refine app_os (l := D) (m := [(⟨⟨3, n1, r1, s1, p1⟩, Ar1, cr1, As1, cs1, Ap1, cp1⟩ : OpS)]) rfl (.tmp 49) (.tmp 54) rfl rfl (HRW.out.own.below (ext_alloc _ _) (Nat.le_refl _)) _ _ 1 1 rfl rfl (rd_one_at (enc := OpS.enc) (size := 5) _ _ (⟨⟨3, n1, r1, s1, p1⟩, Ar1, cr1, As1, cs1, Ap1, cp1⟩ : OpS) rfl (by simp)) (by have := DL.out; simp only [List.length_singleton]; clear hw2 hw3; omega) (Nat.le_trans YR.out.size (Below.size (ext_alloc _ _))) ?_; intro v9 w9 ho9 hgr9 hw9))
              have RR := push_old HRW.out YR.out (ext_alloc _ _) PZ1.out ho9 hgr9 hw9
              have R9 := Lib.hid RR.1
              have Y9 := Lib.hid RR.2.1
              clear ho9 hgr9 hw9 RR
              go_wp2_with (fail)
              go_roundg (na - (b + 1))
              case measure => have := HG2.out; clear hw2 hw3; omega
              case rel => exact ⟨b + 1, _, by clear hw2 hw3; omega, rfl, by go_num, R9.out, HS2, Y9.out⟩
            · have hk4 : (k1 == 3) = false := beq_eq_false_iff_ne.2 hk3
              have HK1 : Hid (k1 = 2 ∧ (∃ e, r1 = [e] ∧ u = .ins e s1) ∨ k1 = 1 ∧ u = .ret p1) := Lib.hid (op1_two HZO1.out hk3)
              clear hk3
              rcases HK1.out with ⟨rfl, e0, hre, hue⟩ | ⟨rfl, hue⟩
              · have HEU := Lib.hid hue
                have HRE := Lib.hid hre
                clear hre hue HK1 hk4
                rcases HK.out with ⟨rfl, hve⟩ | ⟨rfl, hve⟩
                · have HVE := Lib.hid hve
                  clear hve HK hk1
                  have HS2 : Hid (ComSt l us vs (b + 1) (m + 1) (osOf D)) := Lib.hid (HS.out.gone (by rw [← HEU.out]; exact HU.out) (by rw [← HVE.out]; exact HV.out))
                  have R9 := Lib.hid (HRW.out.ext (ext_alloc wr (.cells #[.int .u8 2, .int .i64 n1, .slice Ar1 r1.length cr1, .slice As1 s1.length cs1, .slice Ap1 p1.length cp1] 50)))
                  have Y9 := Lib.hid (ext_trans yi (ext_alloc wr (.cells #[.int .u8 2, .int .i64 n1, .slice Ar1 r1.length cr1, .slice As1 s1.length cs1, .slice Ap1 p1.length cp1] 50)))
                  obtain ⟨t0, t1, t2, t3, t4⟩ := op_cells (opa yi)
                  obtain ⟨x0, x1, x2, x3, x4⟩ := op_cells (opa (ext_trans yi (ext_alloc wr (.cells #[.int .u8 1, .int .i64 1, .slice none 0 0, .slice none 0 0, .slice none 0 0] 50))))
                  have fz := box_thaw (heap_alloc_new wr (.cells #[.int .u8 1, .int .i64 1, .slice none 0 0, .slice none 0 0, .slice none 0 0] 50)) 0
                  obtain ⟨z0, z1, z2, z3, z4⟩ := op_cells (opb (ext_trans yi (ext_alloc wr (.cells #[.int .u8 2, .int .i64 n1, .slice Ar1 r1.length cr1, .slice As1 s1.length cs1, .slice Ap1 p1.length cp1] 50))))
                  obtain ⟨q0, q1, q2, q3, q4⟩ := box_op (heap_alloc_new wr (.cells #[.int .u8 2, .int .i64 n1, .slice Ar1 r1.length cr1, .slice As1 s1.length cs1, .slice Ap1 p1.length cp1] 50))
                  go_wp2_with (fail)
                  go_roundg (nb - (m + 1))
                  case measure => have := HG.out; clear hw2 hw3; omega
                  case rel => exact ⟨m + 1, b + 1, _, by clear hw2 hw3; omega, by clear hw2 hw3; omega, rfl, rfl, by go_num, R9.out, HS2, Y9.out⟩
                · have HVE := Lib.hid hve
                  clear hve HK hk1
                  have RPV : Hid (riseC p = true ∧ p.length ≤ 64) := Lib.hid (mret_rise (MV.out _ (List.mem_of_getElem? (HVE.out ▸ HV.out))))
                  have RPU : Hid (riseA s1 = true ∧ s1.length ≤ 64) := Lib.hid (mins_rise (MU.out _ (List.mem_of_getElem? (HEU.out ▸ HU.out))))
                  obtain ⟨X, hX⟩ : ∃ X, (actC l ⟨e0, s1⟩ p).s = X := ⟨_, rfl⟩
                  have HX := Lib.hid hX
                  have HS2 : Hid (ComSt l us vs (b + 1) (m + 1) (osOf D ++ [opI [e0] X])) := Lib.hid (by rw [← hX]; exact HS.out.turn (by rw [← HEU.out]; exact HU.out) (by rw [← HVE.out]; exact HV.out))
                  have hre := HRE.out
                  subst hre
                  obtain ⟨ad3, rfl, hb3, hc3⟩ := rune_at PZ1.out.1.1
                  have HB3 := Lib.hid hb3
                  have HC3 := Lib.hid hc3
                  clear hX hb3 hc3 HRE
                  obtain ⟨t0, t1, t2, t3, t4⟩ := op_cells (opa yi)
                  obtain ⟨x0, x1, x2, x3, x4⟩ := op_cells (opa (ext_trans yi (ext_alloc wr (.cells #[.int .u8 1, .int .i64 1, .slice none 0 0, .slice none 0 0, .slice none 0 0] 50))))
                  have fz := box_thaw (heap_alloc_new wr (.cells #[.int .u8 1, .int .i64 1, .slice none 0 0, .slice none 0 0, .slice none 0 0] 50)) 0
                  obtain ⟨z0, z1, z2, z3, z4⟩ := op_cells (opb (ext_trans yi (ext_alloc wr (.cells #[.int .u8 2, .int .i64 n1, .slice (some ad3) 1 cr1, .slice As1 s1.length cs1, .slice Ap1 p1.length cp1] 50))))
                  obtain ⟨q0, q1, q2, q3, q4⟩ := box_op (heap_alloc_new wr (.cells #[.int .u8 2, .int .i64 n1, .slice (some ad3) 1 cr1, .slice As1 s1.length cs1, .slice Ap1 p1.length cp1] 50))
                  go_wp2_with (fail)
                  obtain ⟨bx, hbx⟩ : ∃ X, wr.heap.size = X := ⟨_, rfl⟩
                  have HBU := Lib.hid (heap_alloc_new wr (.cells #[.int .u8 2, .int .i64 n1, .slice (some ad3) 1 cr1, .slice As1 s1.length cs1, .slice Ap1 p1.length cp1] 50))
                  have RU := Lib.hid (HRW.out.ext (ext_alloc wr (.cells #[.int .u8 2, .int .i64 n1, .slice (some ad3) 1 cr1, .slice As1 s1.length cs1, .slice Ap1 p1.length cp1] 50)))
                  have YU := Lib.hid (ext_trans yi (ext_alloc wr (.cells #[.int .u8 2, .int .i64 n1, .slice (some ad3) 1 cr1, .slice As1 s1.length cs1, .slice Ap1 p1.length cp1] 50)))
                  rw [hbx] at HBU ⊢
                  clear z0 z1 z2 z3 z4 q0 q1 q2 q3 q4 t0 t1 t2 t3 t4 x0 x1 x2 x3 x4 fz
                  generalize wr.alloc (.cells #[.int .u8 2, .int .i64 n1, .slice (some ad3) 1 cr1, .slice As1 s1.length cs1, .slice Ap1 p1.length cp1] 50) = wu at *
                  have opc : ∀ {w' : World}, Below wu.heap.size wu w' → w'.cell? { block := (ad.add (m * 5)).block, off := (ad.add (m * 5)).off + 4 } = some (.slice Ap p.length cp) ∧ (w'.cell? ⟨bx, 2, none⟩ = some (.slice (some ad3) 1 cr1) ∧ w'.cell? ⟨bx, 3, none⟩ = some (.slice As1 s1.length cs1)) ∧ w'.cell? ad3 = some (.int .i32 e0) := fun {w'} yw =>
                    ⟨(op_cells (opb (ext_trans YU.out yw))).2.2.2.2, ⟨(box_op ((yw.block bx (lt_of_some HBU.out)).trans HBU.out)).2.2.1, (box_op ((yw.block bx (lt_of_some HBU.out)).trans HBU.out)).2.2.2.1⟩, ((ext_trans YU.out yw).cell HB3.out).trans HC3.out⟩
                  have YW : Hid (Below wu.heap.size wu wu.drew) := Lib.hid (up_drew (Below.refl _ _))
                  have YZ : Hid (Below wu.heap.size wu wu) := Lib.hid (Below.refl _ _)
                  have Cw := opc YZ.out
                  go_region_held_law (fun w' => w'.cell? { block := (ad.add (m * 5)).block, off := (ad.add (m * 5)).off + 4 } = some (.slice Ap p.length cp) ∧ (w'.cell? ⟨bx, 2, none⟩ = some (.slice (some ad3) 1 cr1) ∧ w'.cell? ⟨bx, 3, none⟩ = some (.slice As1 s1.length cs1)) ∧ w'.cell? ad3 = some (.int .i32 e0)) (first | exact C8 | exact opc (by repeat (first | exact YW.out | exact YZ.out | refine ext_trans ?_ (ext_alloc _ _) | refine up_drew ?_ | refine setCell_up2 ?_ (Nat.le_refl _) _ _))) (first
                    | (refine step_fn rfl 38 [.tmp 119, .tmp 126, .tmp 131] #[22, 38, 48] rfl Tryz.f38 (by kernel_rfl) (by kernel_rfl) (by kernel_rfl) [.slice A0 n0 c0, .agg #[.int .i32 e0, .slice As1 s1.length cs1], .slice Ap p.length cp] (by rfl) (cell19_any A0 n0 c0 l e0 As1 Ap s1.length cs1 p.length cp s1 p _ N0.out (K0.out.ext (ext_trans YU.out (by repeat (first | exact YW.out | exact YZ.out | refine ext_trans ?_ (ext_alloc _ _) | refine up_drew ?_)))) b0 rfl rfl (PZ1.out.2.1.1.ext (ext_trans YU.out (by repeat (first | exact YW.out | exact YZ.out | refine ext_trans ?_ (ext_alloc _ _) | refine up_drew ?_)))) (PZ.out.2.2.1.ext (ext_trans YU.out (by repeat (first | exact YW.out | exact YZ.out | refine ext_trans ?_ (ext_alloc _ _) | refine up_drew ?_)))) (by have := RPU.out.2; clear hw2 hw3; omega) (by have := RPV.out.2; clear hw2 hw3; omega) RPU.out.1 RPV.out.1) ?_
                       rw [HX.out]
                       rintro e7 w7 ⟨A7, c7, rfl, o7, y7⟩
                       refine ⟨_, rfl, ?_⟩
                       have O7 := Lib.hid (o7.base_le (B := wu.heap.size) (by simp))
                       have YW : Hid (Below wu.heap.size wu w7) := Lib.hid (ext_trans (by repeat (first | exact YW.out | exact YZ.out | refine ext_trans ?_ (ext_alloc _ _) | refine up_drew ?_)) y7)
                       have C8 := opc YW.out
                       first
                         | (have hb7 : w7.heap[wu.heap.size]? = some (.cells #[.int .i32 0, .slice none 0 0] 38 (0, 0)) := (y7.block wu.heap.size (by simp)).trans (heap_alloc_new wu.drew _)
                            have HB7 := Lib.hid hb7
                            have fz7 := box_thaw hb7 0
                            have fz8 := box_thaw hb7 1
                            obtain ⟨b70, b71⟩ := box_cl hb7
                            have HNE : Hid (∀ k, wb (.slice A7 X.length c7) = some k → k ≠ wu.heap.size) := Lib.hid (fun k hk => by have h1 := (o7.wb_lt k hk).1; have h2 : wu.heap.size + 1 ≤ k := (by simpa using h1); omega)
                            clear hb7)
                         | (have fz7 := box_thaw (heap_alloc_new w7 (.cells #[.int .i32 0, .slice none 0 0] 38)) 0)
                       clear o7 y7))
                  all_goals
                    first
                      | (obtain ⟨w8, hw8⟩ : ∃ Y, w7.alloc (.cells #[.int .i32 e0, .slice A7 X.length c7] 38) = Y := ⟨_, rfl⟩
                         rw [hw8]
                         have HB8 := Lib.hid (heap_alloc_new w7 (.cells #[.int .i32 e0, .slice A7 X.length c7] 38))
                         have Y8 : Hid (Below wu.heap.size wu w8) := Lib.hid (hw8 ▸ ext_trans YW.out (ext_alloc w7 _))
                         have O8 : Hid (OwAt w8 wu.heap.size (.slice A7 X.length c7) X) := Lib.hid (hw8 ▸ O7.out.alloc _)
                         rw [hw8] at HB8
                         obtain ⟨b8, hb8⟩ : ∃ Y, w7.heap.size = Y := ⟨_, rfl⟩
                         rw [hb8] at HB8 ⊢
                         clear hw8 hb8)
                      | (obtain ⟨w8, hw8⟩ : ∃ Y, ((w7.setCell ⟨wu.heap.size, 0, none⟩ (.int .i32 e0)).setCell ⟨wu.heap.size, 1, none⟩ (.slice A7 X.length c7)) = Y := ⟨_, rfl⟩
                         rw [hw8]
                         have hb8 : ((w7.setCell ⟨wu.heap.size, 0, none⟩ (.int .i32 e0)).setCell ⟨wu.heap.size, 1, none⟩ (.slice A7 X.length c7)).heap[wu.heap.size]? = some (.cells #[.int .i32 e0, .slice A7 X.length c7] 38 (0, 0)) := by
                           have h1 := heap_setCell_self (j := 0) HB7.out (.int .i32 e0)
                           have h2 := heap_setCell_self (j := 1) h1 (.slice A7 X.length c7)
                           simpa using h2
                         have HB8 := Lib.hid hb8
                         have Y8 : Hid (Below wu.heap.size wu w8) := Lib.hid (hw8 ▸ setCell_up2 (setCell_up2 YW.out (Nat.le_refl _) 0 _) (Nat.le_refl _) 1 _)
                         have O8 : Hid (OwAt w8 wu.heap.size (.slice A7 X.length c7) X) := Lib.hid (hw8 ▸ (O7.out.setCell (p := ⟨wu.heap.size, 0, none⟩) (fun e => HNE.out _ e rfl) _).setCell (p := ⟨wu.heap.size, 1, none⟩) (fun e => HNE.out _ e rfl) _)
                         rw [hw8] at HB8
                         obtain ⟨b8, hb9⟩ : ∃ Y, wu.heap.size = Y := ⟨_, rfl⟩
                         rw [hb9] at HB8 ⊢
                         clear hw8 hb8 hb9 fz7 fz8 b70 b71)
                    obtain ⟨c80, c81⟩ := box_cl HB8.out
                    obtain ⟨d80, d81⟩ := box_cl (((ext_alloc w8 (.cells #[.int .i32 e0] 21)).block b8 (lt_of_some HB8.out)).trans HB8.out)
                    go_wp2_with ((at_builtin; refine app_os (l := D) (m := [(⟨opI [e0] X, some ⟨w8.heap.size, 0, none⟩, 1, A7, c7, none, 0⟩ : OpS)]) rfl (.tmp 133) (.tmp 140) rfl rfl (RU.out.own.below (ext_trans (ext_trans Y8.out (ext_alloc _ _)) (ext_alloc _ _)) (Nat.le_refl _)) _ _ 1 1 rfl rfl (rd_one_at (enc := OpS.enc) (size := 5) _ _ (⟨opI [e0] X, some ⟨w8.heap.size, 0, none⟩, 1, A7, c7, none, 0⟩ : OpS) rfl (by simp)) (by have := DL.out; simp only [List.length_singleton]; clear hw2 hw3; omega) (Nat.le_trans YU.out.size (Below.size (ext_trans (ext_trans Y8.out (ext_alloc _ _)) (ext_alloc _ _)))) ?_; intro v9 w9 ho9 hgr9 hw9))
                    have RR := push_new RU.out YU.out O8.out Y8.out ho9 hgr9 hw9
                    have R9 := Lib.hid RR.1
                    have Y9 := Lib.hid RR.2
                    clear ho9 hgr9 hw9 RR c80 c81 d80 d81
                    go_wp2_with (fail)
                    go_roundg (nb - (m + 1))
                  all_goals first
                    | (have := HG.out; clear hw2 hw3; omega)
                    | exact ⟨m + 1, b + 1, D ++ [⟨opI [e0] X, some ⟨w8.heap.size, 0, none⟩, 1, A7, c7, none, 0⟩], by clear hw2 hw3; omega, by clear hw2 hw3; omega, rfl, rfl, by go_num, R9.out, Lib.hid (by rw [osOf_snoc]; exact HS2.out), Y9.out⟩
              · have HE := Lib.hid hue
                clear hue HK1 hk4
                rcases HK.out with ⟨rfl, hve⟩ | ⟨rfl, hve⟩
                · have HVE := Lib.hid hve
                  clear hve HK hk1
                  have UD : Hid (Und us b (b + 1) p1) := Lib.hid (.inr ⟨by rw [← HE.out]; exact HU.out, rfl⟩)
                  have HS2 : Hid (ComSt l us vs (b + 1) (m + 1) (osOf (D ++ [(⟨⟨3, nn, r, s, p⟩, Ar, cr, As, cs, Ap, cp⟩ : OpS)]))) := Lib.hid (by
                    rw [osOf_snoc]
                    show ComSt l us vs (b + 1) (m + 1) (osOf D ++ [⟨3, nn, r, s, p⟩])
                    rw [HZO.out, HVE.out]
                    exact HS.out.del UD.out (by rw [← HVE.out]; exact HV.out))
                  obtain ⟨t0, t1, t2, t3, t4⟩ := op_cells (opa yi)
                  obtain ⟨x0, x1, x2, x3, x4⟩ := op_cells (opa (ext_trans yi (ext_alloc wr (.cells #[.int .u8 1, .int .i64 1, .slice none 0 0, .slice none 0 0, .slice none 0 0] 50))))
                  have fz := box_thaw (heap_alloc_new wr (.cells #[.int .u8 1, .int .i64 1, .slice none 0 0, .slice none 0 0, .slice none 0 0] 50)) 0
                  obtain ⟨z0, z1, z2, z3, z4⟩ := op_cells (opb (ext_trans yi (ext_alloc wr (.cells #[.int .u8 1, .int .i64 n1, .slice Ar1 r1.length cr1, .slice As1 s1.length cs1, .slice Ap1 p1.length cp1] 50))))
                  obtain ⟨q0, q1, q2, q3, q4⟩ := box_op (heap_alloc_new wr (.cells #[.int .u8 1, .int .i64 n1, .slice Ar1 r1.length cr1, .slice As1 s1.length cs1, .slice Ap1 p1.length cp1] 50))
                  go_wp2_with ((at_builtin; refine app_os (l := D) (m := [(⟨⟨3, nn, r, s, p⟩, Ar, cr, As, cs, Ap, cp⟩ : OpS)]) rfl (.tmp 81) (.tmp 86) rfl rfl (HRW.out.own.below (ext_trans (ext_alloc wr _) (ext_alloc _ _)) (Nat.le_refl _)) _ _ 1 1 rfl rfl (rd_one_at (enc := OpS.enc) (size := 5) _ _ (⟨⟨3, nn, r, s, p⟩, Ar, cr, As, cs, Ap, cp⟩ : OpS) rfl (by simp)) (by have := DL.out; simp only [List.length_singleton]; clear hw2 hw3; omega) (Nat.le_trans YR.out.size (Below.size (ext_trans (ext_alloc wr _) (ext_alloc _ _)))) ?_; intro v9 w9 ho9 hgr9 hw9))
                  have RR := push_old HRW.out YR.out (ext_trans (ext_alloc wr _) (ext_alloc _ _)) PZ.out ho9 hgr9 hw9
                  have R9 := Lib.hid RR.1
                  have Y9 := Lib.hid RR.2.1
                  clear ho9 hgr9 hw9 RR
                  go_wp2_with (fail)
                  go_roundg (nb - (m + 1))
                  case measure => have := HG.out; clear hw2 hw3; omega
                  case rel => exact ⟨m + 1, b + 1, _, by clear hw2 hw3; omega, by clear hw2 hw3; omega, rfl, rfl, by go_num, R9.out, HS2, Y9.out⟩
                · have HVE := Lib.hid hve
                  clear hve HK hk1
                  have UD : Hid (Und us b (b + 1) p1) := Lib.hid (.inr ⟨by rw [← HE.out]; exact HU.out, rfl⟩)
                  have RPU := Lib.hid (und_rise UD.out MU.out)
                  have RPV : Hid (riseC p = true ∧ p.length ≤ 64) := Lib.hid (mret_rise (MV.out _ (List.mem_of_getElem? (HVE.out ▸ HV.out))))
                  obtain ⟨P, hP⟩ : ∃ X, composeP p1 p = X := ⟨_, rfl⟩
                  have HP : Hid (compR p1 p = P) := Lib.hid (by rw [compR_is RPU.out.1 RPV.out.1, hP])
                  have HS2 : Hid (ComSt l us vs (b + 1) (m + 1) (osOf D ++ [opR 1 P])) := Lib.hid (by rw [← hP]; exact HS.out.ret UD.out (by rw [← HVE.out]; exact HV.out))
                  clear hP
                  obtain ⟨t0, t1, t2, t3, t4⟩ := op_cells (opa yi)
                  obtain ⟨x0, x1, x2, x3, x4⟩ := op_cells (opa (ext_trans yi (ext_alloc wr (.cells #[.int .u8 1, .int .i64 1, .slice none 0 0, .slice none 0 0, .slice none 0 0] 50))))
                  have fz := box_thaw (heap_alloc_new wr (.cells #[.int .u8 1, .int .i64 1, .slice none 0 0, .slice none 0 0, .slice none 0 0] 50)) 0
                  obtain ⟨z0, z1, z2, z3, z4⟩ := op_cells (opb (ext_trans yi (ext_alloc wr (.cells #[.int .u8 1, .int .i64 n1, .slice Ar1 r1.length cr1, .slice As1 s1.length cs1, .slice Ap1 p1.length cp1] 50))))
                  obtain ⟨q0, q1, q2, q3, q4⟩ := box_op (heap_alloc_new wr (.cells #[.int .u8 1, .int .i64 n1, .slice Ar1 r1.length cr1, .slice As1 s1.length cs1, .slice Ap1 p1.length cp1] 50))
                  go_wp2_with (fail)
                  obtain ⟨bx, hbx⟩ : ∃ X, wr.heap.size = X := ⟨_, rfl⟩
                  have HBU := Lib.hid (heap_alloc_new wr (.cells #[.int .u8 1, .int .i64 n1, .slice Ar1 r1.length cr1, .slice As1 s1.length cs1, .slice Ap1 p1.length cp1] 50))
                  have NBU := Lib.hid (row_off HRW.out)
                  have RU := Lib.hid (HRW.out.ext (ext_alloc wr (.cells #[.int .u8 1, .int .i64 n1, .slice Ar1 r1.length cr1, .slice As1 s1.length cs1, .slice Ap1 p1.length cp1] 50)))
                  have YU := Lib.hid (ext_trans yi (ext_alloc wr (.cells #[.int .u8 1, .int .i64 n1, .slice Ar1 r1.length cr1, .slice As1 s1.length cs1, .slice Ap1 p1.length cp1] 50)))
                  rw [hbx] at HBU NBU ⊢
                  clear z0 z1 z2 z3 z4 q0 q1 q2 q3 q4 t0 t1 t2 t3 t4 x0 x1 x2 x3 x4 fz
                  generalize wr.alloc (.cells #[.int .u8 1, .int .i64 n1, .slice Ar1 r1.length cr1, .slice As1 s1.length cs1, .slice Ap1 p1.length cp1] 50) = wu at *
                  have opc : ∀ {W : World}, Below wu.heap.size wu W → W.cell? { block := (ad.add (m * 5)).block, off := (ad.add (m * 5)).off + 4 } = some (.slice Ap p.length cp) ∧ W.cell? ⟨bx, 4, none⟩ = some (.slice Ap1 p1.length cp1) := fun {W} yw =>
                    ⟨(op_cells (opb (ext_trans YU.out yw))).2.2.2.2, (box_op ((yw.block bx (lt_of_some HBU.out)).trans HBU.out)).2.2.2.2⟩
                  have YW : Hid (Below wu.heap.size wu wu.drew) := Lib.hid (up_drew (Below.refl _ _))
                  have YZ : Hid (Below wu.heap.size wu wu) := Lib.hid (Below.refl _ _)
                  have Cw := opc YZ.out
                  go_region_held_law (fun w' => w'.cell? { block := (ad.add (m * 5)).block, off := (ad.add (m * 5)).off + 4 } = some (.slice Ap p.length cp) ∧ w'.cell? ⟨bx, 4, none⟩ = some (.slice Ap1 p1.length cp1)) (first | exact C9 | exact C8 | exact opc (by repeat (first | exact YW.out | exact YZ.out | refine ext_trans ?_ (ext_alloc _ _) | refine up_drew ?_))) (first
                    | (refine step_fn rfl 113 [.tmp 102, .tmp 107] #[48, 48] rfl Tryz.f113 (by kernel_rfl) (by kernel_rfl) (by kernel_rfl) [.slice Ap1 p1.length cp1, .slice Ap p.length cp] (by rfl) (comp06_any Ap1 Ap p1.length cp1 p.length cp p1 p _ rfl rfl (PZ1.out.2.2.1.ext (ext_trans YU.out (by repeat (first | exact YW.out | exact YZ.out | refine ext_trans ?_ (ext_alloc _ _) | refine up_drew ?_)))) (PZ.out.2.2.1.ext (ext_trans YU.out (by repeat (first | exact YW.out | exact YZ.out | refine ext_trans ?_ (ext_alloc _ _) | refine up_drew ?_)))) (by have := RPU.out.2; (try simp only [List.length_nil] at *); clear hw2 hw3; omega) (by have := RPV.out.2; clear hw2 hw3; omega)) ?_
                       rw [HP.out]
                       rintro e7 w7 ⟨A7, c7, rfl, o7, y7⟩
                       refine ⟨_, rfl, ?_⟩
                       have O7 := Lib.hid o7
                       have YW : Hid (Below wu.heap.size wu w7) := Lib.hid (ext_trans (by repeat (first | exact YW.out | exact YZ.out | refine ext_trans ?_ (ext_alloc _ _) | refine up_drew ?_)) y7)
                       have C8 := opc YW.out
                       clear o7 y7)
                    | (refine step_os (l := D) (m := [(⟨opR 1 P, none, 0, none, 0, A7, c7⟩ : OpS)]) rfl (.tmp 100) (.tmp 110) (by rfl) (by rfl) (RU.out.own.below (ext_trans YW.out (ext_alloc _ _)) (Nat.le_refl _)) _ _ 1 1 (by rfl) rfl (rd_one_at (enc := OpS.enc) (size := 5) _ _ (⟨opR 1 P, none, 0, none, 0, A7, c7⟩ : OpS) rfl (by simp)) (by have := DL.out; simp only [List.length_singleton]; clear hw2 hw3; omega) (Nat.le_trans YU.out.size (ext_trans YW.out (ext_alloc _ _)).size) ?_
                       intro v9 w9 ho9 hgr9 hw9
                       have RR := push_ret RU.out YU.out YW.out (O7.out.base_le (by simp)) ho9 hgr9 hw9
                       have R9 := Lib.hid RR.1
                       have Y9 := Lib.hid RR.2
                       have C9 := And.intro (op_cells (opb Y9.out)).2.2.2.2 (box_op ((keep_app hgr9 (ext_trans YW.out (ext_alloc _ _)) (lt_of_some HBU.out) NBU.out).trans HBU.out)).2.2.2.2
                       clear ho9 hgr9 hw9 RR))
                  all_goals
                    go_wp2_with (fail)
                    go_roundg (nb - (m + 1))
                  all_goals first
                    | (have := HG.out; clear hw2 hw3; omega)
                    | exact ⟨m + 1, b + 1, D ++ [⟨opR 1 P, none, 0, none, 0, A7, c7⟩], by clear hw2 hw3; omega, by clear hw2 hw3; omega, rfl, rfl, by go_num, R9.out, Lib.hid (by rw [osOf_snoc]; exact HS2.out), Y9.out⟩
          · have hlb' : ¬ (b : Int) < (na : Int) := by clear hw2; omega
            have NU : Hid (us.length ≤ b) := Lib.hid (by have := NA.out; clear hw2; omega)
            rcases HK.out with ⟨rfl, hve⟩ | ⟨rfl, hve⟩
            · have HVE := Lib.hid hve
              clear hve HK hk1
              have UD : Hid (Und us b (b) []) := Lib.hid (.inl ⟨NU.out, rfl, rfl⟩)
              have HS2 : Hid (ComSt l us vs (b) (m + 1) (osOf (D ++ [(⟨⟨3, nn, r, s, p⟩, Ar, cr, As, cs, Ap, cp⟩ : OpS)]))) := Lib.hid (by
                rw [osOf_snoc]
                show ComSt l us vs (b) (m + 1) (osOf D ++ [⟨3, nn, r, s, p⟩])
                rw [HZO.out, HVE.out]
                exact HS.out.del UD.out (by rw [← HVE.out]; exact HV.out))
              obtain ⟨z0, z1, z2, z3, z4⟩ := op_cells (opb (ext_trans yi (ext_alloc wr (.cells #[.int .u8 1, .int .i64 1, .slice none 0 0, .slice none 0 0, .slice none 0 0] 50))))
              obtain ⟨q0, q1, q2, q3, q4⟩ := box_op (heap_alloc_new wr (.cells #[.int .u8 1, .int .i64 1, .slice none 0 0, .slice none 0 0, .slice none 0 0] 50))
              go_wp2_with ((at_builtin; refine app_os (l := D) (m := [(⟨⟨3, nn, r, s, p⟩, Ar, cr, As, cs, Ap, cp⟩ : OpS)]) rfl (.tmp 81) (.tmp 86) rfl rfl (HRW.out.own.below (ext_trans (ext_alloc wr _) (ext_alloc _ _)) (Nat.le_refl _)) _ _ 1 1 rfl rfl (rd_one_at (enc := OpS.enc) (size := 5) _ _ (⟨⟨3, nn, r, s, p⟩, Ar, cr, As, cs, Ap, cp⟩ : OpS) rfl (by simp)) (by have := DL.out; simp only [List.length_singleton]; clear hw2; omega) (Nat.le_trans YR.out.size (Below.size (ext_trans (ext_alloc wr _) (ext_alloc _ _)))) ?_; intro v9 w9 ho9 hgr9 hw9))
              have RR := push_old HRW.out YR.out (ext_trans (ext_alloc wr _) (ext_alloc _ _)) PZ.out ho9 hgr9 hw9
              have R9 := Lib.hid RR.1
              have Y9 := Lib.hid RR.2.1
              clear ho9 hgr9 hw9 RR
              go_wp2_with (fail)
              go_roundg (nb - (m + 1))
              case measure => have := HG.out; clear hw2; omega
              case rel => exact ⟨m + 1, b, _, by clear hw2; omega, by clear hw2; omega, rfl, rfl, by go_num, R9.out, HS2, Y9.out⟩
            · have HVE := Lib.hid hve
              clear hve HK hk1
              have UD : Hid (Und us b (b) []) := Lib.hid (.inl ⟨NU.out, rfl, rfl⟩)
              have RPU := Lib.hid (und_rise UD.out MU.out)
              have RPV : Hid (riseC p = true ∧ p.length ≤ 64) := Lib.hid (mret_rise (MV.out _ (List.mem_of_getElem? (HVE.out ▸ HV.out))))
              obtain ⟨P, hP⟩ : ∃ X, composeP [] p = X := ⟨_, rfl⟩
              have HP : Hid (compR [] p = P) := Lib.hid (by rw [compR_is RPU.out.1 RPV.out.1, hP])
              have HS2 : Hid (ComSt l us vs (b) (m + 1) (osOf D ++ [opR 1 P])) := Lib.hid (by rw [← hP]; exact HS.out.ret UD.out (by rw [← HVE.out]; exact HV.out))
              clear hP
              obtain ⟨z0, z1, z2, z3, z4⟩ := op_cells (opb (ext_trans yi (ext_alloc wr (.cells #[.int .u8 1, .int .i64 1, .slice none 0 0, .slice none 0 0, .slice none 0 0] 50))))
              obtain ⟨q0, q1, q2, q3, q4⟩ := box_op (heap_alloc_new wr (.cells #[.int .u8 1, .int .i64 1, .slice none 0 0, .slice none 0 0, .slice none 0 0] 50))
              go_wp2_with (fail)
              obtain ⟨bx, hbx⟩ : ∃ X, wr.heap.size = X := ⟨_, rfl⟩
              have HBU := Lib.hid (heap_alloc_new wr (.cells #[.int .u8 1, .int .i64 1, .slice none 0 0, .slice none 0 0, .slice none 0 0] 50))
              have NBU := Lib.hid (row_off HRW.out)
              have RU := Lib.hid (HRW.out.ext (ext_alloc wr (.cells #[.int .u8 1, .int .i64 1, .slice none 0 0, .slice none 0 0, .slice none 0 0] 50)))
              have YU := Lib.hid (ext_trans yi (ext_alloc wr (.cells #[.int .u8 1, .int .i64 1, .slice none 0 0, .slice none 0 0, .slice none 0 0] 50)))
              rw [hbx] at HBU NBU ⊢
              clear z0 z1 z2 z3 z4 q0 q1 q2 q3 q4
              generalize wr.alloc (.cells #[.int .u8 1, .int .i64 1, .slice none 0 0, .slice none 0 0, .slice none 0 0] 50) = wu at *
              have opc : ∀ {W : World}, Below wu.heap.size wu W → W.cell? { block := (ad.add (m * 5)).block, off := (ad.add (m * 5)).off + 4 } = some (.slice Ap p.length cp) ∧ W.cell? ⟨bx, 4, none⟩ = some (.slice none 0 0) := fun {W} yw =>
                ⟨(op_cells (opb (ext_trans YU.out yw))).2.2.2.2, (box_op ((yw.block bx (lt_of_some HBU.out)).trans HBU.out)).2.2.2.2⟩
              have YW : Hid (Below wu.heap.size wu wu.drew) := Lib.hid (up_drew (Below.refl _ _))
              have YZ : Hid (Below wu.heap.size wu wu) := Lib.hid (Below.refl _ _)
              have Cw := opc YZ.out
              go_region_held_law (fun w' => w'.cell? { block := (ad.add (m * 5)).block, off := (ad.add (m * 5)).off + 4 } = some (.slice Ap p.length cp) ∧ w'.cell? ⟨bx, 4, none⟩ = some (.slice none 0 0)) (first | exact C9 | exact C8 | exact opc (by repeat (first | exact YW.out | exact YZ.out | refine ext_trans ?_ (ext_alloc _ _) | refine up_drew ?_))) (first
                | (refine step_fn rfl 113 [.tmp 102, .tmp 107] #[48, 48] rfl Tryz.f113 (by kernel_rfl) (by kernel_rfl) (by kernel_rfl) [.slice none 0 0, .slice Ap p.length cp] (by rfl) (comp06_any none Ap 0 0 p.length cp [] p _ rfl rfl Rd.nil (PZ.out.2.2.1.ext (ext_trans YU.out (by repeat (first | exact YW.out | exact YZ.out | refine ext_trans ?_ (ext_alloc _ _) | refine up_drew ?_)))) (by have := RPU.out.2; (try simp only [List.length_nil] at *); clear hw2; omega) (by have := RPV.out.2; clear hw2; omega)) ?_
                   rw [HP.out]
                   rintro e7 w7 ⟨A7, c7, rfl, o7, y7⟩
                   refine ⟨_, rfl, ?_⟩
                   have O7 := Lib.hid o7
                   have YW : Hid (Below wu.heap.size wu w7) := Lib.hid (ext_trans (by repeat (first | exact YW.out | exact YZ.out | refine ext_trans ?_ (ext_alloc _ _) | refine up_drew ?_)) y7)
                   have C8 := opc YW.out
                   clear o7 y7)
                | (refine step_os (l := D) (m := [(⟨opR 1 P, none, 0, none, 0, A7, c7⟩ : OpS)]) rfl (.tmp 100) (.tmp 110) (by rfl) (by rfl) (RU.out.own.below (ext_trans YW.out (ext_alloc _ _)) (Nat.le_refl _)) _ _ 1 1 (by rfl) rfl (rd_one_at (enc := OpS.enc) (size := 5) _ _ (⟨opR 1 P, none, 0, none, 0, A7, c7⟩ : OpS) rfl (by simp)) (by have := DL.out; simp only [List.length_singleton]; clear hw2; omega) (Nat.le_trans YU.out.size (ext_trans YW.out (ext_alloc _ _)).size) ?_
                   intro v9 w9 ho9 hgr9 hw9
                   have RR := push_ret RU.out YU.out YW.out (O7.out.base_le (by simp)) ho9 hgr9 hw9
                   have R9 := Lib.hid RR.1
                   have Y9 := Lib.hid RR.2
                   have C9 := And.intro (op_cells (opb Y9.out)).2.2.2.2 (box_op ((keep_app hgr9 (ext_trans YW.out (ext_alloc _ _)) (lt_of_some HBU.out) NBU.out).trans HBU.out)).2.2.2.2
                   clear ho9 hgr9 hw9 RR))
              all_goals
                go_wp2_with (fail)
                go_roundg (nb - (m + 1))
              all_goals first
                | (have := HG.out; clear hw2; omega)
                | exact ⟨m + 1, b, D ++ [⟨opR 1 P, none, 0, none, 0, A7, c7⟩], by clear hw2; omega, by clear hw2; omega, rfl, rfl, by go_num, R9.out, Lib.hid (by rw [osOf_snoc]; exact HS2.out), Y9.out⟩
    · have hlt' : ¬ (m : Int) < (nb : Int) := by omega
      obtain ⟨A8, hA8⟩ : ∃ X, advS A5 k5 a 5 = X := ⟨_, rfl⟩
      obtain ⟨n8, hn8⟩ : ∃ X, na - a = X := ⟨_, rfl⟩
      obtain ⟨c8, hc8⟩ : ∃ X, k5 - a = X := ⟨_, rfl⟩
      have sl1 : ∀ W, (Instr.slice 44 (.slice A5 na k5) (some (.int .i64 (a : Int))) none none).run Tryz.prog W = .ok (.slice A8 n8 c8) W := sl_from Tryz.slOp Tryz.elOpD size_opD rfl hA8 hn8 hc8 ha CPA.out
      have R8 : Hid (RdOs wb0 wb0.heap.size A8 (Da.drop a)) := Lib.hid (hA8 ▸ RDA.out.1.advS (by have := NA.out; omega) (by have := NA.out; have := CPA.out; omega))
      have L8 : Hid (n8 = (Da.drop a).length) := Lib.hid (by rw [List.length_drop]; have := NA.out; omega)
      have B8 : Hid (n8 ≤ 10000) := Lib.hid (by have := UB.out; omega)
      have PA : Hid (∀ z ∈ Da.drop a, PartF wb0 (fun _ => False) z) := Lib.hid (fun z hz => part_of RDA.out (List.mem_of_mem_drop hz))
      have ED : Hid (osOf (D ++ Da.drop a) = (compU l us vs).map op1) := Lib.hid (by
        rw [← HS.out.last (by have := NB.out; omega)]
        unfold osOf
        rw [List.map_append]
        congr 1
        have h := HA.out
        unfold osOf at h
        rw [List.map_drop, h, List.map_drop])
      have SO : Hid (∀ o ∈ D ++ Da.drop a, isOp o.o ∧ o.o.r.length ≤ 1 ∧ o.o.s.length ≤ 1000000 ∧ o.o.p.length ≤ 1000000) := Lib.hid (fun o ho => by
        have h1 : o.o ∈ (compU l us vs).map op1 := by rw [← ED.out]; unfold osOf; exact List.mem_map_of_mem ho
        exact ⟨isOp_map _ _ h1, op1_small MC.out _ h1⟩)
      have CL : Hid ((compU l us vs).length ≤ 20000) := Lib.hid (by have := comp_len l vs us; have := NA.out; have := NB.out; have := UB.out; omega)
      have ZN : Hid (szN (D ++ Da.drop a) ≤ 1000000) := Lib.hid (by
        rw [szN_os]
        have h := sum_le2 (fun o : Opd => 1 + o.r.length) 2 (osOf (D ++ Da.drop a)) (fun o ho => by unfold osOf at ho; obtain ⟨z, hz, rfl⟩ := List.mem_map.1 ho; have := (SO.out z hz).2.1; omega)
        have h2 := congrArg List.length ED.out
        rw [List.length_map] at h2
        have := CL.out
        omega)
      clear hA8 hn8 hc8
      go_wp2_with ((at_builtin; refine app_os (l := D) (m := Da.drop a) rfl (.tmp 142) (.tmp 145) rfl rfl HRW.out.own _ A8 c8 n8 rfl L8.out (R8.out.ext y) (by have := DL.out; have := B8.out; have := L8.out; omega) YR.out.size ?_; intro v9 w9 ho9 hgr9 hw9))
      have RR := HRW.out.app (M := Da.drop a) (fun z hz => (PA.out z hz).fresh y HRW.out.low) ho9 hgr9 hw9
      have Y9 := Lib.hid (y.grown hgr9 y.size (fun k hk => (HRW.out.own.wb_lt k hk).1))
      obtain ⟨A9, k9, hv9, hk9, _⟩ := ho9.form
      subst hv9
      have RD := Lib.hid RR.rdop
      have HK9 := Lib.hid hk9
      have YF := Lib.hid (ext_trans YB.out Y9.out)
      clear ho9 hgr9 hw9 RR hk9
      go_wp2_with (go_at_call 79; refine Hid.out ?_)
      refine Lib.hid ?_
      refine (of16_any A9 (D ++ Da.drop a).length k9 (D ++ Da.drop a) w9 rfl HK9.out RD.out (fun o ho => (SO.out o ho).1) ZN.out (fun o ho => (SO.out o ho).2.2)).mono ?_
      rw [ED.out, of_is (isOp_map _) (by rw [units_op1]; have := CL.out; omega), units_op1]
      intro e5 w5 hN
      have hN2 := hN.late YF.out
      obtain ⟨A4, c4, l4, rfl, hM⟩ := hN2
      have HM := Lib.hid hM
      clear hM hN
      go_wp2_with (fail)
      go_ret
      exact ⟨A4, c4, l4, rfl, HM.out⟩
end Go.Proofs.YtfnkjcodcoehcaaGreatDoor
