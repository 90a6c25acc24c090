/- Merged texts: Compose, BothW, RdrW, RdrT, RdrN, ComposeW. -/
import Derived.Test.YtnppoifgfehpfaaGreatDoorPk12
import Derived.Test.YtnppoifgfehpfaaGreatDoorPk8
import Derived.Test.YtnppoifgfehpfaaGreatDoorPk29
import Derived.Test.YtnppoifgfehpfaaGreatDoorPk26
import Derived.Test.YtnppoifgfehpfaaGreatDoorPk31
import Derived.Test.YtnppoifgfehpfaaGreatDoorPk17
import Derived.Test.YtnppoifgfehpfaaGreatDoorPk5
import Derived.Deep.CutRange
import Derived.StillTailTactics
import Derived.Test.YtnppoifgfehpfaaGreatDoorPk34
import Derived.Test.YtnppoifgfehpfaaGreatDoorPk13
/- The walk of patch.Compose. -/
namespace Go.Proofs.YtnppoifgfehpfaaGreatDoor
open Go.RowKit
set_option linter.unusedVariables false
set_option linter.unusedSimpArgs false

set_option maxRecDepth 100000 in
set_option maxHeartbeats 400000 in
theorem compose_any (A1 A2 : Option Addr) (n1 n2 c1 c2 : Nat) (l k : List Ch) (w : World)
    (hn1 : n1 = l.length) (hn2 : n2 = k.length) (h1 : RdCh w w.heap.size A1 l) (h2 : RdCh w w.heap.size A2 k)
    (hb1 : n1 ≤ 100000000) (hb2 : n2 ≤ 100000000) (hc1 : n1 ≤ c1) (hcm : c1 ≤ maxLen) :
    Calls Tryz.prog 135 #[.slice A1 n1 c1, .slice A2 n2 c2] w (NewCh (composeP l k) w) := by
  unfold maxLen at hcm
  have N1 := Lib.hid hn1
  have N2 := Lib.hid hn2
  generalize hR : composeP l k = R
  have HR := Lib.hid hR
  clear hn1 hn2 hR
  go_enter Tryz.func135, Tryz.ntmps135
  go_wp2_with (fail)
  go_loopg [5, 6, 11] n2 (fun g ov iv kv wr => ∃ (q i : Nat) (o : List Ch), q ≤ n2 ∧ i ≤ n1 ∧ g = n2 - q ∧ iv = .int .i64 i ∧ kv = .int .i64 q ∧ OwCh wr w.heap.size ov o ∧ o.length ≤ i + q ∧
    Below w.heap.size w wr ∧ Hid (o ++ composeP (l.drop i) (k.drop q) = R))
  case atStart => exact ⟨0, 0, [], by omega, by omega, rfl, rfl, rfl, Ow.nil _ _, by simp, Below.refl _ _, Lib.hid (by simpa using HR.out)⟩
  case round =>
    obtain ⟨q, i, o, hk, hi, hg, rfl, rfl, hown, hol, hbw, HI⟩ := hrel
    have HG := Lib.hid hg
    clear hg HR
    by_cases hlt : q < n2
    · have hkp : q < k.length := by have := N2.out; omega
      obtain ⟨ad2, c, rfl, _, hd2, _, hc2⟩ := (h2.below hbw (Nat.le_refl _)).el hkp
      have HI' : Hid (o ++ composeAt (l.drop i) c (k.drop (q+1)) = R) := Lib.hid (by rw [← HI.out, hd2, composeP_cons])
      clear HI hkp hd2
      obtain ⟨ck, cg, va, vn, vf, vs⟩ := c
      obtain ⟨q0, q1, q2, q3, q4, q5⟩ := ch_cells hc2
      clear hc2
      go_wp2_with (fail)
      obtain ⟨wo, rfl⟩ : ∃ wo : World, wo = wr := ⟨_, rfl⟩
      go_loopg [5, 6] (n1 - i) (fun g ov iv wi => ∃ (i : Nat) (o : List Ch), i ≤ n1 ∧ g = n1 - i ∧ iv = .int .i64 i ∧ OwCh wi w.heap.size ov o ∧ o.length ≤ i + q ∧
        Below w.heap.size w wi ∧ wi.heap[wo.heap.size]? = some (.cells #[.int .i64 ck, .bool cg, .int .u8 va, .int .i64 vn, .int .u64 vf, .string vs] 59 (0, 0)) ∧ wb ov ≠ some wo.heap.size ∧
        Hid (o ++ composeAt (l.drop i) ⟨ck, cg, ⟨va, vn, vf, vs⟩⟩ (k.drop (q+1)) = R))
      case atStart =>
        refine ⟨i, o, hi, rfl, rfl, hown.alloc _, hol, hbw.alloc hbw.size _, heap_alloc_new _ _, fun e => ?_, HI'⟩
        have := (hown.wb_lt _ e).2; omega
      case round =>
        clear q0 q1 q2 q3 q4 q5 hi hown hol hbw HI'
        obtain ⟨i, o, hi, hg, rfl, hown, hol, hbw, hbx, hwb, HI⟩ := hrel
        have HG2 := Lib.hid hg
        clear hg
        obtain ⟨b0, b1, b2, b3, b4, b5⟩ := box_ch hbx
        have HBX := Lib.hid hbx
        have HWB := Lib.hid hwb
        clear hbx hwb
        by_cases hil : i < n1
        · have hip : i < l.length := by have := N1.out; omega
          obtain ⟨ad1, a, rfl, _, hd1, _, hc1⟩ := (h1.below hbw (Nat.le_refl _)).el hip
          obtain ⟨ek, eg, ea, en, ef, es⟩ := a
          obtain ⟨r0, r1, r2, r3, r4, r5⟩ := ch_cells hc1
          have hil' : decide ((i : Int) < n1) = true := by simp; omega
          have HD1 := Lib.hid hd1
          clear hd1
          by_cases hle : ek ≤ ck
          · by_cases hak : ek < ck
            · go_wp2_with (first
                | go_quiet (fail)
                | (at_builtin; refine app_ch (m := [⟨ek, eg, ⟨ea, en, ef, es⟩⟩]) rfl (.tmp 39) (.tmp 44) rfl rfl (by first | exact (hown.drewN _).alloc _ | exact hown.alloc _) _ _ 1 1 rfl rfl (by first | exact rd_one (enc := Ch.enc) _ _ _ rfl | exact rd_one_at (enc := Ch.enc) _ _ _ rfl (size_alloc' _ _)) (by simp only [List.length_singleton]; omega) (Nat.le_trans hbw.size (le_alloc _ _)) ?_; intro v' w' hown' hgr hv'))
              obtain ⟨s1, s2, s3⟩ := app_step hown hbw (Nat.le_refl _) hgr hv'
              go_roundg (n1 - (i + 1))
              case measure => have := HG2.out; omega
              case rel =>
                exact ⟨i + 1, _, by omega, rfl, by go_num, hown', by simp; omega, s1, s2 _ _ HBX.out HWB.out, s3 _ (blk_lt HBX.out) HWB.out,
                  Lib.hid (by rw [← HI.out, HD1.out, composeAt_less _ _ _ _ hak, List.append_assoc]; rfl)⟩
            · go_wp2_with (go_quiet (fail))
              go_roundg (n1 - (i + 1))
              case measure => have := HG2.out; omega
              case rel =>
                exact ⟨i + 1, o, by omega, rfl, by go_num, hown, by omega, below_drewN hbw _, HBX.out, HWB.out,
                  Lib.hid (by rw [← HI.out, HD1.out, composeAt_eq _ _ _ _ (by show ek = ck; omega)])⟩
          · go_wp2_with (first
              | go_quiet (fail)
              | (at_builtin; refine app_ch (m := [⟨ck, cg, ⟨va, vn, vf, vs⟩⟩]) rfl (.tmp 46) (.tmp 48) rfl rfl (by first | exact (hown.drewN _).alloc _ | exact hown.alloc _) _ _ 1 1 rfl rfl (by first | exact rd_one (enc := Ch.enc) _ _ _ rfl | exact rd_one_at (enc := Ch.enc) _ _ _ rfl (size_alloc' _ _)) (by simp only [List.length_singleton]; omega) (Nat.le_trans hbw.size (le_alloc _ _)) ?_; intro v' w' hown' hgr hv'))
            obtain ⟨s1, s2, s3⟩ := app_step hown hbw (Nat.le_refl _) hgr hv'
            go_roundg (n2 - (q + 1))
            case measure => have := HG.out; omega
            case rel =>
              exact ⟨q + 1, i, _, by omega, by omega, rfl, rfl, by go_num, hown', by simp; omega, s1,
                Lib.hid (by rw [← HI.out, HD1.out, composeAt_more _ _ _ _ (by show ck < ek; omega), List.append_assoc]; rfl)⟩
        · have hd1 : l.drop i = [] := List.drop_eq_nil_of_le (by have := N1.out; omega)
          have HD1 := Lib.hid hd1
          have hil' : decide ((i : Int) < n1) = false := by simp; omega
          clear hd1
          go_wp2_with (first
            | go_quiet (fail)
            | (at_builtin; refine app_ch (m := [⟨ck, cg, ⟨va, vn, vf, vs⟩⟩]) rfl (.tmp 46) (.tmp 48) rfl rfl (by first | exact (hown.drewN _).alloc _ | exact hown.alloc _) _ _ 1 1 rfl rfl (by first | exact rd_one (enc := Ch.enc) _ _ _ rfl | exact rd_one_at (enc := Ch.enc) _ _ _ rfl (size_alloc' _ _)) (by simp only [List.length_singleton]; omega) (Nat.le_trans hbw.size (le_alloc _ _)) ?_; intro v' w' hown' hgr hv'))
          obtain ⟨s1, s2, s3⟩ := app_step hown hbw (Nat.le_refl _) hgr hv'
          go_roundg (n2 - (q + 1))
          case measure => have := HG.out; omega
          case rel =>
            exact ⟨q + 1, i, _, by omega, by omega, rfl, rfl, by go_num, hown', by simp; omega, s1,
              Lib.hid (by rw [← HI.out, HD1.out, composeAt_nil, List.append_assoc]; rfl)⟩
    · have hdp : k.drop q = [] := List.drop_eq_nil_of_le (by have := N2.out; omega)
      have HDP := Lib.hid hdp
      clear hdp
      go_wp2_with (first
        | (at_builtin; refine app_ch (m := l.drop i) rfl (.tmp 51) (.tmp 54) rfl rfl (by exact hown) _ _ _ _ rfl (by rw [List.length_drop, ← N1.out]) (by have hx := (h1.below hbw (Nat.le_refl _)).cut (k := i) (cap := c1) (by have := N1.out; omega) (by have := N1.out; omega); exact hx) (by have := N1.out; rw [List.length_drop]; omega) (by exact hbw.size) ?_; intro v' w' hown' hgr hv'))
      all_goals
        have e : o ++ l.drop i = R := by have := HI.out; rw [HDP.out, composeP_nil] at this; exact this
        rw [e] at hown'
        obtain ⟨A', c', rfl, _, _⟩ := hown'.form
        go_ret
        exact ⟨A', c', rfl, hown', below_app hbw hbw.size hown (Nat.le_refl _) hgr⟩
end Go.Proofs.YtnppoifgfehpfaaGreatDoor
/- The walks of compose.tell and compose.both. -/
namespace Go.Proofs.YtnppoifgfehpfaaGreatDoor
open Go.RowKit
set_option linter.unusedVariables false
set_option linter.unusedSimpArgs false

set_option maxRecDepth 100000 in
set_option maxHeartbeats 3200000 in
theorem ctell_any (b : Nat) (o : OpS) (w0 w : World) (F : Nat → Prop) (m : Mk) (K : Nat) (h : Mkr w F b m) (low : ∀ k, F k → w0.heap.size ≤ k) (Y : Below w0.heap.size w0 w) (ho : OpIn w0 o) (hb : MkB m K 64) (hK : K ≤ 1000000)
    (hr : o.o.r.length ≤ 1000000) (hs : o.o.s.length ≤ 64) (hp : o.o.p.length ≤ 64) :
    Calls Tryz.prog 77 #[.pointer (some ⟨b, 0, none⟩), o.val] w (MkOut (tellO m o.o) w F b) := by
  have FR := Lib.hid (ho.1.offF low)
  have FSq := Lib.hid (ho.2.1.offF low)
  have FP := Lib.hid (ho.2.2.1.offF low)
  have HO := Lib.hid (ho.1.ext Y)
  have HS := Lib.hid (ho.2.1.ext Y)
  have HP := Lib.hid (ho.2.2.1.ext Y)
  have HB := Lib.hid hb
  have HM := Lib.hid h
  obtain ⟨⟨k, nn, r, s, p⟩, Ar, cr, As, cs, Ap, cp⟩ := o
  simp only [OpS.val]
  simp only at FR FSq FP HO HS HP hr hs hp
  have yb := ext_alloc w (.cells #[.int .u8 k, .int .i64 nn, .slice Ar r.length cr, .slice As s.length cs, .slice Ap p.length cp] 54)
  have hbx := heap_alloc_new w (.cells #[.int .u8 k, .int .i64 nn, .slice Ar r.length cr, .slice As s.length cs, .slice Ap p.length cp] 54)
  obtain ⟨q0, q1, q2, q3, q4⟩ := box_at hbx
  have YB := Lib.hid yb
  clear h low Y ho hb yb hbx
  by_cases hk : k = 1
  · subst hk
    have hM : tellO m (⟨1, nn, r, s, p⟩ : Opd) = mkRetain m nn p := rfl
    rw [hM]
    go_enter Tryz.func77, Tryz.ntmps77
    go_wp2_with (go_at_call 60; refine Hid.out ?_)
    refine Lib.hid ?_
    refine (mkRetain_any b Ap nn p.length cp p _ F m (HM.out.below YB.out) rfl (HP.out.ext YB.out) FP.out (by omega) (by have := HB.out.len; omega) (fun o ho => by have := (HB.out.gap.2 o ho).2.2; omega)).mono ?_
    rintro e w3 ⟨rfl, F3, hm3, g3⟩
    go_wp2_with (fail)
    refine bodyPost_ret (results_none rfl _ _ _) rfl ?_
    exact ⟨rfl, F3, hm3, (Grow.of YB.out).trans g3⟩
  by_cases hk2 : k = 2
  · subst hk2
    have hM : tellO m (⟨2, nn, r, s, p⟩ : Opd) = mkInsert m r s := rfl
    rw [hM]
    clear hk
    go_enter Tryz.func77, Tryz.ntmps77
    go_wp2_with (go_at_call 59; refine Hid.out ?_)
    refine Lib.hid ?_
    refine (mkInsert_any b Ar As r.length cr s.length cs r s _ F m (HM.out.below YB.out) rfl rfl (HO.out.ext YB.out) (HS.out.ext YB.out) (by omega) (by omega) (by have := HB.out.len; omega) (fun o ho => by have := HB.out.prt o (List.mem_append_right _ ho); omega)).mono ?_
    rintro e w3 ⟨rfl, F3, hm3, g3⟩
    go_wp2_with (fail)
    refine bodyPost_ret (results_none rfl _ _ _) rfl ?_
    exact ⟨rfl, F3, hm3, (Grow.of YB.out).trans g3⟩
  · have hM : tellO m (⟨k, nn, r, s, p⟩ : Opd) = mkDelete m nn := by unfold tellO; rw [if_neg hk, if_neg hk2]
    rw [hM]
    have hk' : (k == 1) = false := beq_eq_false_iff_ne.2 hk
    have hk2' : (k == 2) = false := beq_eq_false_iff_ne.2 hk2
    go_enter Tryz.func77, Tryz.ntmps77
    go_wp2_with (go_at_call 58; refine Hid.out ?_)
    refine Lib.hid ?_
    refine (mkDelete_any b nn _ F m (HM.out.below YB.out)).mono ?_
    rintro e w3 ⟨rfl, F3, hm3, g3⟩
    go_wp2_with (fail)
    refine bodyPost_ret (results_none rfl _ _ _) rfl ?_
    exact ⟨rfl, F3, hm3, (Grow.of YB.out).trans g3⟩

set_option maxRecDepth 100000 in
set_option maxHeartbeats 6400000 in
theorem both_any (sc : Nat) (l : List Ky) (b : Nat) (u o : OpS) (w0 w : World) (F : Nat → Prop) (m : Mk) (K : Nat) (h : Mkr w F b m) (low : ∀ k, F k → w0.heap.size ≤ k) (Y : Below w0.heap.size w0 w) (hu : OpIn w0 u) (ho : OpIn w0 o) (hS : Sch w0 sc l)
    (gu : capO u) (go : capO o) (hb : MkB m K 64) (ur : K + u.o.r.length ≤ 900000) (us : u.o.s.length ≤ 64) (up : u.o.p.length ≤ 64) (op : o.o.p.length ≤ 64) (cl : (composeP u.o.p o.o.p).length ≤ 64) (hk3 : u.o.k = 1 ∨ u.o.k = 2)
    (hsl : ∀ x ∈ u.o.r, (actC l ⟨x, u.o.s⟩ o.o.p).s.length ≤ 64) :
    Calls Tryz.prog 80 #[.pointer (some ⟨sc, 0, none⟩), .pointer (some ⟨b, 0, none⟩), u.val, o.val] w (MkOut (bothM l m u.o o.o) w F b) := by
  have HUR := Lib.hid hu.1
  have HUS := Lib.hid hu.2.1
  have HUP := Lib.hid hu.2.2.1
  have HOP := Lib.hid ho.2.2.1
  have HB := Lib.hid hb
  have HM := Lib.hid h
  have HSC := Lib.hid hS
  have LOW := Lib.hid low
  have GU := Lib.hid gu
  have GO := Lib.hid go
  have HSL := Lib.hid hsl
  have YY := Lib.hid Y
  obtain ⟨⟨k, nn, r, s, p⟩, Ar, cr, As, cs, Ap, cp⟩ := u
  obtain ⟨⟨k', nn', r', s', p'⟩, Ar', cr', As', cs', Ap', cp'⟩ := o
  have GUP : Hid (p.length ≤ cp ∧ cp ≤ maxLen) := Lib.hid GU.out.2.2
  have GUS : Hid (s.length ≤ cs ∧ cs ≤ maxLen) := Lib.hid GU.out.2.1
  simp only [OpS.val]
  simp only at HUR HUS HUP HOP HSL ur us up op cl hk3
  have y1 := ext_alloc w (.cells #[.int .u8 k, .int .i64 nn, .slice Ar r.length cr, .slice As s.length cs, .slice Ap p.length cp] 54)
  have hb1 := heap_alloc_new w (.cells #[.int .u8 k, .int .i64 nn, .slice Ar r.length cr, .slice As s.length cs, .slice Ap p.length cp] 54)
  have y2 := ext_alloc (w.alloc (.cells #[.int .u8 k, .int .i64 nn, .slice Ar r.length cr, .slice As s.length cs, .slice Ap p.length cp] 54)) (.cells #[.int .u8 k', .int .i64 nn', .slice Ar' r'.length cr', .slice As' s'.length cs', .slice Ap' p'.length cp'] 54)
  have hb2 := heap_alloc_new (w.alloc (.cells #[.int .u8 k, .int .i64 nn, .slice Ar r.length cr, .slice As s.length cs, .slice Ap p.length cp] 54)) (.cells #[.int .u8 k', .int .i64 nn', .slice Ar' r'.length cr', .slice As' s'.length cs', .slice Ap' p'.length cp'] 54)
  have hb1' := (y2.block w.heap.size (by simp)).trans hb1
  rw [World.size_alloc] at hb2
  obtain ⟨q0, q1, q2, q3, q4⟩ := box_at hb1'
  obtain ⟨p0, p1, p2, p3, p4⟩ := box_at hb2
  have H1 := Lib.hid hb1'
  have H2 := Lib.hid hb2
  have YB := Lib.hid (ext_trans y1 y2)
  have SZW : Hid (((w.alloc (.cells #[.int .u8 k, .int .i64 nn, .slice Ar r.length cr, .slice As s.length cs, .slice Ap p.length cp] 54)).alloc (.cells #[.int .u8 k', .int .i64 nn', .slice Ar' r'.length cr', .slice As' s'.length cs', .slice Ap' p'.length cp'] 54)).heap.size = w.heap.size + 2) := Lib.hid (by simp)
  clear h low Y hu ho hb hS gu go hsl y1 y2 hb1 hb1' hb2
  have NF : Hid (¬ F w.heap.size ∧ ¬ F (w.heap.size + 1)) := Lib.hid ⟨fun h => by have := HM.out.lt _ h; omega, fun h => by have := HM.out.lt _ h; omega⟩
  have MB2 := Lib.hid (HM.out.below YB.out)
  have Y2 := Lib.hid (YY.out.trans (YB.out.mono YY.out.size))
  by_cases hk : k = 1
  · subst hk
    by_cases hk' : k' = 1
    · subst hk'
      have hM : bothM l m (⟨1, nn, r, s, p⟩ : Opd) (⟨1, nn', r', s', p'⟩ : Opd) = mkRetain m nn' (composeP p p') := rfl
      rw [hM]
      have SF : Hid (∀ v, Below ((w.alloc (.cells #[.int .u8 1, .int .i64 nn, .slice Ar r.length cr, .slice As s.length cs, .slice Ap p.length cp] 54)).alloc (.cells #[.int .u8 1, .int .i64 nn', .slice Ar' r'.length cr', .slice As' s'.length cs', .slice Ap' p'.length cp'] 54)).heap.size ((w.alloc (.cells #[.int .u8 1, .int .i64 nn, .slice Ar r.length cr, .slice As s.length cs, .slice Ap p.length cp] 54)).alloc (.cells #[.int .u8 1, .int .i64 nn', .slice Ar' r'.length cr', .slice As' s'.length cs', .slice Ap' p'.length cp'] 54)) v →
          v.cell? ⟨w.heap.size, 4, none⟩ = some (.slice Ap p.length cp) ∧ v.cell? ⟨w.heap.size + 1, 1, none⟩ = some (.int .i64 nn') ∧ v.cell? ⟨w.heap.size + 1, 4, none⟩ = some (.slice Ap' p'.length cp')) := Lib.hid (fun v hv => by
        obtain ⟨_, _, _, _, a4⟩ := box_at ((hv.block w.heap.size (by have := SZW.out; omega)).trans H1.out)
        obtain ⟨_, b1, _, _, b4⟩ := box_at ((hv.block (w.heap.size + 1) (by have := SZW.out; omega)).trans H2.out)
        exact ⟨a4, b1, b4⟩)
      obtain ⟨Q, hQ⟩ : ∃ Q, composeP p p' = Q := ⟨_, rfl⟩
      rw [hQ] at cl ⊢
      have HQ := Lib.hid hQ
      clear hQ hM
      go_enter Tryz.func80, Tryz.ntmps80
      go_wp2_with (fail)
      obtain ⟨wv, hwv⟩ : ∃ X, (w.alloc (.cells #[.int .u8 1, .int .i64 nn, .slice Ar r.length cr, .slice As s.length cs, .slice Ap p.length cp] 54)).alloc (.cells #[.int .u8 1, .int .i64 nn', .slice Ar' r'.length cr', .slice As' s'.length cs', .slice Ap' p'.length cp'] 54) = X := ⟨_, rfl⟩
      rw [hwv] at SF q0 q1 q2 q3 q4 p0 p1 p2 p3 p4 MB2 Y2 YB ⊢
      go_region_held3 (fun w' => w'.cell? ⟨w.heap.size, 4, none⟩ = some (.slice Ap p.length cp) ∧ w'.cell? ⟨w.heap.size + 1, 1, none⟩ = some (.int .i64 nn') ∧ w'.cell? ⟨w.heap.size + 1, 4, none⟩ = some (.slice Ap' p'.length cp'))
        (go_keep) (first
          | (go_at_call 135
             with_reducible refine (compose_any Ap Ap' p.length p'.length cp cp' p p' wv.drew rfl rfl ((HUP.out.ext Y2.out).ext (up_drew (Below.refl _ _))) ((HOP.out.ext Y2.out).ext (up_drew (Below.refl _ _))) (by omega) (by omega) GUP.out.1 GUP.out.2).mono ?_
             rw [HQ.out]
             rintro e wd ⟨A3, k3, rfl, o3, y3⟩
             have O3 := Lib.hid o3
             have YD := Lib.hid (ext_trans (up_drew (Below.refl _ _)) y3)
             obtain ⟨d0, d1, d2⟩ := SF.out _ YD.out
             clear o3 y3)
          | (go_at_call 60
             with_reducible refine (mkRetain_any b A3 nn' Q.length k3 Q wd F m (MB2.out.below YD.out) rfl (O3.out.rd Ch.enc_len) (O3.out.offF Ch.enc_len rfl (fun k hk hF => by have := (O3.out.wb_lt k hk).1; have := MB2.out.lt k hF; simp at *; omega)) (by omega)
                (by have := HB.out.len; omega) (fun o ho => by have := (HB.out.gap.2 o ho).2.2; omega)).mono ?_
             rintro e we ⟨rfl, F4, hm4, g4⟩
             have M4 := Lib.hid hm4
             have G4 := Lib.hid ((Grow.of YB.out).trans ((Grow.of YD.out).trans g4))
             have HE : Hid (we.heap[w.heap.size]? = some _ ∧ we.heap[w.heap.size + 1]? = some _) := Lib.hid ⟨((g4.block _ (by have := YD.out.size; have := SZW.out; rw [hwv] at this; omega) NF.out.1).trans (YD.out.block _ (by have := SZW.out; rw [hwv] at this; omega))).trans (hwv ▸ H1.out), ((g4.block _ (by have := YD.out.size; have := SZW.out; rw [hwv] at this; omega) NF.out.2).trans (YD.out.block _ (by have := SZW.out; rw [hwv] at this; omega))).trans (hwv ▸ H2.out)⟩
             obtain ⟨_, _, _, _, e0⟩ := box_at HE.out.1
             obtain ⟨_, e1, _, _, e2⟩ := box_at HE.out.2))
      go_wp2_with (fail)
      refine bodyPost_ret (results_none rfl _ _ _) rfl ?_
      exact ⟨rfl, F4, M4.out, G4.out⟩
    · have hM : bothM l m (⟨1, nn, r, s, p⟩ : Opd) (⟨k', nn', r', s', p'⟩ : Opd) = mkDelete m nn' := by unfold bothM; rw [if_pos rfl, if_neg hk']
      rw [hM]
      have hk2 : (k' == 1) = false := beq_eq_false_iff_ne.2 hk'
      go_enter Tryz.func80, Tryz.ntmps80
      go_wp2_with (go_at_call 58; refine Hid.out ?_)
      refine Lib.hid ?_
      refine (mkDelete_any b nn' _ F m MB2.out).mono ?_
      rintro e w3 ⟨rfl, F3, hm3, g3⟩
      go_wp2_with (fail)
      refine bodyPost_ret (results_none rfl _ _ _) rfl ?_
      exact ⟨rfl, F3, hm3, (Grow.of YB.out).trans g3⟩
  · have hk2 : k = 2 := by rcases hk3 with h | h; exact absurd h hk; exact h
    subst hk2
    by_cases hk' : k' = 1
    · subst hk'
      have hM : bothM l m (⟨2, nn, r, s, p⟩ : Opd) (⟨1, nn', r', s', p'⟩ : Opd) = insM l s p' m r := rfl
      rw [hM]
      clear hM hk
      go_enter Tryz.func80, Tryz.ntmps80
      go_wp2_with (fail)
      obtain ⟨wv, hwv⟩ : ∃ X, (w.alloc (.cells #[.int .u8 2, .int .i64 nn, .slice Ar r.length cr, .slice As s.length cs, .slice Ap p.length cp] 54)).alloc (.cells #[.int .u8 1, .int .i64 nn', .slice Ar' r'.length cr', .slice As' s'.length cs', .slice Ap' p'.length cp'] 54) = X := ⟨_, rfl⟩
      rw [hwv] at q0 q1 q2 q3 q4 p0 p1 p2 p3 p4 MB2 Y2 YB SZW H1 H2 ⊢
      clear hwv
      go_loopg [44] r.length (fun g iv wr => ∃ (i : Nat) (F' : Nat → Prop), i ≤ r.length ∧ g = r.length - i ∧ iv = .int .i64 (i : Int) ∧ Mkr wr F' b (insM l s p' m (r.take i)) ∧ Grow wv F wr F')
      case atStart => exact ⟨0, F, by omega, rfl, rfl, MB2.out, Grow.refl _ _⟩
      case round =>
        obtain ⟨i, F', hi, hg, rfl, hm, gr⟩ := hrel
        have HG := Lib.hid hg
        have HM' := Lib.hid hm
        have GR := Lib.hid gr
        have B1 := Lib.hid ((gr.block w.heap.size (by have := SZW.out; omega) NF.out.1).trans H1.out)
        have B2 := Lib.hid ((gr.block (w.heap.size + 1) (by have := SZW.out; omega) NF.out.2).trans H2.out)
        have YR := Lib.hid (Y2.out.trans (gr.below (B := w0.heap.size) LOW.out Y2.out.size))
        clear hg hm gr
        by_cases hlt : i < r.length
        · obtain ⟨ad, x, rfl, had, _, hx1, hc1⟩ := (HUR.out.ext YR.out).el hlt
          have HT : Hid (insM l s p' m (r.take (i + 1)) = mkInsert (insM l s p' m (r.take i)) [x] (actC l ⟨x, s⟩ p').s) := Lib.hid (by rw [List.take_add_one, hx1]; exact insM_snoc _ _ _ _ _ _)
          have MBB := Lib.hid (insM_B (l := l) (s := s) (p := p') (r.take i) HB.out (fun y hy => HSL.out y (List.mem_of_mem_take hy)))
          have SL := Lib.hid (HSL.out x (List.mem_of_getElem? hx1))
          have KB : Hid (K + (r.take i).length ≤ 1000000) := Lib.hid (by rw [List.length_take]; omega)
          have t0 : wr.cell? (ad.add (i * 1)) = some (.int .i32 x) := by have := hc1 0 _ rfl; rw [add_zero'] at this; exact this
          obtain ⟨a0, a1, a2, a3, a4⟩ := box_at B1.out
          obtain ⟨b0, b1, b2, b3, b4⟩ := box_at B2.out
          have hw2 : IntKind.i64.wrap ((i:Int) + 1) = (i : Int) + 1 := IntWalk.i64_in _ (by omega)
          have hlt' : (i : Int) < (r.length : Int) := by omega
          rw [Nat.mul_one] at t0
          clear hx1 hc1 had
          go_wp2_with (go_at_call 44; refine Hid.out ?_)
          refine Lib.hid ?_
          refine (cell_any sc l x As Ap' s.length cs p'.length cp' s p' _ (HSC.out.ext YR.out) rfl rfl (HUS.out.ext YR.out) (HOP.out.ext YR.out) (by omega) (by omega) GUS.out.1 GUS.out.2).mono ?_
          obtain ⟨X, hX⟩ : ∃ X, (actC l ⟨x, s⟩ p').s = X := ⟨_, rfl⟩
          rw [hX] at HT SL ⊢
          rintro e w3 ⟨A3, c3, rfl, o3, y3⟩
          have O3 := Lib.hid o3
          have Y3 := Lib.hid y3
          have yc := ext_alloc w3 (.cells #[.int .i32 x, .slice A3 X.length c3] 71)
          have hbc := heap_alloc_new w3 (.cells #[.int .i32 x, .slice A3 X.length c3] 71)
          obtain ⟨v0, v1⟩ := box_cl hbc
          have yd := ext_alloc (w3.alloc (.cells #[.int .i32 x, .slice A3 X.length c3] 71)) (.cells #[.int .i32 x] 21)
          have YD := Lib.hid (ext_trans yc yd)
          have YE := Lib.hid (ext_trans Y3.out YD.out)
          clear o3 y3 yc yd hbc hX
          go_wp2_with (go_at_call 59; refine Hid.out ?_)
          refine Lib.hid ?_
          refine (mkInsert_any b _ A3 1 1 X.length c3 [x] X _ F' _ (HM'.out.below YE.out) rfl rfl (by rw [World.size_alloc]; exact rd_one_at (enc := encI32) (size := 1) (w3.alloc (.cells #[.int .i32 x, .slice A3 X.length c3] 71)) 21 x rfl (by simp)) ((O3.out.rd At.enc_len).ext YD.out) (by omega) (by have := SL.out; omega) (by have := MBB.out.len; have := KB.out; omega)
            (fun o ho => by have := MBB.out.prt o (List.mem_append_right _ ho); have := KB.out; omega)).mono ?_
          rintro e w9 ⟨rfl, F3, hm3, g3⟩
          rw [← HT.out] at hm3
          have HM9 := Lib.hid hm3
          have G9 := Lib.hid (GR.out.trans ((Grow.of YE.out).trans g3))
          clear hm3 g3
          go_wp2_with (fail)
          go_roundg (r.length - (i + 1))
          case measure => have := HG.out; omega
          case rel => exact ⟨i + 1, F3, by omega, rfl, by go_num, HM9.out, G9.out⟩
        · have hin : i = r.length := by omega
          subst hin
          have hm := HM'.out
          rw [List.take_length] at hm
          have HMF := Lib.hid hm
          have hlt' : ¬ ((r.length : Nat) : Int) < (r.length : Int) := by omega
          clear hm
          go_wp2_with (fail)
          refine bodyPost_ret (results_none rfl _ _ _) rfl ?_
          exact ⟨rfl, F', HMF.out, (Grow.of YB.out).trans GR.out⟩
    · have hM : bothM l m (⟨2, nn, r, s, p⟩ : Opd) (⟨k', nn', r', s', p'⟩ : Opd) = m := by unfold bothM; rw [if_neg (show ¬ (2 : Int) = 1 by decide), if_neg hk']
      rw [hM]
      have hk2 : (k' == 1) = false := beq_eq_false_iff_ne.2 hk'
      go_enter Tryz.func80, Tryz.ntmps80
      go_wp2_with (fail)
      refine bodyPost_ret (results_none rfl _ _ _) rfl ?_
      exact ⟨rfl, F, MB2.out, Grow.of YB.out⟩
end Go.Proofs.YtnppoifgfehpfaaGreatDoor
/- The walks of compose.reader's methods. -/
namespace Go.Proofs.YtnppoifgfehpfaaGreatDoor
open Go.RowKit
set_option linter.unusedVariables false
set_option linter.unusedSimpArgs false

/-- a reader: what is left to read, and how much of the first op is done -/
def Rdr (w0 w : World) (b : Nat) (X : List OpS) (a : Nat) : Prop :=
  ∃ A n c, w.heap[b]? = some (.cells #[.slice A n c, .int .i64 (a : Int)] 115 (0, 0)) ∧ OpsC w0 A n c X ∧ (∀ o ∈ X, isOp o.o ∧ lenO o.o ≤ 536870912) ∧ (X = [] → a = 0) ∧ ∀ o t, X = o :: t → a < lenO o.o
theorem Rdr.lt {w0 w : World} {b a : Nat} {X : List OpS} (h : Rdr w0 w b X a) : b < w.heap.size := by
  obtain ⟨A, n, c, hb, _⟩ := h; exact lt_of_some hb
theorem Rdr.ext {w0 w w' : World} {b a : Nat} {X : List OpS} (h : Rdr w0 w b X a) (y : Below w.heap.size w w') : Rdr w0 w' b X a := by
  obtain ⟨A, n, c, hb, h1, h2⟩ := h
  exact ⟨A, n, c, (y.block b (lt_of_some hb)).trans hb, h1, h2⟩
theorem Tryz.slOp0 : Tryz.prog.underlying 24 = some (.slice 54) := by kernel_rfl

theorem rdr_over {w : World} {b a : Nat} {X : List OpS} {A : Option Addr} {n c : Nat} (h : OpsC w A n c X) : ((n : Int) == 0) = decide (X = []) := by
  have hl := h.at_.len
  cases X with
  | nil => simp at hl; subst hl; rfl
  | cons o t => simp at hl; subst hl; simp; omega
set_option maxHeartbeats 1600000 in
theorem rdrOver_any (b : Nat) (X : List OpS) (a : Nat) (w0 w : World) (h : Rdr w0 w b X a) (Y : Below w0.heap.size w0 w) :
    Calls Tryz.prog 75 #[.pointer (some ⟨b, 0, none⟩)] w fun e w' => e = .returned (.bool (decide (X = []))) ∧ ∃ d, w' = w.drewN d := by
  obtain ⟨A, n, c, hb, hX, _⟩ := h
  have hd := rdr_over (b := b) (a := a) hX
  obtain ⟨R, hR⟩ : ∃ R, decide (X = []) = R := ⟨_, rfl⟩
  rw [hR] at hd ⊢
  have c0 : w.cell? ⟨b, 0, none⟩ = some (.slice A n c) := by simp [World.cell?, hb]
  clear hX hb hR
  go_enter Tryz.func75, Tryz.ntmps75
  go_wp2_with (fail)
  go_ret
  exact ⟨rfl, 0, rfl⟩
set_option maxRecDepth 100000 in
set_option maxHeartbeats 1600000 in
theorem left_any (b : Nat) (A : Option Addr) (n c : Nat) (o : OpS) (t : List OpS) (a : Nat) (w0 w : World) (hb : w.heap[b]? = some (.cells #[.slice A n c, .int .i64 (a : Int)] 115 (0, 0))) (hX : OpsC w0 A n c (o :: t)) (h1 : isOp o.o) (h2 : lenO o.o ≤ 536870912) (h3 : a ≤ lenO o.o) (Y : Below w0.heap.size w0 w) :
    Calls Tryz.prog 134 #[.pointer (some ⟨b, 0, none⟩)] w fun e w' => e = .returned (.int .i64 ((lenO o.o - a : Nat) : Int)) ∧ ∃ d, w' = w.drewN d := by
  obtain ⟨_, h4⟩ := lenO_of h1
  have hlen := hX.at_.len
  obtain ⟨ad, x, rfl, had, _, hx1, hc1⟩ := (hX.at_.rd.ext Y).1.el (i := 0) (by simp)
  have hxo : x = o := by simpa using hx1.symm
  subst hxo
  have hn : 1 ≤ n := by simp at hlen; omega
  have c0 : w.cell? ⟨b, 0, none⟩ = some (.slice (some ad) n c) := by simp [World.cell?, hb]
  have c1 : w.cell? ⟨b, 1, none⟩ = some (.int .i64 (a : Int)) := by simp [World.cell?, hb]
  obtain ⟨L, hL⟩ : ∃ L, lenO x.o = L := ⟨_, rfl⟩
  rw [hL] at h2 h3 h4 ⊢
  have HS : Hid (sizeO x.o = (L : Int)) := Lib.hid h4.symm
  have hwr : IntKind.i64.wrap ((L : Int) - (a : Int)) = ((L - a : Nat) : Int) := by rw [IntWalk.i64_in _ (by omega)]; omega
  have hwr' : wrap64 ((L : Int) - (a : Int)) = ((L - a : Nat) : Int) := by rw [w64_in _ (by omega)]; omega
  obtain ⟨⟨k, nn, r, s, p⟩, Ar, cr, As, cs, Ap, cp⟩ := x
  rw [Nat.zero_mul, add_zero'] at hc1
  obtain ⟨z0, z1, z2, z3, z4⟩ := op_cells hc1
  clear hX hb hx1 hc1 h1 h2 h3 h4 hL hlen
  by_cases hk : k = 2
  · subst hk
    have hs : Hid ((r.length : Int) = (L : Int)) := Lib.hid HS.out
    go_enter Tryz.func134, Tryz.ntmps134
    go_wp2_with (fail)
    go_quiet (fail)
    go_wp2_with (fail)
    go_ret
    refine ⟨?_, _, rfl⟩
    show Ending.returned (.int .i64 (wrap64 ((r.length : Int) - (a : Int)))) = _
    rw [hs.out, hwr']
  · have hk' : (k == 2) = false := beq_eq_false_iff_ne.2 hk
    have hs : nn = (L : Int) := by have := HS.out; unfold sizeO at this; rw [if_neg hk] at this; exact this
    subst hs
    go_enter Tryz.func134, Tryz.ntmps134
    go_wp2_with (fail)
    go_quiet (fail)
    go_wp2_with (fail)
    go_ret
    exact ⟨rfl, _, rfl⟩
theorem rdrLeft_any (b : Nat) (o : OpS) (t : List OpS) (a : Nat) (w0 w : World) (h : Rdr w0 w b (o :: t) a) (Y : Below w0.heap.size w0 w) :
    Calls Tryz.prog 134 #[.pointer (some ⟨b, 0, none⟩)] w fun e w' => e = .returned (.int .i64 ((lenO o.o - a : Nat) : Int)) ∧ ∃ d, w' = w.drewN d := by
  obtain ⟨A, n, c, hb, hX, hI, _, hlt⟩ := h
  obtain ⟨h1, h2⟩ := hI o (by simp)
  exact left_any b A n c o t a w0 w hb hX h1 h2 (Nat.le_of_lt (hlt o t rfl)) Y
set_option maxHeartbeats 1600000 in
theorem rdrKind_any (b : Nat) (X : List OpS) (a : Nat) (w0 w : World) (h : Rdr w0 w b X a) (Y : Below w0.heap.size w0 w) :
    Calls Tryz.prog 76 #[.pointer (some ⟨b, 0, none⟩)] w fun e w' => e = .returned (.int .u8 (kindR X)) ∧ ∃ d, w' = w.drewN d := by
  have HC := Lib.hid (rdrOver_any b X a w0 w h Y)
  obtain ⟨A, n, c, hb, hX, _⟩ := h
  have c0 : w.cell? ⟨b, 0, none⟩ = some (.slice A n c) := by simp [World.cell?, hb]
  cases X with
  | nil =>
    clear hX hb
    go_enter Tryz.func76, Tryz.ntmps76
    go_wp2_with (go_at_call 75; refine Hid.out ?_)
    refine Lib.hid ?_
    refine HC.out.mono ?_
    rintro e w1 ⟨rfl, d, rfl⟩
    go_wp2_with (fail)
    go_ret
    exact ⟨rfl, _, rfl⟩
  | cons o t =>
    have hlen := hX.at_.len
    obtain ⟨ad, x, rfl, had, _, hx1, hc1⟩ := (hX.at_.rd.ext Y).1.el (i := 0) (by simp)
    have hxo : x = o := by simpa using hx1.symm
    subst hxo
    have hn : 1 ≤ n := by simp at hlen; omega
    obtain ⟨⟨k, nn, r, s, p⟩, Ar, cr, As, cs, Ap, cp⟩ := x
    rw [Nat.zero_mul, add_zero'] at hc1
    obtain ⟨z0, z1, z2, z3, z4⟩ := op_cells hc1
    have hk : kindR (⟨⟨k, nn, r, s, p⟩, Ar, cr, As, cs, Ap, cp⟩ :: t) = k := rfl
    rw [hk]
    have hdec : decide ((⟨⟨k, nn, r, s, p⟩, Ar, cr, As, cs, Ap, cp⟩ :: t : List OpS) = []) = false := rfl
    rw [hdec] at HC
    clear hX hb hx1 hc1 hk hdec hlen
    go_enter Tryz.func76, Tryz.ntmps76
    go_wp2_with (go_at_call 75; refine Hid.out ?_)
    refine Lib.hid ?_
    refine HC.out.mono ?_
    rintro e w1 ⟨rfl, d, rfl⟩
    go_wp2_with (fail)
    go_ret
    exact ⟨rfl, _, rfl⟩
set_option maxHeartbeats 1600000 in
theorem rdrLong_any (b : Nat) (X : List OpS) (a : Nat) (w0 w : World) (h : Rdr w0 w b X a) (Y : Below w0.heap.size w0 w) :
    Calls Tryz.prog 79 #[.pointer (some ⟨b, 0, none⟩)] w fun e w' => e = .returned (.int .i64 ((longR X a : Nat) : Int)) ∧ ∃ d, w' = w.drewN d := by
  have HC := Lib.hid (rdrOver_any b X a w0 w h Y)
  cases X with
  | nil =>
    go_enter Tryz.func79, Tryz.ntmps79
    go_wp2_with (go_at_call 75; refine Hid.out ?_)
    refine Lib.hid ?_
    refine HC.out.mono ?_
    rintro e w1 ⟨rfl, d, rfl⟩
    go_wp2_with (fail)
    go_ret
    exact ⟨rfl, _, rfl⟩
  | cons o t =>
    have hdec : decide ((o :: t : List OpS) = []) = false := rfl
    rw [hdec] at HC
    have HH := Lib.hid h
    have hk : longR (o :: t) a = lenO o.o - a := rfl
    rw [hk]
    generalize hg : lenO o.o - a = G
    have HG := Lib.hid hg
    clear h hdec hk hg
    go_enter Tryz.func79, Tryz.ntmps79
    go_wp2_with (go_at_call 75; refine Hid.out ?_)
    refine Lib.hid ?_
    refine HC.out.mono ?_
    rintro e w1 ⟨rfl, d, rfl⟩
    go_wp2_with (go_at_call 134; refine Hid.out ?_)
    refine Lib.hid ?_
    refine (rdrLeft_any b o t a w0 _ (HH.out.ext (ext_drew w d)) (Y.trans ((ext_drew w d).mono Y.size))).mono ?_
    rw [HG.out]
    rintro e w2 ⟨rfl, d2, rfl⟩
    go_wp2_with (fail)
    go_ret
    exact ⟨rfl, _, rfl⟩
theorem Tryz.elI32r : Tryz.prog.elem 50 = 21 := by kernel_rfl
theorem Tryz.szI32r0 : (Tryz.prog.info? 21).map (·.size) = some 1 := by kernel_rfl
theorem Tryz.szI32r (W : World) : (sizeOf 21).run Tryz.prog W = .ok 1 W := by
  cases h : Tryz.prog.info? 21 with
  | none => have := Tryz.szI32r0; rw [h] at this; cases this
  | some i => have := Tryz.szI32r0; rw [h] at this; simp at this; simp [sizeOf, typeInfo, h, this]
def Took (b : Nat) (X : List OpS) (a n : Nat) (w0 w : World) (e : Ending) (w' : World) : Prop :=
  ∃ (o : OpS) (X' : List OpS) (a' : Nat), e = .returned o.val ∧ tookV X a n o.o X' a' ∧ OpIn w0 o ∧ capO o ∧ okOp o.o ∧ Rdr w0 w' b X' a' ∧ Grow w (fun k => k = b) w' (fun k => k = b)
theorem Tryz.unOp : Tryz.prog.underlying 54 = some (.struct (Tryz.prog.fieldsOf 54)) := by kernel_rfl
theorem Tryz.szOp9 : (Tryz.prog.info? 54).map (·.size) = some 5 := by kernel_rfl
theorem Rdr.keep {w0 w w' : World} {b a : Nat} {X : List OpS} (h : Rdr w0 w b X a) (hb : w'.heap[b]? = w.heap[b]?) : Rdr w0 w' b X a := by
  obtain ⟨A, n, c, h1, h2⟩ := h
  exact ⟨A, n, c, hb.trans h1, h2⟩
theorem cap_zero {n : Int} : capO (⟨opR n [], none, 0, none, 0, none, 0⟩ : OpS) := by
  unfold capO maxLen
  simp [opR]
theorem set5 {w : World} {b : Nat} {t : TypeId} {u0 u1 u2 u3 u4 : Value} (h : w.heap[b]? = some (.cells #[u0, u1, u2, u3, u4] t (0, 0))) (v0 v1 v2 v3 v4 : Value) :
    (((((w.setCell ⟨b, 0, none⟩ v0).setCell ⟨b, 1, none⟩ v1).setCell ⟨b, 2, none⟩ v2).setCell ⟨b, 3, none⟩ v3).setCell ⟨b, 4, none⟩ v4).heap[b]? = some (.cells #[v0, v1, v2, v3, v4] t (0, 0)) := by
  have h0 := heap_setCell_self (j := 0) h v0
  have h1 := heap_setCell_self (j := 1) h0 v1
  have h2 := heap_setCell_self (j := 2) h1 v2
  have h3 := heap_setCell_self (j := 3) h2 v3
  have h4 := heap_setCell_self (j := 4) h3 v4
  simpa using h4
theorem below_set5 {B : Nat} {w0 w : World} {b : Nat} (h : Below B w0 w) (hb : B ≤ b) (v0 v1 v2 v3 v4 : Value) :
    Below B w0 (((((w.setCell ⟨b, 0, none⟩ v0).setCell ⟨b, 1, none⟩ v1).setCell ⟨b, 2, none⟩ v2).setCell ⟨b, 3, none⟩ v3).setCell ⟨b, 4, none⟩ v4) :=
  ((((h.setCell (p := ⟨b, 0, none⟩) hb _).setCell (p := ⟨b, 1, none⟩) hb _).setCell (p := ⟨b, 2, none⟩) hb _).setCell (p := ⟨b, 3, none⟩) hb _).setCell (p := ⟨b, 4, none⟩) hb _
set_option maxRecDepth 100000 in
set_option maxHeartbeats 3200000 in
theorem rdrTake0_any (b n : Nat) (w0 w : World) (h : Rdr w0 w b [] 0) (Y : Below w0.heap.size w0 w) (hn : n ≤ 536870912) :
    Calls Tryz.prog 78 #[.pointer (some ⟨b, 0, none⟩), .int .i64 (n : Int)] w (Took b [] 0 n w0 w) := by
  have HH := Lib.hid h
  clear h
  go_enter Tryz.func78, Tryz.ntmps78
  have ya := ext_alloc w (.cells #[.int .u8 0, .int .i64 0, .slice none 0 0, .slice none 0 0, .slice none 0 0] 54)
  have hba := heap_alloc_new w (.cells #[.int .u8 0, .int .i64 0, .slice none 0 0, .slice none 0 0, .slice none 0 0] 54)
  have H1 := Lib.hid (HH.out.ext ya)
  go_wp2_with (go_at_call 75; refine Hid.out ?_)
  refine Lib.hid ?_
  refine (rdrOver_any b [] 0 w0 _ H1.out (Y.trans (ya.mono Y.size))).mono ?_
  rintro e w1 ⟨rfl, d, rfl⟩
  have yb := ext_trans ya (ext_drew _ d)
  have hbb : ((w.alloc (.cells #[.int .u8 0, .int .i64 0, .slice none 0 0, .slice none 0 0, .slice none 0 0] 54)).drewN d).heap[w.heap.size]? = _ := hba
  generalize (w.alloc (.cells #[.int .u8 0, .int .i64 0, .slice none 0 0, .slice none 0 0, .slice none 0 0] 54)).drewN d = w2 at *
  have hfz := fun j => box_thaw hbb j
  have hltb := lt_of_some hbb
  have HBB := Lib.hid hbb
  have YB := Lib.hid yb
  have f0 := hfz 0
  have f1 := hfz 1
  have f2 := hfz 2
  have f3 := hfz 3
  have f4 := hfz 4
  have g0 : w2.cell? ⟨w.heap.size, 0, none⟩ = some (.int .u8 0) := by simp [World.cell?, hbb]
  have g1 : w2.cell? ⟨w.heap.size, 1, none⟩ = some (.int .i64 0) := by simp [World.cell?, hbb]
  have g2 : w2.cell? ⟨w.heap.size, 2, none⟩ = some (.slice none 0 0) := by simp [World.cell?, hbb]
  have g3 : w2.cell? ⟨w.heap.size, 3, none⟩ = some (.slice none 0 0) := by simp [World.cell?, hbb]
  have g4 : w2.cell? ⟨w.heap.size, 4, none⟩ = some (.slice none 0 0) := by simp [World.cell?, hbb]
  clear ya yb hba hbb hfz
  go_wp2_with (fail)
  refine bodyPost_ret (results_cell_row (P := Tryz.prog) rfl _ _ w.heap.size 54 #[.int .u8 1, .int .i64 (n : Int), .slice none 0 0, .slice none 0 0, .slice none 0 0] (0, 0) _ rfl (set5 HBB.out _ _ _ _ _) Tryz.unOp rfl Tryz.szOp9) rfl ?_
  have y9 := below_set5 (b := w.heap.size) YB.out (Nat.le_refl _) (.int .u8 1) (.int .i64 (n : Int)) (.slice none 0 0) (.slice none 0 0) (.slice none 0 0)
  exact ⟨⟨opR (n : Int) [], none, 0, none, 0, none, 0⟩, [], 0, rfl, ⟨rfl, rfl, rfl⟩, ⟨Rd.nil, Rd.nil, Rd.nil, by simp [opR], by simp [opR], by simp [opR]⟩, cap_zero,
    ⟨(fun c hc => by cases hc), (fun c hc => by cases hc), by simp [opR], by simp [opR], by simp [opR]⟩, HH.out.keep (y9.block b HH.out.lt), Grow.of y9⟩
end Go.Proofs.YtnppoifgfehpfaaGreatDoor
/- The walk of compose.reader.take. -/
namespace Go.Proofs.YtnppoifgfehpfaaGreatDoor
open Go.RowKit
set_option linter.unusedVariables false
set_option linter.unusedSimpArgs false

theorem Grow.aside {w w1 w2 : World} {F : Nat → Prop} {B : Nat} (g : Grow w F w1 F) (y : Below B w1 w2) (hB : w.heap.size ≤ B) : Grow w F w2 F :=
  ⟨y.os.trans g.os, y.tape.trans g.tape, y.output.trans g.output, Nat.le_trans g.size y.size, fun j hj hn => (y.block j (by omega)).trans (g.block j hj hn), fun k hk => .inl hk⟩
theorem Rdr.ops {w0 w : World} {b a : Nat} {X : List OpS} (h : Rdr w0 w b X a) : ∀ o ∈ X, isOp o.o ∧ lenO o.o ≤ 536870912 := by
  obtain ⟨A, n, c, _, _, h1, _⟩ := h; exact h1
set_option maxRecDepth 100000 in
set_option maxHeartbeats 3200000 in
theorem rdrTakeI_any (b n : Nat) (o : OpS) (t : List OpS) (a : Nat) (w0 w : World) (h : Rdr w0 w b (o :: t) a) (Y : Below w0.heap.size w0 w) (hn : n ≤ 536870912) (hn1 : 1 ≤ n) (hk : o.o.k = 2) (hb0 : w0.heap.size ≤ b) :
    Calls Tryz.prog 78 #[.pointer (some ⟨b, 0, none⟩), .int .i64 (n : Int)] w (Took b (o :: t) a n w0 w) := by
  have HH := Lib.hid h
  obtain ⟨A, nx, c, hb, hX, hI, _, hlt⟩ := h
  obtain ⟨h1, h2⟩ := hI o (by simp)
  have h3 := hlt o t rfl
  have hlen := hX.at_.len
  obtain ⟨ad, x, rfl, had, _, hx1, hc1⟩ := (hX.at_.rd.ext Y).1.el (i := 0) (by simp)
  have hxo : x = o := by simpa using hx1.symm
  subst hxo
  have hnx : 1 ≤ nx := by simp at hlen; omega
  have HX := Lib.hid hX
  have LO : Hid (lenO x.o ≤ 536870912 ∧ a < lenO x.o) := Lib.hid ⟨h2, h3⟩
  have OP := Lib.hid h1
  have hdec : decide ((x :: t : List OpS) = []) = false := rfl
  have RX := Lib.hid (hX.at_.rd.2 x (by simp))
  have CX := Lib.hid (hX.caps x (by simp))
  have KX := Lib.hid (hX.at_.ok x (by simp))
  have HB := Lib.hid hb
  obtain ⟨⟨k, nn, r, s, p⟩, Ar, cr, As, cs, Ap, cp⟩ := x
  simp only at hk
  subst hk
  rw [Nat.zero_mul, add_zero'] at hc1
  have hc1 := Lib.hid hc1
  clear hX hI hlt hx1 h1 h2 h3 hlen hb
  go_enter Tryz.func78, Tryz.ntmps78
  have ya := ext_alloc w (.cells #[.int .u8 0, .int .i64 0, .slice none 0 0, .slice none 0 0, .slice none 0 0] 54)
  have hba := heap_alloc_new w (.cells #[.int .u8 0, .int .i64 0, .slice none 0 0, .slice none 0 0, .slice none 0 0] 54)
  have H1 := Lib.hid (HH.out.ext ya)
  go_wp2_with (go_at_call 75; refine Hid.out ?_)
  refine Lib.hid ?_
  refine (rdrOver_any b _ a w0 _ H1.out (Y.trans (ya.mono Y.size))).mono ?_
  rw [hdec]
  rintro e w1 ⟨rfl, d, rfl⟩
  have yb := ext_trans ya (ext_drew _ d)
  have hbb : ((w.alloc (.cells #[.int .u8 0, .int .i64 0, .slice none 0 0, .slice none 0 0, .slice none 0 0] 54)).drewN d).heap[w.heap.size]? = _ := hba
  generalize (w.alloc (.cells #[.int .u8 0, .int .i64 0, .slice none 0 0, .slice none 0 0, .slice none 0 0] 54)).drewN d = w2 at *
  have HBB := Lib.hid hbb
  have YB := Lib.hid yb
  obtain ⟨z0, z1, z2, z3, z4⟩ := op_cells (hc1.out.keep (w' := w2) fun q hq => YB.out.cell (by rw [hq]; exact had))
  have hbx : w2.heap[b]? = _ := (YB.out.block b (lt_of_some HB.out)).trans HB.out
  have HBX := Lib.hid hbx
  have c0 : w2.cell? ⟨b, 0, none⟩ = some (.slice (some ad) nx c) := by simp [World.cell?, hbx]
  clear ya yb hba hbb hbx
  have H2 := Lib.hid (HH.out.ext YB.out)
  have yx := ext_alloc w2 (.cells #[.int .u8 2, .int .i64 nn, .slice Ar r.length cr, .slice As s.length cs, .slice Ap p.length cp] 54)
  have hbo := heap_alloc_new w2 (.cells #[.int .u8 2, .int .i64 nn, .slice Ar r.length cr, .slice As s.length cs, .slice Ap p.length cp] 54)
  have Y3 := Lib.hid (ext_trans YB.out yx)
  have HBO := Lib.hid hbo
  clear yx hbo
  go_wp2_with (go_at_call 134; refine Hid.out ?_)
  refine Lib.hid ?_
  refine (rdrLeft_any b _ t a w0 _ (HH.out.ext Y3.out) (Y.trans (Y3.out.mono Y.size))).mono ?_
  have HL : Hid (lenO (⟨2, nn, r, s, p⟩ : Opd) = r.length) := Lib.hid (by have := (lenO_of OP.out).2; have h2 : sizeO (⟨2, nn, r, s, p⟩ : Opd) = r.length := rfl; omega)
  obtain ⟨L, hL⟩ : ∃ L, lenO (⟨2, nn, r, s, p⟩ : Opd) = L := ⟨_, rfl⟩
  have HLL : Hid (r.length = L) := Lib.hid (by rw [← hL]; exact HL.out.symm)
  have HLO := Lib.hid hL
  rw [hL] at LO ⊢
  have HC0 : Hid (L ≤ cr) := Lib.hid (by have := CX.out.1.1; rw [← HLL.out]; exact this)
  clear hL
  rintro e w4 ⟨rfl, d4, rfl⟩
  obtain ⟨q, hq⟩ : ∃ q, min n (L - a) = q := ⟨_, rfl⟩
  have hmin : min (n : Int) ((L - a : Nat) : Int) = (q : Int) := by omega
  have HQ : Hid (1 ≤ q ∧ a + q ≤ L ∧ q = min n (L - a)) := Lib.hid (by have := LO.out; omega)
  clear hq
  have Y4 := Lib.hid (ext_trans Y3.out (ext_drew _ d4))
  have hbo2 : ((w2.alloc (.cells #[.int .u8 2, .int .i64 nn, .slice Ar r.length cr, .slice As s.length cs, .slice Ap p.length cp] 54)).drewN d4).heap[w2.heap.size]? = _ := HBO.out
  have hba2 : ((w2.alloc (.cells #[.int .u8 2, .int .i64 nn, .slice Ar r.length cr, .slice As s.length cs, .slice Ap p.length cp] 54)).drewN d4).heap[w.heap.size]? = _ := ((ext_trans (ext_alloc w2 _) (ext_drew _ d4)).block w.heap.size (lt_of_some HBB.out)).trans HBB.out
  have hbr2 : ((w2.alloc (.cells #[.int .u8 2, .int .i64 nn, .slice Ar r.length cr, .slice As s.length cs, .slice Ap p.length cp] 54)).drewN d4).heap[b]? = _ := ((ext_trans (ext_alloc w2 _) (ext_drew _ d4)).block b (lt_of_some HBX.out)).trans HBX.out
  have NE : Hid (w.heap.size ≠ w2.heap.size ∧ b ≠ w2.heap.size ∧ b ≠ w.heap.size ∧ w.heap.size < w2.heap.size ∧ b < w.heap.size) := Lib.hid (by have h1 := lt_of_some HBB.out; have h2 := lt_of_some HBX.out; have h3 := lt_of_some HB.out; omega)
  obtain ⟨bo, hbo⟩ : ∃ X, w2.heap.size = X := ⟨_, rfl⟩
  obtain ⟨ba, hba⟩ : ∃ X, w.heap.size = X := ⟨_, rfl⟩
  rw [hbo] at hbo2 NE
  rw [hba] at hba2 NE
  rw [hba, hbo]
  generalize (w2.alloc (.cells #[.int .u8 2, .int .i64 nn, .slice Ar r.length cr, .slice As s.length cs, .slice Ap p.length cp] 54)).drewN d4 = w5 at *
  have HO2 := Lib.hid hbo2
  have HA2 := Lib.hid hba2
  have HR2 := Lib.hid hbr2
  obtain ⟨t0, t1, t2, t3, t4⟩ := box_at hbo2
  have r0 : w5.cell? ⟨b, 0, none⟩ = some (.slice (some ad) nx c) := by simp [World.cell?, hbr2]
  have r1 : w5.cell? ⟨b, 1, none⟩ = some (.int .i64 (a : Int)) := by simp [World.cell?, hbr2]
  have fz2 := box_thaw hbo2 2
  have fzr := box_thaw hbr2 1
  obtain ⟨A9, hA9⟩ : ∃ X, advS Ar cr a 1 = X := ⟨_, rfl⟩
  obtain ⟨c9, hc9⟩ : ∃ X, cr - a = X := ⟨_, rfl⟩
  obtain ⟨en, hen⟩ : ∃ X, a + q = X := ⟨_, rfl⟩
  have HEN := Lib.hid hen
  have hae : (a : Int) + (q : Int) = (en : Int) := by rw [← hen]; exact (Int.natCast_add a q).symm
  have hbe : -9223372036854775808 ≤ (en : Int) ∧ (en : Int) ≤ 9223372036854775807 := by have h1 := LO.out.1; have h2 := HQ.out.2.1; omega
  have hsum : wrap64 ((a : Int) + (q : Int)) = (en : Int) := by rw [hae]; exact w64_in _ hbe
  have hsum2 : IntKind.i64.wrap ((a : Int) + (q : Int)) = (en : Int) := by rw [hae]; exact IntWalk.i64_in _ hbe
  have HAE := Lib.hid hae
  clear hbe hae
  have HCR : Hid (en ≤ cr) := Lib.hid (by rw [← hen]; exact Nat.le_trans HQ.out.2.1 HC0.out)
  have sl1 : ∀ W, (Instr.slice 50 (.slice Ar r.length cr) (some (.int .i64 (a : Int))) (some (.int .i64 (en : Int))) none).run Tryz.prog W = .ok (.slice A9 q c9) W := sl_both Tryz.slI32 Tryz.elI32r Tryz.szI32r rfl rfl hA9 (by rw [← hen]; exact Nat.add_sub_cancel_left a q) hc9 (by rw [← hen]; exact Nat.le_add_right a q) HCR.out
  clear hen
  clear hbo2 hba2 hbr2
  go_upto_region 6 with fail
  go_still_tail 14, (by kernel_rfl)
  change wpList _ _ _ _ _ w5.drew
  have HO3 : Hid (w5.drew.heap[bo]? = _) := Lib.hid HO2.out
  have HA3 : Hid (w5.drew.heap[ba]? = _) := Lib.hid HA2.out
  have HR3 : Hid (w5.drew.heap[b]? = _) := Lib.hid HR2.out
  have Y5 := Lib.hid (ext_trans Y4.out (ext_drew w5 1))
  have Y5' : Hid (Below w.heap.size w w5.drew) := Lib.hid Y5.out
  clear t0 t1 t2 t3 t4 r0 r1 fz2 fzr Y4 HO2 HA2 HR2 Y5
  generalize w5.drew = w6 at *
  obtain ⟨t0, t1, t2, t3, t4⟩ := box_at HO3.out
  have r0 : w6.cell? ⟨b, 0, none⟩ = some (.slice (some ad) nx c) := by simp [World.cell?, HR3.out]
  have r1 : w6.cell? ⟨b, 1, none⟩ = some (.int .i64 (a : Int)) := by simp [World.cell?, HR3.out]
  have fz2 := box_thaw HO3.out 2
  have fzr := box_thaw HR3.out 1
  -- behind both stores
  have ho7 : ((w6.setCell ⟨bo, 2, none⟩ (.slice A9 q c9)).setCell ⟨b, 1, none⟩ (.int .i64 (en : Int))).heap[bo]? = some (.cells #[.int .u8 2, .int .i64 nn, .slice A9 q c9, .slice As s.length cs, .slice Ap p.length cp] 54 (0, 0)) := by
    rw [Below.heap_setCell _ ⟨b, 1, none⟩ _ bo (fun e => NE.out.2.1 e.symm)]
    simpa using heap_setCell_self (j := 2) HO3.out (.slice A9 q c9)
  have ha7 : ((w6.setCell ⟨bo, 2, none⟩ (.slice A9 q c9)).setCell ⟨b, 1, none⟩ (.int .i64 (en : Int))).heap[ba]? = some (.cells #[.int .u8 0, .int .i64 0, .slice none 0 0, .slice none 0 0, .slice none 0 0] 54 (0, 0)) := by
    rw [Below.heap_setCell _ ⟨b, 1, none⟩ _ ba (fun e => NE.out.2.2.1 e.symm), Below.heap_setCell _ ⟨bo, 2, none⟩ _ ba NE.out.1]
    exact HA3.out
  have hr7 : ((w6.setCell ⟨bo, 2, none⟩ (.slice A9 q c9)).setCell ⟨b, 1, none⟩ (.int .i64 (en : Int))).heap[b]? = some (.cells #[.slice (some ad) nx c, .int .i64 (en : Int)] 115 (0, 0)) := by
    have h1 : (w6.setCell ⟨bo, 2, none⟩ (.slice A9 q c9)).heap[b]? = some (.cells #[.slice (some ad) nx c, .int .i64 (a : Int)] 115 (0, 0)) := (Below.heap_setCell _ ⟨bo, 2, none⟩ _ b NE.out.2.1).trans HR3.out
    simpa using heap_setCell_self (j := 1) h1 (.int .i64 (en : Int))
  have g7 : Hid (Grow w (fun k => k = b) ((w6.setCell ⟨bo, 2, none⟩ (.slice A9 q c9)).setCell ⟨b, 1, none⟩ (.int .i64 (en : Int))) (fun k => k = b)) := Lib.hid
    ((Grow.of (Y5'.out.setCell (p := ⟨bo, 2, none⟩) (by have := NE.out; simp only; omega) _)).trans (setCell_below (F := fun k => k = b) b 1 _ rfl 0))
  have HO7 := Lib.hid ho7
  have HA7 := Lib.hid ha7
  have HR7 := Lib.hid hr7
  clear ho7 ha7 hr7
  go_wp2_with (go_at_call 134; refine Hid.out ?_)
  refine Lib.hid ?_
  have Y7 := Lib.hid (Y.trans (g7.out.below (fun k hk => by omega) Y.size))
  refine (left_any b (some ad) nx c _ t en w0 _ HR7.out HX.out OP.out (by rw [HLO.out]; exact LO.out.1) (by rw [HLO.out, ← HEN.out]; exact HQ.out.2.1) Y7.out).mono ?_
  rw [HLO.out]
  rintro e w8' ⟨rfl, d8, rfl⟩
  have HO8 : Hid ((((w6.setCell ⟨bo, 2, none⟩ (.slice A9 q c9)).setCell ⟨b, 1, none⟩ (.int .i64 (en : Int))).drewN d8).heap[bo]? = _) := Lib.hid HO7.out
  have HA8 : Hid ((((w6.setCell ⟨bo, 2, none⟩ (.slice A9 q c9)).setCell ⟨b, 1, none⟩ (.int .i64 (en : Int))).drewN d8).heap[ba]? = _) := Lib.hid HA7.out
  have HR8 : Hid ((((w6.setCell ⟨bo, 2, none⟩ (.slice A9 q c9)).setCell ⟨b, 1, none⟩ (.int .i64 (en : Int))).drewN d8).heap[b]? = _) := Lib.hid HR7.out
  have G8 := Lib.hid (g7.out.trans (Grow.of (ext_drew _ d8)))
  clear t0 t1 t2 t3 t4 r0 r1 fz2 fzr HO7 HA7 HR7 g7 Y7
  generalize ((w6.setCell ⟨bo, 2, none⟩ (.slice A9 q c9)).setCell ⟨b, 1, none⟩ (.int .i64 (en : Int))).drewN d8 = w8 at *
  have RES : Hid (tookV ((⟨⟨2, nn, r, s, p⟩, Ar, cr, As, cs, Ap, cp⟩ : OpS) :: t) a n ⟨2, nn, (r.drop a).take q, s, p⟩ (if en = L then t else (⟨⟨2, nn, r, s, p⟩, Ar, cr, As, cs, Ap, cp⟩ : OpS) :: t) (if en = L then 0 else en)) := Lib.hid (by
    have e1 := HLO.out
    have e2 := HQ.out
    have e3 := HEN.out
    refine ⟨?_, ?_⟩
    · show _ = cutO (⟨2, nn, r, s, p⟩ : Opd) a (min n (lenO (⟨2, nn, r, s, p⟩ : Opd) - a))
      rw [e1, ← e2.2.2]
      unfold cutO
      rw [if_pos rfl]
    · show (a + min n (lenO (⟨2, nn, r, s, p⟩ : Opd) - a) = lenO (⟨2, nn, r, s, p⟩ : Opd) ∧ _) ∨ (a + min n (lenO (⟨2, nn, r, s, p⟩ : Opd) - a) < lenO (⟨2, nn, r, s, p⟩ : Opd) ∧ _)
      rw [e1, ← e2.2.2, e3]
      by_cases hz : en = L
      · rw [if_pos hz, if_pos hz]; exact .inl ⟨hz, rfl, rfl⟩
      · rw [if_neg hz, if_neg hz]; exact .inr ⟨by omega, rfl, rfl⟩)
  have TL : Hid (((r.drop a).take q).length = q) := Lib.hid (by rw [List.length_take, List.length_drop, HLL.out]; have := HQ.out; omega)
  have OIN : Hid (OpIn w0 ⟨⟨2, nn, (r.drop a).take q, s, p⟩, A9, c9, As, cs, Ap, cp⟩ ∧ capO ⟨⟨2, nn, (r.drop a).take q, s, p⟩, A9, c9, As, cs, Ap, cp⟩ ∧ okOp (⟨2, nn, (r.drop a).take q, s, p⟩ : Opd)) := Lib.hid (by
    obtain ⟨o1, o2, o3, o4, o5⟩ := KX.out
    simp only at o1 o2 o3 o4 o5
    refine ⟨⟨?_, RX.out.2.1, RX.out.2.2, ?_, ?_, ?_⟩, ⟨⟨?_, ?_⟩, CX.out.2.1, CX.out.2.2⟩, ⟨o1, o2, ?_, o4, o5⟩⟩
    · have h := RX.out.1.advS (k := a) (by have := LO.out; have := HLL.out; omega) CX.out.1.1
      rw [hA9] at h
      exact h.take q
    · show ((r.drop a).take q).length ≤ _; rw [TL.out]; have := HQ.out; have := LO.out; omega
    · show s.length ≤ _; omega
    · show p.length ≤ _; omega
    · show ((r.drop a).take q).length ≤ c9; rw [TL.out]; have := HCR.out; have := HEN.out; omega
    · show c9 ≤ _; have := CX.out.1.2; simp only at this; omega
    · show ((r.drop a).take q).length ≤ _; rw [TL.out]; have := HQ.out; have := HLL.out; omega)
  by_cases hz : en = L
  · have hz0 : (((L - en : Nat) : Int) == 0) = true := by rw [hz, Nat.sub_self]; rfl
    obtain ⟨A10, hA10⟩ : ∃ X, advS (some ad) c 1 5 = X := ⟨_, rfl⟩
    obtain ⟨c10, hc10⟩ : ∃ X, c - 1 = X := ⟨_, rfl⟩
    obtain ⟨n10, hn10⟩ : ∃ X, nx - 1 = X := ⟨_, rfl⟩
    have sl2 : ∀ W, (Instr.slice 24 (.slice (some ad) nx c) (some (.int .i64 1)) none none).run Tryz.prog W = .ok (.slice A10 n10 c10) W := sl_from (k := 1) Tryz.slOp0 Tryz.elOpD size_opD rfl hA10 hn10 hc10 hnx HX.out.cap
    have HX10 : Hid (OpsC w0 A10 n10 c10 t) := Lib.hid (by
      have h1 := HX.out
      have hl := h1.at_.len
      simp only [List.length_cons] at hl
      have h2 := h1.at_.rd.1.advS (k := 1) (by simp) (by simp only [List.length_cons]; have := h1.cap; omega : _ ≤ c)
      rw [hA10] at h2
      exact ⟨⟨⟨h2, fun z hz => h1.at_.rd.2 z (List.mem_cons_of_mem _ hz)⟩, by omega, fun z hz => h1.at_.ok z (List.mem_cons_of_mem _ hz), by have := h1.at_.b; omega⟩, by have := h1.cap; omega, by have := h1.cm; omega, fun z hz => h1.caps z (List.mem_cons_of_mem _ hz)⟩)
    have r0 : w8.cell? ⟨b, 0, none⟩ = some (.slice (some ad) nx c) := by simp [World.cell?, HR8.out]
    have r1 : w8.cell? ⟨b, 1, none⟩ = some (.int .i64 (en : Int)) := by simp [World.cell?, HR8.out]
    have fzb0 := box_thaw HR8.out 0
    have fzb1 := box_thaw HR8.out 1
    have ho9 : ((w8.setCell ⟨b, 0, none⟩ (.slice A10 n10 c10)).setCell ⟨b, 1, none⟩ (.int .i64 0)).heap[bo]? = _ := ((Below.heap_setCell _ ⟨b, 1, none⟩ _ bo (fun e => NE.out.2.1 e.symm)).trans (Below.heap_setCell _ ⟨b, 0, none⟩ _ bo (fun e => NE.out.2.1 e.symm))).trans HO8.out
    have ha9 : ((w8.setCell ⟨b, 0, none⟩ (.slice A10 n10 c10)).setCell ⟨b, 1, none⟩ (.int .i64 0)).heap[ba]? = _ := ((Below.heap_setCell _ ⟨b, 1, none⟩ _ ba (fun e => NE.out.2.2.1 e.symm)).trans (Below.heap_setCell _ ⟨b, 0, none⟩ _ ba (fun e => NE.out.2.2.1 e.symm))).trans HA8.out
    have hr9 : ((w8.setCell ⟨b, 0, none⟩ (.slice A10 n10 c10)).setCell ⟨b, 1, none⟩ (.int .i64 0)).heap[b]? = some (.cells #[.slice A10 n10 c10, .int .i64 0] 115 (0, 0)) := by
      have h1 := heap_setCell_self (j := 0) HR8.out (.slice A10 n10 c10)
      simpa using heap_setCell_self (j := 1) h1 (.int .i64 0)
    have G9 := Lib.hid (G8.out.trans ((setCell_below (w := w8) (F := fun k => k = b) b 0 (.slice A10 n10 c10) rfl 0).trans (setCell_below (w := w8.setCell ⟨b, 0, none⟩ (.slice A10 n10 c10)) (F := fun k => k = b) b 1 (.int .i64 0) rfl 0)))
    have HO9 := Lib.hid ho9
    have HA9 := Lib.hid ha9
    have HR9 := Lib.hid hr9
    clear ho9 ha9 hr9
    obtain ⟨u0, u1, u2, u3, u4⟩ := box_at HO9.out
    obtain ⟨v0, v1, v2, v3, v4⟩ := box_at HA9.out
    have f0 := box_thaw HA9.out 0
    have f1 := box_thaw HA9.out 1
    have f2 := box_thaw HA9.out 2
    have f3 := box_thaw HA9.out 3
    have f4 := box_thaw HA9.out 4
    go_wp2_with (fail)
    refine bodyPost_ret (results_cell_row (P := Tryz.prog) rfl _ _ ba 54 #[.int .u8 2, .int .i64 nn, .slice A9 q c9, .slice As s.length cs, .slice Ap p.length cp] (0, 0) _ rfl (set5 HA9.out _ _ _ _ _) Tryz.unOp rfl Tryz.szOp9) rfl ?_
    have hres := RES.out
    rw [if_pos hz, if_pos hz] at hres
    have y10 := below_set5 (Below.refl ba ((w8.setCell ⟨b, 0, none⟩ (.slice A10 n10 c10)).setCell ⟨b, 1, none⟩ (.int .i64 0))) (Nat.le_refl ba) (.int .u8 2) (.int .i64 nn) (.slice A9 q c9) (.slice As s.length cs) (.slice Ap p.length cp)
    refine ⟨⟨⟨2, nn, (r.drop a).take q, s, p⟩, A9, c9, As, cs, Ap, cp⟩, t, 0, by unfold OpS.val; simp only; rw [TL.out], hres, OIN.out.1, OIN.out.2.1, OIN.out.2.2, ?_, G9.out.aside y10 (by omega)⟩
    exact ⟨A10, n10, c10, (y10.block b NE.out.2.2.2.2).trans HR9.out, HX10.out, fun z hz => HH.out.ops z (List.mem_cons_of_mem _ hz), fun _ => rfl, fun z s' e => by have := (lenO_of (HH.out.ops z (by rw [e]; simp)).1).1; omega⟩
  · have hz0 : (((L - en : Nat) : Int) == 0) = false := beq_eq_false_iff_ne.2 (by have := HEN.out; have := HQ.out; omega)
    have HO9 := HO8
    have HA9 := HA8
    obtain ⟨u0, u1, u2, u3, u4⟩ := box_at HO9.out
    obtain ⟨v0, v1, v2, v3, v4⟩ := box_at HA9.out
    have f0 := box_thaw HA9.out 0
    have f1 := box_thaw HA9.out 1
    have f2 := box_thaw HA9.out 2
    have f3 := box_thaw HA9.out 3
    have f4 := box_thaw HA9.out 4
    go_wp2_with (fail)
    refine bodyPost_ret (results_cell_row (P := Tryz.prog) rfl _ _ ba 54 #[.int .u8 2, .int .i64 nn, .slice A9 q c9, .slice As s.length cs, .slice Ap p.length cp] (0, 0) _ rfl (set5 HA9.out _ _ _ _ _) Tryz.unOp rfl Tryz.szOp9) rfl ?_
    have hres := RES.out
    rw [if_neg hz, if_neg hz] at hres
    have y10 := below_set5 (Below.refl ba w8) (Nat.le_refl ba) (.int .u8 2) (.int .i64 nn) (.slice A9 q c9) (.slice As s.length cs) (.slice Ap p.length cp)
    refine ⟨⟨⟨2, nn, (r.drop a).take q, s, p⟩, A9, c9, As, cs, Ap, cp⟩, _, en, by unfold OpS.val; simp only; rw [TL.out], hres, OIN.out.1, OIN.out.2.1, OIN.out.2.2, ?_, G8.out.aside y10 (by omega)⟩
    refine ⟨some ad, nx, c, (y10.block b NE.out.2.2.2.2).trans HR8.out, HX.out, HH.out.ops, (fun e => by cases e), fun z s' e => ?_⟩
    injection e with e1 e2
    rw [← e1]
    show en < lenO (⟨2, nn, r, s, p⟩ : Opd)
    rw [HLO.out]
    have := HEN.out
    have := HQ.out
    omega
end Go.Proofs.YtnppoifgfehpfaaGreatDoor
/- The walk of compose.reader.take, at a retain or delete. Printed by wip/gen_rdrt.py. -/
namespace Go.Proofs.YtnppoifgfehpfaaGreatDoor
open Go.RowKit
set_option linter.unusedVariables false
set_option linter.unusedSimpArgs false

set_option maxRecDepth 100000 in
set_option maxHeartbeats 3200000 in
theorem rdrTakeN_any (b n : Nat) (o : OpS) (t : List OpS) (a : Nat) (w0 w : World) (h : Rdr w0 w b (o :: t) a) (Y : Below w0.heap.size w0 w) (hn : n ≤ 536870912) (hn1 : 1 ≤ n) (hk : o.o.k ≠ 2) (hb0 : w0.heap.size ≤ b) :
    Calls Tryz.prog 78 #[.pointer (some ⟨b, 0, none⟩), .int .i64 (n : Int)] w (Took b (o :: t) a n w0 w) := by
  have HH := Lib.hid h
  obtain ⟨A, nx, c, hb, hX, hI, _, hlt⟩ := h
  obtain ⟨h1, h2⟩ := hI o (by simp)
  have h3 := hlt o t rfl
  have hlen := hX.at_.len
  obtain ⟨ad, x, rfl, had, _, hx1, hc1⟩ := (hX.at_.rd.ext Y).1.el (i := 0) (by simp)
  have hxo : x = o := by simpa using hx1.symm
  subst hxo
  have hnx : 1 ≤ nx := by simp at hlen; omega
  have HX := Lib.hid hX
  have LO : Hid (lenO x.o ≤ 536870912 ∧ a < lenO x.o) := Lib.hid ⟨h2, h3⟩
  have OP := Lib.hid h1
  have hdec : decide ((x :: t : List OpS) = []) = false := rfl
  have RX := Lib.hid (hX.at_.rd.2 x (by simp))
  have CX := Lib.hid (hX.caps x (by simp))
  have KX := Lib.hid (hX.at_.ok x (by simp))
  have HB := Lib.hid hb
  obtain ⟨⟨k, nn, r, s, p⟩, Ar, cr, As, cs, Ap, cp⟩ := x
  simp only at hk
  have hk' : (k == 2) = false := beq_eq_false_iff_ne.2 hk
  have HK := Lib.hid hk
  clear hk
  rw [Nat.zero_mul, add_zero'] at hc1
  have hc1 := Lib.hid hc1
  clear hX hI hlt hx1 h1 h2 h3 hlen hb
  go_enter Tryz.func78, Tryz.ntmps78
  have ya := ext_alloc w (.cells #[.int .u8 0, .int .i64 0, .slice none 0 0, .slice none 0 0, .slice none 0 0] 54)
  have hba := heap_alloc_new w (.cells #[.int .u8 0, .int .i64 0, .slice none 0 0, .slice none 0 0, .slice none 0 0] 54)
  have H1 := Lib.hid (HH.out.ext ya)
  go_wp2_with (go_at_call 75; refine Hid.out ?_)
  refine Lib.hid ?_
  refine (rdrOver_any b _ a w0 _ H1.out (Y.trans (ya.mono Y.size))).mono ?_
  rw [hdec]
  rintro e w1 ⟨rfl, d, rfl⟩
  have yb := ext_trans ya (ext_drew _ d)
  have hbb : ((w.alloc (.cells #[.int .u8 0, .int .i64 0, .slice none 0 0, .slice none 0 0, .slice none 0 0] 54)).drewN d).heap[w.heap.size]? = _ := hba
  generalize (w.alloc (.cells #[.int .u8 0, .int .i64 0, .slice none 0 0, .slice none 0 0, .slice none 0 0] 54)).drewN d = w2 at *
  have HBB := Lib.hid hbb
  have YB := Lib.hid yb
  obtain ⟨z0, z1, z2, z3, z4⟩ := op_cells (hc1.out.keep (w' := w2) fun q hq => YB.out.cell (by rw [hq]; exact had))
  have hbx : w2.heap[b]? = _ := (YB.out.block b (lt_of_some HB.out)).trans HB.out
  have HBX := Lib.hid hbx
  have c0 : w2.cell? ⟨b, 0, none⟩ = some (.slice (some ad) nx c) := by simp [World.cell?, hbx]
  clear ya yb hba hbb hbx
  have H2 := Lib.hid (HH.out.ext YB.out)
  have yx := ext_alloc w2 (.cells #[.int .u8 k, .int .i64 nn, .slice Ar r.length cr, .slice As s.length cs, .slice Ap p.length cp] 54)
  have hbo := heap_alloc_new w2 (.cells #[.int .u8 k, .int .i64 nn, .slice Ar r.length cr, .slice As s.length cs, .slice Ap p.length cp] 54)
  have Y3 := Lib.hid (ext_trans YB.out yx)
  have HBO := Lib.hid hbo
  clear yx hbo
  go_wp2_with (go_at_call 134; refine Hid.out ?_)
  refine Lib.hid ?_
  refine (rdrLeft_any b _ t a w0 _ (HH.out.ext Y3.out) (Y.trans (Y3.out.mono Y.size))).mono ?_
  obtain ⟨L, hL⟩ : ∃ L, lenO (⟨k, nn, r, s, p⟩ : Opd) = L := ⟨_, rfl⟩
  have HLO := Lib.hid hL
  rw [hL] at LO ⊢
  clear hL
  rintro e w4 ⟨rfl, d4, rfl⟩
  obtain ⟨q, hq⟩ : ∃ q, min n (L - a) = q := ⟨_, rfl⟩
  have hmin : min (n : Int) ((L - a : Nat) : Int) = (q : Int) := by omega
  have HQ : Hid (1 ≤ q ∧ a + q ≤ L ∧ q = min n (L - a)) := Lib.hid (by have := LO.out; omega)
  clear hq
  have Y4 := Lib.hid (ext_trans Y3.out (ext_drew _ d4))
  have hbo2 : ((w2.alloc (.cells #[.int .u8 k, .int .i64 nn, .slice Ar r.length cr, .slice As s.length cs, .slice Ap p.length cp] 54)).drewN d4).heap[w2.heap.size]? = _ := HBO.out
  have hba2 : ((w2.alloc (.cells #[.int .u8 k, .int .i64 nn, .slice Ar r.length cr, .slice As s.length cs, .slice Ap p.length cp] 54)).drewN d4).heap[w.heap.size]? = _ := ((ext_trans (ext_alloc w2 _) (ext_drew _ d4)).block w.heap.size (lt_of_some HBB.out)).trans HBB.out
  have hbr2 : ((w2.alloc (.cells #[.int .u8 k, .int .i64 nn, .slice Ar r.length cr, .slice As s.length cs, .slice Ap p.length cp] 54)).drewN d4).heap[b]? = _ := ((ext_trans (ext_alloc w2 _) (ext_drew _ d4)).block b (lt_of_some HBX.out)).trans HBX.out
  have NE : Hid (w.heap.size ≠ w2.heap.size ∧ b ≠ w2.heap.size ∧ b ≠ w.heap.size ∧ w.heap.size < w2.heap.size ∧ b < w.heap.size) := Lib.hid (by have h1 := lt_of_some HBB.out; have h2 := lt_of_some HBX.out; have h3 := lt_of_some HB.out; omega)
  obtain ⟨bo, hbo⟩ : ∃ X, w2.heap.size = X := ⟨_, rfl⟩
  obtain ⟨ba, hba⟩ : ∃ X, w.heap.size = X := ⟨_, rfl⟩
  rw [hbo] at hbo2 NE
  rw [hba] at hba2 NE
  rw [hba, hbo]
  generalize (w2.alloc (.cells #[.int .u8 k, .int .i64 nn, .slice Ar r.length cr, .slice As s.length cs, .slice Ap p.length cp] 54)).drewN d4 = w5 at *
  have HO2 := Lib.hid hbo2
  have HA2 := Lib.hid hba2
  have HR2 := Lib.hid hbr2
  obtain ⟨t0, t1, t2, t3, t4⟩ := box_at hbo2
  have r0 : w5.cell? ⟨b, 0, none⟩ = some (.slice (some ad) nx c) := by simp [World.cell?, hbr2]
  have r1 : w5.cell? ⟨b, 1, none⟩ = some (.int .i64 (a : Int)) := by simp [World.cell?, hbr2]
  have fz2 := box_thaw hbo2 1
  have fzr := box_thaw hbr2 1
  obtain ⟨en, hen⟩ : ∃ X, a + q = X := ⟨_, rfl⟩
  have HEN := Lib.hid hen
  have hae : (a : Int) + (q : Int) = (en : Int) := by rw [← hen]; exact (Int.natCast_add a q).symm
  have hbe : -9223372036854775808 ≤ (en : Int) ∧ (en : Int) ≤ 9223372036854775807 := by have h1 := LO.out.1; have h2 := HQ.out.2.1; omega
  have hsum : wrap64 ((a : Int) + (q : Int)) = (en : Int) := by rw [hae]; exact w64_in _ hbe
  have hsum2 : IntKind.i64.wrap ((a : Int) + (q : Int)) = (en : Int) := by rw [hae]; exact IntWalk.i64_in _ hbe
  have HAE := Lib.hid hae
  clear hbe hae
  clear hen
  clear hbo2 hba2 hbr2
  have HO3 := HO2
  have HA3 := HA2
  have HR3 := HR2
  have Y5' := Y4
  have hb8 : (w5.setCell ⟨bo, 1, none⟩ (.int .i64 (q : Int))).heap[b]? = some (.cells #[.slice (some ad) nx c, .int .i64 (a : Int)] 115 (0, 0)) := (Below.heap_setCell _ ⟨bo, 1, none⟩ _ b NE.out.2.1).trans HR3.out
  have r8 : (w5.setCell ⟨bo, 1, none⟩ (.int .i64 (q : Int))).cell? ⟨b, 1, none⟩ = some (.int .i64 (a : Int)) := by
    unfold World.cell?
    rw [hb8]; rfl
  have fz8 := box_thaw hb8 1
  clear hb8
  -- behind both stores
  have ho7 : ((w5.setCell ⟨bo, 1, none⟩ (.int .i64 (q : Int))).setCell ⟨b, 1, none⟩ (.int .i64 (en : Int))).heap[bo]? = some (.cells #[.int .u8 k, .int .i64 (q : Int), .slice Ar r.length cr, .slice As s.length cs, .slice Ap p.length cp] 54 (0, 0)) := by
    rw [Below.heap_setCell _ ⟨b, 1, none⟩ _ bo (fun e => NE.out.2.1 e.symm)]
    simpa using heap_setCell_self (j := 1) HO3.out (.int .i64 (q : Int))
  have ha7 : ((w5.setCell ⟨bo, 1, none⟩ (.int .i64 (q : Int))).setCell ⟨b, 1, none⟩ (.int .i64 (en : Int))).heap[ba]? = some (.cells #[.int .u8 0, .int .i64 0, .slice none 0 0, .slice none 0 0, .slice none 0 0] 54 (0, 0)) := by
    rw [Below.heap_setCell _ ⟨b, 1, none⟩ _ ba (fun e => NE.out.2.2.1 e.symm), Below.heap_setCell _ ⟨bo, 1, none⟩ _ ba NE.out.1]
    exact HA3.out
  have hr7 : ((w5.setCell ⟨bo, 1, none⟩ (.int .i64 (q : Int))).setCell ⟨b, 1, none⟩ (.int .i64 (en : Int))).heap[b]? = some (.cells #[.slice (some ad) nx c, .int .i64 (en : Int)] 115 (0, 0)) := by
    have h1 : (w5.setCell ⟨bo, 1, none⟩ (.int .i64 (q : Int))).heap[b]? = some (.cells #[.slice (some ad) nx c, .int .i64 (a : Int)] 115 (0, 0)) := (Below.heap_setCell _ ⟨bo, 1, none⟩ _ b NE.out.2.1).trans HR3.out
    simpa using heap_setCell_self (j := 1) h1 (.int .i64 (en : Int))
  have g7 : Hid (Grow w (fun k => k = b) ((w5.setCell ⟨bo, 1, none⟩ (.int .i64 (q : Int))).setCell ⟨b, 1, none⟩ (.int .i64 (en : Int))) (fun k => k = b)) := Lib.hid
    ((Grow.of (Y5'.out.setCell (p := ⟨bo, 1, none⟩) (by have := NE.out; simp only; omega) _)).trans (setCell_below (F := fun k => k = b) b 1 _ rfl 0))
  have HO7 := Lib.hid ho7
  have HA7 := Lib.hid ha7
  have HR7 := Lib.hid hr7
  clear ho7 ha7 hr7
  go_wp2_with (go_at_call 134; refine Hid.out ?_)
  refine Lib.hid ?_
  have Y7 := Lib.hid (Y.trans (g7.out.below (fun k hk => by omega) Y.size))
  refine (left_any b (some ad) nx c _ t en w0 _ HR7.out HX.out OP.out (by rw [HLO.out]; exact LO.out.1) (by rw [HLO.out, ← HEN.out]; exact HQ.out.2.1) Y7.out).mono ?_
  rw [HLO.out]
  rintro e w8' ⟨rfl, d8, rfl⟩
  have HO8 : Hid ((((w5.setCell ⟨bo, 1, none⟩ (.int .i64 (q : Int))).setCell ⟨b, 1, none⟩ (.int .i64 (en : Int))).drewN d8).heap[bo]? = _) := Lib.hid HO7.out
  have HA8 : Hid ((((w5.setCell ⟨bo, 1, none⟩ (.int .i64 (q : Int))).setCell ⟨b, 1, none⟩ (.int .i64 (en : Int))).drewN d8).heap[ba]? = _) := Lib.hid HA7.out
  have HR8 : Hid ((((w5.setCell ⟨bo, 1, none⟩ (.int .i64 (q : Int))).setCell ⟨b, 1, none⟩ (.int .i64 (en : Int))).drewN d8).heap[b]? = _) := Lib.hid HR7.out
  have G8 := Lib.hid (g7.out.trans (Grow.of (ext_drew _ d8)))
  clear t0 t1 t2 t3 t4 r0 r1 fz2 fzr HO7 HA7 HR7 g7 Y7
  generalize ((w5.setCell ⟨bo, 1, none⟩ (.int .i64 (q : Int))).setCell ⟨b, 1, none⟩ (.int .i64 (en : Int))).drewN d8 = w8 at *
  have RES : Hid (tookV ((⟨⟨k, nn, r, s, p⟩, Ar, cr, As, cs, Ap, cp⟩ : OpS) :: t) a n ⟨k, (q : Int), r, s, p⟩ (if en = L then t else (⟨⟨k, nn, r, s, p⟩, Ar, cr, As, cs, Ap, cp⟩ : OpS) :: t) (if en = L then 0 else en)) := Lib.hid (by
    have e1 := HLO.out
    have e2 := HQ.out
    have e3 := HEN.out
    refine ⟨?_, ?_⟩
    · show _ = cutO (⟨k, nn, r, s, p⟩ : Opd) a (min n (lenO (⟨k, nn, r, s, p⟩ : Opd) - a))
      rw [e1, ← e2.2.2]
      unfold cutO
      rw [if_neg HK.out]
    · show (a + min n (lenO (⟨k, nn, r, s, p⟩ : Opd) - a) = lenO (⟨k, nn, r, s, p⟩ : Opd) ∧ _) ∨ (a + min n (lenO (⟨k, nn, r, s, p⟩ : Opd) - a) < lenO (⟨k, nn, r, s, p⟩ : Opd) ∧ _)
      rw [e1, ← e2.2.2, e3]
      by_cases hz : en = L
      · rw [if_pos hz, if_pos hz]; exact .inl ⟨hz, rfl, rfl⟩
      · rw [if_neg hz, if_neg hz]; exact .inr ⟨by omega, rfl, rfl⟩)
  have OIN : Hid (OpIn w0 ⟨⟨k, (q : Int), r, s, p⟩, Ar, cr, As, cs, Ap, cp⟩ ∧ capO ⟨⟨k, (q : Int), r, s, p⟩, Ar, cr, As, cs, Ap, cp⟩ ∧ okOp (⟨k, (q : Int), r, s, p⟩ : Opd)) := Lib.hid (by
    obtain ⟨o1, o2, o3, o4, o5⟩ := KX.out
    simp only at o1 o2 o3 o4 o5
    exact ⟨⟨RX.out.1, RX.out.2.1, RX.out.2.2, by simp only; omega, by simp only; omega, by simp only; omega⟩, CX.out, ⟨o1, o2, o3, o4, o5⟩⟩)
  by_cases hz : en = L
  · have hz0 : (((L - en : Nat) : Int) == 0) = true := by rw [hz, Nat.sub_self]; rfl
    obtain ⟨A10, hA10⟩ : ∃ X, advS (some ad) c 1 5 = X := ⟨_, rfl⟩
    obtain ⟨c10, hc10⟩ : ∃ X, c - 1 = X := ⟨_, rfl⟩
    obtain ⟨n10, hn10⟩ : ∃ X, nx - 1 = X := ⟨_, rfl⟩
    have sl2 : ∀ W, (Instr.slice 24 (.slice (some ad) nx c) (some (.int .i64 1)) none none).run Tryz.prog W = .ok (.slice A10 n10 c10) W := sl_from (k := 1) Tryz.slOp0 Tryz.elOpD size_opD rfl hA10 hn10 hc10 hnx HX.out.cap
    have HX10 : Hid (OpsC w0 A10 n10 c10 t) := Lib.hid (by
      have h1 := HX.out
      have hl := h1.at_.len
      simp only [List.length_cons] at hl
      have h2 := h1.at_.rd.1.advS (k := 1) (by simp) (by simp only [List.length_cons]; have := h1.cap; omega : _ ≤ c)
      rw [hA10] at h2
      exact ⟨⟨⟨h2, fun z hz => h1.at_.rd.2 z (List.mem_cons_of_mem _ hz)⟩, by omega, fun z hz => h1.at_.ok z (List.mem_cons_of_mem _ hz), by have := h1.at_.b; omega⟩, by have := h1.cap; omega, by have := h1.cm; omega, fun z hz => h1.caps z (List.mem_cons_of_mem _ hz)⟩)
    have r0 : w8.cell? ⟨b, 0, none⟩ = some (.slice (some ad) nx c) := by simp [World.cell?, HR8.out]
    have r1 : w8.cell? ⟨b, 1, none⟩ = some (.int .i64 (en : Int)) := by simp [World.cell?, HR8.out]
    have fzb0 := box_thaw HR8.out 0
    have fzb1 := box_thaw HR8.out 1
    have ho9 : ((w8.setCell ⟨b, 0, none⟩ (.slice A10 n10 c10)).setCell ⟨b, 1, none⟩ (.int .i64 0)).heap[bo]? = _ := ((Below.heap_setCell _ ⟨b, 1, none⟩ _ bo (fun e => NE.out.2.1 e.symm)).trans (Below.heap_setCell _ ⟨b, 0, none⟩ _ bo (fun e => NE.out.2.1 e.symm))).trans HO8.out
    have ha9 : ((w8.setCell ⟨b, 0, none⟩ (.slice A10 n10 c10)).setCell ⟨b, 1, none⟩ (.int .i64 0)).heap[ba]? = _ := ((Below.heap_setCell _ ⟨b, 1, none⟩ _ ba (fun e => NE.out.2.2.1 e.symm)).trans (Below.heap_setCell _ ⟨b, 0, none⟩ _ ba (fun e => NE.out.2.2.1 e.symm))).trans HA8.out
    have hr9 : ((w8.setCell ⟨b, 0, none⟩ (.slice A10 n10 c10)).setCell ⟨b, 1, none⟩ (.int .i64 0)).heap[b]? = some (.cells #[.slice A10 n10 c10, .int .i64 0] 115 (0, 0)) := by
      have h1 := heap_setCell_self (j := 0) HR8.out (.slice A10 n10 c10)
      simpa using heap_setCell_self (j := 1) h1 (.int .i64 0)
    have G9 := Lib.hid (G8.out.trans ((setCell_below (w := w8) (F := fun k => k = b) b 0 (.slice A10 n10 c10) rfl 0).trans (setCell_below (w := w8.setCell ⟨b, 0, none⟩ (.slice A10 n10 c10)) (F := fun k => k = b) b 1 (.int .i64 0) rfl 0)))
    have HO9 := Lib.hid ho9
    have HA9 := Lib.hid ha9
    have HR9 := Lib.hid hr9
    clear ho9 ha9 hr9
    obtain ⟨u0, u1, u2, u3, u4⟩ := box_at HO9.out
    obtain ⟨v0, v1, v2, v3, v4⟩ := box_at HA9.out
    have f0 := box_thaw HA9.out 0
    have f1 := box_thaw HA9.out 1
    have f2 := box_thaw HA9.out 2
    have f3 := box_thaw HA9.out 3
    have f4 := box_thaw HA9.out 4
    go_wp2_with (fail)
    refine bodyPost_ret (results_cell_row (P := Tryz.prog) rfl _ _ ba 54 #[.int .u8 k, .int .i64 (q : Int), .slice Ar r.length cr, .slice As s.length cs, .slice Ap p.length cp] (0, 0) _ rfl (set5 HA9.out _ _ _ _ _) Tryz.unOp rfl Tryz.szOp9) rfl ?_
    have hres := RES.out
    rw [if_pos hz, if_pos hz] at hres
    have y10 := below_set5 (Below.refl ba ((w8.setCell ⟨b, 0, none⟩ (.slice A10 n10 c10)).setCell ⟨b, 1, none⟩ (.int .i64 0))) (Nat.le_refl ba) (.int .u8 k) (.int .i64 (q : Int)) (.slice Ar r.length cr) (.slice As s.length cs) (.slice Ap p.length cp)
    refine ⟨⟨⟨k, (q : Int), r, s, p⟩, Ar, cr, As, cs, Ap, cp⟩, t, 0, rfl, hres, OIN.out.1, OIN.out.2.1, OIN.out.2.2, ?_, G9.out.aside y10 (by omega)⟩
    exact ⟨A10, n10, c10, (y10.block b NE.out.2.2.2.2).trans HR9.out, HX10.out, fun z hz => HH.out.ops z (List.mem_cons_of_mem _ hz), fun _ => rfl, fun z s' e => by have := (lenO_of (HH.out.ops z (by rw [e]; simp)).1).1; omega⟩
  · have hz0 : (((L - en : Nat) : Int) == 0) = false := beq_eq_false_iff_ne.2 (by have := HEN.out; have := HQ.out; omega)
    have HO9 := HO8
    have HA9 := HA8
    obtain ⟨u0, u1, u2, u3, u4⟩ := box_at HO9.out
    obtain ⟨v0, v1, v2, v3, v4⟩ := box_at HA9.out
    have f0 := box_thaw HA9.out 0
    have f1 := box_thaw HA9.out 1
    have f2 := box_thaw HA9.out 2
    have f3 := box_thaw HA9.out 3
    have f4 := box_thaw HA9.out 4
    go_wp2_with (fail)
    refine bodyPost_ret (results_cell_row (P := Tryz.prog) rfl _ _ ba 54 #[.int .u8 k, .int .i64 (q : Int), .slice Ar r.length cr, .slice As s.length cs, .slice Ap p.length cp] (0, 0) _ rfl (set5 HA9.out _ _ _ _ _) Tryz.unOp rfl Tryz.szOp9) rfl ?_
    have hres := RES.out
    rw [if_neg hz, if_neg hz] at hres
    have y10 := below_set5 (Below.refl ba w8) (Nat.le_refl ba) (.int .u8 k) (.int .i64 (q : Int)) (.slice Ar r.length cr) (.slice As s.length cs) (.slice Ap p.length cp)
    refine ⟨⟨⟨k, (q : Int), r, s, p⟩, Ar, cr, As, cs, Ap, cp⟩, _, en, rfl, hres, OIN.out.1, OIN.out.2.1, OIN.out.2.2, ?_, G8.out.aside y10 (by omega)⟩
    refine ⟨some ad, nx, c, (y10.block b NE.out.2.2.2.2).trans HR8.out, HX.out, HH.out.ops, (fun e => by cases e), fun z s' e => ?_⟩
    injection e with e1 e2
    rw [← e1]
    show en < lenO (⟨k, nn, r, s, p⟩ : Opd)
    rw [HLO.out]
    have := HEN.out
    have := HQ.out
    omega
/-- take, whatever comes first -/
theorem rdrTake_any (b n : Nat) (X : List OpS) (a : Nat) (w0 w : World) (h : Rdr w0 w b X a) (Y : Below w0.heap.size w0 w) (hn : n ≤ 536870912) (hn1 : 1 ≤ n) (hb0 : w0.heap.size ≤ b) :
    Calls Tryz.prog 78 #[.pointer (some ⟨b, 0, none⟩), .int .i64 (n : Int)] w (Took b X a n w0 w) := by
  cases X with
  | nil =>
    have ha : a = 0 := by obtain ⟨A, m, c, _, _, _, h1, _⟩ := h; exact h1 rfl
    subst ha
    exact rdrTake0_any b n w0 w h Y hn
  | cons o t =>
    by_cases hk : o.o.k = 2
    · exact rdrTakeI_any b n o t a w0 w h Y hn hn1 hk hb0
    · exact rdrTakeN_any b n o t a w0 w h Y hn hn1 hk hb0
end Go.Proofs.YtnppoifgfehpfaaGreatDoor
/- The walk of compose.Compose at deltas that may be. -/
namespace Go.Proofs.YtnppoifgfehpfaaGreatDoor
open Go.RowKit
set_option linter.unusedVariables false
set_option linter.unusedSimpArgs false

/-- both readers and the maker -/
structure CSt (w wr : World) (b bu bv : Nat) (X : List OpS) (a : Nat) (Y : List OpS) (c : Nat) (m : Mk) : Prop where
  x : Rdr w wr bu X a
  y : Rdr w wr bv Y c
  m : ∃ F, Mkr wr F b m ∧ (∀ k, F k → w.heap.size ≤ k) ∧ ¬ F bu ∧ ¬ F bv
  ne : bu ≠ bv
  lu : w.heap.size ≤ bu
  lv : w.heap.size ≤ bv
  below : Below w.heap.size w wr
theorem CSt.more {w wr w2 : World} {b bu bv a c : Nat} {X Y : List OpS} {m : Mk} (h : CSt w wr b bu bv X a Y c m) (y : Below wr.heap.size wr w2) : CSt w w2 b bu bv X a Y c m := by
  obtain ⟨h1, h2, ⟨F, h3, h4, h5, h6⟩, h7, h8, h9, h10⟩ := h
  exact ⟨h1.ext y, h2.ext y, ⟨F, h3.below y, h4, h5, h6⟩, h7, h8, h9, h10.trans (y.mono h10.size)⟩
theorem Rdr.box {w0 w : World} {b a : Nat} {X : List OpS} (h : Rdr w0 w b X a) : ∃ A n c, w.heap[b]? = some (.cells #[.slice A n c, .int .i64 (a : Int)] 115 (0, 0)) := by
  obtain ⟨A, n, c, hb, _⟩ := h; exact ⟨A, n, c, hb⟩
theorem CSt.tookX {w wr w2 : World} {b bu bv a c a' : Nat} {X Y X' : List OpS} {m : Mk} (h : CSt w wr b bu bv X a Y c m) (hr : Rdr w w2 bu X' a') (g : Grow wr (fun k => k = bu) w2 (fun k => k = bu)) : CSt w w2 b bu bv X' a' Y c m := by
  obtain ⟨h1, h2, ⟨F, h3, h4, h5, h6⟩, h7, h8, h9, h10⟩ := h
  obtain ⟨A, n, cc, hb⟩ := h1.box
  exact ⟨hr, h2.keep (g.block bv h2.lt (fun e => h7 e.symm)), ⟨F, h3.beside hb (NoPart.rdr _ _ _ _) h5 g, h4, h5, h6⟩, h7, h8, h9, h10.trans (g.below (fun k hk => by omega) h10.size)⟩
theorem CSt.tookY {w wr w2 : World} {b bu bv a c c' : Nat} {X Y Y' : List OpS} {m : Mk} (h : CSt w wr b bu bv X a Y c m) (hr : Rdr w w2 bv Y' c') (g : Grow wr (fun k => k = bv) w2 (fun k => k = bv)) : CSt w w2 b bu bv X a Y' c' m := by
  obtain ⟨h1, h2, ⟨F, h3, h4, h5, h6⟩, h7, h8, h9, h10⟩ := h
  obtain ⟨A, n, cc, hb⟩ := h2.box
  exact ⟨h1.keep (g.block bu h1.lt (fun e => h7 e)), hr, ⟨F, h3.beside hb (NoPart.rdr _ _ _ _) h6 g, h4, h5, h6⟩, h7, h8, h9, h10.trans (g.below (fun k hk => by omega) h10.size)⟩
/-- behind a call on the maker -/
theorem CSt.told {w wr w2 : World} {b bu bv a c : Nat} {X Y : List OpS} {m m2 : Mk} {F F2 : Nat → Prop} (h : CSt w wr b bu bv X a Y c m) (low : ∀ k, F k → w.heap.size ≤ k) (nu : ¬ F bu) (nv : ¬ F bv) (hm : Mkr w2 F2 b m2) (g : Grow wr F w2 F2) : CSt w w2 b bu bv X a Y c m2 := by
  obtain ⟨h1, h2, _, h7, h8, h9, h10⟩ := h
  exact ⟨h1.keep (g.block bu h1.lt nu), h2.keep (g.block bv h2.lt nv), ⟨F2, hm, g.low low h10.size, g.out h1.lt nu, g.out h2.lt nv⟩, h7, h8, h9, h10.trans (g.below low h10.size)⟩
/-- why one of two deltas may not be -/
def mayC (l : List Ky) (x y : List OpS) : Int := if mayO l x = 0 ∨ mayO l y = 3 then mayO l y else mayO l x
set_option maxHeartbeats 1600000 in
theorem cmay_any (s : Nat) (l : List Ky) (Ax Ay : Option Addr) (nx cx ny cy : Nat) (x y : List OpS) (w : World) (hX : OpsAt w Ax nx x) (hY : OpsAt w Ay ny y) (hS : Sch w s l) (hT : Lib.Utf8Tabs 1 2 w) {r : Int} (hr : mayC l x y = r) :
    Calls Tryz.prog 74 #[.pointer (some ⟨s, 0, none⟩), .slice Ax nx cx, .slice Ay ny cy] w fun e w' => e = .returned (.int .i64 r) ∧ Below w.heap.size w w' := by
  have XX := Lib.hid hX
  have YY := Lib.hid hY
  have HS := Lib.hid hS
  have HR := Lib.hid hr
  clear hX hY hS hr
  go_enter Tryz.func74, Tryz.ntmps74
  go_wp2_with (go_at_call 66; refine Hid.out ?_)
  refine Lib.hid ?_
  refine (mayO_any s l Ax nx cx x w XX.out.len XX.out.rd (by have := XX.out.b; omega) HS.out XX.out.ok hT).mono ?_
  obtain ⟨a, ha⟩ : ∃ a, mayO l x = a := ⟨_, rfl⟩
  have HA := Lib.hid ha
  rw [ha]
  clear ha
  rintro e w1 ⟨rfl, y1⟩
  have Y1 := Lib.hid y1
  clear y1
  go_wp2_with (go_at_call 66; refine Hid.out ?_)
  refine Lib.hid ?_
  refine (mayO_any s l Ay ny cy y w1 YY.out.len (YY.out.rd.ext Y1.out) (by have := YY.out.b; omega) (HS.out.ext Y1.out) YY.out.ok (Utf8Tabs_below hT Y1.out)).mono ?_
  obtain ⟨b, hb⟩ : ∃ b, mayO l y = b := ⟨_, rfl⟩
  have HB := Lib.hid hb
  rw [hb]
  clear hb
  rintro e w2 ⟨rfl, y2⟩
  have Y2 := Lib.hid (ext_trans Y1.out y2)
  clear y2
  have hm : Hid (r = if a = 0 ∨ b = 3 then b else a) := Lib.hid (by rw [← HR.out, ← HA.out, ← HB.out]; rfl)
  by_cases ha : a = 0
  · have hr : Hid (r = b) := Lib.hid (by rw [hm.out, if_pos (.inl ha)])
    clear hm HA HB HR
    subst ha
    go_wp2_with (fail)
    go_ret
    exact ⟨by rw [hr.out]; rfl, Y2.out⟩
  · have ha' : (a == 0) = false := beq_eq_false_iff_ne.2 ha
    by_cases hb : b = 3
    · have hr : Hid (r = b) := Lib.hid (by rw [hm.out, if_pos (.inr hb)])
      clear hm HA HB HR
      subst hb
      go_wp2_with (fail)
      go_ret
      exact ⟨by rw [hr.out]; rfl, Y2.out⟩
    · have hb' : (b == 3) = false := beq_eq_false_iff_ne.2 hb
      have hr : Hid (r = a) := Lib.hid (by rw [hm.out, if_neg (by rintro (h | h); exact ha h; exact hb h)])
      clear hm HA HB HR
      go_wp2_with (fail)
      go_ret
      exact ⟨by rw [hr.out]; rfl, Y2.out⟩
/-- two deltas that may not both be are refused -/
theorem composeBad_any (s : Nat) (l : List Ky) (Ax Ay : Option Addr) (nx cx ny cy : Nat) (x y : List OpS) (w : World) (hX : OpsAt w Ax nx x) (hY : OpsAt w Ay ny y) (hS : Sch w s l) (hT : Lib.Utf8Tabs 1 2 w) {r : Int} (hr : mayC l x y = r) (h0 : r ≠ 0) :
    Calls Tryz.prog 24 #[.pointer (some ⟨s, 0, none⟩), .slice Ax nx cx, .slice Ay ny cy] w fun e w' => e = .returned (.tuple #[.slice none 0 0, .int .i64 r]) ∧ Below w.heap.size w w' := by
  have HC := Lib.hid (cmay_any s l Ax Ay nx cx ny cy x y w hX hY hS hT hr)
  have h0' : (r != 0) = true := by rw [bne, beq_eq_false_iff_ne.2 h0]; rfl
  clear hX hY hS hr
  go_enter Tryz.func24, Tryz.ntmps24
  go_wp2_with (fail)
  go_step3
  go_wp2_with (go_at_call 74; refine Hid.out ?_)
  refine Lib.hid ?_
  refine HC.out.mono ?_
  rintro e w1 ⟨rfl, y⟩
  have Y := Lib.hid y
  clear y
  go_wp2_with (fail)
  rw [Exit.noGoto_ret]
  refine bodyPost_ret (v := .tuple #[.slice none 0 0, .int .i64 r]) (by simp [results, Tryz.results24, go_sem]) rfl ?_
  exact ⟨rfl, Y.out⟩
/-- what Compose answers of two deltas that may be: ops, or that they are too long -/
def ComOut (l : List Ky) (x y : List OpS) (w : World) (e : Ending) (w' : World) : Prop :=
  ∃ z : List OpS, osOf z = mkU (compU l (units (osOf x)) (units (osOf y))) ∧ Below w.heap.size w w' ∧ z.length ≤ 1000000 ∧
    ((¬ (takesP z > 536870912 ∨ makesP z > 536870912) ∧ ∃ A c, e = .returned (.tuple #[.slice A z.length c, .int .i64 0]) ∧ OpsC w' A z.length c z) ∨ ((takesP z > 536870912 ∨ makesP z > 536870912) ∧ e = .returned (.tuple #[.slice none 0 0, .int .i64 3])))
set_option maxRecDepth 100000 in
set_option maxHeartbeats 12800000 in
theorem composeAll_any (s : Nat) (l : List Ky) (Ax Ay : Option Addr) (nx cx ny cy : Nat) (x y : List OpS) (w : World) (hX : OpsC w Ax nx cx x) (hY : OpsC w Ay ny cy y) (hS : Sch w s l) (hl : l.length ≤ 64) (hT : Lib.Utf8Tabs 1 2 w)
    (mx : mayO l x = 0) (my : mayO l y = 0) (zx : szN x ≤ 200000) (zy : szN y ≤ 200000) :
    Calls Tryz.prog 24 #[.pointer (some ⟨s, 0, none⟩), .slice Ax nx cx, .slice Ay ny cy] w (ComOut l x y w) := by
  obtain ⟨gx, tx1, tx2⟩ := mayO_zero mx
  obtain ⟨gy, ty1, ty2⟩ := mayO_zero my
  have GX := Lib.hid gx
  have GY := Lib.hid gy
  have IX := Lib.hid (good_isOp gx)
  have IY := Lib.hid (good_isOp gy)
  obtain ⟨T, hT0⟩ : ∃ T, compU l (units (osOf x)) (units (osOf y)) = T := ⟨_, rfl⟩
  have TT := Lib.hid hT0
  have OKT : Hid (∀ u ∈ T, mU l u ∧ okUn u) := Lib.hid (by
    rw [← hT0]
    refine comp_okUn (fun u hu => ⟨good_mU gx u hu, ?_⟩) (fun u hu => ⟨good_mU gy u hu, ?_⟩) hl
    · obtain ⟨o, ho, hu⟩ := units_mem.1 hu; exact okUn_of (hX.at_.ok o ho) u hu
    · obtain ⟨o, ho, hu⟩ := units_mem.1 hu; exact okUn_of (hY.at_.ok o ho) u hu)
  have TLEN : Hid (T.length ≤ 4000000000) := Lib.hid (by
    obtain ⟨s1, s2⟩ := sums_units x (good_isOp gx)
    obtain ⟨s3, s4⟩ := sums_units y (good_isOp gy)
    have h1 := takes_sum gx (by have := hX.at_.b; have := hX.at_.len; omega)
    have h2 := makes_sum gx (by have := hX.at_.b; have := hX.at_.len; omega)
    have h3 := takes_sum gy (by have := hY.at_.b; have := hY.at_.len; omega)
    have h4 := makes_sum gy (by have := hY.at_.b; have := hY.at_.len; omega)
    have h5 := units_length (us := units (osOf x))
    have h6 := units_length (us := units (osOf y))
    have h7 := comp_len l (units (osOf y)) (units (osOf x))
    rw [hT0] at h7
    omega)
  have hmc : mayC l x y = 0 := by unfold mayC; rw [if_pos (.inl mx)]; exact my
  have HMC := Lib.hid (cmay_any s l Ax Ay nx cx ny cy x y w hX.at_ hY.at_ hS hT hmc)
  have XX := Lib.hid hX
  have YY := Lib.hid hY
  have HS := Lib.hid hS
  have H64 := Lib.hid hl
  have BX : Hid (nx ≤ 1000000 ∧ ny ≤ 1000000) := Lib.hid ⟨hX.at_.b, hY.at_.b⟩
  have HP : Hid (0 + 2 * (x.length + y.length) + insN (restU x 0) + insN (restU y 0) ≤ 800000) := Lib.hid (by
    have h1 := insN_x x (good_isOp gx)
    have h2 := insN_x y (good_isOp gy)
    show 0 + 2 * (x.length + y.length) + insN (units (osOf x)) + insN (units (osOf y)) ≤ _
    omega)
  have L1 : Hid (∀ o ∈ x, isOp o.o ∧ lenO o.o ≤ 536870912) := Lib.hid (fun o ho => ⟨IX.out o ho, by have := (lenO_of (IX.out o ho)).2; have := (one_facts (GX.out o ho)).2.2.1; omega⟩)
  have L2 : Hid (∀ o ∈ y, isOp o.o ∧ lenO o.o ≤ 536870912) := Lib.hid (fun o ho => ⟨IY.out o ho, by have := (lenO_of (IY.out o ho)).2; have := (one_facts (GY.out o ho)).2.2.1; omega⟩)
  have F1 : Hid (∀ o t, x = o :: t → 0 < lenO o.o) := Lib.hid (fun o t e => by have := (lenO_of (IX.out o (by rw [e]; simp))).1; omega)
  have F2 : Hid (∀ o t, y = o :: t → 0 < lenO o.o) := Lib.hid (fun o t e => by have := (lenO_of (IY.out o (by rw [e]; simp))).1; omega)
  clear hX hY hS hl mx my zx zy gx gy tx1 tx2 ty1 ty2 hT0 hmc
  unfold ComOut
  rw [TT.out]
  go_enter Tryz.func24, Tryz.ntmps24
  go_wp2_with (fail)
  go_step3
  go_wp2_with (go_at_call 74; refine Hid.out ?_)
  refine Lib.hid ?_
  refine HMC.out.mono ?_
  rintro e w1 ⟨rfl, y1⟩
  have Y1 := Lib.hid y1
  clear y1 HMC
  go_wp2_with (go_at_call 57; refine Hid.out ?_)
  refine Lib.hid ?_
  refine (mkNew_any w1).mono ?_
  rintro e w2 ⟨rfl, hm, y2⟩
  have HM := Lib.hid hm
  have Y2 := Lib.hid (ext_trans Y1.out y2)
  have SZ2 : Hid (w1.heap.size < w2.heap.size) := Lib.hid (HM.out.lt _ rfl)
  obtain ⟨b, hb⟩ : ∃ b, w1.heap.size = b := ⟨_, rfl⟩
  rw [hb] at HM SZ2 ⊢
  have HB : Hid (w.heap.size ≤ b) := Lib.hid (by rw [← hb]; exact Y1.out.size)
  clear hm y2 hb
  have ya := ext_alloc w2 (.cells #[.slice Ax nx cx, .int .i64 0] 115)
  have hba := heap_alloc_new w2 (.cells #[.slice Ax nx cx, .int .i64 0] 115)
  have yb := ext_alloc (w2.alloc (.cells #[.slice Ax nx cx, .int .i64 0] 115)) (.cells #[.slice Ay ny cy, .int .i64 0] 115)
  have hbb := heap_alloc_new (w2.alloc (.cells #[.slice Ax nx cx, .int .i64 0] 115)) (.cells #[.slice Ay ny cy, .int .i64 0] 115)
  have hba2 := (yb.block w2.heap.size (by simp)).trans hba
  rw [World.size_alloc] at hbb
  have YAB := Lib.hid (ext_trans ya yb)
  have C0 : Hid (CSt w ((w2.alloc (.cells #[.slice Ax nx cx, .int .i64 0] 115)).alloc (.cells #[.slice Ay ny cy, .int .i64 0] 115)) b w2.heap.size (w2.heap.size + 1) x 0 y 0 Mk.new) := Lib.hid
    ⟨⟨Ax, nx, cx, hba2, XX.out, L1.out, fun _ => rfl, F1.out⟩, ⟨Ay, ny, cy, hbb, YY.out, L2.out, fun _ => rfl, F2.out⟩,
      ⟨_, HM.out.below YAB.out, fun k hk => by have := HB.out; omega, fun h => by have := SZ2.out; omega, fun h => by have := SZ2.out; omega⟩, by omega, Y2.out.size, by have := Y2.out.size; omega, ext_trans Y2.out YAB.out⟩
  have Q0 : Hid (CQ l T 800000 x 0 y 0 Mk.new [] 0) := Lib.hid ⟨Told.new, MkB.new 64, HP.out, TT.out, GX.out, GY.out⟩
  clear ya yb hba hbb hba2
  go_wp2_with (fail)
  go_step3
  go_wp2_with (fail)
  obtain ⟨bu, hbu⟩ : ∃ X, w2.heap.size = X := ⟨_, rfl⟩
  rw [hbu] at C0 ⊢
  clear HM SZ2 YAB Y2 Y1 hbu XX YY BX HP L1 L2 F1 F2 HB
  go_loopg [12] (x.length + y.length) (fun g nv wr => ∃ (X Y : List OpS) (a c : Nat) (m : Mk) (us : List Un) (K : Nat), g = X.length + Y.length ∧ CSt w wr b bu (bu + 1) X a Y c m ∧ Hid (CQ l T 800000 X a Y c m us K))
  case atStart => exact ⟨x, y, 0, 0, Mk.new, [], 0, rfl, C0.out, Q0⟩
  case round =>
    obtain ⟨X, Y, a, c, m, us, K, hg, cs, CQ0⟩ := hrel
    have HG := Lib.hid hg
    have CS := Lib.hid cs
    clear hg cs C0 Q0
    go_wp2_with (go_at_call 75; refine Hid.out ?_)
    refine Lib.hid ?_
    refine (rdrOver_any (bu + 1) Y c w wr CS.out.y CS.out.below).mono ?_
    rintro e w3 ⟨rfl, d, rfl⟩
    have CS := Lib.hid (CS.out.more (ext_drew _ d))
    generalize wr.drewN d = w3 at *
    cases Y with
    | nil =>
      have hc0 : c = 0 := by obtain ⟨A, n, cc, _, _, _, h1, _⟩ := CS.out.y; exact h1 rfl
      subst hc0
      go_wp2_with (fail)
      go_loopg [] X.length (fun g wi => ∃ (X' : List OpS) (a' : Nat) (m' : Mk) (us' : List Un) (K' : Nat), g = X'.length ∧ CSt w wi b bu (bu + 1) X' a' [] 0 m' ∧ Hid (CQ l T 800000 X' a' [] 0 m' us' K'))
      case atStart => exact ⟨X, a, m, us, K, rfl, CS.out, CQ0⟩
      case round =>
        obtain ⟨X', a', m', us', K', hg2, cs2, CQ2⟩ := hrel
        have HG2 := Lib.hid hg2
        have CS2 := Lib.hid cs2
        clear hg2 cs2 CS CQ0
        go_wp2_with (go_at_call 75; refine Hid.out ?_)
        refine Lib.hid ?_
        refine (rdrOver_any bu X' a' w _ CS2.out.x CS2.out.below).mono ?_
        rintro e w4 ⟨rfl, d2, rfl⟩
        have CS2 := Lib.hid (CS2.out.more (ext_drew _ d2))
        generalize World.drewN _ d2 = w4 at *
        cases X' with
        | nil =>
          have ha0 : a' = 0 := by obtain ⟨A, n, cc, _, _, _, h1, _⟩ := CS2.out.x; exact h1 rfl
          subst ha0
          have EQ : Hid (us' = T) := Lib.hid (by have h := CQ2.out.eq; rw [restU_nil, compU_nil, List.append_nil] at h; exact h)
          obtain ⟨F, hm, low, nu, nv⟩ := CS2.out.m
          have TD : Hid (Told m' T) := Lib.hid (EQ.out ▸ CQ2.out.told)
          have KB : Hid (K' ≤ 800000) := Lib.hid (by have := CQ2.out.k; omega)
          go_wp2_with (go_at_call 63; refine Hid.out ?_)
          refine Lib.hid ?_
          refine (mkOps_any b w4 F m' hm (by have := CQ2.out.b.len; have := KB.out; omega) (fun o ho => by have := CQ2.out.b.gap.2 o ho; have := KB.out; omega)).mono ?_
          intro e w5 hN
          obtain ⟨Az, cz, z, rfl, hz, oz, yz⟩ := NewOps.opC hN TD.out (fun u hu => (OKT.out u hu).2) CQ2.out.b (by have := KB.out; omega) (by omega)
          have HZ := Lib.hid hz
          have OZ := Lib.hid oz
          have YZ := Lib.hid (CS2.out.below.trans (yz.mono CS2.out.below.size))
          clear hm low nu nv hN hz oz yz
          go_wp2_with (go_at_call 81; refine Hid.out ?_)
          refine Lib.hid ?_
          refine (takes_any Az z.length cz z w5 rfl OZ.out.at_.rd.1 (by have := OZ.out.at_.b; omega)).mono ?_
          obtain ⟨tk, htk⟩ : ∃ k, takesP z = k := ⟨_, rfl⟩
          have HTK := Lib.hid htk
          rw [htk]
          rintro e w6 ⟨rfl, y6⟩
          have Y6 := Lib.hid (YZ.out.trans (y6.mono YZ.out.size))
          have OZ6 := Lib.hid (OZ.out.ext y6)
          clear htk y6
          by_cases h1 : (536870912 : Int) < tk
          · have h1' : decide ((536870912 : Int) < tk) = true := decide_eq_true h1
            have H1 := Lib.hid h1
            go_wp2_with (fail)
            try rw [Exit.noGoto_ret]
            refine bodyPost_ret (v := .tuple #[.slice none 0 0, .int .i64 3]) (by simp [results, Tryz.results24, go_sem]) rfl ?_
            exact ⟨z, HZ.out, Y6.out, OZ6.out.at_.b, .inr ⟨.inl (by rw [HTK.out]; exact H1.out), rfl⟩⟩
          · have h1' : decide ((536870912 : Int) < tk) = false := decide_eq_false h1
            have H1 := Lib.hid h1
            go_wp2_with (go_at_call 82; refine Hid.out ?_)
            refine Lib.hid ?_
            refine (makes_any Az z.length cz z w6 rfl OZ6.out.at_.rd.1 (by have := OZ6.out.at_.b; omega)).mono ?_
            obtain ⟨mk, hmk⟩ : ∃ k, makesP z = k := ⟨_, rfl⟩
            have HMK := Lib.hid hmk
            rw [hmk]
            rintro e w7 ⟨rfl, y7⟩
            have Y7 := Lib.hid (Y6.out.trans (y7.mono Y6.out.size))
            have OZ7 := Lib.hid (OZ6.out.ext y7)
            clear hmk y7
            by_cases h2 : (536870912 : Int) < mk
            · have h2' : decide ((536870912 : Int) < mk) = true := decide_eq_true h2
              have H2 := Lib.hid h2
              go_wp2_with (fail)
              try rw [Exit.noGoto_ret]
              refine bodyPost_ret (v := .tuple #[.slice none 0 0, .int .i64 3]) (by simp [results, Tryz.results24, go_sem]) rfl ?_
              exact ⟨z, HZ.out, Y7.out, OZ7.out.at_.b, .inr ⟨.inr (by rw [HMK.out]; exact H2.out), rfl⟩⟩
            · have h2' : decide ((536870912 : Int) < mk) = false := decide_eq_false h2
              have H2 := Lib.hid h2
              go_wp2_with (fail)
              try rw [Exit.noGoto_ret]
              refine bodyPost_ret (v := .tuple #[.slice Az z.length cz, .int .i64 0]) (by simp [results, Tryz.results24, go_sem]) rfl ?_
              exact ⟨z, HZ.out, Y7.out, OZ7.out.at_.b, .inl ⟨by rw [HTK.out, HMK.out]; rintro (h | h); (have := H1.out; omega); (have := H2.out; omega), Az, cz, rfl, OZ7.out⟩⟩
        | cons x0 t =>
          have X0 : Hid (isOp x0.o ∧ a' < lenO x0.o ∧ lenO x0.o ≤ 536870912) := Lib.hid (by
            obtain ⟨A, n, cc, _, _, h1, _, h2⟩ := CS2.out.x
            exact ⟨(h1 x0 (by simp)).1, h2 x0 t rfl, (h1 x0 (by simp)).2⟩)
          have hdec : decide ((x0 :: t : List OpS) = []) = false := rfl
          rw [hdec]
          go_wp2_with (go_at_call 78; refine Hid.out ?_)
          refine Lib.hid ?_
          refine (rdrTake_any bu 536870912 (x0 :: t) a' w w4 CS2.out.x CS2.out.below (Nat.le_refl _) (by omega) CS2.out.lu).mono ?_
          rintro e w5 ⟨o, X9, a9, rfl, ht, hoi, hoc, hok, hr, hgr⟩
          obtain ⟨hq, hlen, s1, s2, s3⟩ := CQ.rest CQ2.out X0.out.1 X0.out.2.1 X0.out.2.2 ht TLEN.out
          have CS2 := Lib.hid (CS2.out.tookX hr hgr)
          have CQ3 := Lib.hid hq
          have HLEN := Lib.hid hlen
          have OI := Lib.hid hoi
          obtain ⟨F, hm, low, nu, nv⟩ := CS2.out.m
          clear ht hoi hoc hok hr hgr hq hlen
          go_wp2_with (go_at_call 77; refine Hid.out ?_)
          refine Lib.hid ?_
          refine (ctell_any b o w w5 F m' K' hm low CS2.out.below OI.out CQ2.out.b (by have := CQ2.out.k; omega) (by omega) s2 s3).mono ?_
          rintro e w6 ⟨rfl, F', hm', g'⟩
          have CS2 := Lib.hid (CS2.out.told low nu nv hm' g')
          clear hm low nu nv hm' g'
          go_wp2_with (fail)
          go_roundg X9.length
          case measure => have h1 := HG2.out; have h2 := HLEN.out; omega
          case rel => exact ⟨X9, a9, _, _, _, rfl, CS2.out, CQ3⟩
    | cons y0 t =>
      have Y0 : Hid (isOp y0.o ∧ c < lenO y0.o ∧ lenO y0.o ≤ 536870912) := Lib.hid (by
        obtain ⟨A, n, cc, _, _, h1, _, h2⟩ := CS.out.y
        exact ⟨(h1 y0 (by simp)).1, h2 y0 t rfl, (h1 y0 (by simp)).2⟩)
      have hdec : decide ((y0 :: t : List OpS) = []) = false := rfl
      rw [hdec]
      go_wp2_with (go_at_call 76; refine Hid.out ?_)
      refine Lib.hid ?_
      refine (rdrKind_any (bu + 1) (y0 :: t) c w w3 CS.out.y CS.out.below).mono ?_
      obtain ⟨ky, hky⟩ : ∃ k, kindR (y0 :: t) = k := ⟨_, rfl⟩
      have HKY : Hid (y0.o.k = ky) := Lib.hid hky
      rw [hky]
      rintro e w4 ⟨rfl, d2, rfl⟩
      have CS := Lib.hid (CS.out.more (ext_drew _ d2))
      generalize w3.drewN d2 = w4 at *
      clear hky hdec
      by_cases hk : ky = 2
      · subst hk
        go_wp2_with (go_at_call 78; refine Hid.out ?_)
        refine Lib.hid ?_
        refine (rdrTake_any (bu + 1) 536870912 (y0 :: t) c w w4 CS.out.y CS.out.below (Nat.le_refl _) (by omega) CS.out.lv).mono ?_
        rintro e w5 ⟨o, Y', c', rfl, ht, hoi, hoc, hok, hr, hgr⟩
        obtain ⟨hq, hlen, s1, s2, s3⟩ := CQ.ins CQ0.out Y0.out.1 Y0.out.2.1 Y0.out.2.2 HKY.out ht TLEN.out
        have CS := Lib.hid (CS.out.tookY hr hgr)
        have CQ1 := Lib.hid hq
        have HLEN := Lib.hid hlen
        have OI := Lib.hid hoi
        obtain ⟨F, hm, low, nu, nv⟩ := CS.out.m
        clear ht hoi hoc hok hr hgr hq hlen
        go_wp2_with (go_at_call 77; refine Hid.out ?_)
        refine Lib.hid ?_
        refine (ctell_any b o w w5 F m K hm low CS.out.below OI.out CQ0.out.b (by have := CQ0.out.k; omega) (by omega) s2 s3).mono ?_
        rintro e w6 ⟨rfl, F', hm', g'⟩
        have CS := Lib.hid (CS.out.told low nu nv hm' g')
        clear hm low nu nv hm' g'
        go_wp2_with (fail)
        go_roundg (X.length + Y'.length)
        case measure => have h1 := HG.out; have h2 := HLEN.out; omega
        case rel => exact ⟨X, Y', a, c', _, _, _, rfl, CS.out, CQ1⟩
      · have hk' : (ky == 2) = false := beq_eq_false_iff_ne.2 hk
        have HK := Lib.hid hk
        go_wp2_with (go_at_call 76; refine Hid.out ?_)
        refine Lib.hid ?_
        refine (rdrKind_any bu X a w w4 CS.out.x CS.out.below).mono ?_
        obtain ⟨kx, hkx⟩ : ∃ k, kindR X = k := ⟨_, rfl⟩
        have HKX := Lib.hid hkx
        rw [hkx]
        rintro e w5 ⟨rfl, d3, rfl⟩
        have CS := Lib.hid (CS.out.more (ext_drew _ d3))
        generalize w4.drewN d3 = w5 at *
        clear hkx
        by_cases hk3 : kx = 3
        · subst hk3
          cases X with
          | nil => exact absurd HKX.out (by show ¬ (1 : Int) = 3; decide)
          | cons x0 s0 =>
            have X0 : Hid (isOp x0.o ∧ a < lenO x0.o ∧ lenO x0.o ≤ 536870912) := Lib.hid (by
              obtain ⟨A, n, cc, _, _, h1, _, h2⟩ := CS.out.x
              exact ⟨(h1 x0 (by simp)).1, h2 x0 s0 rfl, (h1 x0 (by simp)).2⟩)
            go_wp2_with (go_at_call 78; refine Hid.out ?_)
            refine Lib.hid ?_
            refine (rdrTake_any bu 536870912 (x0 :: s0) a w w5 CS.out.x CS.out.below (Nat.le_refl _) (by omega) CS.out.lu).mono ?_
            rintro e w6 ⟨o, X9, a9, rfl, ht, hoi, hoc, hok, hr, hgr⟩
            obtain ⟨hq, hlen, s1, s2, s3⟩ := CQ.del CQ0.out X0.out.1 Y0.out.1 X0.out.2.1 Y0.out.2.1 X0.out.2.2 HKX.out (by rw [HKY.out]; exact HK.out) ht TLEN.out
            have CS := Lib.hid (CS.out.tookX hr hgr)
            have CQ1 := Lib.hid hq
            have HLEN := Lib.hid hlen
            have OI := Lib.hid hoi
            obtain ⟨F, hm, low, nu, nv⟩ := CS.out.m
            clear ht hoi hoc hok hr hgr hq hlen
            go_wp2_with (go_at_call 77; refine Hid.out ?_)
            refine Lib.hid ?_
            refine (ctell_any b o w w6 F m K hm low CS.out.below OI.out CQ0.out.b (by have := CQ0.out.k; omega) (by omega) s2 s3).mono ?_
            rintro e w7 ⟨rfl, F', hm', g'⟩
            have CS := Lib.hid (CS.out.told low nu nv hm' g')
            clear hm low nu nv hm' g'
            go_wp2_with (fail)
            go_roundg (X9.length + (y0 :: t).length)
            case measure => have h1 := HG.out; have h2 := HLEN.out; omega
            case rel => exact ⟨X9, y0 :: t, a9, c, _, _, _, rfl, CS.out, CQ1⟩
        · have hk3' : (kx == 3) = false := beq_eq_false_iff_ne.2 hk3
          have HK3 := Lib.hid hk3
          have XF : Hid (∀ x0 s0, X = x0 :: s0 → isOp x0.o ∧ a < lenO x0.o ∧ lenO x0.o ≤ 536870912 ∧ x0.o.k ≠ 3) := Lib.hid (fun x0 s0 e => by
            obtain ⟨A, n, cc, _, _, h1, _, h2⟩ := CS.out.x
            subst e
            exact ⟨(h1 x0 (by simp)).1, h2 x0 s0 rfl, (h1 x0 (by simp)).2, fun h => HK3.out (HKX.out.symm.trans h)⟩)
          have XN : Hid (X = [] → a = 0) := Lib.hid (by obtain ⟨A, n, cc, _, _, _, h1, _⟩ := CS.out.x; exact h1)
          have LXB : Hid (1 ≤ longR X a ∧ longR X a ≤ 536870912) := Lib.hid (by
            cases X with
            | nil => exact ⟨by show 1 ≤ 536870912; omega, Nat.le_refl _⟩
            | cons x0 s0 => obtain ⟨_, h2, h3, _⟩ := XF.out x0 s0 rfl; exact ⟨by show 1 ≤ lenO x0.o - a; omega, by show lenO x0.o - a ≤ _; omega⟩)
          have LYB : Hid (1 ≤ longR (y0 :: t) c ∧ longR (y0 :: t) c = lenO y0.o - c) := Lib.hid ⟨by show 1 ≤ lenO y0.o - c; have := Y0.out; omega, rfl⟩
          go_wp2_with (go_at_call 79; refine Hid.out ?_)
          refine Lib.hid ?_
          refine (rdrLong_any bu X a w w5 CS.out.x CS.out.below).mono ?_
          obtain ⟨lx, hlx⟩ : ∃ k, longR X a = k := ⟨_, rfl⟩
          have HLX := Lib.hid hlx
          rw [hlx] at LXB ⊢
          rintro e w6 ⟨rfl, d4, rfl⟩
          have CS := Lib.hid (CS.out.more (ext_drew _ d4))
          generalize w5.drewN d4 = w6 at *
          clear hlx
          go_wp2_with (go_at_call 79; refine Hid.out ?_)
          refine Lib.hid ?_
          refine (rdrLong_any (bu + 1) (y0 :: t) c w w6 CS.out.y CS.out.below).mono ?_
          obtain ⟨ly, hly⟩ : ∃ k, longR (y0 :: t) c = k := ⟨_, rfl⟩
          rw [hly] at LYB ⊢
          rintro e w7 ⟨rfl, d5, rfl⟩
          have CS := Lib.hid (CS.out.more (ext_drew _ d5))
          generalize w6.drewN d5 = w7 at *
          clear hly
          obtain ⟨n, hn⟩ : ∃ n, min lx ly = n := ⟨_, rfl⟩
          have hmin : min (lx : Int) (ly : Int) = (n : Int) := by omega
          have HN : Hid (1 ≤ n ∧ n ≤ 536870912 ∧ n = min (longR X a) (lenO y0.o - c)) := Lib.hid (by rw [HLX.out, ← LYB.out.2]; have h1 := LXB.out; have h2 := LYB.out.1; omega)
          clear hn
          go_wp2_with (go_at_call 78; refine Hid.out ?_)
          refine Lib.hid ?_
          refine (rdrTake_any bu n X a w w7 CS.out.x CS.out.below HN.out.2.1 HN.out.1 CS.out.lu).mono ?_
          rintro e w8 ⟨o, X9, a9, rfl, ht, hoi, hoc, hok, hr, hgr⟩
          have CS := Lib.hid (CS.out.tookX hr hgr)
          have OI := Lib.hid hoi
          have OC := Lib.hid hoc
          have HTX := Lib.hid ht
          clear ht hoi hoc hok hr hgr
          go_wp2_with (go_at_call 78; refine Hid.out ?_)
          refine Lib.hid ?_
          refine (rdrTake_any (bu + 1) n (y0 :: t) c w w8 CS.out.y CS.out.below HN.out.2.1 HN.out.1 CS.out.lv).mono ?_
          rintro e w9 ⟨q, Y9, c9, rfl, ht, hoi, hoc, hok, hr, hgr⟩
          have CS := Lib.hid (CS.out.tookY hr hgr)
          have QI := Lib.hid hoi
          have QC := Lib.hid hoc
          obtain ⟨⟨us9, K9, hq, hlen⟩, b1, b2, b3, b4, b5, b6, b7⟩ := CQ.both H64.out CQ0.out XN.out XF.out Y0.out.1 Y0.out.2.1 Y0.out.2.2 (by rw [HKY.out]; exact HK.out) HN.out.2.2 HTX.out ht TLEN.out
          have CQ1 := Lib.hid hq
          have HLEN := Lib.hid hlen
          obtain ⟨F, hm, low, nu, nv⟩ := CS.out.m
          clear ht hoi hoc hok hr hgr hq hlen
          go_wp2_with (go_at_call 80; refine Hid.out ?_)
          refine Lib.hid ?_
          refine (both_any s l b o q w w9 F m K hm low CS.out.below OI.out QI.out HS.out OC.out QC.out CQ0.out.b (by omega) b3 b4 b5 b6 b1 b7).mono ?_
          rintro e w10 ⟨rfl, F', hm', g'⟩
          have CS := Lib.hid (CS.out.told low nu nv hm' g')
          clear hm low nu nv hm' g' b1 b2 b3 b4 b5 b6 b7
          go_wp2_with (fail)
          go_roundg (X9.length + Y9.length)
          case measure => have h1 := HG.out; have h2 := HLEN.out; omega
          case rel => exact ⟨X9, Y9, a9, c9, _, us9, K9, rfl, CS.out, CQ1⟩
theorem nf_makes (us : List Un) : makesU (nf us) ≤ makesU us := by
  obtain ⟨k, hk⟩ := trim_pre (canon us)
  have h1 := congrArg makesU hk
  rw [makesU_append, canon_makes] at h1
  show makesU (trim (canon us)) ≤ _
  omega
/-- how much made ops take and make -/
theorem made_sums {l : List Ky} {x : List OpS} {us : List Un} (hx : osOf x = mkU us) (hm : ∀ u ∈ us, mU l u) (ht : takesU us ≤ 536870912) (hk : makesU us ≤ 536870912) (hb : x.length ≤ 1048576) : takesP x ≤ 536870912 ∧ makesP x ≤ 536870912 ∧ takesP x = takesU (nf us) ∧ makesP x = makesU (nf us) := by
  have hi := mkU_isOp hx
  have hu := mkU_units hx
  have h1 := nf_takes us
  have h2 := nf_makes us
  have g : goodO l x := units_good hi (by rw [hu]; exact nf_all (P := mU l) trivial hm) (by rw [hu]; omega) (by rw [hu]; omega)
  obtain ⟨s1, s2⟩ := sums_units x hi
  rw [hu] at s1 s2
  rw [takes_sum g hb, makes_sum g hb]
  omega
/-- of two deltas that may be, and together are not too long -/
theorem composeOk_any (s : Nat) (l : List Ky) (Ax Ay : Option Addr) (nx cx ny cy : Nat) (x y : List OpS) (w : World) (hX : OpsC w Ax nx cx x) (hY : OpsC w Ay ny cy y) (hS : Sch w s l) (hl : l.length ≤ 64) (hT : Lib.Utf8Tabs 1 2 w)
    (mx : mayO l x = 0) (my : mayO l y = 0) (zx : szN x ≤ 200000) (zy : szN y ≤ 200000) (ht : takesU (compU l (units (osOf x)) (units (osOf y))) ≤ 536870912) (hm : makesU (compU l (units (osOf x)) (units (osOf y))) ≤ 536870912) :
    Calls Tryz.prog 24 #[.pointer (some ⟨s, 0, none⟩), .slice Ax nx cx, .slice Ay ny cy] w (NewOpOk (mkU (compU l (units (osOf x)) (units (osOf y)))) w) := by
  obtain ⟨gx, _, _⟩ := mayO_zero mx
  obtain ⟨gy, _, _⟩ := mayO_zero my
  have hmu := comp_mU (us := units (osOf x)) (vs := units (osOf y)) hl (good_mU gx) (good_mU gy)
  refine (composeAll_any s l Ax Ay nx cx ny cy x y w hX hY hS hl hT mx my zx zy).mono ?_
  rintro e w' ⟨z, hz, yy, hzb, ⟨_, A, c, rfl, oz⟩ | ⟨hbad, rfl⟩⟩
  · exact ⟨A, c, z, rfl, hz, oz, yy⟩
  · exfalso
    obtain ⟨h1, h2, _⟩ := made_sums hz hmu ht hm (by omega)
    omega
end Go.Proofs.YtnppoifgfehpfaaGreatDoor
