/- Merged texts: Compose, BothM, BothW. -/
import Derived.Test.YtbdkbfoplpociaaGreatDoorK15
import Derived.Test.YtbdkbfoplpociaaGreatDoorK11
import Derived.Test.YtbdkbfoplpociaaGreatDoorC1
import Derived.Test.YtbdkbfoplpociaaGreatDoorK31
import Derived.Test.YtbdkbfoplpociaaGreatDoorK32
import Derived.Test.YtbdkbfoplpociaaGreatDoorK30
import Derived.Test.YtbdkbfoplpociaaGreatDoorK22
namespace Go.Proofs.YtbdkbfoplpociaaGreatDoor
open Go.RowKit
set_option linter.unusedVariables false
set_option linter.unusedSimpArgs false

set_option maxRecDepth 100000 in
set_option maxHeartbeats 400000 in
theorem compose_any (A1 A2 : Option Addr) (n1 n2 c1 c2 : Nat) (l k : List Ch) (w : World)
    (hn1 : n1 = l.length) (hn2 : n2 = k.length) (h1 : RdCh w w.heap.size A1 l) (h2 : RdCh w w.heap.size A2 k)
    (hb1 : n1 ≤ 100000000) (hb2 : n2 ≤ 100000000) (hc1 : n1 ≤ c1) (hcm : c1 ≤ maxLen) :
    Calls Tryz.prog 173 #[.slice A1 n1 c1, .slice A2 n2 c2] w (NewCh (composeP l k) w) := by
  unfold maxLen at hcm
  have N1 := Lib.hid hn1
  have N2 := Lib.hid hn2
  generalize hR : composeP l k = R
  have HR := Lib.hid hR
  clear hn1 hn2 hR
  go_enter Tryz.func173, Tryz.ntmps173
  go_wp2_with (fail)
  go_loopg [5, 6, 11] n2 (fun g ov iv kv wr => ∃ (q i : Nat) (o : List Ch), q ≤ n2 ∧ i ≤ n1 ∧ g = n2 - q ∧ iv = .int .i64 i ∧ kv = .int .i64 q ∧ OwCh wr w.heap.size ov o ∧ o.length ≤ i + q ∧
    Below w.heap.size w wr ∧ Hid (o ++ composeP (l.drop i) (k.drop q) = R))
  case atStart => exact ⟨0, 0, [], by omega, by omega, rfl, rfl, rfl, Ow.nil _ _, by simp, Below.refl _ _, Lib.hid (by simpa using HR.out)⟩
  case round =>
    obtain ⟨q, i, o, hk, hi, hg, rfl, rfl, hown, hol, hbw, HI⟩ := hrel
    have HG := Lib.hid hg
    clear hg HR
    by_cases hlt : q < n2
    · have hkp : q < k.length := by have := N2.out; omega
      obtain ⟨ad2, c, rfl, _, hd2, _, hc2⟩ := (h2.below hbw (Nat.le_refl _)).el hkp
      have HI' : Hid (o ++ composeAt (l.drop i) c (k.drop (q+1)) = R) := Lib.hid (by rw [← HI.out, hd2, composeP_cons])
      clear HI hkp hd2
      obtain ⟨ck, cg, va, vn, vf, vs⟩ := c
      obtain ⟨q0, q1, q2, q3, q4, q5⟩ := ch_cells hc2
      clear hc2
      go_wp2_with (fail)
      obtain ⟨wo, rfl⟩ : ∃ wo : World, wo = wr := ⟨_, rfl⟩
      go_loopg [5, 6] (n1 - i) (fun g ov iv wi => ∃ (i : Nat) (o : List Ch), i ≤ n1 ∧ g = n1 - i ∧ iv = .int .i64 i ∧ OwCh wi w.heap.size ov o ∧ o.length ≤ i + q ∧
        Below w.heap.size w wi ∧ wi.heap[wo.heap.size]? = some (.cells #[.int .i64 ck, .bool cg, .int .u8 va, .int .i64 vn, .int .u64 vf, .string vs] 45 (0, 0)) ∧ wb ov ≠ some wo.heap.size ∧
        Hid (o ++ composeAt (l.drop i) ⟨ck, cg, ⟨va, vn, vf, vs⟩⟩ (k.drop (q+1)) = R))
      case atStart =>
        refine ⟨i, o, hi, rfl, rfl, hown.alloc _, hol, hbw.alloc hbw.size _, heap_alloc_new _ _, fun e => ?_, HI'⟩
        have := (hown.wb_lt _ e).2; omega
      case round =>
        clear q0 q1 q2 q3 q4 q5 hi hown hol hbw HI'
        obtain ⟨i, o, hi, hg, rfl, hown, hol, hbw, hbx, hwb, HI⟩ := hrel
        have HG2 := Lib.hid hg
        clear hg
        obtain ⟨b0, b1, b2, b3, b4, b5⟩ := box_ch hbx
        have HBX := Lib.hid hbx
        have HWB := Lib.hid hwb
        clear hbx hwb
        by_cases hil : i < n1
        · have hip : i < l.length := by have := N1.out; omega
          obtain ⟨ad1, a, rfl, _, hd1, _, hc1⟩ := (h1.below hbw (Nat.le_refl _)).el hip
          obtain ⟨ek, eg, ea, en, ef, es⟩ := a
          obtain ⟨r0, r1, r2, r3, r4, r5⟩ := ch_cells hc1
          have hil' : decide ((i : Int) < n1) = true := by simp; omega
          have HD1 := Lib.hid hd1
          clear hd1
          by_cases hle : ek ≤ ck
          · by_cases hak : ek < ck
            · go_wp2_with (first
                | go_quiet (fail)
                | (at_builtin; refine app_ch (m := [⟨ek, eg, ⟨ea, en, ef, es⟩⟩]) rfl (.tmp 39) (.tmp 44) rfl rfl (by first | exact (hown.drewN _).alloc _ | exact hown.alloc _) _ _ 1 1 rfl rfl (by first | exact rd_one (enc := Ch.enc) _ _ _ rfl | exact rd_one_at (enc := Ch.enc) _ _ _ rfl (size_alloc' _ _)) (by simp only [List.length_singleton]; omega) (Nat.le_trans hbw.size (le_alloc _ _)) ?_; intro v' w' hown' hgr hv'))
              obtain ⟨s1, s2, s3⟩ := app_step hown hbw (Nat.le_refl _) hgr hv'
              go_roundg (n1 - (i + 1))
              case measure => have := HG2.out; omega
              case rel =>
                exact ⟨i + 1, _, by omega, rfl, by go_num, hown', by simp; omega, s1, s2 _ _ HBX.out HWB.out, s3 _ (blk_lt HBX.out) HWB.out,
                  Lib.hid (by rw [← HI.out, HD1.out, composeAt_less _ _ _ _ hak, List.append_assoc]; rfl)⟩
            · go_wp2_with (go_quiet (fail))
              go_roundg (n1 - (i + 1))
              case measure => have := HG2.out; omega
              case rel =>
                exact ⟨i + 1, o, by omega, rfl, by go_num, hown, by omega, below_drewN hbw _, HBX.out, HWB.out,
                  Lib.hid (by rw [← HI.out, HD1.out, composeAt_eq _ _ _ _ (by show ek = ck; omega)])⟩
          · go_wp2_with (first
              | go_quiet (fail)
              | (at_builtin; refine app_ch (m := [⟨ck, cg, ⟨va, vn, vf, vs⟩⟩]) rfl (.tmp 46) (.tmp 48) rfl rfl (by first | exact (hown.drewN _).alloc _ | exact hown.alloc _) _ _ 1 1 rfl rfl (by first | exact rd_one (enc := Ch.enc) _ _ _ rfl | exact rd_one_at (enc := Ch.enc) _ _ _ rfl (size_alloc' _ _)) (by simp only [List.length_singleton]; omega) (Nat.le_trans hbw.size (le_alloc _ _)) ?_; intro v' w' hown' hgr hv'))
            obtain ⟨s1, s2, s3⟩ := app_step hown hbw (Nat.le_refl _) hgr hv'
            go_roundg (n2 - (q + 1))
            case measure => have := HG.out; omega
            case rel =>
              exact ⟨q + 1, i, _, by omega, by omega, rfl, rfl, by go_num, hown', by simp; omega, s1,
                Lib.hid (by rw [← HI.out, HD1.out, composeAt_more _ _ _ _ (by show ck < ek; omega), List.append_assoc]; rfl)⟩
        · have hd1 : l.drop i = [] := List.drop_eq_nil_of_le (by have := N1.out; omega)
          have HD1 := Lib.hid hd1
          have hil' : decide ((i : Int) < n1) = false := by simp; omega
          clear hd1
          go_wp2_with (first
            | go_quiet (fail)
            | (at_builtin; refine app_ch (m := [⟨ck, cg, ⟨va, vn, vf, vs⟩⟩]) rfl (.tmp 46) (.tmp 48) rfl rfl (by first | exact (hown.drewN _).alloc _ | exact hown.alloc _) _ _ 1 1 rfl rfl (by first | exact rd_one (enc := Ch.enc) _ _ _ rfl | exact rd_one_at (enc := Ch.enc) _ _ _ rfl (size_alloc' _ _)) (by simp only [List.length_singleton]; omega) (Nat.le_trans hbw.size (le_alloc _ _)) ?_; intro v' w' hown' hgr hv'))
          obtain ⟨s1, s2, s3⟩ := app_step hown hbw (Nat.le_refl _) hgr hv'
          go_roundg (n2 - (q + 1))
          case measure => have := HG.out; omega
          case rel =>
            exact ⟨q + 1, i, _, by omega, by omega, rfl, rfl, by go_num, hown', by simp; omega, s1,
              Lib.hid (by rw [← HI.out, HD1.out, composeAt_nil, List.append_assoc]; rfl)⟩
    · have hdp : k.drop q = [] := List.drop_eq_nil_of_le (by have := N2.out; omega)
      have HDP := Lib.hid hdp
      clear hdp
      go_wp2_with (first
        | (at_builtin; refine app_ch (m := l.drop i) rfl (.tmp 51) (.tmp 54) rfl rfl (by exact hown) _ _ _ _ rfl (by rw [List.length_drop, ← N1.out]) (by have hx := (h1.below hbw (Nat.le_refl _)).cut (k := i) (cap := c1) (by have := N1.out; omega) (by have := N1.out; omega); exact hx) (by have := N1.out; rw [List.length_drop]; omega) (by exact hbw.size) ?_; intro v' w' hown' hgr hv'))
      all_goals
        have e : o ++ l.drop i = R := by have := HI.out; rw [HDP.out, composeP_nil] at this; exact this
        rw [e] at hown'
        obtain ⟨A', c', rfl, _, _⟩ := hown'.form
        go_ret
        exact ⟨A', c', rfl, hown', below_app hbw hbw.size hown (Nat.le_refl _) hgr⟩
end Go.Proofs.YtbdkbfoplpociaaGreatDoor
namespace Go.Proofs.YtbdkbfoplpociaaGreatDoor
set_option linter.unusedVariables false
set_option linter.unusedSimpArgs false

theorem insM_snoc (l : List Ky) (s : List At) (p : List Ch) (m : Mk) (r : List Int) (x : Int) : insM l s p m (r ++ [x]) = mkInsert (insM l s p m r) [x] (actC l ⟨x, s⟩ p).s := by unfold insM; rw [List.foldl_append]; rfl
end Go.Proofs.YtbdkbfoplpociaaGreatDoor
namespace Go.Proofs.YtbdkbfoplpociaaGreatDoor
open Go.RowKit
set_option linter.unusedVariables false
set_option linter.unusedSimpArgs false

set_option maxRecDepth 100000 in
set_option maxHeartbeats 3200000 in
theorem ctell_any (b : Nat) (o : OpS) (w0 w : World) (F : Nat → Prop) (m : Mk) (K : Nat) (h : Mkr w F b m) (low : ∀ k, F k → w0.heap.size ≤ k) (Y : Below w0.heap.size w0 w) (ho : OpIn w0 o) (hb : MkB m K 64) (hK : K ≤ 1000000)
    (hr : o.o.r.length ≤ 1000000) (hs : o.o.s.length ≤ 64) (hp : o.o.p.length ≤ 64) :
    Calls Tryz.prog 99 #[.pointer (some ⟨b, 0, none⟩), o.val] w (MkOut (tellO m o.o) w F b) := by
  have FR := Lib.hid (ho.1.offF low)
  have FSq := Lib.hid (ho.2.1.offF low)
  have FP := Lib.hid (ho.2.2.1.offF low)
  have HO := Lib.hid (ho.1.ext Y)
  have HS := Lib.hid (ho.2.1.ext Y)
  have HP := Lib.hid (ho.2.2.1.ext Y)
  have HB := Lib.hid hb
  have HM := Lib.hid h
  obtain ⟨⟨k, nn, r, s, p⟩, Ar, cr, As, cs, Ap, cp⟩ := o
  simp only [OpS.val]
  simp only at FR FSq FP HO HS HP hr hs hp
  have yb := ext_alloc w (.cells #[.int .u8 k, .int .i64 nn, .slice Ar r.length cr, .slice As s.length cs, .slice Ap p.length cp] 40)
  have hbx := heap_alloc_new w (.cells #[.int .u8 k, .int .i64 nn, .slice Ar r.length cr, .slice As s.length cs, .slice Ap p.length cp] 40)
  obtain ⟨q0, q1, q2, q3, q4⟩ := box_at hbx
  have YB := Lib.hid yb
  clear h low Y ho hb yb hbx
  by_cases hk : k = 1
  · subst hk
    have hM : tellO m (⟨1, nn, r, s, p⟩ : Opd) = mkRetain m nn p := rfl
    rw [hM]
    go_enter Tryz.func99, Tryz.ntmps99
    go_wp2_with (go_at_call 121; refine Hid.out ?_)
    refine Lib.hid ?_
    refine (mkRetain_any b Ap nn p.length cp p _ F m (HM.out.below YB.out) rfl (HP.out.ext YB.out) FP.out (by omega) (by have := HB.out.len; omega) (fun o ho => by have := (HB.out.gap.2 o ho).2.2; omega)).mono ?_
    rintro e w3 ⟨rfl, F3, hm3, g3⟩
    go_wp2_with (fail)
    refine bodyPost_ret (results_none rfl _ _ _) rfl ?_
    exact ⟨rfl, F3, hm3, (Grow.of YB.out).trans g3⟩
  by_cases hk2 : k = 2
  · subst hk2
    have hM : tellO m (⟨2, nn, r, s, p⟩ : Opd) = mkInsert m r s := rfl
    rw [hM]
    clear hk
    go_enter Tryz.func99, Tryz.ntmps99
    go_wp2_with (go_at_call 123; refine Hid.out ?_)
    refine Lib.hid ?_
    refine (mkInsert_any b Ar As r.length cr s.length cs r s _ F m (HM.out.below YB.out) rfl rfl (HO.out.ext YB.out) (HS.out.ext YB.out) (by omega) (by omega) (by have := HB.out.len; omega) (fun o ho => by have := HB.out.prt o (List.mem_append_right _ ho); omega)).mono ?_
    rintro e w3 ⟨rfl, F3, hm3, g3⟩
    go_wp2_with (fail)
    refine bodyPost_ret (results_none rfl _ _ _) rfl ?_
    exact ⟨rfl, F3, hm3, (Grow.of YB.out).trans g3⟩
  · have hM : tellO m (⟨k, nn, r, s, p⟩ : Opd) = mkDelete m nn := by unfold tellO; rw [if_neg hk, if_neg hk2]
    rw [hM]
    have hk' : (k == 1) = false := beq_eq_false_iff_ne.2 hk
    have hk2' : (k == 2) = false := beq_eq_false_iff_ne.2 hk2
    go_enter Tryz.func99, Tryz.ntmps99
    go_wp2_with (go_at_call 124; refine Hid.out ?_)
    refine Lib.hid ?_
    refine (mkDelete_any b nn _ F m (HM.out.below YB.out)).mono ?_
    rintro e w3 ⟨rfl, F3, hm3, g3⟩
    go_wp2_with (fail)
    refine bodyPost_ret (results_none rfl _ _ _) rfl ?_
    exact ⟨rfl, F3, hm3, (Grow.of YB.out).trans g3⟩

set_option maxRecDepth 100000 in
set_option maxHeartbeats 6400000 in
theorem both_any (sc : Nat) (l : List Ky) (b : Nat) (u o : OpS) (w0 w : World) (F : Nat → Prop) (m : Mk) (K : Nat) (h : Mkr w F b m) (low : ∀ k, F k → w0.heap.size ≤ k) (Y : Below w0.heap.size w0 w) (hu : OpIn w0 u) (ho : OpIn w0 o) (hS : Sch w0 sc l)
    (gu : capO u) (go : capO o) (hb : MkB m K 64) (ur : K + u.o.r.length ≤ 900000) (us : u.o.s.length ≤ 64) (up : u.o.p.length ≤ 64) (op : o.o.p.length ≤ 64) (cl : (composeP u.o.p o.o.p).length ≤ 64) (hk3 : u.o.k = 1 ∨ u.o.k = 2)
    (hsl : ∀ x ∈ u.o.r, (actC l ⟨x, u.o.s⟩ o.o.p).s.length ≤ 64) :
    Calls Tryz.prog 102 #[.pointer (some ⟨sc, 0, none⟩), .pointer (some ⟨b, 0, none⟩), u.val, o.val] w (MkOut (bothM l m u.o o.o) w F b) := by
  have HUR := Lib.hid hu.1
  have HUS := Lib.hid hu.2.1
  have HUP := Lib.hid hu.2.2.1
  have HOP := Lib.hid ho.2.2.1
  have HB := Lib.hid hb
  have HM := Lib.hid h
  have HSC := Lib.hid hS
  have LOW := Lib.hid low
  have GU := Lib.hid gu
  have GO := Lib.hid go
  have HSL := Lib.hid hsl
  have YY := Lib.hid Y
  obtain ⟨⟨k, nn, r, s, p⟩, Ar, cr, As, cs, Ap, cp⟩ := u
  obtain ⟨⟨k', nn', r', s', p'⟩, Ar', cr', As', cs', Ap', cp'⟩ := o
  have GUP : Hid (p.length ≤ cp ∧ cp ≤ maxLen) := Lib.hid GU.out.2.2
  have GUS : Hid (s.length ≤ cs ∧ cs ≤ maxLen) := Lib.hid GU.out.2.1
  simp only [OpS.val]
  simp only at HUR HUS HUP HOP HSL ur us up op cl hk3
  have y1 := ext_alloc w (.cells #[.int .u8 k, .int .i64 nn, .slice Ar r.length cr, .slice As s.length cs, .slice Ap p.length cp] 40)
  have hb1 := heap_alloc_new w (.cells #[.int .u8 k, .int .i64 nn, .slice Ar r.length cr, .slice As s.length cs, .slice Ap p.length cp] 40)
  have y2 := ext_alloc (w.alloc (.cells #[.int .u8 k, .int .i64 nn, .slice Ar r.length cr, .slice As s.length cs, .slice Ap p.length cp] 40)) (.cells #[.int .u8 k', .int .i64 nn', .slice Ar' r'.length cr', .slice As' s'.length cs', .slice Ap' p'.length cp'] 40)
  have hb2 := heap_alloc_new (w.alloc (.cells #[.int .u8 k, .int .i64 nn, .slice Ar r.length cr, .slice As s.length cs, .slice Ap p.length cp] 40)) (.cells #[.int .u8 k', .int .i64 nn', .slice Ar' r'.length cr', .slice As' s'.length cs', .slice Ap' p'.length cp'] 40)
  have hb1' := (y2.block w.heap.size (by simp)).trans hb1
  rw [World.size_alloc] at hb2
  obtain ⟨q0, q1, q2, q3, q4⟩ := box_at hb1'
  obtain ⟨p0, p1, p2, p3, p4⟩ := box_at hb2
  have H1 := Lib.hid hb1'
  have H2 := Lib.hid hb2
  have YB := Lib.hid (ext_trans y1 y2)
  have SZW : Hid (((w.alloc (.cells #[.int .u8 k, .int .i64 nn, .slice Ar r.length cr, .slice As s.length cs, .slice Ap p.length cp] 40)).alloc (.cells #[.int .u8 k', .int .i64 nn', .slice Ar' r'.length cr', .slice As' s'.length cs', .slice Ap' p'.length cp'] 40)).heap.size = w.heap.size + 2) := Lib.hid (by simp)
  clear h low Y hu ho hb hS gu go hsl y1 y2 hb1 hb1' hb2
  have NF : Hid (¬ F w.heap.size ∧ ¬ F (w.heap.size + 1)) := Lib.hid ⟨fun h => by have := HM.out.lt _ h; omega, fun h => by have := HM.out.lt _ h; omega⟩
  have MB2 := Lib.hid (HM.out.below YB.out)
  have Y2 := Lib.hid (YY.out.trans (YB.out.mono YY.out.size))
  by_cases hk : k = 1
  · subst hk
    by_cases hk' : k' = 1
    · subst hk'
      have hM : bothM l m (⟨1, nn, r, s, p⟩ : Opd) (⟨1, nn', r', s', p'⟩ : Opd) = mkRetain m nn' (composeP p p') := rfl
      rw [hM]
      have SF : Hid (∀ v, Below ((w.alloc (.cells #[.int .u8 1, .int .i64 nn, .slice Ar r.length cr, .slice As s.length cs, .slice Ap p.length cp] 40)).alloc (.cells #[.int .u8 1, .int .i64 nn', .slice Ar' r'.length cr', .slice As' s'.length cs', .slice Ap' p'.length cp'] 40)).heap.size ((w.alloc (.cells #[.int .u8 1, .int .i64 nn, .slice Ar r.length cr, .slice As s.length cs, .slice Ap p.length cp] 40)).alloc (.cells #[.int .u8 1, .int .i64 nn', .slice Ar' r'.length cr', .slice As' s'.length cs', .slice Ap' p'.length cp'] 40)) v →
          v.cell? ⟨w.heap.size, 4, none⟩ = some (.slice Ap p.length cp) ∧ v.cell? ⟨w.heap.size + 1, 1, none⟩ = some (.int .i64 nn') ∧ v.cell? ⟨w.heap.size + 1, 4, none⟩ = some (.slice Ap' p'.length cp')) := Lib.hid (fun v hv => by
        obtain ⟨_, _, _, _, a4⟩ := box_at ((hv.block w.heap.size (by have := SZW.out; omega)).trans H1.out)
        obtain ⟨_, b1, _, _, b4⟩ := box_at ((hv.block (w.heap.size + 1) (by have := SZW.out; omega)).trans H2.out)
        exact ⟨a4, b1, b4⟩)
      obtain ⟨Q, hQ⟩ : ∃ Q, composeP p p' = Q := ⟨_, rfl⟩
      rw [hQ] at cl ⊢
      have HQ := Lib.hid hQ
      clear hQ hM
      go_enter Tryz.func102, Tryz.ntmps102
      go_wp2_with (fail)
      obtain ⟨wv, hwv⟩ : ∃ X, (w.alloc (.cells #[.int .u8 1, .int .i64 nn, .slice Ar r.length cr, .slice As s.length cs, .slice Ap p.length cp] 40)).alloc (.cells #[.int .u8 1, .int .i64 nn', .slice Ar' r'.length cr', .slice As' s'.length cs', .slice Ap' p'.length cp'] 40) = X := ⟨_, rfl⟩
      rw [hwv] at SF q0 q1 q2 q3 q4 p0 p1 p2 p3 p4 MB2 Y2 YB ⊢
      go_region_held3 (fun w' => w'.cell? ⟨w.heap.size, 4, none⟩ = some (.slice Ap p.length cp) ∧ w'.cell? ⟨w.heap.size + 1, 1, none⟩ = some (.int .i64 nn') ∧ w'.cell? ⟨w.heap.size + 1, 4, none⟩ = some (.slice Ap' p'.length cp'))
        (go_keep) (first
          | (go_at_call 173
             with_reducible refine (compose_any Ap Ap' p.length p'.length cp cp' p p' wv.drew rfl rfl ((HUP.out.ext Y2.out).ext (up_drew (Below.refl _ _))) ((HOP.out.ext Y2.out).ext (up_drew (Below.refl _ _))) (by omega) (by omega) GUP.out.1 GUP.out.2).mono ?_
             rw [HQ.out]
             rintro e wd ⟨A3, k3, rfl, o3, y3⟩
             have O3 := Lib.hid o3
             have YD := Lib.hid (ext_trans (up_drew (Below.refl _ _)) y3)
             obtain ⟨d0, d1, d2⟩ := SF.out _ YD.out
             clear o3 y3)
          | (go_at_call 121
             with_reducible refine (mkRetain_any b A3 nn' Q.length k3 Q wd F m (MB2.out.below YD.out) rfl (O3.out.rd Ch.enc_len) (O3.out.offF Ch.enc_len rfl (fun k hk hF => by have := (O3.out.wb_lt k hk).1; have := MB2.out.lt k hF; simp at *; omega)) (by omega)
                (by have := HB.out.len; omega) (fun o ho => by have := (HB.out.gap.2 o ho).2.2; omega)).mono ?_
             rintro e we ⟨rfl, F4, hm4, g4⟩
             have M4 := Lib.hid hm4
             have G4 := Lib.hid ((Grow.of YB.out).trans ((Grow.of YD.out).trans g4))
             have HE : Hid (we.heap[w.heap.size]? = some _ ∧ we.heap[w.heap.size + 1]? = some _) := Lib.hid ⟨((g4.block _ (by have := YD.out.size; have := SZW.out; rw [hwv] at this; omega) NF.out.1).trans (YD.out.block _ (by have := SZW.out; rw [hwv] at this; omega))).trans (hwv ▸ H1.out), ((g4.block _ (by have := YD.out.size; have := SZW.out; rw [hwv] at this; omega) NF.out.2).trans (YD.out.block _ (by have := SZW.out; rw [hwv] at this; omega))).trans (hwv ▸ H2.out)⟩
             obtain ⟨_, _, _, _, e0⟩ := box_at HE.out.1
             obtain ⟨_, e1, _, _, e2⟩ := box_at HE.out.2))
      go_wp2_with (fail)
      refine bodyPost_ret (results_none rfl _ _ _) rfl ?_
      exact ⟨rfl, F4, M4.out, G4.out⟩
    · have hM : bothM l m (⟨1, nn, r, s, p⟩ : Opd) (⟨k', nn', r', s', p'⟩ : Opd) = mkDelete m nn' := by unfold bothM; rw [if_pos rfl, if_neg hk']
      rw [hM]
      have hk2 : (k' == 1) = false := beq_eq_false_iff_ne.2 hk'
      go_enter Tryz.func102, Tryz.ntmps102
      go_wp2_with (go_at_call 124; refine Hid.out ?_)
      refine Lib.hid ?_
      refine (mkDelete_any b nn' _ F m MB2.out).mono ?_
      rintro e w3 ⟨rfl, F3, hm3, g3⟩
      go_wp2_with (fail)
      refine bodyPost_ret (results_none rfl _ _ _) rfl ?_
      exact ⟨rfl, F3, hm3, (Grow.of YB.out).trans g3⟩
  · have hk2 : k = 2 := by rcases hk3 with h | h; exact absurd h hk; exact h
    subst hk2
    by_cases hk' : k' = 1
    · subst hk'
      have hM : bothM l m (⟨2, nn, r, s, p⟩ : Opd) (⟨1, nn', r', s', p'⟩ : Opd) = insM l s p' m r := rfl
      rw [hM]
      clear hM hk
      go_enter Tryz.func102, Tryz.ntmps102
      go_wp2_with (fail)
      obtain ⟨wv, hwv⟩ : ∃ X, (w.alloc (.cells #[.int .u8 2, .int .i64 nn, .slice Ar r.length cr, .slice As s.length cs, .slice Ap p.length cp] 40)).alloc (.cells #[.int .u8 1, .int .i64 nn', .slice Ar' r'.length cr', .slice As' s'.length cs', .slice Ap' p'.length cp'] 40) = X := ⟨_, rfl⟩
      rw [hwv] at q0 q1 q2 q3 q4 p0 p1 p2 p3 p4 MB2 Y2 YB SZW H1 H2 ⊢
      clear hwv
      go_loopg [44] r.length (fun g iv wr => ∃ (i : Nat) (F' : Nat → Prop), i ≤ r.length ∧ g = r.length - i ∧ iv = .int .i64 (i : Int) ∧ Mkr wr F' b (insM l s p' m (r.take i)) ∧ Grow wv F wr F')
      case atStart => exact ⟨0, F, by omega, rfl, rfl, MB2.out, Grow.refl _ _⟩
      case round =>
        obtain ⟨i, F', hi, hg, rfl, hm, gr⟩ := hrel
        have HG := Lib.hid hg
        have HM' := Lib.hid hm
        have GR := Lib.hid gr
        have B1 := Lib.hid ((gr.block w.heap.size (by have := SZW.out; omega) NF.out.1).trans H1.out)
        have B2 := Lib.hid ((gr.block (w.heap.size + 1) (by have := SZW.out; omega) NF.out.2).trans H2.out)
        have YR := Lib.hid (Y2.out.trans (gr.below (B := w0.heap.size) LOW.out Y2.out.size))
        clear hg hm gr
        by_cases hlt : i < r.length
        · obtain ⟨ad, x, rfl, had, _, hx1, hc1⟩ := (HUR.out.ext YR.out).el hlt
          have HT : Hid (insM l s p' m (r.take (i + 1)) = mkInsert (insM l s p' m (r.take i)) [x] (actC l ⟨x, s⟩ p').s) := Lib.hid (by rw [List.take_add_one, hx1]; exact insM_snoc _ _ _ _ _ _)
          have MBB := Lib.hid (insM_B (l := l) (s := s) (p := p') (r.take i) HB.out (fun y hy => HSL.out y (List.mem_of_mem_take hy)))
          have SL := Lib.hid (HSL.out x (List.mem_of_getElem? hx1))
          have KB : Hid (K + (r.take i).length ≤ 1000000) := Lib.hid (by rw [List.length_take]; omega)
          have t0 : wr.cell? (ad.add (i * 1)) = some (.int .i32 x) := by have := hc1 0 _ rfl; rw [add_zero'] at this; exact this
          obtain ⟨a0, a1, a2, a3, a4⟩ := box_at B1.out
          obtain ⟨b0, b1, b2, b3, b4⟩ := box_at B2.out
          have hw2 : IntKind.i64.wrap ((i:Int) + 1) = (i : Int) + 1 := IntWalk.i64_in _ (by omega)
          have hlt' : (i : Int) < (r.length : Int) := by omega
          rw [Nat.mul_one] at t0
          clear hx1 hc1 had
          go_wp2_with (go_at_call 43; refine Hid.out ?_)
          refine Lib.hid ?_
          refine (cell_any sc l x As Ap' s.length cs p'.length cp' s p' _ (HSC.out.ext YR.out) rfl rfl (HUS.out.ext YR.out) (HOP.out.ext YR.out) (by omega) (by omega) GUS.out.1 GUS.out.2).mono ?_
          obtain ⟨X, hX⟩ : ∃ X, (actC l ⟨x, s⟩ p').s = X := ⟨_, rfl⟩
          rw [hX] at HT SL ⊢
          rintro e w3 ⟨A3, c3, rfl, o3, y3⟩
          have O3 := Lib.hid o3
          have Y3 := Lib.hid y3
          have yc := ext_alloc w3 (.cells #[.int .i32 x, .slice A3 X.length c3] 63)
          have hbc := heap_alloc_new w3 (.cells #[.int .i32 x, .slice A3 X.length c3] 63)
          obtain ⟨v0, v1⟩ := box_cl hbc
          have yd := ext_alloc (w3.alloc (.cells #[.int .i32 x, .slice A3 X.length c3] 63)) (.cells #[.int .i32 x] 21)
          have YD := Lib.hid (ext_trans yc yd)
          have YE := Lib.hid (ext_trans Y3.out YD.out)
          clear o3 y3 yc yd hbc hX
          go_wp2_with (go_at_call 123; refine Hid.out ?_)
          refine Lib.hid ?_
          refine (mkInsert_any b _ A3 1 1 X.length c3 [x] X _ F' _ (HM'.out.below YE.out) rfl rfl (by rw [World.size_alloc]; exact rd_one_at (enc := encI32) (size := 1) (w3.alloc (.cells #[.int .i32 x, .slice A3 X.length c3] 63)) 21 x rfl (by simp)) ((O3.out.rd At.enc_len).ext YD.out) (by omega) (by have := SL.out; omega) (by have := MBB.out.len; have := KB.out; omega)
            (fun o ho => by have := MBB.out.prt o (List.mem_append_right _ ho); have := KB.out; omega)).mono ?_
          rintro e w9 ⟨rfl, F3, hm3, g3⟩
          rw [← HT.out] at hm3
          have HM9 := Lib.hid hm3
          have G9 := Lib.hid (GR.out.trans ((Grow.of YE.out).trans g3))
          clear hm3 g3
          go_wp2_with (fail)
          go_roundg (r.length - (i + 1))
          case measure => have := HG.out; omega
          case rel => exact ⟨i + 1, F3, by omega, rfl, by go_num, HM9.out, G9.out⟩
        · have hin : i = r.length := by omega
          subst hin
          have hm := HM'.out
          rw [List.take_length] at hm
          have HMF := Lib.hid hm
          have hlt' : ¬ ((r.length : Nat) : Int) < (r.length : Int) := by omega
          clear hm
          go_wp2_with (fail)
          refine bodyPost_ret (results_none rfl _ _ _) rfl ?_
          exact ⟨rfl, F', HMF.out, (Grow.of YB.out).trans GR.out⟩
    · have hM : bothM l m (⟨2, nn, r, s, p⟩ : Opd) (⟨k', nn', r', s', p'⟩ : Opd) = m := by unfold bothM; rw [if_neg (show ¬ (2 : Int) = 1 by decide), if_neg hk']
      rw [hM]
      have hk2 : (k' == 1) = false := beq_eq_false_iff_ne.2 hk'
      go_enter Tryz.func102, Tryz.ntmps102
      go_wp2_with (fail)
      refine bodyPost_ret (results_none rfl _ _ _) rfl ?_
      exact ⟨rfl, F, MB2.out, Grow.of YB.out⟩
end Go.Proofs.YtbdkbfoplpociaaGreatDoor
