/- The walks of patch.change and patch.Diff. -/
import Derived.Test.YtclfplpggmefjaaApply
import Derived.Test.YtclfplpggmefjaaFind
namespace Go.Proofs.Ytclfplpggmefjaa
open Go.RowKit
set_option linter.unusedVariables false
set_option linter.unusedSimpArgs false

set_option maxHeartbeats 400000 in
theorem change_any (k a n f : Int) (s : ByteArray) (w : World) :
    Calls Try.prog 28 #[.agg #[.int .i64 k, .int .u8 a, .int .i64 n, .int .u64 f, .string s]] w fun e w' => e = .returned (.agg #[.int .i64 k, .bool false, .int .u8 a, .int .i64 n, .int .u64 f, .string s]) ∧ Below w.heap.size w w' := by
  go_enter Try.func28, Try.ntmps28
  go_wp2
  refine bodyPost_ret (v := .agg #[.int .i64 k, .bool false, .int .u8 a, .int .i64 n, .int .u64 f, .string s]) (by simp [results, Try.results28, go_sem]) rfl ⟨rfl, ?_⟩
  exact ((Below.refl _ _).alloc (Nat.le_refl _) _).alloc (by simp) _

set_option maxRecDepth 100000 in
set_option maxHeartbeats 400000 in
theorem diff_any (A1 A2 : Option Addr) (n1 n2 c1 c2 : Nat) (l k : List At) (w : World)
    (hn1 : n1 = l.length) (hn2 : n2 = k.length) (h1 : RdAt w w.heap.size A1 l) (h2 : RdAt w w.heap.size A2 k)
    (hb1 : n1 ≤ 100000000) (hb2 : n2 ≤ 100000000) (hc1 : n1 ≤ c1) (hcm : c1 ≤ maxLen) :
    Calls Try.prog 15 #[.slice A1 n1 c1, .slice A2 n2 c2] w (NewCh (diffP l k) w) := by
  unfold maxLen at hcm
  have N1 := Lib.hid hn1
  have N2 := Lib.hid hn2
  generalize hR : diffP l k = R
  have HR := Lib.hid hR
  clear hn1 hn2 hR
  go_enter Try.func15, Try.ntmps15
  go_wp2_with (fail)
  go_loopg [5, 6, 13] n2 (fun g ov iv kv wr => ∃ (q i : Nat) (o : List Ch), q ≤ n2 ∧ i ≤ n1 ∧ g = n2 - q ∧ iv = .int .i64 i ∧ kv = .int .i64 q ∧ OwCh wr w.heap.size ov o ∧ o.length ≤ i + q ∧
    Below w.heap.size w wr ∧ Hid (o ++ diffP (l.drop i) (k.drop q) = R))
  case atStart => exact ⟨0, 0, [], by omega, by omega, rfl, rfl, rfl, Ow.nil _ _, by simp, Below.refl _ _, Lib.hid (by simpa using HR.out)⟩
  case round =>
    obtain ⟨q, i, o, hk, hi, hg, rfl, rfl, hown, hol, hbw, HI⟩ := hrel
    have HG := Lib.hid hg
    clear hg HR
    by_cases hlt : q < n2
    · have hkp : q < k.length := by have := N2.out; omega
      obtain ⟨ad2, c, rfl, _, hd2, _, hc2⟩ := (h2.below hbw (Nat.le_refl _)).el hkp
      have HI' : Hid (o ++ diffAt (l.drop i) c (k.drop (q+1)) = R) := Lib.hid (by rw [← HI.out, hd2, diffP_cons])
      clear HI hkp hd2
      obtain ⟨ck, va, vn, vf, vs⟩ := c
      obtain ⟨q0, q1, q2, q3, q4⟩ := at_cells hc2
      clear hc2
      go_wp2_with (fail)
      obtain ⟨wo, rfl⟩ : ∃ wo : World, wo = wr := ⟨_, rfl⟩
      go_loopg [5, 6] (n1 - i) (fun g ov iv wi => ∃ (i : Nat) (o : List Ch), i ≤ n1 ∧ g = n1 - i ∧ iv = .int .i64 i ∧ OwCh wi w.heap.size ov o ∧ o.length ≤ i + q ∧
        Below w.heap.size w wi ∧ wi.heap[wo.heap.size]? = some (.cells #[.int .i64 ck, .int .u8 va, .int .i64 vn, .int .u64 vf, .string vs] 46 (0, 0)) ∧ wb ov ≠ some wo.heap.size ∧
        Hid (o ++ diffAt (l.drop i) ⟨ck, ⟨va, vn, vf, vs⟩⟩ (k.drop (q+1)) = R))
      case atStart =>
        refine ⟨i, o, hi, rfl, rfl, hown.alloc _, hol, hbw.alloc hbw.size _, heap_alloc_new _ _, fun e => ?_, HI'⟩
        have := (hown.wb_lt _ e).2; omega
      case round =>
        clear q0 q1 q2 q3 q4 hi hown hol hbw HI'
        obtain ⟨i, o, hi, hg, rfl, hown, hol, hbw, hbx, hwb, HI⟩ := hrel
        have HG2 := Lib.hid hg
        clear hg
        obtain ⟨b0, b1, b2, b3, b4⟩ := box_at hbx
        have HBX := Lib.hid hbx
        have HWB := Lib.hid hwb
        clear hbx hwb
        by_cases hil : i < n1
        · have hip : i < l.length := by have := N1.out; omega
          obtain ⟨ad1, a, rfl, _, hd1, _, hc1⟩ := (h1.below hbw (Nat.le_refl _)).el hip
          obtain ⟨ek, ea, en, ef, es⟩ := a
          obtain ⟨r0, r1, r2, r3, r4⟩ := at_cells hc1
          have hil' : decide ((i : Int) < n1) = true := by simp; omega
          have HD1 := Lib.hid hd1
          clear hd1
          by_cases hak : ek < ck
          · go_wp2_with (first
              | go_quiet (fail)
              | (at_builtin; refine app_ch (m := [goneC ⟨ek, ⟨ea, en, ef, es⟩⟩]) rfl (.tmp 33) (.tmp 40) rfl rfl (by first | exact (hown.drewN _).alloc _ | exact hown.alloc _) _ _ 1 1 rfl rfl (by first | exact rd_one (enc := Ch.enc) _ _ _ rfl | exact rd_one_at (enc := Ch.enc) _ _ _ rfl (size_alloc' _ _)) (by simp only [List.length_singleton]; omega) (Nat.le_trans hbw.size (le_alloc _ _)) ?_; intro v' w' hown' hgr hv'))
            obtain ⟨s1, s2, s3⟩ := app_step hown hbw (Nat.le_refl _) hgr hv'
            go_roundg (n1 - (i + 1))
            case measure => have := HG2.out; omega
            case rel =>
              exact ⟨i + 1, _, by omega, rfl, by go_num, hown', by simp; omega, s1, s2 _ _ HBX.out HWB.out, s3 _ (blk_lt HBX.out) HWB.out,
                Lib.hid (by rw [← HI.out, HD1.out, diffAt_less _ _ _ _ hak, List.append_assoc]; rfl)⟩
          · by_cases hek : ek = ck
            · subst hek
              have hbeq : (ek == ek) = true := by simp
              by_cases hv : (⟨ea, en, ef, es⟩ : V) = ⟨va, vn, vf, vs⟩
              · have hq := beqV_eq hv
                have HV := Lib.hid hv
                clear hv
                go_wp2_with (go_quiet (fail))
                go_roundg (n2 - (q + 1))
                case measure => have := HG.out; omega
                case rel =>
                  exact ⟨q + 1, i + 1, o, by omega, by omega, rfl, by go_num, by go_num, hown, by omega, below_drewN hbw _,
                    Lib.hid (by rw [← HI.out, HD1.out, diffAt_same ⟨ek, ⟨ea, en, ef, es⟩⟩ _ ⟨ek, ⟨va, vn, vf, vs⟩⟩ _ rfl HV.out])⟩
              · have hq := beqV_ne hv
                have HV := Lib.hid hv
                clear hv
                go_wp2_with (first
                  | go_quiet (fail)
                  | (go_at_call 28; refine (change_any _ _ _ _ _ _).mono ?_; rintro e w2 ⟨rfl, hb2'⟩; have hbw2 := (below_drewN hbw _).trans (hb2'.mono (by first | exact hbw.size | exact (below_drewN hbw _).size)); have hown2 := (hown.drewN _).below hb2' (Nat.le_refl _))
                  | (at_builtin; refine app_ch (m := [chg ⟨ek, ⟨va, vn, vf, vs⟩⟩]) rfl (.tmp 64) (.tmp 67) rfl rfl (by first | exact (hown2.drewN _).alloc _ | exact hown2.alloc _) _ _ 1 1 rfl rfl (by first | exact rd_one (enc := Ch.enc) _ _ _ rfl | exact rd_one_at (enc := Ch.enc) _ _ _ rfl (size_alloc' _ _)) (by simp only [List.length_singleton]; omega) (Nat.le_trans hbw2.size (le_alloc _ _)) ?_; intro v' w' hown' hgr hv'))
                obtain ⟨s1, s2, s3⟩ := app_step (nq := 0) hown2 hbw2 (Nat.le_refl _) hgr hv'
                go_roundg (n2 - (q + 1))
                case measure => have := HG.out; omega
                case rel =>
                  exact ⟨q + 1, i + 1, _, by omega, by omega, rfl, by go_num, by go_num, hown', by simp; omega, s1,
                    Lib.hid (by rw [← HI.out, HD1.out, diffAt_other ⟨ek, ⟨ea, en, ef, es⟩⟩ _ ⟨ek, ⟨va, vn, vf, vs⟩⟩ _ rfl HV.out, List.append_assoc]; rfl)⟩
            · have hek' : (ek == ck) = false := beq_eq_false_iff_ne.2 hek
              go_wp2_with (first
                | go_quiet (fail)
                | (go_at_call 28; refine (change_any _ _ _ _ _ _).mono ?_; rintro e w2 ⟨rfl, hb2'⟩; have hbw2 := (below_drewN hbw _).trans (hb2'.mono (by first | exact hbw.size | exact (below_drewN hbw _).size)); have hown2 := (hown.drewN _).below hb2' (Nat.le_refl _))
                | (at_builtin; refine app_ch (m := [chg ⟨ck, ⟨va, vn, vf, vs⟩⟩]) rfl (.tmp 71) (.tmp 74) rfl rfl (by first | exact (hown2.drewN _).alloc _ | exact hown2.alloc _) _ _ 1 1 rfl rfl (by first | exact rd_one (enc := Ch.enc) _ _ _ rfl | exact rd_one_at (enc := Ch.enc) _ _ _ rfl (size_alloc' _ _)) (by simp only [List.length_singleton]; omega) (Nat.le_trans hbw2.size (le_alloc _ _)) ?_; intro v' w' hown' hgr hv'))
              obtain ⟨s1, s2, s3⟩ := app_step (nq := 0) hown2 hbw2 (Nat.le_refl _) hgr hv'
              go_roundg (n2 - (q + 1))
              case measure => have := HG.out; omega
              case rel =>
                exact ⟨q + 1, i, _, by omega, by omega, rfl, rfl, by go_num, hown', by simp; omega, s1,
                  Lib.hid (by rw [← HI.out, HD1.out, diffAt_more _ _ _ _ (by show ck < ek; omega), List.append_assoc]; rfl)⟩
        · have hd1 : l.drop i = [] := List.drop_eq_nil_of_le (by have := N1.out; omega)
          have HD1 := Lib.hid hd1
          have hil' : decide ((i : Int) < n1) = false := by simp; omega
          clear hd1
          go_wp2_with (first
            | go_quiet (fail)
            | (go_at_call 28; refine (change_any _ _ _ _ _ _).mono ?_; rintro e w2 ⟨rfl, hb2'⟩; have hbw2 := (below_drewN hbw _).trans (hb2'.mono (by first | exact hbw.size | exact (below_drewN hbw _).size)); have hown2 := (hown.drewN _).below hb2' (Nat.le_refl _))
            | (at_builtin; refine app_ch (m := [chg ⟨ck, ⟨va, vn, vf, vs⟩⟩]) rfl (.tmp 71) (.tmp 74) rfl rfl (by first | exact (hown2.drewN _).alloc _ | exact hown2.alloc _) _ _ 1 1 rfl rfl (by first | exact rd_one (enc := Ch.enc) _ _ _ rfl | exact rd_one_at (enc := Ch.enc) _ _ _ rfl (size_alloc' _ _)) (by simp only [List.length_singleton]; omega) (Nat.le_trans hbw2.size (le_alloc _ _)) ?_; intro v' w' hown' hgr hv'))
          obtain ⟨s1, s2, s3⟩ := app_step (nq := 0) hown2 hbw2 (Nat.le_refl _) hgr hv'
          go_roundg (n2 - (q + 1))
          case measure => have := HG.out; omega
          case rel =>
            exact ⟨q + 1, i, _, by omega, by omega, rfl, rfl, by go_num, hown', by simp; omega, s1,
              Lib.hid (by rw [← HI.out, HD1.out, diffAt_nil, List.append_assoc]; rfl)⟩
    · have hdp : k.drop q = [] := List.drop_eq_nil_of_le (by have := N2.out; omega)
      have HI' : Hid (o ++ (l.drop i).map goneC = R) := Lib.hid (by rw [← HI.out, hdp, diffP_nil])
      clear HI hdp
      have hrd : ∀ wi, Below w.heap.size w wi → RdAt wi w.heap.size (if c1 = i then A1 else A1.map (fun x => x.add (i * 5))) (l.drop i) := fun wi hbi => (h1.below hbi (Nat.le_refl _)).cut (k := i) (cap := c1) (by have := N1.out; omega) (by have := N1.out; omega)
      have hm : n1 - i = (l.drop i).length := by rw [List.length_drop, N1.out]
      generalize l.drop i = L at *
      have hbw0 := hbw
      obtain ⟨m, hmm⟩ : ∃ m, m = n1 - i := ⟨_, rfl⟩
      have HM : Hid (m = L.length) := Lib.hid (by rw [hmm, hm])
      have hmb : m ≤ n1 := by omega
      clear hm
      rcases Nat.lt_or_ge i c1 with hci | hci
      · have hne : ¬ c1 = i := by omega
        simp only [if_neg hne] at hrd
        go_wp2_with (fail)
        rw [← hmm]
        obtain ⟨A', hA'⟩ : ∃ A', A' = A1.map (fun x => x.add (i * 5)) := ⟨_, rfl⟩
        rw [← hA'] at hrd ⊢
        have HRD := Lib.hid hrd
        clear hrd hA' hmm HG hlt hci hne
        go_loopg [5, 81] m (fun g ov kv wi => ∃ (j : Nat) (o : List Ch), j ≤ m ∧ g = m - j ∧ kv = .int .i64 j ∧ OwCh wi w.heap.size ov o ∧ o.length ≤ i + q + j ∧
          Below w.heap.size w wi ∧ Hid (o ++ (L.drop j).map goneC = R))
        case atStart => exact ⟨0, o, by omega, rfl, rfl, hown, by omega, hbw, HI'⟩
        case round =>
          clear HI'
          clear hown hol
          obtain ⟨j, o, hj, hg, rfl, hown, hol, hbi, HI⟩ := hrel
          have HG := Lib.hid hg
          clear hg
          by_cases hlt : j < m
          · have hjp : j < L.length := by have := HM.out; omega
            obtain ⟨ad1, a, rfl, _, hd1, _, hc1⟩ := (HRD.out _ hbi).el hjp
            obtain ⟨ek, ea, en, ef, es⟩ := a
            obtain ⟨r0, r1, r2, r3, r4⟩ := at_cells hc1
            have HD1 := Lib.hid hd1
            clear hd1 hc1
            have hbi2 := hbi.alloc hbi.size (.cells #[.int .i64 ek, .int .u8 ea, .int .i64 en, .int .u64 ef, .string es] 46)
            have hown2 := hown.alloc (.cells #[.int .i64 ek, .int .u8 ea, .int .i64 en, .int .u64 ef, .string es] 46)
            go_wp2_with (first
              | go_quiet (fail)
              | (at_builtin; refine app_ch (m := [goneC ⟨ek, ⟨ea, en, ef, es⟩⟩]) rfl (.tmp 85) (.tmp 89) rfl rfl (by first | exact (hown2.drewN _).alloc _ | exact hown2.alloc _) _ _ 1 1 rfl rfl (by first | exact rd_one (enc := Ch.enc) _ _ _ rfl | exact rd_one_at (enc := Ch.enc) _ _ _ rfl (size_alloc' _ _)) (by simp only [List.length_singleton]; omega) (Nat.le_trans hbi2.size (le_alloc _ _)) ?_; intro v' w' hown' hgr hv'))
            obtain ⟨s1, s2, s3⟩ := app_step (nq := 0) hown2 hbi2 (Nat.le_refl _) hgr hv'
            go_roundg (m - (j + 1))
            case measure => have := HG.out; omega
            case rel => exact ⟨j + 1, _, by omega, rfl, by go_num, hown', by simp; omega, s1, Lib.hid (by rw [← HI.out, HD1.out, List.append_assoc]; rfl)⟩
          · have hnil : L.drop j = [] := List.drop_eq_nil_of_le (by have := HM.out; omega)
            have HN := Lib.hid hnil
            clear hnil
            go_wp2_with (fail)
            have e : o = R := by have := HI.out; rw [HN.out] at this; simpa using this
            rw [e] at hown
            obtain ⟨A'', c', rfl, _, _⟩ := hown.form
            go_ret
            exact ⟨A'', c', rfl, hown, hbi⟩
      · have hm0 : m = 0 := by omega
        have hrd : ∀ wi, Below w.heap.size w wi → RdAt wi w.heap.size A1 L := by
          have : L = [] := List.eq_nil_of_length_eq_zero (by rw [← HM.out]; exact hm0)
          rw [this]; exact fun _ _ => Rd.nil
        go_wp2_with (fail)
        rw [← hmm]
        obtain ⟨A', hA'⟩ : ∃ A', A' = A1 := ⟨_, rfl⟩
        rw [← hA'] at hrd ⊢
        have HRD := Lib.hid hrd
        clear hrd hA' hmm HG hlt hci hm0
        go_loopg [5, 81] m (fun g ov kv wi => ∃ (j : Nat) (o : List Ch), j ≤ m ∧ g = m - j ∧ kv = .int .i64 j ∧ OwCh wi w.heap.size ov o ∧ o.length ≤ i + q + j ∧
          Below w.heap.size w wi ∧ Hid (o ++ (L.drop j).map goneC = R))
        case atStart => exact ⟨0, o, by omega, rfl, rfl, hown, by omega, hbw, HI'⟩
        case round =>
          clear HI'
          clear hown hol
          obtain ⟨j, o, hj, hg, rfl, hown, hol, hbi, HI⟩ := hrel
          have HG := Lib.hid hg
          clear hg
          by_cases hlt : j < m
          · have hjp : j < L.length := by have := HM.out; omega
            obtain ⟨ad1, a, rfl, _, hd1, _, hc1⟩ := (HRD.out _ hbi).el hjp
            obtain ⟨ek, ea, en, ef, es⟩ := a
            obtain ⟨r0, r1, r2, r3, r4⟩ := at_cells hc1
            have HD1 := Lib.hid hd1
            clear hd1 hc1
            have hbi2 := hbi.alloc hbi.size (.cells #[.int .i64 ek, .int .u8 ea, .int .i64 en, .int .u64 ef, .string es] 46)
            have hown2 := hown.alloc (.cells #[.int .i64 ek, .int .u8 ea, .int .i64 en, .int .u64 ef, .string es] 46)
            go_wp2_with (first
              | go_quiet (fail)
              | (at_builtin; refine app_ch (m := [goneC ⟨ek, ⟨ea, en, ef, es⟩⟩]) rfl (.tmp 85) (.tmp 89) rfl rfl (by first | exact (hown2.drewN _).alloc _ | exact hown2.alloc _) _ _ 1 1 rfl rfl (by first | exact rd_one (enc := Ch.enc) _ _ _ rfl | exact rd_one_at (enc := Ch.enc) _ _ _ rfl (size_alloc' _ _)) (by simp only [List.length_singleton]; omega) (Nat.le_trans hbi2.size (le_alloc _ _)) ?_; intro v' w' hown' hgr hv'))
            obtain ⟨s1, s2, s3⟩ := app_step (nq := 0) hown2 hbi2 (Nat.le_refl _) hgr hv'
            go_roundg (m - (j + 1))
            case measure => have := HG.out; omega
            case rel => exact ⟨j + 1, _, by omega, rfl, by go_num, hown', by simp; omega, s1, Lib.hid (by rw [← HI.out, HD1.out, List.append_assoc]; rfl)⟩
          · have hnil : L.drop j = [] := List.drop_eq_nil_of_le (by have := HM.out; omega)
            have HN := Lib.hid hnil
            clear hnil
            go_wp2_with (fail)
            have e : o = R := by have := HI.out; rw [HN.out] at this; simpa using this
            rw [e] at hown
            obtain ⟨A'', c', rfl, _, _⟩ := hown.form
            go_ret
            exact ⟨A'', c', rfl, hown, hbi⟩
end Go.Proofs.Ytclfplpggmefjaa
