/- Merged texts: Diff, Delta, DeltaLaw, FragLaw, LoadLaw, MkB, Made, SameCl. -/
import Derived.Test.YtfnkjcodcoehcaaGreatDoorP13
import Derived.Test.YtfnkjcodcoehcaaGreatDoorP10
import Derived.Test.YtfnkjcodcoehcaaGreatDoorP17
import Derived.Test.YtfnkjcodcoehcaaGreatDoorP19
import Derived.Test.YtfnkjcodcoehcaaGreatDoorP20
import Derived.Test.YtfnkjcodcoehcaaGreatDoorP16
import Derived.Test.YtfnkjcodcoehcaaGreatDoorP9
import Derived.Test.YtfnkjcodcoehcaaGreatDoorP14
import Derived.Test.YtfnkjcodcoehcaaGreatDoorP15
namespace Go.Proofs.YtfnkjcodcoehcaaGreatDoor
open Go.RowKit
set_option linter.unusedVariables false
set_option linter.unusedSimpArgs false

set_option maxHeartbeats 400000 in
theorem change_any (k a n f : Int) (s : ByteArray) (w : World) :
    Calls Tryz.prog 159 #[.agg #[.int .i64 k, .int .u8 a, .int .i64 n, .int .u64 f, .string s]] w fun e w' => e = .returned (.agg #[.int .i64 k, .bool false, .int .u8 a, .int .i64 n, .int .u64 f, .string s]) ∧ Below w.heap.size w w' := by
  go_enter Tryz.func159, Tryz.ntmps159
  go_wp2
  refine bodyPost_ret (v := .agg #[.int .i64 k, .bool false, .int .u8 a, .int .i64 n, .int .u64 f, .string s]) (by simp [results, Tryz.results159, go_sem]) rfl ⟨rfl, ?_⟩
  exact ((Below.refl _ _).alloc (Nat.le_refl _) _).alloc (by simp) _

set_option maxRecDepth 100000 in
set_option maxHeartbeats 400000 in
theorem diff_any (A1 A2 : Option Addr) (n1 n2 c1 c2 : Nat) (l k : List At) (w : World)
    (hn1 : n1 = l.length) (hn2 : n2 = k.length) (h1 : RdAt w w.heap.size A1 l) (h2 : RdAt w w.heap.size A2 k)
    (hb1 : n1 ≤ 100000000) (hb2 : n2 ≤ 100000000) (hc1 : n1 ≤ c1) (hcm : c1 ≤ maxLen) :
    Calls Tryz.prog 83 #[.slice A1 n1 c1, .slice A2 n2 c2] w (NewCh (diffP l k) w) := by
  unfold maxLen at hcm
  have N1 := Lib.hid hn1
  have N2 := Lib.hid hn2
  generalize hR : diffP l k = R
  have HR := Lib.hid hR
  clear hn1 hn2 hR
  go_enter Tryz.func83, Tryz.ntmps83
  go_wp2_with (fail)
  go_loopg [5, 6, 13] n2 (fun g ov iv kv wr => ∃ (q i : Nat) (o : List Ch), q ≤ n2 ∧ i ≤ n1 ∧ g = n2 - q ∧ iv = .int .i64 i ∧ kv = .int .i64 q ∧ OwCh wr w.heap.size ov o ∧ o.length ≤ i + q ∧
    Below w.heap.size w wr ∧ Hid (o ++ diffP (l.drop i) (k.drop q) = R))
  case atStart => exact ⟨0, 0, [], by omega, by omega, rfl, rfl, rfl, Ow.nil _ _, by simp, Below.refl _ _, Lib.hid (by simpa using HR.out)⟩
  case round =>
    obtain ⟨q, i, o, hk, hi, hg, rfl, rfl, hown, hol, hbw, HI⟩ := hrel
    have HG := Lib.hid hg
    clear hg HR
    by_cases hlt : q < n2
    · have hkp : q < k.length := by have := N2.out; omega
      obtain ⟨ad2, c, rfl, _, hd2, _, hc2⟩ := (h2.below hbw (Nat.le_refl _)).el hkp
      have HI' : Hid (o ++ diffAt (l.drop i) c (k.drop (q+1)) = R) := Lib.hid (by rw [← HI.out, hd2, diffP_cons])
      clear HI hkp hd2
      obtain ⟨ck, va, vn, vf, vs⟩ := c
      obtain ⟨q0, q1, q2, q3, q4⟩ := at_cells hc2
      clear hc2
      go_wp2_with (fail)
      obtain ⟨wo, rfl⟩ : ∃ wo : World, wo = wr := ⟨_, rfl⟩
      go_loopg [5, 6] (n1 - i) (fun g ov iv wi => ∃ (i : Nat) (o : List Ch), i ≤ n1 ∧ g = n1 - i ∧ iv = .int .i64 i ∧ OwCh wi w.heap.size ov o ∧ o.length ≤ i + q ∧
        Below w.heap.size w wi ∧ wi.heap[wo.heap.size]? = some (.cells #[.int .i64 ck, .int .u8 va, .int .i64 vn, .int .u64 vf, .string vs] 43 (0, 0)) ∧ wb ov ≠ some wo.heap.size ∧
        Hid (o ++ diffAt (l.drop i) ⟨ck, ⟨va, vn, vf, vs⟩⟩ (k.drop (q+1)) = R))
      case atStart =>
        refine ⟨i, o, hi, rfl, rfl, hown.alloc _, hol, hbw.alloc hbw.size _, heap_alloc_new _ _, fun e => ?_, HI'⟩
        have := (hown.wb_lt _ e).2; omega
      case round =>
        clear q0 q1 q2 q3 q4 hi hown hol hbw HI'
        obtain ⟨i, o, hi, hg, rfl, hown, hol, hbw, hbx, hwb, HI⟩ := hrel
        have HG2 := Lib.hid hg
        clear hg
        obtain ⟨b0, b1, b2, b3, b4⟩ := box_at hbx
        have HBX := Lib.hid hbx
        have HWB := Lib.hid hwb
        clear hbx hwb
        by_cases hil : i < n1
        · have hip : i < l.length := by have := N1.out; omega
          obtain ⟨ad1, a, rfl, _, hd1, _, hc1⟩ := (h1.below hbw (Nat.le_refl _)).el hip
          obtain ⟨ek, ea, en, ef, es⟩ := a
          obtain ⟨r0, r1, r2, r3, r4⟩ := at_cells hc1
          have hil' : decide ((i : Int) < n1) = true := by simp; omega
          have HD1 := Lib.hid hd1
          clear hd1
          by_cases hak : ek < ck
          · go_wp2_with (first
              | go_quiet (fail)
              | (at_builtin; refine app_ch (m := [goneC ⟨ek, ⟨ea, en, ef, es⟩⟩]) rfl (.tmp 33) (.tmp 40) rfl rfl (by first | exact (hown.drewN _).alloc _ | exact hown.alloc _) _ _ 1 1 rfl rfl (by first | exact rd_one (enc := Ch.enc) _ _ _ rfl | exact rd_one_at (enc := Ch.enc) _ _ _ rfl (size_alloc' _ _)) (by simp only [List.length_singleton]; omega) (Nat.le_trans hbw.size (le_alloc _ _)) ?_; intro v' w' hown' hgr hv'))
            obtain ⟨s1, s2, s3⟩ := app_step hown hbw (Nat.le_refl _) hgr hv'
            go_roundg (n1 - (i + 1))
            case measure => have := HG2.out; omega
            case rel =>
              exact ⟨i + 1, _, by omega, rfl, by go_num, hown', by simp; omega, s1, s2 _ _ HBX.out HWB.out, s3 _ (blk_lt HBX.out) HWB.out,
                Lib.hid (by rw [← HI.out, HD1.out, diffAt_less _ _ _ _ hak, List.append_assoc]; rfl)⟩
          · by_cases hek : ek = ck
            · subst hek
              have hbeq : (ek == ek) = true := by simp
              by_cases hv : (⟨ea, en, ef, es⟩ : V) = ⟨va, vn, vf, vs⟩
              · have hq := beqV_eq hv
                have HV := Lib.hid hv
                clear hv
                go_wp2_with (go_quiet (fail))
                go_roundg (n2 - (q + 1))
                case measure => have := HG.out; omega
                case rel =>
                  exact ⟨q + 1, i + 1, o, by omega, by omega, rfl, by go_num, by go_num, hown, by omega, below_drewN hbw _,
                    Lib.hid (by rw [← HI.out, HD1.out, diffAt_same ⟨ek, ⟨ea, en, ef, es⟩⟩ _ ⟨ek, ⟨va, vn, vf, vs⟩⟩ _ rfl HV.out])⟩
              · have hq := beqV_ne hv
                have HV := Lib.hid hv
                clear hv
                go_wp2_with (first
                  | go_quiet (fail)
                  | (go_at_call 159; refine (change_any _ _ _ _ _ _).mono ?_; rintro e w2 ⟨rfl, hb2'⟩; have hbw2 := (below_drewN hbw _).trans (hb2'.mono (by first | exact hbw.size | exact (below_drewN hbw _).size)); have hown2 := (hown.drewN _).below hb2' (Nat.le_refl _))
                  | (at_builtin; refine app_ch (m := [chg ⟨ek, ⟨va, vn, vf, vs⟩⟩]) rfl (.tmp 64) (.tmp 67) rfl rfl (by first | exact (hown2.drewN _).alloc _ | exact hown2.alloc _) _ _ 1 1 rfl rfl (by first | exact rd_one (enc := Ch.enc) _ _ _ rfl | exact rd_one_at (enc := Ch.enc) _ _ _ rfl (size_alloc' _ _)) (by simp only [List.length_singleton]; omega) (Nat.le_trans hbw2.size (le_alloc _ _)) ?_; intro v' w' hown' hgr hv'))
                obtain ⟨s1, s2, s3⟩ := app_step (nq := 0) hown2 hbw2 (Nat.le_refl _) hgr hv'
                go_roundg (n2 - (q + 1))
                case measure => have := HG.out; omega
                case rel =>
                  exact ⟨q + 1, i + 1, _, by omega, by omega, rfl, by go_num, by go_num, hown', by simp; omega, s1,
                    Lib.hid (by rw [← HI.out, HD1.out, diffAt_other ⟨ek, ⟨ea, en, ef, es⟩⟩ _ ⟨ek, ⟨va, vn, vf, vs⟩⟩ _ rfl HV.out, List.append_assoc]; rfl)⟩
            · have hek' : (ek == ck) = false := beq_eq_false_iff_ne.2 hek
              go_wp2_with (first
                | go_quiet (fail)
                | (go_at_call 159; refine (change_any _ _ _ _ _ _).mono ?_; rintro e w2 ⟨rfl, hb2'⟩; have hbw2 := (below_drewN hbw _).trans (hb2'.mono (by first | exact hbw.size | exact (below_drewN hbw _).size)); have hown2 := (hown.drewN _).below hb2' (Nat.le_refl _))
                | (at_builtin; refine app_ch (m := [chg ⟨ck, ⟨va, vn, vf, vs⟩⟩]) rfl (.tmp 71) (.tmp 74) rfl rfl (by first | exact (hown2.drewN _).alloc _ | exact hown2.alloc _) _ _ 1 1 rfl rfl (by first | exact rd_one (enc := Ch.enc) _ _ _ rfl | exact rd_one_at (enc := Ch.enc) _ _ _ rfl (size_alloc' _ _)) (by simp only [List.length_singleton]; omega) (Nat.le_trans hbw2.size (le_alloc _ _)) ?_; intro v' w' hown' hgr hv'))
              obtain ⟨s1, s2, s3⟩ := app_step (nq := 0) hown2 hbw2 (Nat.le_refl _) hgr hv'
              go_roundg (n2 - (q + 1))
              case measure => have := HG.out; omega
              case rel =>
                exact ⟨q + 1, i, _, by omega, by omega, rfl, rfl, by go_num, hown', by simp; omega, s1,
                  Lib.hid (by rw [← HI.out, HD1.out, diffAt_more _ _ _ _ (by show ck < ek; omega), List.append_assoc]; rfl)⟩
        · have hd1 : l.drop i = [] := List.drop_eq_nil_of_le (by have := N1.out; omega)
          have HD1 := Lib.hid hd1
          have hil' : decide ((i : Int) < n1) = false := by simp; omega
          clear hd1
          go_wp2_with (first
            | go_quiet (fail)
            | (go_at_call 159; refine (change_any _ _ _ _ _ _).mono ?_; rintro e w2 ⟨rfl, hb2'⟩; have hbw2 := (below_drewN hbw _).trans (hb2'.mono (by first | exact hbw.size | exact (below_drewN hbw _).size)); have hown2 := (hown.drewN _).below hb2' (Nat.le_refl _))
            | (at_builtin; refine app_ch (m := [chg ⟨ck, ⟨va, vn, vf, vs⟩⟩]) rfl (.tmp 71) (.tmp 74) rfl rfl (by first | exact (hown2.drewN _).alloc _ | exact hown2.alloc _) _ _ 1 1 rfl rfl (by first | exact rd_one (enc := Ch.enc) _ _ _ rfl | exact rd_one_at (enc := Ch.enc) _ _ _ rfl (size_alloc' _ _)) (by simp only [List.length_singleton]; omega) (Nat.le_trans hbw2.size (le_alloc _ _)) ?_; intro v' w' hown' hgr hv'))
          obtain ⟨s1, s2, s3⟩ := app_step (nq := 0) hown2 hbw2 (Nat.le_refl _) hgr hv'
          go_roundg (n2 - (q + 1))
          case measure => have := HG.out; omega
          case rel =>
            exact ⟨q + 1, i, _, by omega, by omega, rfl, rfl, by go_num, hown', by simp; omega, s1,
              Lib.hid (by rw [← HI.out, HD1.out, diffAt_nil, List.append_assoc]; rfl)⟩
    · have hdp : k.drop q = [] := List.drop_eq_nil_of_le (by have := N2.out; omega)
      have HI' : Hid (o ++ (l.drop i).map goneC = R) := Lib.hid (by rw [← HI.out, hdp, diffP_nil])
      clear HI hdp
      have hrd : ∀ wi, Below w.heap.size w wi → RdAt wi w.heap.size (if c1 = i then A1 else A1.map (fun x => x.add (i * 5))) (l.drop i) := fun wi hbi => (h1.below hbi (Nat.le_refl _)).cut (k := i) (cap := c1) (by have := N1.out; omega) (by have := N1.out; omega)
      have hm : n1 - i = (l.drop i).length := by rw [List.length_drop, N1.out]
      generalize l.drop i = L at *
      have hbw0 := hbw
      obtain ⟨m, hmm⟩ : ∃ m, m = n1 - i := ⟨_, rfl⟩
      have HM : Hid (m = L.length) := Lib.hid (by rw [hmm, hm])
      have hmb : m ≤ n1 := by omega
      clear hm
      rcases Nat.lt_or_ge i c1 with hci | hci
      · have hne : ¬ c1 = i := by omega
        simp only [if_neg hne] at hrd
        go_wp2_with (fail)
        rw [← hmm]
        obtain ⟨A', hA'⟩ : ∃ A', A' = A1.map (fun x => x.add (i * 5)) := ⟨_, rfl⟩
        rw [← hA'] at hrd ⊢
        have HRD := Lib.hid hrd
        clear hrd hA' hmm HG hlt hci hne
        go_loopg [5, 81] m (fun g ov kv wi => ∃ (j : Nat) (o : List Ch), j ≤ m ∧ g = m - j ∧ kv = .int .i64 j ∧ OwCh wi w.heap.size ov o ∧ o.length ≤ i + q + j ∧
          Below w.heap.size w wi ∧ Hid (o ++ (L.drop j).map goneC = R))
        case atStart => exact ⟨0, o, by omega, rfl, rfl, hown, by omega, hbw, HI'⟩
        case round =>
          clear HI'
          clear hown hol
          obtain ⟨j, o, hj, hg, rfl, hown, hol, hbi, HI⟩ := hrel
          have HG := Lib.hid hg
          clear hg
          by_cases hlt : j < m
          · have hjp : j < L.length := by have := HM.out; omega
            obtain ⟨ad1, a, rfl, _, hd1, _, hc1⟩ := (HRD.out _ hbi).el hjp
            obtain ⟨ek, ea, en, ef, es⟩ := a
            obtain ⟨r0, r1, r2, r3, r4⟩ := at_cells hc1
            have HD1 := Lib.hid hd1
            clear hd1 hc1
            have hbi2 := hbi.alloc hbi.size (.cells #[.int .i64 ek, .int .u8 ea, .int .i64 en, .int .u64 ef, .string es] 43)
            have hown2 := hown.alloc (.cells #[.int .i64 ek, .int .u8 ea, .int .i64 en, .int .u64 ef, .string es] 43)
            go_wp2_with (first
              | go_quiet (fail)
              | (at_builtin; refine app_ch (m := [goneC ⟨ek, ⟨ea, en, ef, es⟩⟩]) rfl (.tmp 85) (.tmp 89) rfl rfl (by first | exact (hown2.drewN _).alloc _ | exact hown2.alloc _) _ _ 1 1 rfl rfl (by first | exact rd_one (enc := Ch.enc) _ _ _ rfl | exact rd_one_at (enc := Ch.enc) _ _ _ rfl (size_alloc' _ _)) (by simp only [List.length_singleton]; omega) (Nat.le_trans hbi2.size (le_alloc _ _)) ?_; intro v' w' hown' hgr hv'))
            obtain ⟨s1, s2, s3⟩ := app_step (nq := 0) hown2 hbi2 (Nat.le_refl _) hgr hv'
            go_roundg (m - (j + 1))
            case measure => have := HG.out; omega
            case rel => exact ⟨j + 1, _, by omega, rfl, by go_num, hown', by simp; omega, s1, Lib.hid (by rw [← HI.out, HD1.out, List.append_assoc]; rfl)⟩
          · have hnil : L.drop j = [] := List.drop_eq_nil_of_le (by have := HM.out; omega)
            have HN := Lib.hid hnil
            clear hnil
            go_wp2_with (fail)
            have e : o = R := by have := HI.out; rw [HN.out] at this; simpa using this
            rw [e] at hown
            obtain ⟨A'', c', rfl, _, _⟩ := hown.form
            go_ret
            exact ⟨A'', c', rfl, hown, hbi⟩
      · have hm0 : m = 0 := by omega
        have hrd : ∀ wi, Below w.heap.size w wi → RdAt wi w.heap.size A1 L := by
          have : L = [] := List.eq_nil_of_length_eq_zero (by rw [← HM.out]; exact hm0)
          rw [this]; exact fun _ _ => Rd.nil
        go_wp2_with (fail)
        rw [← hmm]
        obtain ⟨A', hA'⟩ : ∃ A', A' = A1 := ⟨_, rfl⟩
        rw [← hA'] at hrd ⊢
        have HRD := Lib.hid hrd
        clear hrd hA' hmm HG hlt hci hm0
        go_loopg [5, 81] m (fun g ov kv wi => ∃ (j : Nat) (o : List Ch), j ≤ m ∧ g = m - j ∧ kv = .int .i64 j ∧ OwCh wi w.heap.size ov o ∧ o.length ≤ i + q + j ∧
          Below w.heap.size w wi ∧ Hid (o ++ (L.drop j).map goneC = R))
        case atStart => exact ⟨0, o, by omega, rfl, rfl, hown, by omega, hbw, HI'⟩
        case round =>
          clear HI'
          clear hown hol
          obtain ⟨j, o, hj, hg, rfl, hown, hol, hbi, HI⟩ := hrel
          have HG := Lib.hid hg
          clear hg
          by_cases hlt : j < m
          · have hjp : j < L.length := by have := HM.out; omega
            obtain ⟨ad1, a, rfl, _, hd1, _, hc1⟩ := (HRD.out _ hbi).el hjp
            obtain ⟨ek, ea, en, ef, es⟩ := a
            obtain ⟨r0, r1, r2, r3, r4⟩ := at_cells hc1
            have HD1 := Lib.hid hd1
            clear hd1 hc1
            have hbi2 := hbi.alloc hbi.size (.cells #[.int .i64 ek, .int .u8 ea, .int .i64 en, .int .u64 ef, .string es] 43)
            have hown2 := hown.alloc (.cells #[.int .i64 ek, .int .u8 ea, .int .i64 en, .int .u64 ef, .string es] 43)
            go_wp2_with (first
              | go_quiet (fail)
              | (at_builtin; refine app_ch (m := [goneC ⟨ek, ⟨ea, en, ef, es⟩⟩]) rfl (.tmp 85) (.tmp 89) rfl rfl (by first | exact (hown2.drewN _).alloc _ | exact hown2.alloc _) _ _ 1 1 rfl rfl (by first | exact rd_one (enc := Ch.enc) _ _ _ rfl | exact rd_one_at (enc := Ch.enc) _ _ _ rfl (size_alloc' _ _)) (by simp only [List.length_singleton]; omega) (Nat.le_trans hbi2.size (le_alloc _ _)) ?_; intro v' w' hown' hgr hv'))
            obtain ⟨s1, s2, s3⟩ := app_step (nq := 0) hown2 hbi2 (Nat.le_refl _) hgr hv'
            go_roundg (m - (j + 1))
            case measure => have := HG.out; omega
            case rel => exact ⟨j + 1, _, by omega, rfl, by go_num, hown', by simp; omega, s1, Lib.hid (by rw [← HI.out, HD1.out, List.append_assoc]; rfl)⟩
          · have hnil : L.drop j = [] := List.drop_eq_nil_of_le (by have := HM.out; omega)
            have HN := Lib.hid hnil
            clear hnil
            go_wp2_with (fail)
            have e : o = R := by have := HI.out; rw [HN.out] at this; simpa using this
            rw [e] at hown
            obtain ⟨A'', c', rfl, _, _⟩ := hown.form
            go_ret
            exact ⟨A'', c', rfl, hown, hbi⟩
end Go.Proofs.YtfnkjcodcoehcaaGreatDoor
namespace Go.Proofs.YtfnkjcodcoehcaaGreatDoor
open Go.RowKit
set_option linter.unusedVariables false
set_option linter.unusedSimpArgs false

theorem InsB.new : InsB Mk.new 0 := ⟨Nat.le_refl _, fun o h => by cases h⟩
end Go.Proofs.YtfnkjcodcoehcaaGreatDoor
namespace Go.Proofs.YtfnkjcodcoehcaaGreatDoor
set_option linter.unusedVariables false
set_option linter.unusedSimpArgs false

def insU (c : Cl) : Un := .ins c.r c.s
theorem MkAt.tell {m : Mk} {K I : List Un} {g : Nat} (h : MkAt m K I g) (d : List Cl) : MkAt (tellM m d) K (I ++ d.map insU) g := by
  induction d generalizing m I with
  | nil => simpa [tellM] using h
  | cons c d ih =>
    have := ih (h.insert [c.r] c.s)
    rw [List.append_assoc] at this
    exact this
end Go.Proofs.YtfnkjcodcoehcaaGreatDoor
namespace Go.Proofs.YtfnkjcodcoehcaaGreatDoor
set_option linter.unusedVariables false
set_option linter.unusedSimpArgs false

/-- a fragment's maker -/
def pasteM (p : Int) (f : List Cl) : Mk := tellM (mkRetain Mk.new p []) f
theorem Told.tell {m : Mk} {us : List Un} (h : Told m us) : ∀ d : List Cl, Told (tellM m d) (us ++ d.map insU) := by
  intro d
  induction d generalizing m us with
  | nil => simpa [tellM] using h
  | cons c d ih =>
    have h1 := ih (h.insert [c.r] c.s)
    rw [List.append_assoc] at h1
    exact h1
theorem tight_isOp : ∀ {x : List Opd}, tight x → ∀ o ∈ x, isOp o
  | [], _ => fun o h => by cases h
  | a :: x, h => fun o ho => by
    rcases List.mem_cons.1 ho with rfl | ho
    · exact h.1
    · exact tight_isOp h.2.2 o ho
end Go.Proofs.YtfnkjcodcoehcaaGreatDoor
namespace Go.Proofs.YtfnkjcodcoehcaaGreatDoor
set_option linter.unusedVariables false
set_option linter.unusedSimpArgs false

theorem mayV_size {v : V} (h : mayV v = true) : v.s.size ≤ 64 := by
  unfold mayV at h
  by_cases h1 : v.k = 1
  · rw [if_pos h1] at h
    have e : v = _ := of_decide_eq_true h
    rw [e]; exact Nat.zero_le _
  rw [if_neg h1] at h
  by_cases h2 : v.k = 2
  · rw [if_pos h2] at h
    have e : v = _ := of_decide_eq_true h
    rw [e]; exact Nat.zero_le _
  rw [if_neg h2] at h
  by_cases h3 : v.k = 3
  · rw [if_pos h3] at h
    have e : v = _ := of_decide_eq_true h
    rw [e]; exact Nat.zero_le _
  rw [if_neg h3] at h
  by_cases h4 : v.k = 4
  · rw [if_pos h4, Bool.and_eq_true] at h
    exact (of_decide_eq_true h.1).1
  · rw [if_neg h4] at h; cases h
/-- the values of a set that may be are small -/
theorem mayS_va {l : List Ky} {s : List At} (h : mayS l s = 0) (hv : okVr s) : okVa s := fun c hc => by
  obtain ⟨_, _, h3, _⟩ := mayS_zero h
  exact ⟨hv c hc, by have := mayV_size (h3 c hc); omega⟩
end Go.Proofs.YtfnkjcodcoehcaaGreatDoor
namespace Go.Proofs.YtfnkjcodcoehcaaGreatDoor
set_option linter.unusedVariables false
set_option linter.unusedSimpArgs false

/-- a maker has at most K ops, with at most K runes and S attributes or changes each -/
structure MkB (m : Mk) (K S : Nat) : Prop where
  len : m.done.length + m.ins.length ≤ K
  prt : ∀ o ∈ m.done ++ m.ins, o.r.length ≤ K ∧ o.s.length ≤ S ∧ o.p.length ≤ S
theorem MkB.new (S : Nat) : MkB Mk.new 0 S := ⟨Nat.le_refl _, fun o h => by simp [Mk.new] at h⟩
theorem MkB.mono {m : Mk} {K K' S S' : Nat} (h : MkB m K S) (hK : K ≤ K') (hS : S ≤ S') : MkB m K' S' :=
  ⟨Nat.le_trans h.len hK, fun o ho => by obtain ⟨h1, h2, h3⟩ := h.prt o ho; exact ⟨by omega, by omega, by omega⟩⟩
theorem MkB.gap {m : Mk} {K S : Nat} (h : MkB m K S) : (m.done ++ mkGap m).length ≤ K + 1 ∧ ∀ o ∈ m.done ++ mkGap m, o.r.length ≤ K ∧ o.s.length ≤ S ∧ o.p.length ≤ S := by
  have h1 := h.len
  refine ⟨?_, fun o ho => ?_⟩
  · unfold mkGap
    split <;> simp <;> omega
  · unfold mkGap at ho
    rw [← List.append_assoc] at ho
    rcases List.mem_append.1 ho with ho | ho
    · exact h.prt o ho
    · split at ho
      · simp at ho; subst ho; exact ⟨Nat.zero_le _, Nat.zero_le _, Nat.zero_le _⟩
      · cases ho
theorem addR_bnd {d : List Opd} {n : Int} {p : List Ch} {K S : Nat} (h : ∀ o ∈ d, o.r.length ≤ K ∧ o.s.length ≤ S ∧ o.p.length ≤ S) (hp : p.length ≤ S) :
    (addR d n p).length ≤ d.length + 1 ∧ ∀ o ∈ addR d n p, o.r.length ≤ K ∧ o.s.length ≤ S ∧ o.p.length ≤ S := by
  have push : (d ++ [opR n p]).length ≤ d.length + 1 ∧ ∀ o ∈ d ++ [opR n p], o.r.length ≤ K ∧ o.s.length ≤ S ∧ o.p.length ≤ S := ⟨by simp, fun o ho => by
    rcases List.mem_append.1 ho with ho | ho
    · exact h o ho
    · simp at ho; subst ho; exact ⟨Nat.zero_le _, Nat.zero_le _, hp⟩⟩
  unfold addR
  cases hg : d.getLast? with
  | none => exact push
  | some o =>
    simp only
    by_cases hc : o.k = 1 ∧ o.p = p
    · rw [if_pos hc]
      have hm := List.mem_of_getLast? hg
      refine ⟨by simp, fun x hx => ?_⟩
      rcases List.mem_append.1 hx with hx | hx
      · exact h x ((List.dropLast_sublist _).subset hx)
      · simp at hx; subst hx; exact h o hm
    · rw [if_neg hc]; exact push
theorem MkB.retain {m : Mk} {K S : Nat} (h : MkB m K S) (n : Int) {p : List Ch} (hp : p.length ≤ S) : MkB (mkRetain m n p) (K + 2) S := by
  unfold mkRetain
  split
  · exact h.mono (by omega) (Nat.le_refl _)
  · obtain ⟨g1, g2⟩ := h.gap
    obtain ⟨a1, a2⟩ := addR_bnd (n := n) (p := p) g2 hp
    refine ⟨by show (addR _ n p).length + 0 ≤ _; omega, fun o ho => ?_⟩
    have ho' : o ∈ addR (m.done ++ mkGap m) n p := by simpa using ho
    obtain ⟨h1, h2, h3⟩ := a2 o ho'
    exact ⟨by omega, h2, h3⟩
theorem MkB.insert {m : Mk} {K S : Nat} (h : MkB m K S) (l : List Int) {s : List At} (hs : s.length ≤ S) : MkB (mkInsert m l s) (K + l.length) S := by
  unfold mkInsert
  by_cases hl : l = []
  · rw [if_pos hl]; exact h.mono (by omega) (Nat.le_refl _)
  · rw [if_neg hl]
    have hpos : 0 < l.length := List.length_pos_iff.2 hl
    have hlen := h.len
    have base : ∀ o ∈ m.done ++ m.ins, o.r.length ≤ K + l.length ∧ o.s.length ≤ S ∧ o.p.length ≤ S := fun o ho => by obtain ⟨h1, h2, h3⟩ := h.prt o ho; exact ⟨by omega, h2, h3⟩
    have push : MkB { m with ins := m.ins ++ [opI l s] } (K + l.length) S := ⟨by simp; omega, fun o ho => by
      simp only at ho
      rw [← List.append_assoc] at ho
      rcases List.mem_append.1 ho with ho | ho
      · exact base o ho
      · simp at ho; subst ho; exact ⟨by simp [opI], hs, Nat.zero_le _⟩⟩
    unfold addI
    cases hg : m.ins.getLast? with
    | none => exact push
    | some o =>
      simp only
      by_cases hc : o.s = s
      · rw [if_pos hc]
        have hm := List.mem_of_getLast? hg
        have hpi := List.length_pos_of_mem hm
        refine ⟨by simp; omega, fun x hx => ?_⟩
        simp only at hx
        rw [← List.append_assoc] at hx
        rcases List.mem_append.1 hx with hx | hx
        · refine base x ?_
          rcases List.mem_append.1 hx with hx | hx
          · exact List.mem_append_left _ hx
          · exact List.mem_append_right _ ((List.dropLast_sublist _).subset hx)
        · simp at hx; subst hx
          obtain ⟨h1, h2, h3⟩ := h.prt o (List.mem_append_right _ hm)
          exact ⟨by simp; omega, h2, h3⟩
      · rw [if_neg hc]; exact push
theorem MkB.delete {m : Mk} {K S : Nat} (h : MkB m K S) (n : Int) : MkB (mkDelete m n) K S := ⟨h.len, h.prt⟩
theorem cutR_sub (d : List Opd) : (cutR d).length ≤ d.length ∧ ∀ o ∈ cutR d, o ∈ d := by
  unfold cutR
  split
  · split
    · exact ⟨(List.dropLast_sublist _).length_le, fun o ho => (List.dropLast_sublist _).subset ho⟩
    · exact ⟨Nat.le_refl _, fun o ho => ho⟩
  · exact ⟨Nat.le_refl _, fun o ho => ho⟩
theorem MkB.ops {m : Mk} {K S : Nat} (h : MkB m K S) : (mkOps m).length ≤ K + 1 ∧ ∀ o ∈ mkOps m, o.r.length ≤ K ∧ o.s.length ≤ S ∧ o.p.length ≤ S := by
  obtain ⟨g1, g2⟩ := h.gap
  obtain ⟨c1, c2⟩ := cutR_sub (m.done ++ mkGap m)
  exact ⟨Nat.le_trans c1 g1, fun o ho => g2 o (c2 o ho)⟩
end Go.Proofs.YtfnkjcodcoehcaaGreatDoor
namespace Go.Proofs.YtfnkjcodcoehcaaGreatDoor
open Go.RowKit
set_option linter.unusedVariables false
set_option linter.unusedSimpArgs false

theorem nf_all {P : Un → Prop} (hd : P .del) {us : List Un} (h : ∀ u ∈ us, P u) : ∀ u ∈ nf us, P u := fun u hu => by
  obtain ⟨k, hk⟩ := trim_pre (canon us)
  refine cn_all hd us [] 0 (by simp) h u ?_
  show u ∈ canon us
  rw [hk]; exact List.mem_append_left _ hu
theorem MkB.tell {S : Nat} : ∀ (f : List Cl) {m : Mk} {K : Nat}, MkB m K S → (∀ c ∈ f, c.s.length ≤ S) → MkB (tellM m f) (K + f.length) S
  | [], m, K, h, _ => h
  | c :: f, m, K, h, hs => by
    have h1 := h.insert [c.r] (hs c (by simp))
    have h2 := MkB.tell f h1 (fun x hx => hs x (List.mem_cons_of_mem _ hx))
    have e : tellM m (c :: f) = tellM (mkInsert m [c.r] c.s) f := rfl
    rw [e]
    exact h2.mono (by simp; omega) (Nat.le_refl _)
/-- a made delta may be handed on -/
theorem ok_made {x : List OpS} {m : Mk} {us : List Un} {K S : Nat} (hx : osOf x = mkOps m) (ht : Told m us) (hu : ∀ u ∈ us, okUn u) (hB : MkB m K S) (hK : K ≤ 100000000) (hS : S ≤ 100000000) : (∀ o ∈ x, okOp o.o) ∧ x.length ≤ K + 1 := by
  obtain ⟨h1, h2⟩ := ht.ops
  rw [← hx] at h1 h2
  obtain ⟨b1, b2⟩ := hB.ops
  rw [← hx] at b1 b2
  have hn := nf_all (P := okUn) trivial hu
  rw [← h2] at hn
  refine ⟨fun o ho => ?_, by unfold osOf at b1; simpa using b1⟩
  have hom : o.o ∈ osOf x := by unfold osOf; exact List.mem_map_of_mem ho
  obtain ⟨l1, l2, l3⟩ := b2 o.o hom
  have hop := tight_isOp h1 o.o hom
  have hsub : ∀ u ∈ unitsO o.o, okUn u := fun u hu => hn u (units_mem.2 ⟨o, ho, hu⟩)
  have nilr : okVr ([] : List At) := fun c hc => by cases hc
  have nils : okVs ([] : List Ch) := fun c hc => by cases hc
  refine ⟨?_, ?_, by omega, by omega, by omega⟩
  · rcases isOp_kind hop with hk | hk | hk
    · obtain ⟨e, hr⟩ := opI_of hop hk
      cases hr' : o.o.r with
      | nil => exact absurd hr' hr
      | cons r rs => exact hsub (.ins r o.o.s) (by unfold unitsO; rw [if_pos hk, hr']; simp)
    · obtain ⟨e, hr⟩ := opD_of hop hk
      rw [e]; exact nilr
    · obtain ⟨e, hr⟩ := opR_of hop hk
      rw [e]; exact nilr
  · rcases isOp_kind hop with hk | hk | hk
    · obtain ⟨e, hr⟩ := opI_of hop hk
      rw [e]; exact nils
    · obtain ⟨e, hr⟩ := opD_of hop hk
      rw [e]; exact nils
    · obtain ⟨e, hr⟩ := opR_of hop hk
      obtain ⟨k, hk2⟩ : ∃ k, o.o.n.toNat = k + 1 := ⟨o.o.n.toNat - 1, by omega⟩
      exact hsub (.ret o.o.p) (by unfold unitsO; rw [if_neg (by rw [hk]; decide), if_pos hk, hk2]; simp [List.replicate_succ])
/-- how it reads -/
theorem rd_made {w : World} {B : Nat} {A : Option Addr} {c : Nat} {x : List OpS} (ho : OwOs w B (.slice A x.length c) x) (hp : ∀ z ∈ x, ∃ g, PartN w B g z) : RdOp w w.heap.size A x := ⟨ho.rd OpS.enc_len, fun z hz => by
  obtain ⟨g, h1, h2, h3⟩ := hp z hz
  exact ⟨h1.1.rd encI32_len, h2.1.rd At.enc_len, h3.1.rd Ch.enc_len⟩⟩
/-- how cells of the call's own read -/
theorem rd_cells {w : World} {B B2 : Nat} {A : Option Addr} {c : Nat} {v : Value} {L : List ClS} (ho : OwCs w B (.slice A L.length c) L) (hp : ∀ z ∈ L, PartC w B2 v z) : RdCl w w.heap.size A L ∧ (∀ z ∈ L, z.c.s.length ≤ z.cs ∧ z.cs ≤ maxLen) ∧ L.length ≤ c := ⟨⟨ho.rd ClS.enc_len, fun z hz => (hp z hz).1.rd At.enc_len⟩, fun z hz => by
    obtain ⟨_, _, hv, hc1, hc2⟩ := (hp z hz).1.form
    injection hv with _ _ hcc
    subst hcc
    exact ⟨hc1, hc2⟩, ho.cap.1⟩
end Go.Proofs.YtfnkjcodcoehcaaGreatDoor
namespace Go.Proofs.YtfnkjcodcoehcaaGreatDoor
open Go.RowKit
set_option linter.unusedVariables false
set_option linter.unusedSimpArgs false

set_option maxRecDepth 100000 in
set_option maxHeartbeats 400000 in
theorem sameCl1_any (r1 r2 : Int) (p1 p2 : List At) (A1 A2 : Option Addr) (c1 c2 : Nat) (w : World) (h1 : RdAt w w.heap.size A1 p1) (h2 : RdAt w w.heap.size A2 p2) (b1 : p1.length ≤ 140737488355328) (b2 : p2.length ≤ 140737488355328) :
    Calls Tryz.prog 140 #[.agg #[.int .i32 r1, .slice A1 p1.length c1], .agg #[.int .i32 r2, .slice A2 p2.length c2]] w fun e w' => e = .returned (.bool (decide ((⟨r1, p1⟩ : Cl) = ⟨r2, p2⟩))) ∧ Below w.heap.size w w' := by
  have y1 := ext_alloc w (.cells #[.int .i32 r1, .slice A1 p1.length c1] 38)
  have y2 := ext_alloc (w.alloc (.cells #[.int .i32 r1, .slice A1 p1.length c1] 38)) (.cells #[.int .i32 r2, .slice A2 p2.length c2] 38)
  have yy := ext_trans y1 y2
  have q1 := h1.ext yy
  have q2 := h2.ext yy
  obtain ⟨a0, a1⟩ := box_cl ((y2.block w.heap.size (by simp)).trans (heap_alloc_new w (.cells #[.int .i32 r1, .slice A1 p1.length c1] 38)))
  by_cases hr : r1 = r2
  · subst hr
    have HB : Hid (decide ((⟨r1, p1⟩ : Cl) = ⟨r1, p2⟩) = decide (p1 = p2)) := Lib.hid (by by_cases h : p1 = p2 <;> simp [h])
    rw [HB.out]
    clear y1 y2 h1 h2
    go_enter Tryz.func140, Tryz.ntmps140
    go_wp2_with (go_at_call 141; refine Hid.out ?_)
    refine Lib.hid ?_
    refine (attrsSame_any A1 A2 p1.length p2.length c1 c2 p1 p2 _ rfl rfl q1 q2 b1 b2).mono ?_
    rintro e w' ⟨rfl, q, rfl⟩
    cases hd : decide (p1 = p2)
    all_goals
      have HD := Lib.hid hd
      clear hd
      go_wp2_with (fail)
      go_ret
      exact ⟨ret_bool HD.out.symm, below_drewN yy q⟩
  · have HB : Hid (decide ((⟨r1, p1⟩ : Cl) = ⟨r2, p2⟩) = false) := Lib.hid (decide_eq_false (fun e => hr (by injection e)))
    rw [HB.out]
    have hne : (r1 == r2) = false := beq_eq_false_iff_ne.2 hr
    clear y1 y2 h1 h2 hr
    go_enter Tryz.func140, Tryz.ntmps140
    go_wp2_with (fail)
    go_ret
    exact ⟨rfl, yy⟩

set_option maxRecDepth 100000 in
set_option maxHeartbeats 800000 in
theorem equalCl_any (A B : Option Addr) (n m c d : Nat) (l k : List ClS) (w : World) (hn : n = l.length) (hm : m = k.length) (h1 : RdCl w w.heap.size A l) (h2 : RdCl w w.heap.size B k) (hb : n ≤ 100000000) (hb2 : m ≤ 100000000)
    (hs1 : ∀ x ∈ l, x.c.s.length ≤ 140737488355328) (hs2 : ∀ x ∈ k, x.c.s.length ≤ 140737488355328) :
    Calls Tryz.prog 139 #[.slice A n c, .slice B m d, .func (.func 140) #[] #[]] w fun e w' => e = .returned (.bool (decide (clsOf l = clsOf k))) ∧ Below w.heap.size w w' := by
  have N := Lib.hid hn
  have M := Lib.hid hm
  have H1 := Lib.hid h1
  have H2 := Lib.hid h2
  have S1 := Lib.hid hs1
  have S2 := Lib.hid hs2
  generalize hR : decide (clsOf l = clsOf k) = R
  have HR := Lib.hid hR
  clear hn hR hm h1 h2 hs1 hs2
  have HL : Hid (∀ x : List ClS, (clsOf x).length = x.length) := Lib.hid (fun x => by unfold clsOf; simp)
  by_cases hnm : (n : Int) = m
  · have hnm' : n = m := by omega
    subst hnm'
    clear hnm
    go_enter Tryz.func139, Tryz.ntmps139
    go_wp2_with (fail)
    go_loopg [17] n (fun g iv wr => ∃ i : Nat, i ≤ n ∧ g = n - i ∧ iv = .int .i64 (i : Int) ∧ Below w.heap.size w wr ∧ Hid (decide (clsOf (l.drop i) = clsOf (k.drop i)) = R))
    case atStart => exact ⟨0, by omega, rfl, rfl, Below.refl _ _, Lib.hid (by rw [List.drop_zero, List.drop_zero]; exact HR.out)⟩
    case round =>
      obtain ⟨i, hi, hg, rfl, y, HI⟩ := hrel
      have HG := Lib.hid hg
      clear hg HR
      by_cases hlt : i < n
      · have hl1 : i < l.length := by have := N.out; omega
        have hl2 : i < k.length := by have := M.out; omega
        obtain ⟨ad, x, rfl, _, hd1, hx1, hc1⟩ := (H1.out.ext y).1.el hl1
        obtain ⟨ad2, x', rfl, had2, hd2, hx2, hc2⟩ := (H2.out.ext y).1.el hl2
        have hm1 := List.mem_of_getElem? hx1
        have hm2 := List.mem_of_getElem? hx2
        have p1 := Lib.hid (H1.out.2 x hm1)
        have p2 := Lib.hid (H2.out.2 x' hm2)
        have b1 := Lib.hid (S1.out x hm1)
        have b2 := Lib.hid (S2.out x' hm2)
        have HI' : Hid (decide (x.c :: clsOf (l.drop (i + 1)) = x'.c :: clsOf (k.drop (i + 1))) = R) := Lib.hid (by rw [← HI.out, hd1, hd2]; rfl)
        clear HI hd1 hd2 hx1 hx2 hm1 hm2
        obtain ⟨⟨r1, s1⟩, As1, cs1⟩ := x
        obtain ⟨⟨r2, s2⟩, As2, cs2⟩ := x'
        obtain ⟨z0, z1⟩ := cl_cells hc1
        have ya := ext_alloc wr (.cells #[.int .i32 r1, .slice As1 s1.length cs1] 38)
        obtain ⟨u0, u1⟩ := cl_cells (hc2.keep (w' := wr.alloc (.cells #[.int .i32 r1, .slice As1 s1.length cs1] 38)) fun q hq => ya.cell (by rw [hq, add_block]; exact had2))
        clear hc1 hc2 hl1 hl2 had2
        have yb := ext_alloc (wr.alloc (.cells #[.int .i32 r1, .slice As1 s1.length cs1] 38)) (.cells #[.int .i32 r2, .slice As2 s2.length cs2] 38)
        have y3 := Lib.hid (ext_trans y (ext_trans ya yb))
        clear ya yb
        go_wp2_with (go_at_call 140; refine Hid.out ?_)
        refine Lib.hid ?_
        refine (sameCl1_any r1 r2 s1 s2 As1 As2 cs1 cs2 _ (p1.out.ext y3.out) (p2.out.ext y3.out) b1.out b2.out).mono ?_
        rintro e w' ⟨rfl, y4⟩
        have yy := ext_trans y3.out y4
        have hw2 : IntKind.i64.wrap ((i:Int) + 1) = (i : Int) + 1 := IntWalk.i64_in _ (by omega)
        by_cases hxy : (⟨r1, s1⟩ : Cl) = ⟨r2, s2⟩
        · have HXY := Lib.hid hxy
          rw [decide_eq_true hxy]
          clear hxy
          go_wp2_with (fail)
          go_roundg (n - (i + 1))
          case measure => have := HG.out; omega
          case rel => exact ⟨i + 1, by omega, rfl, by go_num, yy, Lib.hid (by rw [← HI'.out]; simp only [List.cons.injEq, HXY.out, true_and])⟩
        · have HXY := Lib.hid hxy
          rw [decide_eq_false hxy]
          clear hxy
          go_wp2_with (fail)
          go_ret
          exact ⟨ret_bool (by rw [← HI'.out]; exact (decide_eq_false fun e => HXY.out (List.cons.inj e).1).symm), yy⟩
      · go_wp2_with (fail)
        go_ret
        exact ⟨ret_bool (by rw [← HI.out, List.drop_eq_nil_of_le (by have := N.out; omega), List.drop_eq_nil_of_le (by have := M.out; omega)]; rfl), y⟩
  · have hne : ((n : Int) == m) = false := beq_eq_false_iff_ne.2 hnm
    go_enter Tryz.func139, Tryz.ntmps139
    go_wp2_with (fail)
    go_ret
    refine ⟨ret_bool ?_, Below.refl _ _⟩
    rw [← HR.out]
    refine (decide_eq_false fun e => ?_).symm
    have h3 := N.out
    have h4 := M.out
    have h5 := congrArg List.length e
    rw [HL.out, HL.out] at h5
    omega
set_option maxHeartbeats 400000 in
theorem cellsSame_any (A B : Option Addr) (n m c d : Nat) (l k : List ClS) (w : World) (hn : n = l.length) (hm : m = k.length) (h1 : RdCl w w.heap.size A l) (h2 : RdCl w w.heap.size B k) (hb : n ≤ 100000000) (hb2 : m ≤ 100000000)
    (hs1 : ∀ x ∈ l, x.c.s.length ≤ 140737488355328) (hs2 : ∀ x ∈ k, x.c.s.length ≤ 140737488355328) :
    Calls Tryz.prog 61 #[.slice A n c, .slice B m d] w fun e w' => e = .returned (.bool (decide (clsOf l = clsOf k))) ∧ Below w.heap.size w w' := by
  have H := Lib.hid (equalCl_any A B n m c d l k w hn hm h1 h2 hb hb2 hs1 hs2)
  clear hn hm h1 h2 hs1 hs2
  generalize decide (clsOf l = clsOf k) = R at *
  go_enter Tryz.func61, Tryz.ntmps61
  go_wp2_with (go_at_call 139; refine Hid.out ?_)
  refine Lib.hid ?_
  refine H.out.mono ?_
  rintro e w' ⟨rfl, y⟩
  go_wp2_with (fail)
  go_ret
  exact ⟨rfl, y⟩

end Go.Proofs.YtfnkjcodcoehcaaGreatDoor
