/- Merged texts: Diff, Delta, DeltaLaw, FragLaw, LoadLaw. -/
import Derived.Test.YtipoeidmblnbbaaGreatDoorPk12
import Derived.Test.YtipoeidmblnbbaaGreatDoorPk8
import Derived.Test.YtipoeidmblnbbaaGreatDoorPk21
import Derived.Test.YtipoeidmblnbbaaGreatDoorPk23
import Derived.Test.YtipoeidmblnbbaaGreatDoorMkOpsPd
import Derived.Test.YtipoeidmblnbbaaGreatDoorPk19
import Derived.Test.YtipoeidmblnbbaaGreatDoorPk18
/- The walks of patch.change and patch.Diff. -/
namespace Go.Proofs.YtipoeidmblnbbaaGreatDoor
open Go.RowKit
set_option linter.unusedVariables false
set_option linter.unusedSimpArgs false

set_option maxHeartbeats 400000 in
theorem change_any (k a n f : Int) (s : ByteArray) (w : World) :
    Calls Tryz.prog 102 #[.agg #[.int .i64 k, .int .u8 a, .int .i64 n, .int .u64 f, .string s]] w fun e w' => e = .returned (.agg #[.int .i64 k, .bool false, .int .u8 a, .int .i64 n, .int .u64 f, .string s]) ∧ Below w.heap.size w w' := by
  go_enter Tryz.func102, Tryz.ntmps102
  go_wp2
  refine bodyPost_ret (v := .agg #[.int .i64 k, .bool false, .int .u8 a, .int .i64 n, .int .u64 f, .string s]) (by simp [results, Tryz.results102, go_sem]) rfl ⟨rfl, ?_⟩
  exact ((Below.refl _ _).alloc (Nat.le_refl _) _).alloc (by simp) _

set_option maxRecDepth 100000 in
set_option maxHeartbeats 400000 in
theorem diff_any (A1 A2 : Option Addr) (n1 n2 c1 c2 : Nat) (l k : List At) (w : World)
    (hn1 : n1 = l.length) (hn2 : n2 = k.length) (h1 : RdAt w w.heap.size A1 l) (h2 : RdAt w w.heap.size A2 k)
    (hb1 : n1 ≤ 100000000) (hb2 : n2 ≤ 100000000) (hc1 : n1 ≤ c1) (hcm : c1 ≤ maxLen) :
    Calls Tryz.prog 63 #[.slice A1 n1 c1, .slice A2 n2 c2] w (NewCh (diffP l k) w) := by
  unfold maxLen at hcm
  have N1 := Lib.hid hn1
  have N2 := Lib.hid hn2
  generalize hR : diffP l k = R
  have HR := Lib.hid hR
  clear hn1 hn2 hR
  go_enter Tryz.func63, Tryz.ntmps63
  go_wp2_with (fail)
  go_loopg [5, 6, 13] n2 (fun g ov iv kv wr => ∃ (q i : Nat) (o : List Ch), q ≤ n2 ∧ i ≤ n1 ∧ g = n2 - q ∧ iv = .int .i64 i ∧ kv = .int .i64 q ∧ OwCh wr w.heap.size ov o ∧ o.length ≤ i + q ∧
    Below w.heap.size w wr ∧ Hid (o ++ diffP (l.drop i) (k.drop q) = R))
  case atStart => exact ⟨0, 0, [], by omega, by omega, rfl, rfl, rfl, Ow.nil _ _, by simp, Below.refl _ _, Lib.hid (by simpa using HR.out)⟩
  case round =>
    obtain ⟨q, i, o, hk, hi, hg, rfl, rfl, hown, hol, hbw, HI⟩ := hrel
    have HG := Lib.hid hg
    clear hg HR
    by_cases hlt : q < n2
    · have hkp : q < k.length := by have := N2.out; omega
      obtain ⟨ad2, c, rfl, _, hd2, _, hc2⟩ := (h2.below hbw (Nat.le_refl _)).el hkp
      have HI' : Hid (o ++ diffAt (l.drop i) c (k.drop (q+1)) = R) := Lib.hid (by rw [← HI.out, hd2, diffP_cons])
      clear HI hkp hd2
      obtain ⟨ck, va, vn, vf, vs⟩ := c
      obtain ⟨q0, q1, q2, q3, q4⟩ := at_cells hc2
      clear hc2
      go_wp2_with (fail)
      obtain ⟨wo, rfl⟩ : ∃ wo : World, wo = wr := ⟨_, rfl⟩
      go_loopg [5, 6] (n1 - i) (fun g ov iv wi => ∃ (i : Nat) (o : List Ch), i ≤ n1 ∧ g = n1 - i ∧ iv = .int .i64 i ∧ OwCh wi w.heap.size ov o ∧ o.length ≤ i + q ∧
        Below w.heap.size w wi ∧ wi.heap[wo.heap.size]? = some (.cells #[.int .i64 ck, .int .u8 va, .int .i64 vn, .int .u64 vf, .string vs] 70 (0, 0)) ∧ wb ov ≠ some wo.heap.size ∧
        Hid (o ++ diffAt (l.drop i) ⟨ck, ⟨va, vn, vf, vs⟩⟩ (k.drop (q+1)) = R))
      case atStart =>
        refine ⟨i, o, hi, rfl, rfl, hown.alloc _, hol, hbw.alloc hbw.size _, heap_alloc_new _ _, fun e => ?_, HI'⟩
        have := (hown.wb_lt _ e).2; omega
      case round =>
        clear q0 q1 q2 q3 q4 hi hown hol hbw HI'
        obtain ⟨i, o, hi, hg, rfl, hown, hol, hbw, hbx, hwb, HI⟩ := hrel
        have HG2 := Lib.hid hg
        clear hg
        obtain ⟨b0, b1, b2, b3, b4⟩ := box_at hbx
        have HBX := Lib.hid hbx
        have HWB := Lib.hid hwb
        clear hbx hwb
        by_cases hil : i < n1
        · have hip : i < l.length := by have := N1.out; omega
          obtain ⟨ad1, a, rfl, _, hd1, _, hc1⟩ := (h1.below hbw (Nat.le_refl _)).el hip
          obtain ⟨ek, ea, en, ef, es⟩ := a
          obtain ⟨r0, r1, r2, r3, r4⟩ := at_cells hc1
          have hil' : decide ((i : Int) < n1) = true := by simp; omega
          have HD1 := Lib.hid hd1
          clear hd1
          by_cases hak : ek < ck
          · go_wp2_with (first
              | go_quiet (fail)
              | (at_builtin; refine app_ch (m := [goneC ⟨ek, ⟨ea, en, ef, es⟩⟩]) rfl (.tmp 33) (.tmp 40) rfl rfl (by first | exact (hown.drewN _).alloc _ | exact hown.alloc _) _ _ 1 1 rfl rfl (by first | exact rd_one (enc := Ch.enc) _ _ _ rfl | exact rd_one_at (enc := Ch.enc) _ _ _ rfl (size_alloc' _ _)) (by simp only [List.length_singleton]; omega) (Nat.le_trans hbw.size (le_alloc _ _)) ?_; intro v' w' hown' hgr hv'))
            obtain ⟨s1, s2, s3⟩ := app_step hown hbw (Nat.le_refl _) hgr hv'
            go_roundg (n1 - (i + 1))
            case measure => have := HG2.out; omega
            case rel =>
              exact ⟨i + 1, _, by omega, rfl, by go_num, hown', by simp; omega, s1, s2 _ _ HBX.out HWB.out, s3 _ (blk_lt HBX.out) HWB.out,
                Lib.hid (by rw [← HI.out, HD1.out, diffAt_less _ _ _ _ hak, List.append_assoc]; rfl)⟩
          · by_cases hek : ek = ck
            · subst hek
              have hbeq : (ek == ek) = true := by simp
              by_cases hv : (⟨ea, en, ef, es⟩ : V) = ⟨va, vn, vf, vs⟩
              · have hq := beqV_eq hv
                have HV := Lib.hid hv
                clear hv
                go_wp2_with (go_quiet (fail))
                go_roundg (n2 - (q + 1))
                case measure => have := HG.out; omega
                case rel =>
                  exact ⟨q + 1, i + 1, o, by omega, by omega, rfl, by go_num, by go_num, hown, by omega, below_drewN hbw _,
                    Lib.hid (by rw [← HI.out, HD1.out, diffAt_same ⟨ek, ⟨ea, en, ef, es⟩⟩ _ ⟨ek, ⟨va, vn, vf, vs⟩⟩ _ rfl HV.out])⟩
              · have hq := beqV_ne hv
                have HV := Lib.hid hv
                clear hv
                go_wp2_with (first
                  | go_quiet (fail)
                  | (go_at_call 102; refine (change_any _ _ _ _ _ _).mono ?_; rintro e w2 ⟨rfl, hb2'⟩; have hbw2 := (below_drewN hbw _).trans (hb2'.mono (by first | exact hbw.size | exact (below_drewN hbw _).size)); have hown2 := (hown.drewN _).below hb2' (Nat.le_refl _))
                  | (at_builtin; refine app_ch (m := [chg ⟨ek, ⟨va, vn, vf, vs⟩⟩]) rfl (.tmp 64) (.tmp 67) rfl rfl (by first | exact (hown2.drewN _).alloc _ | exact hown2.alloc _) _ _ 1 1 rfl rfl (by first | exact rd_one (enc := Ch.enc) _ _ _ rfl | exact rd_one_at (enc := Ch.enc) _ _ _ rfl (size_alloc' _ _)) (by simp only [List.length_singleton]; omega) (Nat.le_trans hbw2.size (le_alloc _ _)) ?_; intro v' w' hown' hgr hv'))
                obtain ⟨s1, s2, s3⟩ := app_step (nq := 0) hown2 hbw2 (Nat.le_refl _) hgr hv'
                go_roundg (n2 - (q + 1))
                case measure => have := HG.out; omega
                case rel =>
                  exact ⟨q + 1, i + 1, _, by omega, by omega, rfl, by go_num, by go_num, hown', by simp; omega, s1,
                    Lib.hid (by rw [← HI.out, HD1.out, diffAt_other ⟨ek, ⟨ea, en, ef, es⟩⟩ _ ⟨ek, ⟨va, vn, vf, vs⟩⟩ _ rfl HV.out, List.append_assoc]; rfl)⟩
            · have hek' : (ek == ck) = false := beq_eq_false_iff_ne.2 hek
              go_wp2_with (first
                | go_quiet (fail)
                | (go_at_call 102; refine (change_any _ _ _ _ _ _).mono ?_; rintro e w2 ⟨rfl, hb2'⟩; have hbw2 := (below_drewN hbw _).trans (hb2'.mono (by first | exact hbw.size | exact (below_drewN hbw _).size)); have hown2 := (hown.drewN _).below hb2' (Nat.le_refl _))
                | (at_builtin; refine app_ch (m := [chg ⟨ck, ⟨va, vn, vf, vs⟩⟩]) rfl (.tmp 71) (.tmp 74) rfl rfl (by first | exact (hown2.drewN _).alloc _ | exact hown2.alloc _) _ _ 1 1 rfl rfl (by first | exact rd_one (enc := Ch.enc) _ _ _ rfl | exact rd_one_at (enc := Ch.enc) _ _ _ rfl (size_alloc' _ _)) (by simp only [List.length_singleton]; omega) (Nat.le_trans hbw2.size (le_alloc _ _)) ?_; intro v' w' hown' hgr hv'))
              obtain ⟨s1, s2, s3⟩ := app_step (nq := 0) hown2 hbw2 (Nat.le_refl _) hgr hv'
              go_roundg (n2 - (q + 1))
              case measure => have := HG.out; omega
              case rel =>
                exact ⟨q + 1, i, _, by omega, by omega, rfl, rfl, by go_num, hown', by simp; omega, s1,
                  Lib.hid (by rw [← HI.out, HD1.out, diffAt_more _ _ _ _ (by show ck < ek; omega), List.append_assoc]; rfl)⟩
        · have hd1 : l.drop i = [] := List.drop_eq_nil_of_le (by have := N1.out; omega)
          have HD1 := Lib.hid hd1
          have hil' : decide ((i : Int) < n1) = false := by simp; omega
          clear hd1
          go_wp2_with (first
            | go_quiet (fail)
            | (go_at_call 102; refine (change_any _ _ _ _ _ _).mono ?_; rintro e w2 ⟨rfl, hb2'⟩; have hbw2 := (below_drewN hbw _).trans (hb2'.mono (by first | exact hbw.size | exact (below_drewN hbw _).size)); have hown2 := (hown.drewN _).below hb2' (Nat.le_refl _))
            | (at_builtin; refine app_ch (m := [chg ⟨ck, ⟨va, vn, vf, vs⟩⟩]) rfl (.tmp 71) (.tmp 74) rfl rfl (by first | exact (hown2.drewN _).alloc _ | exact hown2.alloc _) _ _ 1 1 rfl rfl (by first | exact rd_one (enc := Ch.enc) _ _ _ rfl | exact rd_one_at (enc := Ch.enc) _ _ _ rfl (size_alloc' _ _)) (by simp only [List.length_singleton]; omega) (Nat.le_trans hbw2.size (le_alloc _ _)) ?_; intro v' w' hown' hgr hv'))
          obtain ⟨s1, s2, s3⟩ := app_step (nq := 0) hown2 hbw2 (Nat.le_refl _) hgr hv'
          go_roundg (n2 - (q + 1))
          case measure => have := HG.out; omega
          case rel =>
            exact ⟨q + 1, i, _, by omega, by omega, rfl, rfl, by go_num, hown', by simp; omega, s1,
              Lib.hid (by rw [← HI.out, HD1.out, diffAt_nil, List.append_assoc]; rfl)⟩
    · have hdp : k.drop q = [] := List.drop_eq_nil_of_le (by have := N2.out; omega)
      have HI' : Hid (o ++ (l.drop i).map goneC = R) := Lib.hid (by rw [← HI.out, hdp, diffP_nil])
      clear HI hdp
      have hrd : ∀ wi, Below w.heap.size w wi → RdAt wi w.heap.size (if c1 = i then A1 else A1.map (fun x => x.add (i * 5))) (l.drop i) := fun wi hbi => (h1.below hbi (Nat.le_refl _)).cut (k := i) (cap := c1) (by have := N1.out; omega) (by have := N1.out; omega)
      have hm : n1 - i = (l.drop i).length := by rw [List.length_drop, N1.out]
      generalize l.drop i = L at *
      have hbw0 := hbw
      obtain ⟨m, hmm⟩ : ∃ m, m = n1 - i := ⟨_, rfl⟩
      have HM : Hid (m = L.length) := Lib.hid (by rw [hmm, hm])
      have hmb : m ≤ n1 := by omega
      clear hm
      rcases Nat.lt_or_ge i c1 with hci | hci
      · have hne : ¬ c1 = i := by omega
        simp only [if_neg hne] at hrd
        go_wp2_with (fail)
        rw [← hmm]
        obtain ⟨A', hA'⟩ : ∃ A', A' = A1.map (fun x => x.add (i * 5)) := ⟨_, rfl⟩
        rw [← hA'] at hrd ⊢
        have HRD := Lib.hid hrd
        clear hrd hA' hmm HG hlt hci hne
        go_loopg [5, 81] m (fun g ov kv wi => ∃ (j : Nat) (o : List Ch), j ≤ m ∧ g = m - j ∧ kv = .int .i64 j ∧ OwCh wi w.heap.size ov o ∧ o.length ≤ i + q + j ∧
          Below w.heap.size w wi ∧ Hid (o ++ (L.drop j).map goneC = R))
        case atStart => exact ⟨0, o, by omega, rfl, rfl, hown, by omega, hbw, HI'⟩
        case round =>
          clear HI'
          clear hown hol
          obtain ⟨j, o, hj, hg, rfl, hown, hol, hbi, HI⟩ := hrel
          have HG := Lib.hid hg
          clear hg
          by_cases hlt : j < m
          · have hjp : j < L.length := by have := HM.out; omega
            obtain ⟨ad1, a, rfl, _, hd1, _, hc1⟩ := (HRD.out _ hbi).el hjp
            obtain ⟨ek, ea, en, ef, es⟩ := a
            obtain ⟨r0, r1, r2, r3, r4⟩ := at_cells hc1
            have HD1 := Lib.hid hd1
            clear hd1 hc1
            have hbi2 := hbi.alloc hbi.size (.cells #[.int .i64 ek, .int .u8 ea, .int .i64 en, .int .u64 ef, .string es] 70)
            have hown2 := hown.alloc (.cells #[.int .i64 ek, .int .u8 ea, .int .i64 en, .int .u64 ef, .string es] 70)
            go_wp2_with (first
              | go_quiet (fail)
              | (at_builtin; refine app_ch (m := [goneC ⟨ek, ⟨ea, en, ef, es⟩⟩]) rfl (.tmp 85) (.tmp 89) rfl rfl (by first | exact (hown2.drewN _).alloc _ | exact hown2.alloc _) _ _ 1 1 rfl rfl (by first | exact rd_one (enc := Ch.enc) _ _ _ rfl | exact rd_one_at (enc := Ch.enc) _ _ _ rfl (size_alloc' _ _)) (by simp only [List.length_singleton]; omega) (Nat.le_trans hbi2.size (le_alloc _ _)) ?_; intro v' w' hown' hgr hv'))
            obtain ⟨s1, s2, s3⟩ := app_step (nq := 0) hown2 hbi2 (Nat.le_refl _) hgr hv'
            go_roundg (m - (j + 1))
            case measure => have := HG.out; omega
            case rel => exact ⟨j + 1, _, by omega, rfl, by go_num, hown', by simp; omega, s1, Lib.hid (by rw [← HI.out, HD1.out, List.append_assoc]; rfl)⟩
          · have hnil : L.drop j = [] := List.drop_eq_nil_of_le (by have := HM.out; omega)
            have HN := Lib.hid hnil
            clear hnil
            go_wp2_with (fail)
            have e : o = R := by have := HI.out; rw [HN.out] at this; simpa using this
            rw [e] at hown
            obtain ⟨A'', c', rfl, _, _⟩ := hown.form
            go_ret
            exact ⟨A'', c', rfl, hown, hbi⟩
      · have hm0 : m = 0 := by omega
        have hrd : ∀ wi, Below w.heap.size w wi → RdAt wi w.heap.size A1 L := by
          have : L = [] := List.eq_nil_of_length_eq_zero (by rw [← HM.out]; exact hm0)
          rw [this]; exact fun _ _ => Rd.nil
        go_wp2_with (fail)
        rw [← hmm]
        obtain ⟨A', hA'⟩ : ∃ A', A' = A1 := ⟨_, rfl⟩
        rw [← hA'] at hrd ⊢
        have HRD := Lib.hid hrd
        clear hrd hA' hmm HG hlt hci hm0
        go_loopg [5, 81] m (fun g ov kv wi => ∃ (j : Nat) (o : List Ch), j ≤ m ∧ g = m - j ∧ kv = .int .i64 j ∧ OwCh wi w.heap.size ov o ∧ o.length ≤ i + q + j ∧
          Below w.heap.size w wi ∧ Hid (o ++ (L.drop j).map goneC = R))
        case atStart => exact ⟨0, o, by omega, rfl, rfl, hown, by omega, hbw, HI'⟩
        case round =>
          clear HI'
          clear hown hol
          obtain ⟨j, o, hj, hg, rfl, hown, hol, hbi, HI⟩ := hrel
          have HG := Lib.hid hg
          clear hg
          by_cases hlt : j < m
          · have hjp : j < L.length := by have := HM.out; omega
            obtain ⟨ad1, a, rfl, _, hd1, _, hc1⟩ := (HRD.out _ hbi).el hjp
            obtain ⟨ek, ea, en, ef, es⟩ := a
            obtain ⟨r0, r1, r2, r3, r4⟩ := at_cells hc1
            have HD1 := Lib.hid hd1
            clear hd1 hc1
            have hbi2 := hbi.alloc hbi.size (.cells #[.int .i64 ek, .int .u8 ea, .int .i64 en, .int .u64 ef, .string es] 70)
            have hown2 := hown.alloc (.cells #[.int .i64 ek, .int .u8 ea, .int .i64 en, .int .u64 ef, .string es] 70)
            go_wp2_with (first
              | go_quiet (fail)
              | (at_builtin; refine app_ch (m := [goneC ⟨ek, ⟨ea, en, ef, es⟩⟩]) rfl (.tmp 85) (.tmp 89) rfl rfl (by first | exact (hown2.drewN _).alloc _ | exact hown2.alloc _) _ _ 1 1 rfl rfl (by first | exact rd_one (enc := Ch.enc) _ _ _ rfl | exact rd_one_at (enc := Ch.enc) _ _ _ rfl (size_alloc' _ _)) (by simp only [List.length_singleton]; omega) (Nat.le_trans hbi2.size (le_alloc _ _)) ?_; intro v' w' hown' hgr hv'))
            obtain ⟨s1, s2, s3⟩ := app_step (nq := 0) hown2 hbi2 (Nat.le_refl _) hgr hv'
            go_roundg (m - (j + 1))
            case measure => have := HG.out; omega
            case rel => exact ⟨j + 1, _, by omega, rfl, by go_num, hown', by simp; omega, s1, Lib.hid (by rw [← HI.out, HD1.out, List.append_assoc]; rfl)⟩
          · have hnil : L.drop j = [] := List.drop_eq_nil_of_le (by have := HM.out; omega)
            have HN := Lib.hid hnil
            clear hnil
            go_wp2_with (fail)
            have e : o = R := by have := HI.out; rw [HN.out] at this; simpa using this
            rw [e] at hown
            obtain ⟨A'', c', rfl, _, _⟩ := hown.form
            go_ret
            exact ⟨A'', c', rfl, hown, hbi⟩
end Go.Proofs.YtipoeidmblnbbaaGreatDoor
/- The walk of cells.Delta. -/
namespace Go.Proofs.YtipoeidmblnbbaaGreatDoor
open Go.RowKit
set_option linter.unusedVariables false
set_option linter.unusedSimpArgs false

/-- the maker of cells' delta -/
def deltaM (d : List Cl) : Mk :=
  match d.getLast? with
  | none => Mk.new
  | some c => mkRetain (tellM Mk.new d.dropLast) 1 (diffP [] c.s)
theorem offF_below {F : Nat → Prop} {w : World} {A : Option Addr} {n : Nat} {α : Type} {enc : α → List Value} {size : Nat} {l : List α} (h : Rd enc size w w.heap.size A l) (hn : n = l.length) (hF : ∀ k, F k → w.heap.size ≤ k) : OffF F A n := by
  subst hn
  exact h.offF hF
theorem tellM_done (m : Mk) (d : List Cl) : (tellM m d).done = m.done ∧ (tellM m d).gone = m.gone := by
  unfold tellM
  induction d generalizing m with
  | nil => exact ⟨rfl, rfl⟩
  | cons c d ih =>
    have := ih (mkInsert m [c.r] c.s)
    rw [List.foldl_cons]
    exact ⟨this.1.trans (by unfold mkInsert; rw [if_neg (by simp)]), this.2.trans (by unfold mkInsert; rw [if_neg (by simp)])⟩
theorem InsB.new : InsB Mk.new 0 := ⟨Nat.le_refl _, fun o h => by cases h⟩
/-- an op's parts are no longer than K -/
def PrtB (K : Nat) (o : Opd) : Prop := o.r.length ≤ K ∧ o.s.length ≤ K ∧ o.p.length ≤ K

set_option maxRecDepth 100000 in
set_option maxHeartbeats 1600000 in
theorem delta_any (A : Option Addr) (n c : Nat) (d : List ClS) (w : World) (hn : n = d.length) (hc : n ≤ c) (hr : RdCl w w.heap.size A d) (hb : n ≤ 100000) (hs : ∀ x ∈ d, x.c.s.length ≤ 64) (hv : ∀ x ∈ d, (diffP [] x.c.s).length ≤ 1048576)
    (hM1 : (deltaM (clsOf d)).done.length + (deltaM (clsOf d)).ins.length ≤ 10000000) (hM2 : ∀ o ∈ (deltaM (clsOf d)).done ++ mkGap (deltaM (clsOf d)), o.r.length ≤ 100000000 ∧ o.s.length ≤ 100000000 ∧ o.p.length ≤ 100000000) :
    Calls Tryz.prog 33 #[.slice A n c] w (NewOps (mkOps (deltaM (clsOf d))) w) := by
  have N := Lib.hid hn
  have HR := Lib.hid hr
  have HM1 := Lib.hid hM1
  have HM2 := Lib.hid hM2
  have HS := Lib.hid hs
  have HV := Lib.hid hv
  clear hr hM1 hM2 hs hv
  rcases List.eq_nil_or_concat d with h0 | ⟨t, x, h0⟩
  · subst h0
    have hn0 : n = 0 := hn
    subst hn0
    clear hn
    have e : deltaM (clsOf []) = Mk.new := rfl
    go_enter Tryz.func33, Tryz.ntmps33
    go_wp2_with (go_at_call 51; refine Hid.out ?_)
    refine Lib.hid ?_
    refine (mkNew_any w).mono ?_
    rintro e w1 ⟨rfl, hm, y1⟩
    have HM := Lib.hid hm
    clear hm
    go_wp2_with (go_at_call 54; refine Hid.out ?_)
    refine Lib.hid ?_
    refine (mkOps_any _ w1 _ Mk.new HM.out (by simp [Mk.new]) (fun o ho => by simp [Mk.new, mkGap] at ho)).mono ?_
    intro e w2 hN
    have hN2 := hN.late y1
    obtain ⟨A2, c2, l2, rfl, hM⟩ := hN2
    go_wp2_with (fail)
    go_ret
    exact ⟨A2, c2, l2, rfl, hM⟩
  · rw [List.concat_eq_append] at h0
    have hlen : n = t.length + 1 := by rw [hn, h0]; simp
    have hcl : clsOf d = clsOf t ++ [x.c] := by rw [h0]; unfold clsOf; simp
    have hdm : deltaM (clsOf d) = mkRetain (tellM Mk.new (clsOf t)) 1 (diffP [] x.c.s) := by rw [hcl]; unfold deltaM; simp
    have HDM := Lib.hid hdm
    have hxm : x ∈ d := by rw [h0]; simp
    have htm : ∀ y ∈ t, y ∈ d := fun y hy => by rw [h0]; simp [hy]
    have HT := Lib.hid htm
    have htake : d.take t.length = t := by rw [h0]; simp
    have HRT : Hid (RdCl w w.heap.size A t) := Lib.hid ⟨by have := HR.out.1.take t.length; rwa [htake] at this, fun y hy => HR.out.2 y (htm y hy)⟩
    obtain ⟨ad, x', hA, had, _, hx', hcx⟩ := HR.out.1.el (i := t.length) (by have := N.out; omega)
    have hxx : x' = x := by rw [h0] at hx'; simpa using hx'.symm
    subst hxx
    subst hA
    have RS := Lib.hid (HR.out.2 x' hxm)
    have SL := Lib.hid (HS.out x' hxm)
    have DL := Lib.hid (HV.out x' hxm)
    obtain ⟨⟨r, s⟩, As, cs⟩ := x'
    have HCX := Lib.hid hcx
    subst hlen
    have e1 : (((t.length + 1 : Nat) : Int) - 1) = (t.length : Int) := by omega
    have e2 : (t.length : Int) < ((t.length + 1 : Nat) : Int) := by omega
    clear hn h0 hcl hdm htm htake hx' hcx hxm
    go_enter Tryz.func33, Tryz.ntmps33
    go_wp2_with (go_at_call 51; refine Hid.out ?_)
    refine Lib.hid ?_
    refine (mkNew_any w).mono ?_
    rintro e w1 ⟨rfl, hm, y1⟩
    have HM := Lib.hid hm
    have Y1 := Lib.hid y1
    clear hm y1
    go_wp2_with (go_at_call 72; refine Hid.out ?_)
    refine Lib.hid ?_
    have hF : ∀ k, k = w.heap.size → w.heap.size ≤ k := fun k hk => by omega
    refine (tell_any w.heap.size (some ad) t.length c t w1 (fun k => k = w.heap.size) Mk.new 0 HM.out rfl (HRT.out.ext Y1.out) (HRT.out.1.offF hF) (fun y hy => (HRT.out.2 y hy).offF hF) (fun y hy => by have := HS.out y (HT.out y hy); omega) InsB.new (by omega)).mono ?_
    rintro e w2 ⟨rfl, F2, hm2, g2⟩
    have y2 := Lib.hid (Y1.out.trans (g2.below (B := w.heap.size) hF Y1.out.size))
    have low2 := Lib.hid (g2.low (B := w.heap.size) hF Y1.out.size)
    have HM2' := Lib.hid hm2
    obtain ⟨z0, z1⟩ := cl_cells (HCX.out.keep (w' := w2) fun q hq => y2.out.cell (by rw [hq, add_block]; exact had))
    clear hm2 g2
    go_wp2_with (go_at_call 63; refine Hid.out ?_)
    refine Lib.hid ?_
    refine (diff_any none As 0 s.length 0 cs [] s w2 rfl rfl Rd.nil (RS.out.ext y2.out) (by omega) (by have := SL.out; omega) (by omega) (by unfold maxLen; omega)).mono ?_
    rintro e w3 ⟨A3, k3, rfl, o3, y3⟩
    have O3 := Lib.hid o3
    have Y3 := Lib.hid y3
    have KB := Lib.hid (InsB.new.tell (clsOf t) (fun c hc => by
      unfold clsOf at hc
      obtain ⟨y, hy, rfl⟩ := List.mem_map.1 hc
      have := HS.out y (HT.out y hy); omega))
    have TD := Lib.hid (tellM_done Mk.new (clsOf t))
    have LT : Hid ((clsOf t).length = t.length) := Lib.hid (by unfold clsOf; simp)
    clear o3 y3
    go_wp2_with (go_at_call 52; refine Hid.out ?_)
    refine Lib.hid ?_
    refine (mkRetain_any w.heap.size A3 1 (diffP [] s).length k3 (diffP [] s) w3 F2 (tellM Mk.new (clsOf t)) (HM2'.out.below Y3.out) rfl (O3.out.rd Ch.enc_len) (O3.out.offF Ch.enc_len rfl (fun k hk hF => by have := (O3.out.wb_lt k hk).1; have := HM2'.out.lt k hF; omega)) (by have := DL.out; omega)
      (by have := KB.out.1; have := LT.out; have h0 : (Mk.new).done.length = 0 := rfl; rw [TD.out.1, h0]; omega)
      (fun o ho => by
        rw [TD.out.1] at ho
        unfold mkGap at ho
        rw [TD.out.2] at ho
        simp [Mk.new] at ho
        rw [(KB.out.2 o ho).2.2]; simp)).mono ?_
    rintro e w4 ⟨rfl, F4, hm4, g4⟩
    have y34 := Lib.hid ((y2.out.trans (Y3.out.mono y2.out.size)).trans (g4.below (B := w.heap.size) low2.out (Nat.le_trans y2.out.size Y3.out.size)))
    have HM4 := Lib.hid hm4
    clear hm4 g4
    go_wp2_with (go_at_call 54; refine Hid.out ?_)
    refine Lib.hid ?_
    refine (mkOps_any _ w4 F4 (deltaM (clsOf d)) (by rw [HDM.out]; exact HM4.out) HM1.out HM2.out).mono ?_
    intro e w5 hN
    have hN2 := hN.late y34.out
    obtain ⟨A2, c2, l2, rfl, hM⟩ := hN2
    go_wp2_with (fail)
    go_ret
    exact ⟨A2, c2, l2, rfl, hM⟩
end Go.Proofs.YtipoeidmblnbbaaGreatDoor
/- What the delta of cells tells, in plain Lean: two documents have one delta just if they are alike. -/
namespace Go.Proofs.YtipoeidmblnbbaaGreatDoor
set_option linter.unusedVariables false
set_option linter.unusedSimpArgs false

theorem diff_new (s : List At) : diffP [] s = s.map chg := by
  induction s with
  | nil => rfl
  | cons x s ih => rw [diffP_cons, diffAt_nil, ih]; rfl
theorem chg_inj {a b : At} (h : chg a = chg b) : a = b := by
  unfold chg at h
  injection h with h1 h2 h3
  cases a; cases b
  simp only at h1 h3
  rw [h1, h3]
theorem map_chg_inj {s t : List At} (h : s.map chg = t.map chg) : s = t := by
  induction s generalizing t with
  | nil => cases t with
    | nil => rfl
    | cons b t => cases h
  | cons a s ih => cases t with
    | nil => cases h
    | cons b t =>
      simp only [List.map_cons, List.cons.injEq] at h
      rw [chg_inj h.1, ih h.2]
def insU (c : Cl) : Un := .ins c.r c.s
theorem insU_inj {a b : Cl} (h : insU a = insU b) : a = b := by
  unfold insU at h
  injection h with h1 h2
  cases a; cases b
  simp only at h1 h2
  rw [h1, h2]
theorem map_insU_inj {s t : List Cl} (h : s.map insU = t.map insU) : s = t := by
  induction s generalizing t with
  | nil => cases t with
    | nil => rfl
    | cons b t => cases h
  | cons a s ih => cases t with
    | nil => cases h
    | cons b t =>
      simp only [List.map_cons, List.cons.injEq] at h
      rw [insU_inj h.1, ih h.2]
theorem MkAt.tell {m : Mk} {K I : List Un} {g : Nat} (h : MkAt m K I g) (d : List Cl) : MkAt (tellM m d) K (I ++ d.map insU) g := by
  induction d generalizing m I with
  | nil => simpa [tellM] using h
  | cons c d ih =>
    have := ih (h.insert [c.r] c.s)
    rw [List.append_assoc] at this
    exact this
/-- the units of a delta -/
theorem delta_at (t : List Cl) (c : Cl) (hb : t.length ≤ 1000000) : MkAt (deltaM (t ++ [c])) (t.map insU ++ [.ret (c.s.map chg)]) [] 0 := by
  have h1 := (MkAt.new.tell t).retain (n := 1) (p := diffP [] c.s) (by omega) (by simp; omega)
  have e : deltaM (t ++ [c]) = mkRetain (tellM Mk.new t) 1 (diffP [] c.s) := by unfold deltaM; simp
  rw [e, diff_new] at *
  simpa using h1
theorem delta_units (t : List Cl) (c : Cl) (hb : t.length ≤ 1000000) : tight (mkOps (deltaM (t ++ [c]))) ∧ units (mkOps (deltaM (t ++ [c]))) = trim (t.map insU ++ [.ret (c.s.map chg)]) := by
  have h := (delta_at t c hb).ops
  simpa using h
theorem trim_ins (t : List Cl) : trim (t.map insU) = t.map insU := trim_last fun u hu => by
  have hm := List.mem_of_getLast? hu
  obtain ⟨c, _, rfl⟩ := List.mem_map.1 hm
  intro h; cases h
theorem delta_trim (t : List Cl) (s : List At) : trim (t.map insU ++ [.ret (s.map chg)]) = if s = [] then t.map insU else t.map insU ++ [.ret (s.map chg)] := by
  by_cases h : s = []
  · subst h
    rw [if_pos rfl]
    show trim (t.map insU ++ [.ret []]) = _
    rw [trim_snoc, trim_ins]
  · rw [if_neg h, trim_snoc_ne]
    intro e
    injection e with e
    exact h (by simpa using e)
theorem last_ret {t t' : List Cl} {p : List Ch} (h : t.map insU = t'.map insU ++ [.ret p]) : False := by
  have : (t.map insU).getLast? = some (.ret p) := by rw [h]; simp
  have hm := List.mem_of_getLast? this
  obtain ⟨c, _, e⟩ := List.mem_map.1 hm
  cases e
theorem delta_inj {t t' : List Cl} {c c' : Cl} (hb : t.length ≤ 1000000) (hb' : t'.length ≤ 1000000) (hr : c.r = c'.r) (h : mkOps (deltaM (t ++ [c])) = mkOps (deltaM (t' ++ [c']))) : t ++ [c] = t' ++ [c'] := by
  have h1 := (delta_units t c hb).2
  have h2 := (delta_units t' c' hb').2
  rw [h, h2, delta_trim, delta_trim] at h1
  have key : t = t' ∧ c.s = c'.s := by
    by_cases e : c.s = [] <;> by_cases e' : c'.s = []
    · rw [if_pos e, if_pos e'] at h1
      exact ⟨(map_insU_inj h1).symm, e.trans e'.symm⟩
    · rw [if_pos e, if_neg e'] at h1
      exact (last_ret h1.symm).elim
    · rw [if_neg e, if_pos e'] at h1
      exact (last_ret h1).elim
    · rw [if_neg e, if_neg e'] at h1
      have h2 := List.append_inj' h1 rfl
      injection h2.2 with h3 _
      injection h3 with h3
      exact ⟨(map_insU_inj h2.1).symm, (map_chg_inj h3).symm⟩
  obtain ⟨rfl, hs⟩ := key
  cases c; cases c'
  simp only at hr hs
  rw [hr, hs]
/-- a document's last cell is a newline -/
theorem mayD_last {l : List Ky} {d : List Cl} (h : mayD l d = 0) : ∃ t c, d = t ++ [c] ∧ c.r = 10 := by
  unfold mayD at h
  split at h
  · cases h
  · split at h
    · cases h
    · split at h
      · cases h
      · split at h
        · cases h
        · rename_i hl
          rcases List.eq_nil_or_concat d with h0 | ⟨t, c, h0⟩
          · subst h0; simp at hl
          · rw [List.concat_eq_append] at h0
            subst h0
            refine ⟨t, c, rfl, ?_⟩
            simpa using hl
theorem apart {l : List Ky} {d o : List Cl} (hd : mayD l d = 0) (ho : mayD l o = 0) (bd : d.length ≤ 1000000) (bo : o.length ≤ 1000000) : decide (mkOps (deltaM d) = mkOps (deltaM o)) = decide (d = o) := by
  obtain ⟨t, c, rfl, hr⟩ := mayD_last hd
  obtain ⟨t', c', rfl, hr'⟩ := mayD_last ho
  by_cases h : t ++ [c] = t' ++ [c']
  · rw [decide_eq_true h, decide_eq_true (congrArg (fun x => mkOps (deltaM x)) h)]
  · rw [decide_eq_false h]
    refine decide_eq_false fun e => h (delta_inj ?_ ?_ (hr.trans hr'.symm) e)
    · simp at bd; omega
    · simp at bo; omega

/-- a delta's maker is no greater than its cells -/
theorem addR_bound {d : List Opd} {n : Int} {p : List Ch} {K : Nat} (h : ∀ o ∈ d, PrtB K o) (hp : p.length ≤ K) : (addR d n p).length ≤ d.length + 1 ∧ ∀ o ∈ addR d n p, PrtB K o := by
  have push : (d ++ [opR n p]).length ≤ d.length + 1 ∧ ∀ o ∈ d ++ [opR n p], PrtB K o := ⟨by simp, fun o ho => by
    rcases List.mem_append.1 ho with ho | ho
    · exact h o ho
    · simp at ho; subst ho; exact ⟨by simp [opR], by simp [opR], hp⟩⟩
  unfold addR
  cases hg : d.getLast? with
  | none => exact push
  | some o =>
    simp only
    by_cases hc : o.k = 1 ∧ o.p = p
    · rw [if_pos hc]
      have hm := List.mem_of_getLast? hg
      refine ⟨by simp, fun x hx => ?_⟩
      rcases List.mem_append.1 hx with hx | hx
      · exact h x ((List.dropLast_sublist _).subset hx)
      · simp at hx; subst hx; exact h o hm
    · rw [if_neg hc]; exact push
theorem delta_bounds (d : List Cl) (hb : d.length ≤ 100000) (hs : ∀ c ∈ d, c.s.length ≤ 64) :
    (deltaM d).done.length + (deltaM d).ins.length ≤ 10000000 ∧ ∀ o ∈ (deltaM d).done ++ mkGap (deltaM d), o.r.length ≤ 100000000 ∧ o.s.length ≤ 100000000 ∧ o.p.length ≤ 100000000 := by
  rcases List.eq_nil_or_concat d with h0 | ⟨t, c, h0⟩
  · subst h0
    exact ⟨by simp [deltaM, Mk.new], fun o ho => by simp [deltaM, Mk.new, mkGap] at ho⟩
  · rw [List.concat_eq_append] at h0
    subst h0
    have e : deltaM (t ++ [c]) = mkRetain (tellM Mk.new t) 1 (diffP [] c.s) := by unfold deltaM; simp
    have hI := InsB.new.tell t (fun x hx => by have := hs x (by simp [hx]); omega)
    obtain ⟨t1, t2⟩ := tellM_done Mk.new t
    have hl : t.length ≤ 100000 := by simp at hb; omega
    have hm : (tellM Mk.new t).done ++ mkGap (tellM Mk.new t) = (tellM Mk.new t).ins := by
      rw [t1]; unfold mkGap; rw [t2]; simp [Mk.new]
    have hp : (diffP [] c.s).length ≤ 10000000 := by rw [diff_new, List.length_map]; have := hs c (by simp); omega
    obtain ⟨a1, a2⟩ := addR_bound (d := (tellM Mk.new t).ins) (n := 1) (K := 10000000) (fun o ho => ⟨by have := (hI.2 o ho).2.1; omega, (hI.2 o ho).1, by rw [(hI.2 o ho).2.2]; simp⟩) hp
    have e2 : deltaM (t ++ [c]) = ⟨addR (tellM Mk.new t).ins 1 (diffP [] c.s), [], 0⟩ := by rw [e]; unfold mkRetain; rw [if_neg (by decide), hm]
    rw [e2]
    refine ⟨?_, fun o ho => ?_⟩
    · have h1 := hI.1
      show (addR _ _ _).length + 0 ≤ _
      omega
    · have ho' : o ∈ addR (tellM Mk.new t).ins 1 (diffP [] c.s) := by simpa [mkGap] using ho
      obtain ⟨b1, b2, b3⟩ := a2 o ho'
      exact ⟨by omega, by omega, by omega⟩
end Go.Proofs.YtipoeidmblnbbaaGreatDoor
/- What a fragment pasted makes. Plain mathematics. -/
namespace Go.Proofs.YtipoeidmblnbbaaGreatDoor
set_option linter.unusedVariables false
set_option linter.unusedSimpArgs false

/-- a fragment's maker -/
def pasteM (p : Int) (f : List Cl) : Mk := tellM (mkRetain Mk.new p []) f
def pasteU (p : Nat) (f : List Cl) : List Un := List.replicate p (.ret []) ++ f.map insU
theorem Told.tell {m : Mk} {us : List Un} (h : Told m us) : ∀ d : List Cl, Told (tellM m d) (us ++ d.map insU) := by
  intro d
  induction d generalizing m us with
  | nil => simpa [tellM] using h
  | cons c d ih =>
    have h1 := ih (h.insert [c.r] c.s)
    rw [List.append_assoc] at h1
    exact h1
theorem paste_told (p : Nat) (f : List Cl) (hp : p ≤ 1000000000000) : Told (pasteM p f) (pasteU p f) := by
  have h := (Told.new.retain (p : Int) [] (by simp; omega)).tell f
  rw [List.nil_append] at h
  exact h
theorem pasteU_canon (p : Nat) (f : List Cl) : canon (pasteU p f) = pasteU p f := by
  have hf : ∀ (f : List Cl) (I : List Un), cn (f.map insU) I 0 = I ++ f.map insU := fun f => by
    induction f with
    | nil => intro I; simp [cn]
    | cons c f ih => intro I; show cn (f.map insU) (I ++ [insU c]) 0 = _; rw [ih]; simp
  unfold pasteU canon
  cases p with
  | zero => simp only [List.replicate_zero, List.nil_append]; rw [hf]; rfl
  | succ p => rw [cn_ret, hf]; simp
theorem pasteU_nf (p : Nat) (f : List Cl) (hf : f ≠ []) : nf (pasteU p f) = pasteU p f := by
  rw [nf, pasteU_canon]
  refine trim_last fun u hu => ?_
  unfold pasteU at hu
  rcases List.eq_nil_or_concat f with h0 | ⟨t, c, h0⟩
  · exact absurd h0 hf
  · rw [List.concat_eq_append] at h0
    subst h0
    rw [List.map_append, ← List.append_assoc, List.map_cons, List.map_nil, List.getLast?_concat] at hu
    injection hu with hu
    rw [← hu]; intro h; cases h
theorem pasteU_nil (p : Nat) : nf (pasteU p []) = [] := by
  rw [nf, pasteU_canon]
  unfold pasteU
  rw [List.map_nil, List.append_nil]
  exact trim_nil_iff.2 fun u hu => (List.mem_replicate.1 hu).2
theorem app_insU (l : List Ky) (f d : List Cl) : app l (f.map insU) d = f ++ d := by
  induction f with
  | nil => rfl
  | cons c f ih => show _ :: app l (f.map insU) d = _; rw [ih]; rfl
theorem app_paste (l : List Ky) (p : Nat) (f d : List Cl) (hp : p ≤ d.length) : app l (pasteU p f) d = d.take p ++ (f ++ d.drop p) := by
  unfold pasteU
  rw [app_ret0 l p _ d hp, app_insU]
theorem takes_insU (f : List Cl) : takesU (f.map insU) = 0 := by
  induction f with
  | nil => rfl
  | cons c f ih => exact ih
theorem makes_insU (f : List Cl) : makesU (f.map insU) = f.length := by
  induction f with
  | nil => rfl
  | cons c f ih => show makesU (f.map insU) + 1 = _; rw [ih]; rfl
theorem pasteU_takes (p : Nat) (f : List Cl) : takesU (pasteU p f) = p := by unfold pasteU; rw [takes_ret, takes_insU, Nat.add_zero]
theorem pasteU_makes (p : Nat) (f : List Cl) : makesU (pasteU p f) = p + f.length := by unfold pasteU; rw [makes_ret, makes_insU]
theorem fin_insU {n a : Nat} (h : a ≠ n) (f : List Cl) : finU n a (f.map insU) = true := (fin_ins (fun u hu => by
  obtain ⟨c, _, rfl⟩ := List.mem_map.1 hu
  exact ⟨c.r, c.s, rfl⟩) (fun _ => h)).1
theorem paste_fit {l : List Ky} {p n most : Nat} {f : List Cl} (hp : p < n) (hm : n + f.length ≤ most) (hb : most ≤ 536870912) (hf : ∀ c ∈ f, okCl l c) : FitU l (pasteU p f) n most := by
  refine ⟨fun u hu => ?_, by rw [pasteU_takes]; omega, by omega, by omega, ?_, by rw [pasteU_takes, pasteU_makes]; omega, by rw [pasteU_takes]; omega, by rw [pasteU_makes]; omega⟩
  · unfold pasteU at hu
    rcases List.mem_append.1 hu with hu | hu
    · rw [(List.mem_replicate.1 hu).2]; exact mayP_nil l
    · obtain ⟨c, hc, rfl⟩ := List.mem_map.1 hu
      exact hf c hc
  · unfold pasteU
    rw [finU_append, finU_reps, takesU_ret, Bool.true_and]
    exact fin_insU (by omega) f
theorem tight_isOp : ∀ {x : List Opd}, tight x → ∀ o ∈ x, isOp o
  | [], _ => fun o h => by cases h
  | a :: x, h => fun o ho => by
    rcases List.mem_cons.1 ho with rfl | ho
    · exact h.1
    · exact tight_isOp h.2.2 o ho
/-- ops that a maker made of units that fit are not refused, and make what the units make -/
theorem made_apply {l : List Ky} {x : List OpS} {m : Mk} {us : List Un} {d : List Cl} {most : Nat} (hx : osOf x = mkOps m) (ht : Told m us) (hb : x.length ≤ 1048576) (hmo : most ≤ 4294967296) (hd : mayD l d = 0) (hf : FitU l us d.length most) :
    applyN l x d most = 0 ∧ app l (units (osOf x)) d = app l us d := by
  obtain ⟨h1, h2⟩ := ht.ops
  rw [← hx] at h1 h2
  refine ⟨zero_applyN hd (units_fits hb hmo (fun o ho => tight_isOp h1 o.o (by unfold osOf; exact List.mem_map_of_mem ho)) (by rw [h2]; exact fit_nf hf)), ?_⟩
  rw [h2, app_nf]
theorem okCl_blank (l : List Ky) : okCl l ⟨10, []⟩ := ⟨by decide, by simp [mayS, riseA, rise], by simp [partS]⟩
/-- may cells be a fragment? -/
theorem frag_iff {l : List Ky} {f : List Cl} : mayD l (f ++ [⟨10, []⟩]) = 0 ↔ f.length ≤ 536870911 ∧ ∀ c ∈ f, okCl l c := by
  rw [mayD_iff]
  constructor
  · rintro ⟨h1, h2, _⟩
    exact ⟨by simp at h1; omega, fun c hc => h2 c (List.mem_append_left _ hc)⟩
  · rintro ⟨h1, h2⟩
    refine ⟨by simp; omega, fun c hc => ?_, f, ⟨10, []⟩, rfl, rfl⟩
    rcases List.mem_append.1 hc with hc | hc
    · exact h2 c hc
    · simp at hc; subst hc; exact okCl_blank l
/-- what is pasted and not refused has cells that may be -/
theorem paste_ok {l : List Ky} {x : List OpS} {p : Nat} {f d : List Cl} {most : Nat} (hx : osOf x = mkOps (pasteM p f)) (hp : p ≤ 1000000000000) (hf : f ≠ []) (hb : x.length ≤ 1048576) (hmo : most ≤ 4294967296) (h : applyN l x d most = 0) : ∀ c ∈ f, okCl l c := fun c hc => by
  obtain ⟨_, h2⟩ := applyN_zero h
  obtain ⟨_, hf2⟩ := fits_units hb hmo h2
  have hu := (paste_told p f hp).ops.2
  rw [← hx] at hu
  rw [hu, pasteU_nf p f hf] at hf2
  exact hf2.v (insU c) (by unfold pasteU; exact List.mem_append_right _ (List.mem_map_of_mem hc))
end Go.Proofs.YtipoeidmblnbbaaGreatDoor
/- A document's delta on the blank makes the document. Plain mathematics. -/
namespace Go.Proofs.YtipoeidmblnbbaaGreatDoor
set_option linter.unusedVariables false
set_option linter.unusedSimpArgs false

theorem mayV_size {v : V} (h : mayV v = true) : v.s.size ≤ 64 := by
  unfold mayV at h
  by_cases h1 : v.k = 1
  · rw [if_pos h1] at h
    have e : v = _ := of_decide_eq_true h
    rw [e]; exact Nat.zero_le _
  rw [if_neg h1] at h
  by_cases h2 : v.k = 2
  · rw [if_pos h2] at h
    have e : v = _ := of_decide_eq_true h
    rw [e]; exact Nat.zero_le _
  rw [if_neg h2] at h
  by_cases h3 : v.k = 3
  · rw [if_pos h3] at h
    have e : v = _ := of_decide_eq_true h
    rw [e]; exact Nat.zero_le _
  rw [if_neg h3] at h
  by_cases h4 : v.k = 4
  · rw [if_pos h4, Bool.and_eq_true] at h
    exact (of_decide_eq_true h.1).1
  · rw [if_neg h4] at h; cases h
/-- the values of a set that may be are small -/
theorem mayS_va {l : List Ky} {s : List At} (h : mayS l s = 0) (hv : okVr s) : okVa s := fun c hc => by
  obtain ⟨_, _, h3, _⟩ := mayS_zero h
  exact ⟨hv c hc, by have := mayV_size (h3 c hc); omega⟩
/-- the set of a newline has block keys alone -/
theorem newline_part {l : List Ky} {s : List At} (h : mayS l s = 0) (hp : partS l false s = []) : partP l true (diffP [] s) = diffP [] s := by
  obtain ⟨_, _, _, h4⟩ := mayS_zero h
  rw [diff_new]
  unfold partP
  refine List.filter_eq_self.2 fun c hc => ?_
  obtain ⟨a, ha, rfl⟩ := List.mem_map.1 hc
  have h5 := keep_one' (fits_some (h4 a ha))
  have h6 : keepK l false a.key = false := by
    rcases Bool.eq_false_or_eq_true (keepK l false a.key) with h7 | h7
    · have hm : a ∈ partS l false s := List.mem_filter.2 ⟨ha, h7⟩
      rw [hp] at hm; cases hm
    · exact h7
  rw [h6] at h5
  exact h5
def blankC' : List Cl := [⟨10, []⟩]
def loadU (d : List Cl) : List Un :=
  match d.getLast? with
  | none => []
  | some c => d.dropLast.map insU ++ [.ret (diffP [] c.s)]
theorem loadU_snoc (t : List Cl) (c : Cl) : loadU (t ++ [c]) = t.map insU ++ [.ret (diffP [] c.s)] := by unfold loadU; simp
theorem load_law {l : List Ky} {d : List Cl} {most : Nat} (hl : l.length ≤ 64) (hd : mayD l d = 0) (hb : d.length ≤ 1000000) (hm : d.length ≤ most) :
    Told (deltaM d) (loadU d) ∧ FitU l (loadU d) blankC'.length most ∧ app l (loadU d) blankC' = d := by
  obtain ⟨h0, h1, t, c, rfl, h3⟩ := mayD_iff.1 hd
  have hc := h1 c (by simp)
  obtain ⟨c1, c2, c3⟩ := hc
  rw [loadU_snoc]
  have hlen : t.length + 1 ≤ most := by simpa using hm
  have ht : t.length ≤ 1000000 := by simp at hb; omega
  have hcr : (c.r == 10) = true := by rw [h3]; rfl
  rw [hcr] at c3
  refine ⟨?_, ?_, ?_⟩
  · have e : deltaM (t ++ [c]) = mkRetain (tellM Mk.new t) 1 (diffP [] c.s) := by unfold deltaM; simp
    rw [e]
    have h := (Told.new.tell t).retain 1 (diffP [] c.s) (by simp; omega)
    rw [List.nil_append] at h
    exact h
  · refine ⟨fun u hu => ?_, ?_, Nat.le_refl _, by show 1 ≤ most; omega, ?_, ?_, ?_, ?_⟩
    · rcases List.mem_append.1 hu with hu | hu
      · obtain ⟨x, hx, rfl⟩ := List.mem_map.1 hu
        exact h1 x (by simp [hx])
      · simp at hu; subst hu
        exact stay_diff hl (by simp [mayS, riseA, rise]) c2
    · rw [takesU_append, takes_insU]; exact Nat.le_refl _
    · rw [finU_append, fin_insU (by decide), takes_insU]; rfl
    · rw [takesU_append, makesU_append, takes_insU, makes_insU]; show 1 + (t.length + 1) ≤ most + (0 + 1); omega
    · rw [takesU_append, takes_insU]; show 0 + 1 ≤ _; omega
    · rw [makesU_append, makes_insU]; show t.length + 1 ≤ _; omega
  · rw [app_append, takes_insU, List.take_zero, List.drop_zero, app_insU, List.append_nil]
    show t ++ ([actC l ⟨10, []⟩ (diffP [] c.s)] ++ []) = _
    rw [List.append_nil]
    congr 1
    unfold actC
    simp only
    have e1 : ((10 : Int) == 10) = true := rfl
    rw [e1, newline_part c2 c3, law_diff rfl (mayS_zero c2).2.1, ← h3]
end Go.Proofs.YtipoeidmblnbbaaGreatDoor
