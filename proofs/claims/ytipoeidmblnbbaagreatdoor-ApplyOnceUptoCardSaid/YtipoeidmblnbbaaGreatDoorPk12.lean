/- Merged texts: Apply, DelPartA, Clone, SetLaw, With, AttrsOps, AttrsLaw, PartALaw. -/
import Derived.Test.YtipoeidmblnbbaaGreatDoorPk7
import Derived.Deep.LoopGhost
import Derived.Deep.DeepMust
import Derived.Test.YtipoeidmblnbbaaGreatDoorPk9
import Derived.Test.YtipoeidmblnbbaaGreatDoorPk11
import Derived.Test.YtipoeidmblnbbaaGreatDoorPk10
import Derived.Test.YtipoeidmblnbbaaGreatDoorPk8
import Derived.Deep.RegionHeld3
import Derived.Test.YtipoeidmblnbbaaGreatDoorPk2
/- The walk of patch.Apply: it returns, in new memory, what applyP computes. -/
namespace Go.Proofs.YtipoeidmblnbbaaGreatDoor
open Go.RowKit
set_option linter.unusedVariables false
set_option linter.unusedSimpArgs false

/-- what a call hands back that makes a list in new memory -/
def NewAt (r : List At) (w : World) (e : Ending) (w' : World) : Prop :=
  ∃ A c, e = .returned (.slice A r.length c) ∧ OwAt w' w.heap.size (.slice A r.length c) r ∧ Below w.heap.size w w'
def NewCh (r : List Ch) (w : World) (e : Ending) (w' : World) : Prop :=
  ∃ A c, e = .returned (.slice A r.length c) ∧ OwCh w' w.heap.size (.slice A r.length c) r ∧ Below w.heap.size w w'

set_option maxRecDepth 100000 in
set_option maxHeartbeats 400000 in
theorem apply_any (A1 A2 : Option Addr) (n1 n2 c1 c2 : Nat) (set : List At) (p : List Ch) (w : World)
    (hn1 : n1 = set.length) (hn2 : n2 = p.length) (h1 : RdAt w w.heap.size A1 set) (h2 : RdCh w w.heap.size A2 p)
    (hb1 : n1 ≤ 100000000) (hb2 : n2 ≤ 100000000) (hc1 : n1 ≤ c1) (hcm : c1 ≤ maxLen) :
    Calls Tryz.prog 132 #[.slice A1 n1 c1, .slice A2 n2 c2] w (NewAt (applyP p set) w) := by
  unfold maxLen at hcm
  have N1 := Lib.hid hn1
  have N2 := Lib.hid hn2
  generalize hR : applyP p set = R
  have HR := Lib.hid hR
  clear hn1 hn2 hR
  go_enter Tryz.func132, Tryz.ntmps132
  go_wp2
  go_step3
  go_wp2
  go_step3
  go_wp2
  go_loopg [5, 6, 11] n2 (fun g ov iv kv wr => ∃ (k i : Nat) (o : List At), k ≤ n2 ∧ i ≤ n1 ∧ g = n2 - k ∧ iv = .int .i64 i ∧ kv = .int .i64 k ∧ OwAt wr w.heap.size ov o ∧ o.length ≤ i + k ∧
    Below w.heap.size w wr ∧ Hid (o ++ applyP (p.drop k) (set.drop i) = R))
  case atStart => exact ⟨0, 0, [], by omega, by omega, rfl, rfl, rfl, Ow.nil _ _, by simp, Below.refl _ _, Lib.hid (by simpa using HR.out)⟩
  case round =>
    obtain ⟨k, i, o, hk, hi, hg, rfl, rfl, hown, hol, hbw, HI⟩ := hrel
    have HG := Lib.hid hg
    clear hg HR
    by_cases hlt : k < n2
    · have hkp : k < p.length := by have := N2.out; omega
      obtain ⟨ad2, c, rfl, _, hd2, _, hc2⟩ := (h2.below hbw (Nat.le_refl _)).el hkp
      have HI' : Hid (o ++ applyAt c (p.drop (k+1)) (set.drop i) = R) := Lib.hid (by rw [← HI.out, hd2]; rfl)
      clear HI hkp hd2
      obtain ⟨ck, cg, va, vn, vf, vs⟩ := c
      obtain ⟨q0, q1, q2, q3, q4, q5⟩ := ch_cells hc2
      clear hc2
      go_wp2_with (fail)
      obtain ⟨wo, rfl⟩ : ∃ wo : World, wo = wr := ⟨_, rfl⟩
      go_loopg [5, 6] (n1 - i) (fun g ov iv wi => ∃ (i : Nat) (o : List At), i ≤ n1 ∧ g = n1 - i ∧ iv = .int .i64 i ∧ OwAt wi w.heap.size ov o ∧ o.length ≤ i + k ∧
        Below w.heap.size w wi ∧ wi.heap[wo.heap.size]? = some (.cells #[.int .i64 ck, .bool cg, .int .u8 va, .int .i64 vn, .int .u64 vf, .string vs] 113 (0, 0)) ∧ wb ov ≠ some wo.heap.size ∧
        Hid (o ++ applyAt ⟨ck, cg, ⟨va, vn, vf, vs⟩⟩ (p.drop (k+1)) (set.drop i) = R))
      case atStart =>
        refine ⟨i, o, hi, rfl, rfl, hown.alloc _, hol, hbw.alloc hbw.size _, heap_alloc_new _ _, fun e => ?_, HI'⟩
        have := (hown.wb_lt _ e).2; omega
      case round =>
        clear q0 q1 q2 q3 q4 q5 hi hown hol hbw HI'
        obtain ⟨i, o, hi, hg, rfl, hown, hol, hbw, hbx, hwb, HI⟩ := hrel
        have HG2 := Lib.hid hg
        clear hg
        obtain ⟨b0, b1, b2, b3, b4, b5⟩ := box_ch hbx
        have HBX := Lib.hid hbx
        have HWB := Lib.hid hwb
        clear hbx hwb
        by_cases hil : i < n1
        · have hip : i < set.length := by have := N1.out; omega
          obtain ⟨ad1, a, rfl, _, hd1, _, hc1⟩ := (h1.below hbw (Nat.le_refl _)).el hip
          obtain ⟨ek, ea, en, ef, es⟩ := a
          obtain ⟨r0, r1, r2, r3, r4⟩ := at_cells hc1
          by_cases hak : ek < ck
          · go_wp2_with (first
              | go_quiet (fail)
              | (at_builtin; refine app_at (m := [⟨ek, ⟨ea, en, ef, es⟩⟩]) rfl (.tmp 30) (.tmp 35) rfl rfl (by first | exact (hown.drewN _).alloc _ | exact hown.alloc _) _ _ 1 1 rfl rfl (by exact rd_one _ _ _ rfl) (by simp only [List.length_singleton]; omega) (by have := hbw.size; simp; omega) ?_; intro v' w' hown' hgr hv'))
            obtain ⟨s1, s2, s3⟩ := app_step hown hbw (Nat.le_refl _) hgr hv'
            go_roundg (n1 - (i + 1))
            case measure => have := HG2.out; omega
            case rel =>
              exact ⟨i + 1, o ++ [⟨ek, ⟨ea, en, ef, es⟩⟩], by omega, rfl, by go_num, hown', by simp; omega, s1, s2 _ _ HBX.out HWB.out, s3 _ (blk_lt HBX.out) HWB.out,
                Lib.hid (by rw [← HI.out, hd1, applyAt_less _ _ _ _ hak, List.append_assoc]; rfl)⟩
          · by_cases hek : ek = ck
            · subst hek
              cases cg
              · go_wp2_with (first
                  | go_quiet (fail)
                  | (at_builtin; refine app_at (m := [⟨ek, ⟨va, vn, vf, vs⟩⟩]) rfl (.tmp 51) (.tmp 57) rfl rfl (by first | exact (hown.drewN _).alloc _ | exact hown.alloc _) _ _ 1 1 rfl rfl (by exact rd_one _ _ _ rfl) (by simp only [List.length_singleton]; omega) (by have := hbw.size; simp; omega) ?_; intro v' w' hown' hgr hv'))
                obtain ⟨s1, s2, s3⟩ := app_step hown hbw (Nat.le_refl _) hgr hv'
                go_roundg (n2 - (k + 1))
                case measure => have := HG.out; omega
                case rel =>
                  exact ⟨k + 1, i + 1, o ++ [⟨ek, ⟨va, vn, vf, vs⟩⟩], by omega, by omega, rfl, by go_num, by go_num, hown', by simp; omega, s1,
                    Lib.hid (by rw [← HI.out, hd1, applyAt_eq _ _ _ _ rfl, List.append_assoc]; rfl)⟩
              · go_wp2_with (go_quiet (fail))
                go_roundg (n2 - (k + 1))
                case measure => have := HG.out; omega
                case rel =>
                  exact ⟨k + 1, i + 1, o, by omega, by omega, rfl, by go_num, by go_num, hown, by omega, below_drewN hbw _,
                    Lib.hid (by rw [← HI.out, hd1, applyAt_eq _ _ _ _ rfl]; rfl)⟩
            · have hek' : (ek == ck) = false := beq_eq_false_iff_ne.2 hek
              cases cg
              · go_wp2_with (first
                  | go_quiet (fail)
                  | (at_builtin; refine app_at (m := [⟨ck, ⟨va, vn, vf, vs⟩⟩]) rfl (.tmp 51) (.tmp 57) rfl rfl (by first | exact (hown.drewN _).alloc _ | exact hown.alloc _) _ _ 1 1 rfl rfl (by exact rd_one _ _ _ rfl) (by simp only [List.length_singleton]; omega) (by have := hbw.size; simp; omega) ?_; intro v' w' hown' hgr hv'))
                obtain ⟨s1, s2, s3⟩ := app_step hown hbw (Nat.le_refl _) hgr hv'
                go_roundg (n2 - (k + 1))
                case measure => have := HG.out; omega
                case rel =>
                  exact ⟨k + 1, i, o ++ [⟨ck, ⟨va, vn, vf, vs⟩⟩], by omega, by omega, rfl, rfl, by go_num, hown', by simp; omega, s1,
                    Lib.hid (by rw [← HI.out, hd1, applyAt_more _ _ _ _ (by show ck < ek; omega), List.append_assoc]; rfl)⟩
              · go_wp2_with (go_quiet (fail))
                go_roundg (n2 - (k + 1))
                case measure => have := HG.out; omega
                case rel =>
                  exact ⟨k + 1, i, o, by omega, by omega, rfl, rfl, by go_num, hown, by omega, below_drewN hbw _,
                    Lib.hid (by rw [← HI.out, hd1, applyAt_more _ _ _ _ (by show ck < ek; omega)]; rfl)⟩
        · have hd1 : set.drop i = [] := List.drop_eq_nil_of_le (by have := N1.out; omega)
          have HD1 := Lib.hid hd1
          clear hd1
          cases cg
          · go_wp2_with (first
              | go_quiet (fail)
              | (at_builtin; refine app_at (m := [⟨ck, ⟨va, vn, vf, vs⟩⟩]) rfl (.tmp 62) (.tmp 68) rfl rfl (by first | exact (hown.drewN _).alloc _ | exact hown.alloc _) _ _ 1 1 rfl rfl (by exact rd_one _ _ _ rfl) (by simp only [List.length_singleton]; omega) (by have := hbw.size; simp; omega) ?_; intro v' w' hown' hgr hv'))
            obtain ⟨s1, s2, s3⟩ := app_step (nq := 0) hown hbw (Nat.le_refl _) hgr hv'
            go_roundg (n2 - (k + 1))
            case measure => have := HG.out; omega
            case rel =>
              exact ⟨k + 1, i, o ++ [⟨ck, ⟨va, vn, vf, vs⟩⟩], by omega, by omega, rfl, rfl, by go_num, hown', by simp; omega, s1,
                Lib.hid (by rw [← HI.out, HD1.out, applyAt_nil, List.append_assoc]; rfl)⟩
          · go_wp2_with (go_quiet (fail))
            go_roundg (n2 - (k + 1))
            case measure => have := HG.out; omega
            case rel =>
              exact ⟨k + 1, i, o, by omega, by omega, rfl, rfl, by go_num, hown, by omega, hbw,
                Lib.hid (by rw [← HI.out, HD1.out, applyAt_nil]; rfl)⟩
    · have hkn : k = n2 := by omega
      have hdp : p.drop k = [] := List.drop_eq_nil_of_le (by have := N2.out; omega)
      have HDP := Lib.hid hdp
      clear hdp hkn
      go_wp2_with (first
        | (at_builtin; refine app_at (m := set.drop i) rfl (.tmp 71) (.tmp 74) rfl rfl (by exact hown) _ _ _ _ rfl (by rw [List.length_drop, ← N1.out]) (by have hx := (h1.below hbw (Nat.le_refl _)).cut (k := i) (cap := c1) (by have := N1.out; omega) (by have := N1.out; omega); exact hx) (by have := N1.out; rw [List.length_drop]; omega) (by exact hbw.size) ?_; intro v' w' hown' hgr hv'))
      all_goals
        have e : o ++ set.drop i = R := by have := HI.out; rw [HDP.out] at this; exact this
        rw [e] at hown'
        obtain ⟨A', c', rfl, _, _⟩ := hown'.form
        go_ret
        exact ⟨A', c', rfl, hown', below_app hbw hbw.size hown (Nat.le_refl _) hgr⟩
end Go.Proofs.YtipoeidmblnbbaaGreatDoor
/- slices.IndexFunc and slices.DeleteFunc at the closure of attrs.Part. -/
namespace Go.Proofs.YtipoeidmblnbbaaGreatDoor
open Go.RowKit
set_option linter.unusedVariables false
set_option linter.unusedSimpArgs false

set_option maxRecDepth 100000 in
set_option maxHeartbeats 400000 in
theorem indexPartA_any (b1 b2 : Nat) (pr : At → Bool) (A : Option Addr) (n c : Nat) (l : List At) (w : World) (hn : n = l.length) (h : RdAt w w.heap.size A l) (hb : n ≤ 140737488355328)
    (hcl : ∀ (x1 x2 x3 x4 : Int) (x5 : ByteArray) (w' : World), Below w.heap.size w w' → Calls Tryz.prog 85 #[.agg #[.int .i64 x1, .int .u8 x2, .int .i64 x3, .int .u64 x4, .string x5], .pointer (some ⟨b1, 0, none⟩), .pointer (some ⟨b2, 0, none⟩)] w' fun e w'' => e = .returned (.bool (pr ⟨x1, ⟨x2, x3, x4, x5⟩⟩)) ∧ Below w'.heap.size w' w'') :
    Calls Tryz.prog 127 #[.slice A n c, .func (.func 85) #[] #[.pointer (some ⟨b1, 0, none⟩), .pointer (some ⟨b2, 0, none⟩)]] w fun e w' => ∃ i : Int, e = .returned (.int .i64 i) ∧ IdxOut pr l i ∧ Below w.heap.size w w' := by
  have N := Lib.hid hn
  have HCL := Lib.hid hcl
  clear hn hcl
  go_enter Tryz.func127, Tryz.ntmps127
  go_wp2_with (fail)
  go_loopg [8] n (fun g iv wr => ∃ i : Nat, i ≤ n ∧ g = n - i ∧ iv = .int .i64 i ∧ Below w.heap.size w wr ∧ Hid (∀ x ∈ l.take i, pr x = false))
  case atStart => exact ⟨0, by omega, rfl, rfl, Below.refl _ _, Lib.hid (by simp)⟩
  case round =>
    obtain ⟨i, hi, hg, rfl, hbw, HI⟩ := hrel
    have HG := Lib.hid hg
    clear hg
    by_cases hlt : i < n
    · have hil : i < l.length := by have := N.out; omega
      obtain ⟨ad, x, rfl, _, _, hx, hc1⟩ := (h.below hbw (Nat.le_refl _)).el hil
      have HT : Hid (l.take (i + 1) = l.take i ++ [x]) := Lib.hid (by rw [List.take_add_one, hx]; rfl)
      have HX := Lib.hid hx
      clear hx hil
      obtain ⟨x1, x2, x3, x4, x5⟩ := x
      obtain ⟨r0, r1, r2, r3, r4⟩ := at_cells hc1
      clear hc1
      by_cases hp : pr ⟨x1, ⟨x2, x3, x4, x5⟩⟩ = true
      · go_wp2_with (go_at_call 85; refine (HCL.out _ _ _ _ _ _ hbw).mono ?_; rintro e w' ⟨rfl, hb'⟩)
        go_ret
        exact ⟨i, rfl, .inr ⟨i, rfl, by have := N.out; omega, HI.out, _, HX.out, hp⟩, hbw.trans (hb'.mono hbw.size)⟩
      · have hp' : pr ⟨x1, ⟨x2, x3, x4, x5⟩⟩ = false := by simpa using hp
        clear hp
        go_wp2_with (go_at_call 85; refine (HCL.out _ _ _ _ _ _ hbw).mono ?_; rintro e w' ⟨rfl, hb'⟩)
        have hbw' := hbw.trans (hb'.mono hbw.size)
        go_roundg (n - (i + 1))
        case measure => have := HG.out; omega
        case rel =>
          refine ⟨i + 1, by omega, rfl, by go_num, hbw', Lib.hid ?_⟩
          intro y hy
          rw [HT.out] at hy
          rcases List.mem_append.1 hy with hy | hy
          · exact HI.out y hy
          · simp at hy; rw [hy]; exact hp'
    · go_wp2_with (fail)
      go_ret
      refine ⟨-1, rfl, .inl ⟨rfl, ?_⟩, hbw⟩
      have h1 := HI.out
      rw [List.take_of_length_le (by have := N.out; omega)] at h1
      exact h1

set_option maxRecDepth 100000 in
set_option maxHeartbeats 1000000 in
theorem deletePartA_any (b1 b2 : Nat) (pr : At → Bool) (A : Option Addr) (n c base : Nat) (l : List At) (w : World) (hown : OwAt w base (.slice A n c) l) (hbase : base ≤ w.heap.size) (hb : n ≤ 100000000) (hn : n = l.length)
    (hcl : ∀ (x1 x2 x3 x4 : Int) (x5 : ByteArray) (w' : World), Below base w w' → Calls Tryz.prog 85 #[.agg #[.int .i64 x1, .int .u8 x2, .int .i64 x3, .int .u64 x4, .string x5], .pointer (some ⟨b1, 0, none⟩), .pointer (some ⟨b2, 0, none⟩)] w' fun e w'' => e = .returned (.bool (pr ⟨x1, ⟨x2, x3, x4, x5⟩⟩)) ∧ Below w'.heap.size w' w'') :
    Calls Tryz.prog 83 #[.slice A n c, .func (.func 85) #[] #[.pointer (some ⟨b1, 0, none⟩), .pointer (some ⟨b2, 0, none⟩)]] w fun e w' =>
      ∃ A' c', e = .returned (.slice A' (l.filter (fun x => !pr x)).length c') ∧ OwAt w' base (.slice A' (l.filter (fun x => !pr x)).length c') (l.filter (fun x => !pr x)) ∧ Below base w w' := by
  have N := Lib.hid hn
  have HCL := Lib.hid hcl
  have hcap := hown.cap
  have hlc : n ≤ c := by rw [hn]; exact hcap.1
  have hcm : c ≤ 2 ^ 63 - 1 := hcap.2
  clear hn hcl hcap
  generalize hR : l.filter (fun x => !pr x) = R
  have HR := Lib.hid hR
  clear hR
  go_enter Tryz.func83, Tryz.ntmps83
  go_wp2_with (go_at_call 127; refine Hid.out ?_)
  refine Lib.hid ?_
  refine (indexPartA_any b1 b2 pr A n c l w N.out (hown.rd At.enc_len) (by omega) (fun x1 x2 x3 x4 x5 w' hb' => HCL.out x1 x2 x3 x4 x5 w' (hb'.mono hbase))).mono ?_
  rintro e w1 ⟨ix, rfl, hix, hb1⟩
  have hbw1 : Below base w w1 := hb1.mono hbase
  have hown1 := hown.below hb1 (Nat.le_refl _)
  have hbase1 : base ≤ w1.heap.size := Nat.le_trans hbase hb1.size
  clear hown hb1
  rcases hix with ⟨rfl, hall⟩ | ⟨i0, rfl, hi0, hpre, x0, hx0, hpx0⟩
  · have hRl : R = l := by
      rw [← HR.out]
      exact List.filter_eq_self.2 (fun x hx => by simp [hall x hx])
    have HRL := Lib.hid hRl
    clear hRl hall
    go_wp2_with (fail)
    go_ret
    refine ⟨A, c, ?_, ?_, hbw1⟩
    · rw [HRL.out, ← N.out]; rfl
    · rw [HRL.out, ← N.out]; exact hown1
  · have hne : ((i0 : Int) == -1) = false := beq_eq_false_iff_ne.2 (by omega)
    have hi0n : i0 < n := by rw [N.out]; exact hi0
    have hst : Hid (l.take i0 = (l.take (i0 + 1)).filter (fun x => !pr x)) := Lib.hid (by
      rw [List.take_add_one, hx0, List.filter_append, List.filter_eq_self.2 (fun x hx => by simp [hpre x hx])]
      simp [hpx0])
    clear hpre hx0 hpx0 hi0
    go_wp2_with (fail)
    go_loopg [5, 6] (n - (i0 + 1)) (fun g iv jv wr => ∃ (i j : Nat) (m : List At), i < j ∧ j ≤ n ∧ g = n - j ∧ iv = .int .i64 i ∧ jv = .int .i64 j ∧ OwAt wr base (.slice A n c) m ∧ base ≤ wr.heap.size ∧ Below base w wr ∧
      Hid (m.length = n ∧ m.drop j = l.drop j ∧ m.take i = (l.take j).filter (fun x => !pr x)))
    case atStart => exact ⟨i0, i0 + 1, l, by omega, by omega, rfl, rfl, by go_num, hown1, hbase1, hbw1, Lib.hid ⟨N.out.symm, rfl, hst.out⟩⟩
    case round =>
      clear hown1 hbase1 hbw1 hst hne hi0n
      obtain ⟨i, j, m, hij, hj, hg, rfl, rfl, hown, hbs, hbw, HI⟩ := hrel
      have HG := Lib.hid hg
      clear hg
      by_cases hlt : j < n
      · have hjm : j < m.length := by have := HI.out.1; omega
        obtain ⟨ad, x, rfl, _, hdm, hx, hc1⟩ := (hown.rd At.enc_len).el hjm
        have HX : Hid (l.take (j + 1) = l.take j ++ [x] ∧ m.drop (j + 1) = l.drop (j + 1)) := Lib.hid (by
          obtain ⟨h1, h2, h3⟩ := HI.out
          have h4 : l[j]? = some x := by
            have := congrArg (fun t => t[0]?) h2
            simp only [List.getElem?_drop, Nat.add_zero] at this
            rw [← this, hx]
          refine ⟨by rw [List.take_add_one, h4]; rfl, ?_⟩
          have := congrArg (fun t => t.drop 1) h2
          simpa [List.drop_drop] using this)
        clear hdm hx hjm
        obtain ⟨x1, x2, x3, x4, x5⟩ := x
        obtain ⟨r0, r1, r2, r3, r4⟩ := at_cells hc1
        clear hc1
        have hbx0 := heap_alloc_new wr (.cells #[.int .i64 x1, .int .u8 x2, .int .i64 x3, .int .u64 x4, .string x5] 70)
        have hbwA := hbw.alloc hbs (.cells #[.int .i64 x1, .int .u8 x2, .int .i64 x3, .int .u64 x4, .string x5] 70)
        have hownA := hown.alloc (.cells #[.int .i64 x1, .int .u8 x2, .int .i64 x3, .int .u64 x4, .string x5] 70)
        have hsz := size_alloc' wr (.cells #[.int .i64 x1, .int .u8 x2, .int .i64 x3, .int .u64 x4, .string x5] 70)
        have hwbA : ∀ k, wb (.slice (some ad) n c) = some k → k < wr.heap.size := fun k hk => (hown.wb_lt k hk).2
        by_cases hp : pr ⟨x1, ⟨x2, x3, x4, x5⟩⟩ = true
        · have HBX0 := Lib.hid hbx0
          have HWB := Lib.hid hwbA
          have HSZ := Lib.hid hsz
          clear hbx0 hwbA hsz
          go_wp2_with (go_at_call 85; refine (HCL.out _ _ _ _ _ _ hbwA).mono ?_; rintro e w2 ⟨rfl, hb2⟩)
          have hbw2 : Below base w w2 := hbwA.trans (hb2.mono (by rw [← HSZ.out]; omega))
          have hown2 := hownA.below hb2 (Nat.le_refl _)
          have hbs2 : base ≤ w2.heap.size := by have := hb2.size; rw [← HSZ.out] at this; omega
          go_roundg (n - (j + 1))
          case measure => have := HG.out; omega
          case rel =>
            obtain ⟨h1, h2, h3⟩ := HI.out
            obtain ⟨h4, h5⟩ := HX.out
            exact ⟨i, j + 1, m, by omega, by omega, rfl, rfl, by go_num, hown2, hbs2, hbw2, Lib.hid ⟨h1, h5, by rw [h4, List.filter_append, h3]; simp [hp]⟩⟩
        · have hp' : pr ⟨x1, ⟨x2, x3, x4, x5⟩⟩ = false := by simpa using hp
          clear hp
          have HBX0 := Lib.hid hbx0
          have HWB := Lib.hid hwbA
          have HSZ := Lib.hid hsz
          clear hbx0 hwbA hsz
          go_wp2_with (go_at_call 85; refine Hid.out ?_)
          refine Lib.hid ?_
          refine (HCL.out _ _ _ _ _ _ hbwA).mono ?_
          rintro e w2 ⟨rfl, hb2⟩
          have hbw2 : Below base w w2 := hbwA.trans (hb2.mono (by rw [← HSZ.out]; omega))
          have hown2 := hownA.below hb2 (Nat.le_refl _)
          have hbs2 : base ≤ w2.heap.size := by have := hb2.size; rw [← HSZ.out] at this; omega
          have hbx2 := (hb2.block wr.heap.size (by rw [← HSZ.out]; omega)).trans HBX0.out
          obtain ⟨b0, b1, b2, b3, b4⟩ := box_at hbx2
          have him : i < m.length := by have := HI.out.1; omega
          have hin : i < n := by omega
          clear hbx2
          obtain ⟨i1, hi1, hz1, hz2, hz3⟩ := info_parts Tryz.infoAt
          have I1 := Lib.hid hi1
          have Z2 := Lib.hid hz2
          clear hi1 hz1 hz2 hz3 hownA hbwA
          go_wp2_with (refine wpList_set_own rfl 70 (.tmp 33) (.tmp 32) rfl rfl i1 I1.out Z2.out At.enc_len At.enc_one hown2 him ⟨x1, ⟨x2, x3, x4, x5⟩⟩ (cs := #[.int .i64 x1, .int .u8 x2, .int .i64 x3, .int .u64 x4, .string x5]) rfl (p := ad.add (i * 5)) rfl rfl rfl ?_; intro w3 hown3 hg3)
          have hbw3 : Below base w w3 := hbw2.grown hg3 hbs2 (fun k hk => (hown2.wb_lt k hk).1)
          have hbs3 : base ≤ w3.heap.size := Nat.le_trans hbs2 hg3.size
          go_roundg (n - (j + 1))
          case measure => have := HG.out; omega
          case rel =>
            obtain ⟨h1, h2, h3⟩ := HI.out
            obtain ⟨h4, h5⟩ := HX.out
            refine ⟨i + 1, j + 1, m.set i ⟨x1, ⟨x2, x3, x4, x5⟩⟩, by omega, by omega, rfl, by go_num, by go_num, hown3, hbs3, hbw3, Lib.hid ⟨by rw [List.length_set]; exact h1, by rw [List.drop_set_of_lt (by omega)]; exact h5, ?_⟩⟩
            rw [h4, List.filter_append, List.take_add_one, List.getElem?_set_self him, List.take_set_of_le (Nat.le_refl i), h3]
            simp [hp']
      · have hjn : j = n := by omega
        have hm0 := HI.out
        obtain ⟨i1, hi1, hz1, hz2, hz3⟩ := info_parts Tryz.infoAt
        have I1 := Lib.hid hi1
        have Z1 := Lib.hid hz1
        have hmR : m.take i = R := by
          obtain ⟨h1, h2, h3⟩ := hm0
          rw [h3, ← HR.out, List.take_of_length_le (by have := N.out; omega)]
        have him : i ≤ m.length := by have := hm0.1; omega
        have hiR : i = R.length := by rw [← hmR, List.length_take, Nat.min_eq_left him]
        have HIR := Lib.hid hiR
        have HMR := Lib.hid hmR
        have HML : Hid (m.length = n) := Lib.hid hm0.1
        clear hi1 hz1 hz2 hz3 hmR hiR hm0 hjn
        rcases Nat.lt_or_ge i c with hci | hci
        · have hne : ¬ c = i := by omega
          go_wp2_with (refine wpList_clear_own (i := i) (X := A.map (fun x => x.add (i * 5))) rfl (.tmp 38) _ rfl rfl Tryz.slAt i1 _ I1.out Z1.out rfl (by intro u hu; exact At.enc_one ⟨0, V.zero⟩ u hu) At.enc_len hown him (by exact .inr rfl) (by rw [HML.out]) rfl ?_; intro w3 hown3 hg3)
          have hbw3 : Below base w w3 := hbw.grown hg3 hbs (fun k hk => (hown.wb_lt k hk).1)
          rw [HMR.out] at hown3
          have hri := HIR.out
          subst hri
          go_ret
          exact ⟨A, c, rfl, hown3, hbw3⟩
        · go_wp2_with (refine wpList_clear_own (i := i) (X := A) rfl (.tmp 38) _ rfl rfl Tryz.slAt i1 _ I1.out Z1.out rfl (by intro u hu; exact At.enc_one ⟨0, V.zero⟩ u hu) At.enc_len hown him (by have := HML.out; left; omega) (by rw [HML.out]) rfl ?_; intro w3 hown3 hg3)
          have hbw3 : Below base w w3 := hbw.grown hg3 hbs (fun k hk => (hown.wb_lt k hk).1)
          rw [HMR.out] at hown3
          have hri := HIR.out
          subst hri
          go_ret
          exact ⟨A, c, rfl, hown3, hbw3⟩
end Go.Proofs.YtipoeidmblnbbaaGreatDoor
/- slices.Clone of attributes and of changes; attrs.Copy, patch.Copy. -/
namespace Go.Proofs.YtipoeidmblnbbaaGreatDoor
open Go.RowKit
set_option linter.unusedVariables false
set_option linter.unusedSimpArgs false

set_option maxRecDepth 100000 in
set_option maxHeartbeats 400000 in
theorem cloneAt_any (A : Option Addr) (n c : Nat) (l : List At) (w : World) (hn : n = l.length) (h : RdAt w w.heap.size A l) (hb : n ≤ 100000000) :
    Calls Tryz.prog 84 #[.slice A n c] w (NewAt l w) := by
  cases A with
  | none =>
    have hl : l = [] := by
      cases l with
      | nil => rfl
      | cons a l => obtain ⟨ad, e, _⟩ := h (by simp); cases e
    subst hl
    have hn0 : n = 0 := by simpa using hn
    subst hn0
    clear hn
    have hq := fun (w : World) => Lib.run_eql_slice_nil (P := Tryz.prog) w 43 70 none 0 c 0 0 Tryz.slAt
    go_enter Tryz.func84, Tryz.ntmps84
    go_wp2_with (fail)
    go_ret
    exact ⟨none, 0, rfl, Ow.nil _ _, Below.refl _ _⟩
  | some ad =>
    have N := Lib.hid hn
    clear hn
    have hq := fun (w : World) => Lib.run_eql_slice_nil (P := Tryz.prog) w 43 70 (some ad) n c 0 0 Tryz.slAt
    go_enter Tryz.func84, Tryz.ntmps84
    go_wp2_with (first
      | (at_builtin; refine app_at (m := l) rfl (.tmp 5) (.tmp 6) rfl rfl (by exact Ow.empty _ w.heap.size _) _ _ _ _ rfl N.out (by exact h.ext (ext_alloc w _)) (by have := N.out; simp only [List.length_nil]; omega) (by simp) ?_; intro v' w' hown' hgr hv'))
    rw [List.nil_append] at hown'
    obtain ⟨A', c', rfl, _, _⟩ := hown'.form
    go_ret
    exact ⟨A', c', rfl, hown', (ext_alloc w _).grown hgr (by simp) (fun k hk => by cases hk)⟩

set_option maxRecDepth 100000 in
set_option maxHeartbeats 400000 in
theorem cloneCh_any (A : Option Addr) (n c : Nat) (l : List Ch) (w : World) (hn : n = l.length) (h : RdCh w w.heap.size A l) (hb : n ≤ 100000000) :
    Calls Tryz.prog 108 #[.slice A n c] w (NewCh l w) := by
  cases A with
  | none =>
    have hl : l = [] := by
      cases l with
      | nil => rfl
      | cons a l => obtain ⟨ad, e, _⟩ := h (by simp); cases e
    subst hl
    have hn0 : n = 0 := by simpa using hn
    subst hn0
    clear hn
    have hq := fun (w : World) => Lib.run_eql_slice_nil (P := Tryz.prog) w 44 113 none 0 c 0 0 Tryz.slCh
    go_enter Tryz.func108, Tryz.ntmps108
    go_wp2_with (fail)
    go_ret
    exact ⟨none, 0, rfl, Ow.nil _ _, Below.refl _ _⟩
  | some ad =>
    have N := Lib.hid hn
    clear hn
    have hq := fun (w : World) => Lib.run_eql_slice_nil (P := Tryz.prog) w 44 113 (some ad) n c 0 0 Tryz.slCh
    go_enter Tryz.func108, Tryz.ntmps108
    go_wp2_with (first
      | (at_builtin; refine app_ch (m := l) rfl (.tmp 5) (.tmp 6) rfl rfl (by exact Ow.empty _ w.heap.size _) _ _ _ _ rfl N.out (by exact h.ext (ext_alloc w _)) (by have := N.out; simp only [List.length_nil]; omega) (by simp) ?_; intro v' w' hown' hgr hv'))
    rw [List.nil_append] at hown'
    obtain ⟨A', c', rfl, _, _⟩ := hown'.form
    go_ret
    exact ⟨A', c', rfl, hown', (ext_alloc w _).grown hgr (by simp) (fun k hk => by cases hk)⟩
end Go.Proofs.YtipoeidmblnbbaaGreatDoor
/- The plain laws of sets of a schema. -/
namespace Go.Proofs.YtipoeidmblnbbaaGreatDoor
set_option linter.unusedVariables false
set_option linter.unusedSimpArgs false

theorem one_less {x : Int} : ∀ {keys : List Int}, keys.Pairwise (· < ·) → keys.length ≤ (keys.filter (fun k => decide (k ≠ x))).length + 1
  | [], _ => by simp
  | a :: r, h => by
    have h1 := List.pairwise_cons.1 h
    by_cases e : a = x
    · have hf : (a :: r).filter (fun k => decide (k ≠ x)) = r := by
        rw [List.filter_cons, if_neg (by simp [e])]
        refine List.filter_eq_self.2 fun b hb => ?_
        have := h1.1 b hb
        simp; omega
      rw [hf]; simp
    · rw [List.filter_cons, if_pos (by simp [e])]
      have := one_less h1.2 (x := x)
      simp only [List.length_cons]; omega
theorem keys_len {l : List Ky} : ∀ {keys : List Int}, keys.Pairwise (· < ·) → (∀ k ∈ keys, (findK l k).isSome = true) → keys.length ≤ l.length := by
  induction l with
  | nil =>
    intro keys _ h
    cases keys with
    | nil => simp
    | cons a r => have := h a (by simp); simp [findK] at this
  | cons x l ih =>
    intro keys hp h
    have h1 := ih (keys := keys.filter (fun k => decide (k ≠ x.id))) (List.Pairwise.filter _ hp) (fun k hk => by
      obtain ⟨hk1, hk2⟩ := List.mem_filter.1 hk
      have hk2 : ¬ k = x.id := by simpa using hk2
      have h3 := h k hk1
      have h4 : ¬ x.id = k := fun e => hk2 e.symm
      simpa [findK, h4] using h3)
    have h2 := one_less (x := x.id) hp
    simp only [List.length_cons]; omega
theorem fits_some {l : List Ky} {id : Int} {v : V} (h : fitsK l id v = true) : (findK l id).isSome = true := by
  unfold fitsK at h
  cases hq : findK l id with
  | none => rw [hq] at h; cases h
  | some k => rfl
theorem keys_lenA {l : List Ky} {p : List At} (hp : riseA p = true) (h : ∀ c ∈ p, thereA l c = true) : p.length ≤ l.length := by
  have h1 := riseA_srt.1 hp
  have h2 : (p.map (·.key)).Pairwise (· < ·) := List.pairwise_map.2 h1
  have h3 := keys_len (l := l) h2 (fun k hk => by
    obtain ⟨c, hc, rfl⟩ := List.mem_map.1 hk
    exact fits_some (h c hc))
  simpa using h3
theorem stayA {l : List Ky} (hl : l.length ≤ 64) {p : List At} (hs : Srt At.key p) (h : ∀ c ∈ p, okA c = true ∧ thereA l c = true) : mayS l p = 0 := by
  have h1 := keys_lenA (l := l) (riseA_srt.2 hs) (fun c hc => (h c hc).2)
  unfold mayS
  rw [if_neg (by omega), if_pos ⟨riseA_srt.2 hs, List.all_eq_true.2 (fun c hc => (h c hc).1)⟩, if_pos (List.all_eq_true.2 (fun c hc => (h c hc).2))]
theorem mayKs_len {l : List Ky} (h : mayKs l = true) : l.length ≤ 64 := by
  unfold mayKs at h
  exact of_decide_eq_true (Bool.and_eq_true_iff.1 h).1
end Go.Proofs.YtipoeidmblnbbaaGreatDoor
/- The walk of attrs.With. -/
namespace Go.Proofs.YtipoeidmblnbbaaGreatDoor
open Go.RowKit
set_option linter.unusedVariables false
set_option linter.unusedSimpArgs false

def withP (l : List At) (a : At) : List At := applyP [⟨a.key, false, a.v⟩] l
theorem up_drew {B : Nat} {a b : World} (h : Below B a b) : Below B a b.drew := ⟨h.1, h.2, h.3, h.4, h.5⟩
theorem up_alloc {a b : World} (h : Below a.heap.size a b) (o : Obj) : Below a.heap.size a (b.alloc o) := ext_trans h (ext_alloc b o)
end Go.Proofs.YtipoeidmblnbbaaGreatDoor
/- The walks of attrs.Same, attrs.Copy and attrs.Without. -/
namespace Go.Proofs.YtipoeidmblnbbaaGreatDoor
open Go.RowKit
set_option linter.unusedVariables false
set_option linter.unusedSimpArgs false

set_option maxRecDepth 100000 in
set_option maxHeartbeats 400000 in
theorem equalA_any (A B : Option Addr) (n m c d : Nat) (l k : List At) (w : World) (hn : n = l.length) (hm : m = k.length) (h1 : RdAt w w.heap.size A l) (h2 : RdAt w w.heap.size B k) (hb : n ≤ 140737488355328) (hb2 : m ≤ 140737488355328) :
    Calls Tryz.prog 101 #[.slice A n c, .slice B m d] w (Quiet (.bool (decide (l = k))) w) := by
  have N := Lib.hid hn
  have M := Lib.hid hm
  generalize hR : decide (l = k) = R
  have HR := Lib.hid hR
  clear hn hR hm
  by_cases hnm : (n : Int) = m
  · have hnm' : n = m := by omega
    subst hnm'
    clear hnm
    go_enter Tryz.func101, Tryz.ntmps101
    go_wp2_with (fail)
    go_loopg [13] n (fun g iv wr => ∃ i : Nat, i ≤ n ∧ g = n - i ∧ iv = .int .i64 (i : Int) ∧ (∃ d, wr = w.drewN d) ∧ Hid (decide (l.drop i = k.drop i) = R))
    case atStart => exact ⟨0, by omega, rfl, rfl, ⟨0, rfl⟩, Lib.hid (by rw [List.drop_zero, List.drop_zero]; exact HR.out)⟩
    case round =>
      obtain ⟨i, hi, hg, rfl, ⟨q, rfl⟩, HI⟩ := hrel
      have HG := Lib.hid hg
      clear hg HR
      by_cases hlt : i < n
      · have hl1 : i < l.length := by have := N.out; omega
        have hl2 : i < k.length := by have := M.out; omega
        obtain ⟨ad, x, rfl, _, hd1, _, hc1⟩ := h1.el hl1
        obtain ⟨ad2, y, rfl, _, hd2, _, hc2⟩ := h2.el hl2
        have HI' : Hid (decide (x :: l.drop (i + 1) = y :: k.drop (i + 1)) = R) := Lib.hid (by rw [← HI.out, hd1, hd2])
        clear HI hd1 hd2
        obtain ⟨x1, x2, x3, x4, x5⟩ := x
        obtain ⟨y1, y2, y3, y4, y5⟩ := y
        obtain ⟨r0, r1, r2, r3, r4⟩ := at_cells hc1
        obtain ⟨s0, s1, s2, s3, s4⟩ := at_cells hc2
        by_cases hxy : (⟨x1, ⟨x2, x3, x4, x5⟩⟩ : At) = ⟨y1, ⟨y2, y3, y4, y5⟩⟩
        · have hq := beqAt_eq hxy
          have HXY := Lib.hid hxy
          clear hxy
          go_wp2_with (go_quiet (fail))
          go_roundg (n - (i + 1))
          case measure => have := HG.out; omega
          case rel => exact ⟨i + 1, by omega, rfl, by go_num, ⟨_, rfl⟩, Lib.hid (by rw [← HI'.out]; simp only [List.cons.injEq, HXY.out, true_and])⟩
        · have hq := beqAt_ne hxy
          have HXY := Lib.hid hxy
          clear hxy
          go_wp2_with (go_quiet (fail))
          go_ret
          exact ⟨ret_bool (by rw [← HI'.out]; exact (decide_eq_false fun e => HXY.out (List.cons.inj e).1).symm), _, World.drewN_drewN _ _ _⟩
      · go_wp2_with (fail)
        go_ret
        exact ⟨ret_bool (by rw [← HI.out, List.drop_eq_nil_of_le (by have := N.out; omega), List.drop_eq_nil_of_le (by have := M.out; omega)]; rfl), _, rfl⟩
  · have hne : ((n : Int) == m) = false := beq_eq_false_iff_ne.2 hnm
    go_enter Tryz.func101, Tryz.ntmps101
    go_wp2_with (fail)
    go_ret
    refine ⟨ret_bool ?_, 0, rfl⟩
    rw [← HR.out]
    refine (decide_eq_false fun e => ?_).symm
    have h3 := N.out
    have h4 := M.out
    rw [e] at h3
    omega

set_option maxHeartbeats 400000 in
theorem attrsSame_any (A B : Option Addr) (n m c d : Nat) (l k : List At) (w : World) (hn : n = l.length) (hm : m = k.length) (h1 : RdAt w w.heap.size A l) (h2 : RdAt w w.heap.size B k) (hb : n ≤ 140737488355328) (hb2 : m ≤ 140737488355328) :
    Calls Tryz.prog 57 #[.slice A n c, .slice B m d] w (Quiet (.bool (decide (l = k))) w) := by
  have N := Lib.hid hn
  have M := Lib.hid hm
  clear hn hm
  go_enter Tryz.func57, Tryz.ntmps57
  go_wp2_with (go_at_call 101; refine (equalA_any A B n m c d l k _ N.out M.out h1 h2 hb hb2).mono ?_; rintro e w' ⟨rfl, q, rfl⟩)
  go_ret
  exact ⟨rfl, _, rfl⟩

set_option maxHeartbeats 400000 in
theorem copy_any (A : Option Addr) (n c : Nat) (l : List At) (w : World) (hn : n = l.length) (h : RdAt w w.heap.size A l) (hb : n ≤ 100000000) :
    Calls Tryz.prog 59 #[.slice A n c] w (NewAt l w) := by
  have N := Lib.hid hn
  clear hn
  go_enter Tryz.func59, Tryz.ntmps59
  go_wp2_with (go_at_call 84; refine Hid.out ?_)
  refine Lib.hid ?_
  refine (cloneAt_any A n c l w N.out h hb).mono ?_
  rintro e w2 ⟨A2, c2, rfl, ho, hb2⟩
  generalize hq : l.length = q at *
  go_wp2_with (fail)
  go_ret
  exact ⟨A2, c2, by rw [hq]; rfl, by rw [hq]; exact ho, hb2⟩

end Go.Proofs.YtipoeidmblnbbaaGreatDoor
/- The laws of sets (With, Without, Same) as plain mathematics. -/
namespace Go.Proofs.YtipoeidmblnbbaaGreatDoor
set_option linter.unusedVariables false
set_option linter.unusedSimpArgs false

theorem with_all {l : List At} (h : riseA l = true) (a : At) :
    riseA (withP l a) = true ∧ (∀ k, lk At.key (withP l a) k = if a.key = k then some a else lk At.key l k) ∧ (withP l a).length ≤ l.length + 1 := by
  have hs := riseA_srt.1 h
  have hp : Srt Ch.key [(⟨a.key, false, a.v⟩ : Ch)] := (srt_cons Ch.key).2 ⟨by simp, Srt.nil Ch.key⟩
  obtain ⟨h1, h2, _, h4⟩ := apply_all hp hs
  refine ⟨riseA_srt.2 h1, fun k => ?_, by unfold withP; simp at h4; omega⟩
  unfold withP
  rw [h2 k, lk_cons, lk_nil]
  simp only
  split <;> simp [lkApply]

/-- put in from the first on -/
def aP (l : List At) : List At := l.foldl withP []
/-- put in where the key is not yet there -/
def stepB (b : List At) (x : At) : List At := if (getA b x.key).isSome = true then b else withP b x
def bP (l : List At) : List At := l.foldl stepB []

theorem riseA_nil : riseA [] = true := rfl
theorem foldl_with (l : List At) : ∀ {s : List At}, riseA s = true →
    riseA (l.foldl withP s) = true ∧ (∀ k, lk At.key (l.foldl withP s) k = (lk At.key l.reverse k).or (lk At.key s k)) ∧ (l.foldl withP s).length ≤ s.length + l.length := by
  induction l with
  | nil => intro s hs; exact ⟨hs, fun k => rfl, Nat.le_refl _⟩
  | cons a l ih =>
    intro s hs
    obtain ⟨h1, h2, h3⟩ := with_all hs a
    obtain ⟨g1, g2, g3⟩ := ih h1
    refine ⟨g1, fun k => ?_, by simp only [List.foldl_cons, List.length_cons]; omega⟩
    rw [List.foldl_cons, g2 k, h2 k, List.reverse_cons, lk_append, lk_cons, lk_nil]
    cases lk At.key l.reverse k with
    | some _ => rfl
    | none => split <;> simp
theorem step_all {s : List At} (hs : riseA s = true) (x : At) :
    riseA (stepB s x) = true ∧ (∀ k, lk At.key (stepB s x) k = (lk At.key s k).or (if x.key = k then some x else none)) ∧ (stepB s x).length ≤ s.length + 1 := by
  unfold stepB
  obtain ⟨h1, h2, h3⟩ := with_all hs x
  have e : getA s x.key = (lk At.key s x.key).map (·.v) := rfl
  rw [e, Option.isSome_map]
  split
  · rename_i h
    refine ⟨hs, fun k => ?_, by omega⟩
    by_cases hk : x.key = k
    · subst hk
      obtain ⟨y, hy⟩ := Option.isSome_iff_exists.1 h
      rw [hy]; rfl
    · rw [if_neg hk, Option.or_none]
  · rename_i h
    refine ⟨h1, fun k => ?_, h3⟩
    rw [h2 k]
    by_cases hk : x.key = k
    · subst hk
      have : lk At.key s x.key = none := by simpa using h
      rw [if_pos rfl, if_pos rfl, this]; rfl
    · rw [if_neg hk, if_neg hk, Option.or_none]
theorem foldl_step (l : List At) : ∀ {s : List At}, riseA s = true →
    riseA (l.foldl stepB s) = true ∧ (∀ k, lk At.key (l.foldl stepB s) k = (lk At.key s k).or (lk At.key l k)) ∧ (l.foldl stepB s).length ≤ s.length + l.length := by
  induction l with
  | nil => intro s hs; exact ⟨hs, fun k => by simp [lk_nil], Nat.le_refl _⟩
  | cons a l ih =>
    intro s hs
    obtain ⟨h1, h2, h3⟩ := step_all hs a
    obtain ⟨g1, g2, g3⟩ := ih h1
    refine ⟨g1, fun k => ?_, by simp only [List.foldl_cons, List.length_cons]; omega⟩
    rw [List.foldl_cons, g2 k, h2 k, lk_cons, Option.or_assoc]
    split <;> simp
theorem law_order (l : List At) : aP l = bP l.reverse := by
  obtain ⟨h1, h2, _⟩ := foldl_with l riseA_nil
  obtain ⟨g1, g2, _⟩ := foldl_step l.reverse riseA_nil
  refine lk_ext At.key (riseA_srt.1 h1) (riseA_srt.1 g1) fun k => ?_
  show lk At.key (l.foldl withP []) k = lk At.key (l.reverse.foldl stepB []) k
  rw [h2 k, g2 k, lk_nil]
  simp
theorem aP_rise (l : List At) : riseA (aP l) = true := (foldl_with l riseA_nil).1
theorem aP_len (l : List At) : (aP l).length ≤ l.length := by have := (foldl_with l riseA_nil).2.2; simpa [aP] using this
theorem bP_rise (l : List At) : riseA (bP l) = true := (foldl_step l riseA_nil).1
theorem bP_len (l : List At) : (bP l).length ≤ l.length := by have := (foldl_step l riseA_nil).2.2; simpa [bP] using this
theorem aP_snoc (l : List At) (a : At) : aP (l ++ [a]) = withP (aP l) a := by simp [aP]
theorem bP_snoc (l : List At) (a : At) : bP (l ++ [a]) = stepB (bP l) a := by simp [bP]
theorem take_snoc {α : Type} {l : List α} {i : Nat} {a : α} (h : l[i]? = some a) : l.take (i + 1) = l.take i ++ [a] := by
  obtain ⟨hi, he⟩ := List.getElem?_eq_some_iff.1 h
  rw [List.take_succ_eq_append_getElem hi, he]
theorem rev_at {α : Type} {l : List α} {i j : Nat} {a : α} (h : l[j]? = some a) (hij : i + j + 1 = l.length) : l.reverse[i]? = some a := by
  rw [List.getElem?_reverse (by omega)]
  have : l.length - 1 - i = j := by omega
  rw [this, h]
theorem get_at {l : List At} (h : riseA l = true) {i : Nat} {a : At} (ha : l[i]? = some a) : getA l a.key = some a.v := by
  rw [getA_lk, lk_of_mem At.key (riseA_srt.1 h) (List.mem_of_getElem? ha)]
  rfl
end Go.Proofs.YtipoeidmblnbbaaGreatDoor
/- The plain laws of a set's parts, and of what is put into a set of a schema and taken out. -/
namespace Go.Proofs.YtipoeidmblnbbaaGreatDoor
set_option linter.unusedVariables false
set_option linter.unusedSimpArgs false

/-- the attributes of block keys, or of inline ones -/
def partS (l : List Ky) (b : Bool) (p : List At) : List At := p.filter (fun c => keepK l b c.key)
theorem keep_one' {l : List Ky} {id : Int} (h : (findK l id).isSome = true) : keepK l true id = !keepK l false id := by
  unfold keepK
  cases hq : findK l id with
  | none => rw [hq] at h; cases h
  | some k => simp only; cases k.block <;> rfl
theorem partS_len {l : List Ky} {p : List At} (ht : ∀ a ∈ p, thereA l a = true) : (partS l false p).length + (partS l true p).length = p.length := by
  induction p with
  | nil => rfl
  | cons c p ih =>
    have h1 := ih (fun a ha => ht a (List.mem_cons_of_mem _ ha))
    have h3 := keep_one' (fits_some (ht c (by simp)))
    unfold partS at *
    rw [List.filter_cons, List.filter_cons]
    cases h4 : keepK l false c.key <;> rw [h4] at h3 <;> simp [h3] <;> omega
theorem partS_part {l : List Ky} {p : List At} (b : Bool) : partS l (!b) (partS l b p) = [] := by
  unfold partS
  rw [List.filter_filter]
  refine List.filter_eq_nil_iff.2 fun a ha => ?_
  unfold keepK
  cases findK l a.key with
  | none => simp
  | some k => cases b <;> cases k.block <;> simp
theorem lk_partS {l : List Ky} {b : Bool} {p : List At} (hp : Srt At.key p) (k : Int) : lk At.key (partS l b p) k = if keepK l b k = true then lk At.key p k else none := by
  unfold partS
  rw [lk_filter At.key hp]
  cases hq : lk At.key p k with
  | none => by_cases h : keepK l b k = true <;> simp [h]
  | some c =>
    have hc : c.key = k := lk_key At.key hq
    by_cases h : keepK l b k = true
    · simp [Option.filter, hc, h]
    · simp [Option.filter, hc, h]
theorem lk_reverse {l : List At} (hs : Srt At.key l) (k : Int) : lk At.key l.reverse k = lk At.key l k := by
  cases hq : lk At.key l.reverse k with
  | none =>
    cases hr : lk At.key l k with
    | none => rfl
    | some a =>
      have h1 : (lk At.key l.reverse k).isSome = true := (lk_isSome At.key).2 ⟨a, List.mem_reverse.2 (lk_mem At.key hr), lk_key At.key hr⟩
      rw [hq] at h1; cases h1
  | some a =>
    have h1 := lk_of_mem At.key hs (List.mem_reverse.1 (lk_mem At.key hq))
    have h2 : a.key = k := lk_key At.key hq
    rw [h2] at h1
    exact h1.symm
/-- both parts together are the set -/
theorem both_parts {l : List Ky} {p : List At} (hs : riseA p = true) (ht : ∀ a ∈ p, thereA l a = true) : (partS l true p).foldl withP (partS l false p) = p := by
  have hp := riseA_srt.1 hs
  have h1 := foldl_with (partS l true p) (s := partS l false p) (riseA_srt.2 (hp.filter At.key _))
  refine lk_ext At.key (riseA_srt.1 h1.1) hp fun k => ?_
  rw [h1.2.1, lk_reverse (l := partS l true p) (hp.filter At.key _), lk_partS hp, lk_partS hp]
  cases hq : lk At.key p k with
  | none => by_cases h1 : keepK l true k = true <;> by_cases h2 : keepK l false k = true <;> simp [h1, h2]
  | some c =>
    have hk : c.key = k := lk_key At.key hq
    have h3 := keep_one' (fits_some (ht c (lk_mem At.key hq)))
    rw [hk] at h3
    cases h4 : keepK l false k <;> rw [h4] at h3 <;> simp [h3]
theorem partS_may {l : List Ky} {p : List At} {b : Bool} (h : mayS l p = 0) : mayS l (partS l b p) = 0 := by
  obtain ⟨h0, h1, h2, h3⟩ := mayS_zero h
  have hs := (riseA_srt.1 h1).filter At.key (fun c => keepK l b c.key)
  have hl : (partS l b p).length ≤ p.length := List.length_filter_le _ _
  unfold mayS
  rw [if_neg (by omega), if_pos ⟨riseA_srt.2 hs, List.all_eq_true.2 fun a ha => h2 a (List.mem_filter.1 ha).1⟩, if_pos (show (partS l b p).all (thereA l) = true from List.all_eq_true.2 fun a ha => h3 a (List.mem_filter.1 ha).1)]
theorem mem_with {p : List At} (h : riseA p = true) {a x : At} (hx : x ∈ withP p a) : x = a ∨ x ∈ p := by
  obtain ⟨h1, h2, _⟩ := with_all h a
  have h3 := lk_of_mem At.key (riseA_srt.1 h1) hx
  rw [h2] at h3
  by_cases e : a.key = x.key
  · rw [if_pos e] at h3
    exact .inl (Option.some.inj h3).symm
  · rw [if_neg e] at h3
    exact .inr (lk_mem At.key h3)
theorem in_with {p : List At} (h : riseA p = true) (a : At) : a ∈ withP p a := by
  obtain ⟨h1, h2, _⟩ := with_all h a
  have h3 := h2 a.key
  rw [if_pos rfl] at h3
  exact lk_mem At.key h3
/-- with an attribute it may be just if the attribute fits -/
theorem with_may {l : List Ky} {p : List At} {a : At} (hl : l.length ≤ 64) (h : mayS l p = 0) : (mayS l (withP p a) = 0) ↔ fitsK l a.key a.v = true := by
  obtain ⟨h0, h1, h2, h3⟩ := mayS_zero h
  constructor
  · intro hw
    obtain ⟨_, _, _, w3⟩ := mayS_zero hw
    exact w3 a (in_with h1 a)
  · intro hf
    refine stayA hl (riseA_srt.1 (with_all h1 a).1) fun c hc => ?_
    rcases mem_with h1 hc with rfl | hm
    · refine ⟨?_, hf⟩
      unfold fitsK at hf
      cases hq : findK l c.key with
      | none => rw [hq] at hf; cases hf
      | some k => rw [hq] at hf; exact (Bool.and_eq_true_iff.1 hf).2
    · exact ⟨h2 c hm, h3 c hm⟩
end Go.Proofs.YtipoeidmblnbbaaGreatDoor
