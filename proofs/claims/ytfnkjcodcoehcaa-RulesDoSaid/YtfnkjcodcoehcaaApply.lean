/- The walk of patch.Apply: it returns, in new memory, what applyP computes. -/
import Derived.Test.YtfnkjcodcoehcaaPatchFn
import Derived.Deep.LoopGhost
import Derived.Deep.DeepMust
namespace Go.Proofs.Ytfnkjcodcoehcaa
open Go.RowKit
set_option linter.unusedVariables false
set_option linter.unusedSimpArgs false

/-- what a call hands back that makes a list in new memory -/
def NewAt (r : List At) (w : World) (e : Ending) (w' : World) : Prop :=
  ∃ A c, e = .returned (.slice A r.length c) ∧ OwAt w' w.heap.size (.slice A r.length c) r ∧ Below w.heap.size w w'
def NewCh (r : List Ch) (w : World) (e : Ending) (w' : World) : Prop :=
  ∃ A c, e = .returned (.slice A r.length c) ∧ OwCh w' w.heap.size (.slice A r.length c) r ∧ Below w.heap.size w w'

set_option maxRecDepth 100000 in
set_option maxHeartbeats 400000 in
theorem apply_any (A1 A2 : Option Addr) (n1 n2 c1 c2 : Nat) (set : List At) (p : List Ch) (w : World)
    (hn1 : n1 = set.length) (hn2 : n2 = p.length) (h1 : RdAt w w.heap.size A1 set) (h2 : RdCh w w.heap.size A2 p)
    (hb1 : n1 ≤ 100000000) (hb2 : n2 ≤ 100000000) (hc1 : n1 ≤ c1) (hcm : c1 ≤ maxLen) :
    Calls Try.prog 38 #[.slice A1 n1 c1, .slice A2 n2 c2] w (NewAt (applyP p set) w) := by
  unfold maxLen at hcm
  have N1 := Lib.hid hn1
  have N2 := Lib.hid hn2
  generalize hR : applyP p set = R
  have HR := Lib.hid hR
  clear hn1 hn2 hR
  go_enter Try.func38, Try.ntmps38
  go_wp2
  go_step3
  go_wp2
  go_step3
  go_wp2
  go_loopg [5, 6, 11] n2 (fun g ov iv kv wr => ∃ (k i : Nat) (o : List At), k ≤ n2 ∧ i ≤ n1 ∧ g = n2 - k ∧ iv = .int .i64 i ∧ kv = .int .i64 k ∧ OwAt wr w.heap.size ov o ∧ o.length ≤ i + k ∧
    Below w.heap.size w wr ∧ Hid (o ++ applyP (p.drop k) (set.drop i) = R))
  case atStart => exact ⟨0, 0, [], by omega, by omega, rfl, rfl, rfl, Ow.nil _ _, by simp, Below.refl _ _, Lib.hid (by simpa using HR.out)⟩
  case round =>
    obtain ⟨k, i, o, hk, hi, hg, rfl, rfl, hown, hol, hbw, HI⟩ := hrel
    have HG := Lib.hid hg
    clear hg HR
    by_cases hlt : k < n2
    · have hkp : k < p.length := by have := N2.out; omega
      obtain ⟨ad2, c, rfl, _, hd2, _, hc2⟩ := (h2.below hbw (Nat.le_refl _)).el hkp
      have HI' : Hid (o ++ applyAt c (p.drop (k+1)) (set.drop i) = R) := Lib.hid (by rw [← HI.out, hd2]; rfl)
      clear HI hkp hd2
      obtain ⟨ck, cg, va, vn, vf, vs⟩ := c
      obtain ⟨q0, q1, q2, q3, q4, q5⟩ := ch_cells hc2
      clear hc2
      go_wp2_with (fail)
      obtain ⟨wo, rfl⟩ : ∃ wo : World, wo = wr := ⟨_, rfl⟩
      go_loopg [5, 6] (n1 - i) (fun g ov iv wi => ∃ (i : Nat) (o : List At), i ≤ n1 ∧ g = n1 - i ∧ iv = .int .i64 i ∧ OwAt wi w.heap.size ov o ∧ o.length ≤ i + k ∧
        Below w.heap.size w wi ∧ wi.heap[wo.heap.size]? = some (.cells #[.int .i64 ck, .bool cg, .int .u8 va, .int .i64 vn, .int .u64 vf, .string vs] 49 (0, 0)) ∧ wb ov ≠ some wo.heap.size ∧
        Hid (o ++ applyAt ⟨ck, cg, ⟨va, vn, vf, vs⟩⟩ (p.drop (k+1)) (set.drop i) = R))
      case atStart =>
        refine ⟨i, o, hi, rfl, rfl, hown.alloc _, hol, hbw.alloc hbw.size _, heap_alloc_new _ _, fun e => ?_, HI'⟩
        have := (hown.wb_lt _ e).2; omega
      case round =>
        clear q0 q1 q2 q3 q4 q5 hi hown hol hbw HI'
        obtain ⟨i, o, hi, hg, rfl, hown, hol, hbw, hbx, hwb, HI⟩ := hrel
        have HG2 := Lib.hid hg
        clear hg
        obtain ⟨b0, b1, b2, b3, b4, b5⟩ := box_ch hbx
        have HBX := Lib.hid hbx
        have HWB := Lib.hid hwb
        clear hbx hwb
        by_cases hil : i < n1
        · have hip : i < set.length := by have := N1.out; omega
          obtain ⟨ad1, a, rfl, _, hd1, _, hc1⟩ := (h1.below hbw (Nat.le_refl _)).el hip
          obtain ⟨ek, ea, en, ef, es⟩ := a
          obtain ⟨r0, r1, r2, r3, r4⟩ := at_cells hc1
          by_cases hak : ek < ck
          · go_wp2_with (first
              | go_quiet (fail)
              | (at_builtin; refine app_at (m := [⟨ek, ⟨ea, en, ef, es⟩⟩]) rfl (.tmp 30) (.tmp 35) rfl rfl (by first | exact (hown.drewN _).alloc _ | exact hown.alloc _) _ _ 1 1 rfl rfl (by exact rd_one _ _ _ rfl) (by simp only [List.length_singleton]; omega) (by have := hbw.size; simp; omega) ?_; intro v' w' hown' hgr hv'))
            obtain ⟨s1, s2, s3⟩ := app_step hown hbw (Nat.le_refl _) hgr hv'
            go_roundg (n1 - (i + 1))
            case measure => have := HG2.out; omega
            case rel =>
              exact ⟨i + 1, o ++ [⟨ek, ⟨ea, en, ef, es⟩⟩], by omega, rfl, by go_num, hown', by simp; omega, s1, s2 _ _ HBX.out HWB.out, s3 _ (blk_lt HBX.out) HWB.out,
                Lib.hid (by rw [← HI.out, hd1, applyAt_less _ _ _ _ hak, List.append_assoc]; rfl)⟩
          · by_cases hek : ek = ck
            · subst hek
              cases cg
              · go_wp2_with (first
                  | go_quiet (fail)
                  | (at_builtin; refine app_at (m := [⟨ek, ⟨va, vn, vf, vs⟩⟩]) rfl (.tmp 51) (.tmp 57) rfl rfl (by first | exact (hown.drewN _).alloc _ | exact hown.alloc _) _ _ 1 1 rfl rfl (by exact rd_one _ _ _ rfl) (by simp only [List.length_singleton]; omega) (by have := hbw.size; simp; omega) ?_; intro v' w' hown' hgr hv'))
                obtain ⟨s1, s2, s3⟩ := app_step hown hbw (Nat.le_refl _) hgr hv'
                go_roundg (n2 - (k + 1))
                case measure => have := HG.out; omega
                case rel =>
                  exact ⟨k + 1, i + 1, o ++ [⟨ek, ⟨va, vn, vf, vs⟩⟩], by omega, by omega, rfl, by go_num, by go_num, hown', by simp; omega, s1,
                    Lib.hid (by rw [← HI.out, hd1, applyAt_eq _ _ _ _ rfl, List.append_assoc]; rfl)⟩
              · go_wp2_with (go_quiet (fail))
                go_roundg (n2 - (k + 1))
                case measure => have := HG.out; omega
                case rel =>
                  exact ⟨k + 1, i + 1, o, by omega, by omega, rfl, by go_num, by go_num, hown, by omega, below_drewN hbw _,
                    Lib.hid (by rw [← HI.out, hd1, applyAt_eq _ _ _ _ rfl]; rfl)⟩
            · have hek' : (ek == ck) = false := beq_eq_false_iff_ne.2 hek
              cases cg
              · go_wp2_with (first
                  | go_quiet (fail)
                  | (at_builtin; refine app_at (m := [⟨ck, ⟨va, vn, vf, vs⟩⟩]) rfl (.tmp 51) (.tmp 57) rfl rfl (by first | exact (hown.drewN _).alloc _ | exact hown.alloc _) _ _ 1 1 rfl rfl (by exact rd_one _ _ _ rfl) (by simp only [List.length_singleton]; omega) (by have := hbw.size; simp; omega) ?_; intro v' w' hown' hgr hv'))
                obtain ⟨s1, s2, s3⟩ := app_step hown hbw (Nat.le_refl _) hgr hv'
                go_roundg (n2 - (k + 1))
                case measure => have := HG.out; omega
                case rel =>
                  exact ⟨k + 1, i, o ++ [⟨ck, ⟨va, vn, vf, vs⟩⟩], by omega, by omega, rfl, rfl, by go_num, hown', by simp; omega, s1,
                    Lib.hid (by rw [← HI.out, hd1, applyAt_more _ _ _ _ (by show ck < ek; omega), List.append_assoc]; rfl)⟩
              · go_wp2_with (go_quiet (fail))
                go_roundg (n2 - (k + 1))
                case measure => have := HG.out; omega
                case rel =>
                  exact ⟨k + 1, i, o, by omega, by omega, rfl, rfl, by go_num, hown, by omega, below_drewN hbw _,
                    Lib.hid (by rw [← HI.out, hd1, applyAt_more _ _ _ _ (by show ck < ek; omega)]; rfl)⟩
        · have hd1 : set.drop i = [] := List.drop_eq_nil_of_le (by have := N1.out; omega)
          have HD1 := Lib.hid hd1
          clear hd1
          cases cg
          · go_wp2_with (first
              | go_quiet (fail)
              | (at_builtin; refine app_at (m := [⟨ck, ⟨va, vn, vf, vs⟩⟩]) rfl (.tmp 62) (.tmp 68) rfl rfl (by first | exact (hown.drewN _).alloc _ | exact hown.alloc _) _ _ 1 1 rfl rfl (by exact rd_one _ _ _ rfl) (by simp only [List.length_singleton]; omega) (by have := hbw.size; simp; omega) ?_; intro v' w' hown' hgr hv'))
            obtain ⟨s1, s2, s3⟩ := app_step (nq := 0) hown hbw (Nat.le_refl _) hgr hv'
            go_roundg (n2 - (k + 1))
            case measure => have := HG.out; omega
            case rel =>
              exact ⟨k + 1, i, o ++ [⟨ck, ⟨va, vn, vf, vs⟩⟩], by omega, by omega, rfl, rfl, by go_num, hown', by simp; omega, s1,
                Lib.hid (by rw [← HI.out, HD1.out, applyAt_nil, List.append_assoc]; rfl)⟩
          · go_wp2_with (go_quiet (fail))
            go_roundg (n2 - (k + 1))
            case measure => have := HG.out; omega
            case rel =>
              exact ⟨k + 1, i, o, by omega, by omega, rfl, rfl, by go_num, hown, by omega, hbw,
                Lib.hid (by rw [← HI.out, HD1.out, applyAt_nil]; rfl)⟩
    · have hkn : k = n2 := by omega
      have hdp : p.drop k = [] := List.drop_eq_nil_of_le (by have := N2.out; omega)
      have HDP := Lib.hid hdp
      clear hdp hkn
      go_wp2_with (first
        | (at_builtin; refine app_at (m := set.drop i) rfl (.tmp 71) (.tmp 74) rfl rfl (by exact hown) _ _ _ _ rfl (by rw [List.length_drop, ← N1.out]) (by have hx := (h1.below hbw (Nat.le_refl _)).cut (k := i) (cap := c1) (by have := N1.out; omega) (by have := N1.out; omega); exact hx) (by have := N1.out; rw [List.length_drop]; omega) (by exact hbw.size) ?_; intro v' w' hown' hgr hv'))
      all_goals
        have e : o ++ set.drop i = R := by have := HI.out; rw [HDP.out] at this; exact this
        rw [e] at hown'
        obtain ⟨A', c', rfl, _, _⟩ := hown'.form
        go_ret
        exact ⟨A', c', rfl, hown', below_app hbw hbw.size hown (Nat.le_refl _) hgr⟩
end Go.Proofs.Ytfnkjcodcoehcaa
