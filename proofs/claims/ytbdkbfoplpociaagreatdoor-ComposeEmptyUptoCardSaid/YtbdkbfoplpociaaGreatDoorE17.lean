/- Merged texts: Apply, Clone, SetLaw, With, AttrsOps, PartALaw, OpPlace, OpFits, OpLaw. -/
import Derived.Deep.LoopGhost
import Derived.Deep.DeepMust
import Derived.Test.YtbdkbfoplpociaaGreatDoorE11
import Derived.Test.YtbdkbfoplpociaaGreatDoorE13
import Derived.Test.YtbdkbfoplpociaaGreatDoorE15
import Derived.Test.YtbdkbfoplpociaaGreatDoorE12
import Derived.Deep.RegionHeld3
import Derived.Lib.AppendZeros
import Derived.Deep.RegionLaw
import Derived.Laws.CopyOwn
import Derived.Lib.Overlaps
import Derived.Test.YtbdkbfoplpociaaGreatDoorE2
import Derived.Test.YtbdkbfoplpociaaGreatDoorE16
import Derived.Test.YtbdkbfoplpociaaGreatDoorE3
namespace Go.Proofs.YtbdkbfoplpociaaGreatDoor
open Go.RowKit
set_option linter.unusedVariables false
set_option linter.unusedSimpArgs false

/-- what a call hands back that makes a list in new memory -/
def NewAt (r : List At) (w : World) (e : Ending) (w' : World) : Prop :=
  ∃ A c, e = .returned (.slice A r.length c) ∧ OwAt w' w.heap.size (.slice A r.length c) r ∧ Below w.heap.size w w'
def NewCh (r : List Ch) (w : World) (e : Ending) (w' : World) : Prop :=
  ∃ A c, e = .returned (.slice A r.length c) ∧ OwCh w' w.heap.size (.slice A r.length c) r ∧ Below w.heap.size w w'

set_option maxRecDepth 100000 in
set_option maxHeartbeats 400000 in
theorem apply_any (A1 A2 : Option Addr) (n1 n2 c1 c2 : Nat) (set : List At) (p : List Ch) (w : World)
    (hn1 : n1 = set.length) (hn2 : n2 = p.length) (h1 : RdAt w w.heap.size A1 set) (h2 : RdCh w w.heap.size A2 p)
    (hb1 : n1 ≤ 100000000) (hb2 : n2 ≤ 100000000) (hc1 : n1 ≤ c1) (hcm : c1 ≤ maxLen) :
    Calls Tryz.prog 116 #[.slice A1 n1 c1, .slice A2 n2 c2] w (NewAt (applyP p set) w) := by
  unfold maxLen at hcm
  have N1 := Lib.hid hn1
  have N2 := Lib.hid hn2
  generalize hR : applyP p set = R
  have HR := Lib.hid hR
  clear hn1 hn2 hR
  go_enter Tryz.func116, Tryz.ntmps116
  go_wp2
  go_step3
  go_wp2
  go_step3
  go_wp2
  go_loopg [5, 6, 11] n2 (fun g ov iv kv wr => ∃ (k i : Nat) (o : List At), k ≤ n2 ∧ i ≤ n1 ∧ g = n2 - k ∧ iv = .int .i64 i ∧ kv = .int .i64 k ∧ OwAt wr w.heap.size ov o ∧ o.length ≤ i + k ∧
    Below w.heap.size w wr ∧ Hid (o ++ applyP (p.drop k) (set.drop i) = R))
  case atStart => exact ⟨0, 0, [], by omega, by omega, rfl, rfl, rfl, Ow.nil _ _, by simp, Below.refl _ _, Lib.hid (by simpa using HR.out)⟩
  case round =>
    obtain ⟨k, i, o, hk, hi, hg, rfl, rfl, hown, hol, hbw, HI⟩ := hrel
    have HG := Lib.hid hg
    clear hg HR
    by_cases hlt : k < n2
    · have hkp : k < p.length := by have := N2.out; omega
      obtain ⟨ad2, c, rfl, _, hd2, _, hc2⟩ := (h2.below hbw (Nat.le_refl _)).el hkp
      have HI' : Hid (o ++ applyAt c (p.drop (k+1)) (set.drop i) = R) := Lib.hid (by rw [← HI.out, hd2]; rfl)
      clear HI hkp hd2
      obtain ⟨ck, cg, va, vn, vf, vs⟩ := c
      obtain ⟨q0, q1, q2, q3, q4, q5⟩ := ch_cells hc2
      clear hc2
      go_wp2_with (fail)
      obtain ⟨wo, rfl⟩ : ∃ wo : World, wo = wr := ⟨_, rfl⟩
      go_loopg [5, 6] (n1 - i) (fun g ov iv wi => ∃ (i : Nat) (o : List At), i ≤ n1 ∧ g = n1 - i ∧ iv = .int .i64 i ∧ OwAt wi w.heap.size ov o ∧ o.length ≤ i + k ∧
        Below w.heap.size w wi ∧ wi.heap[wo.heap.size]? = some (.cells #[.int .i64 ck, .bool cg, .int .u8 va, .int .i64 vn, .int .u64 vf, .string vs] 45 (0, 0)) ∧ wb ov ≠ some wo.heap.size ∧
        Hid (o ++ applyAt ⟨ck, cg, ⟨va, vn, vf, vs⟩⟩ (p.drop (k+1)) (set.drop i) = R))
      case atStart =>
        refine ⟨i, o, hi, rfl, rfl, hown.alloc _, hol, hbw.alloc hbw.size _, heap_alloc_new _ _, fun e => ?_, HI'⟩
        have := (hown.wb_lt _ e).2; omega
      case round =>
        clear q0 q1 q2 q3 q4 q5 hi hown hol hbw HI'
        obtain ⟨i, o, hi, hg, rfl, hown, hol, hbw, hbx, hwb, HI⟩ := hrel
        have HG2 := Lib.hid hg
        clear hg
        obtain ⟨b0, b1, b2, b3, b4, b5⟩ := box_ch hbx
        have HBX := Lib.hid hbx
        have HWB := Lib.hid hwb
        clear hbx hwb
        by_cases hil : i < n1
        · have hip : i < set.length := by have := N1.out; omega
          obtain ⟨ad1, a, rfl, _, hd1, _, hc1⟩ := (h1.below hbw (Nat.le_refl _)).el hip
          obtain ⟨ek, ea, en, ef, es⟩ := a
          obtain ⟨r0, r1, r2, r3, r4⟩ := at_cells hc1
          by_cases hak : ek < ck
          · go_wp2_with (first
              | go_quiet (fail)
              | (at_builtin; refine app_at (m := [⟨ek, ⟨ea, en, ef, es⟩⟩]) rfl (.tmp 30) (.tmp 35) rfl rfl (by first | exact (hown.drewN _).alloc _ | exact hown.alloc _) _ _ 1 1 rfl rfl (by exact rd_one _ _ _ rfl) (by simp only [List.length_singleton]; omega) (by have := hbw.size; simp; omega) ?_; intro v' w' hown' hgr hv'))
            obtain ⟨s1, s2, s3⟩ := app_step hown hbw (Nat.le_refl _) hgr hv'
            go_roundg (n1 - (i + 1))
            case measure => have := HG2.out; omega
            case rel =>
              exact ⟨i + 1, o ++ [⟨ek, ⟨ea, en, ef, es⟩⟩], by omega, rfl, by go_num, hown', by simp; omega, s1, s2 _ _ HBX.out HWB.out, s3 _ (blk_lt HBX.out) HWB.out,
                Lib.hid (by rw [← HI.out, hd1, applyAt_less _ _ _ _ hak, List.append_assoc]; rfl)⟩
          · by_cases hek : ek = ck
            · subst hek
              cases cg
              · go_wp2_with (first
                  | go_quiet (fail)
                  | (at_builtin; refine app_at (m := [⟨ek, ⟨va, vn, vf, vs⟩⟩]) rfl (.tmp 51) (.tmp 57) rfl rfl (by first | exact (hown.drewN _).alloc _ | exact hown.alloc _) _ _ 1 1 rfl rfl (by exact rd_one _ _ _ rfl) (by simp only [List.length_singleton]; omega) (by have := hbw.size; simp; omega) ?_; intro v' w' hown' hgr hv'))
                obtain ⟨s1, s2, s3⟩ := app_step hown hbw (Nat.le_refl _) hgr hv'
                go_roundg (n2 - (k + 1))
                case measure => have := HG.out; omega
                case rel =>
                  exact ⟨k + 1, i + 1, o ++ [⟨ek, ⟨va, vn, vf, vs⟩⟩], by omega, by omega, rfl, by go_num, by go_num, hown', by simp; omega, s1,
                    Lib.hid (by rw [← HI.out, hd1, applyAt_eq _ _ _ _ rfl, List.append_assoc]; rfl)⟩
              · go_wp2_with (go_quiet (fail))
                go_roundg (n2 - (k + 1))
                case measure => have := HG.out; omega
                case rel =>
                  exact ⟨k + 1, i + 1, o, by omega, by omega, rfl, by go_num, by go_num, hown, by omega, below_drewN hbw _,
                    Lib.hid (by rw [← HI.out, hd1, applyAt_eq _ _ _ _ rfl]; rfl)⟩
            · have hek' : (ek == ck) = false := beq_eq_false_iff_ne.2 hek
              cases cg
              · go_wp2_with (first
                  | go_quiet (fail)
                  | (at_builtin; refine app_at (m := [⟨ck, ⟨va, vn, vf, vs⟩⟩]) rfl (.tmp 51) (.tmp 57) rfl rfl (by first | exact (hown.drewN _).alloc _ | exact hown.alloc _) _ _ 1 1 rfl rfl (by exact rd_one _ _ _ rfl) (by simp only [List.length_singleton]; omega) (by have := hbw.size; simp; omega) ?_; intro v' w' hown' hgr hv'))
                obtain ⟨s1, s2, s3⟩ := app_step hown hbw (Nat.le_refl _) hgr hv'
                go_roundg (n2 - (k + 1))
                case measure => have := HG.out; omega
                case rel =>
                  exact ⟨k + 1, i, o ++ [⟨ck, ⟨va, vn, vf, vs⟩⟩], by omega, by omega, rfl, rfl, by go_num, hown', by simp; omega, s1,
                    Lib.hid (by rw [← HI.out, hd1, applyAt_more _ _ _ _ (by show ck < ek; omega), List.append_assoc]; rfl)⟩
              · go_wp2_with (go_quiet (fail))
                go_roundg (n2 - (k + 1))
                case measure => have := HG.out; omega
                case rel =>
                  exact ⟨k + 1, i, o, by omega, by omega, rfl, rfl, by go_num, hown, by omega, below_drewN hbw _,
                    Lib.hid (by rw [← HI.out, hd1, applyAt_more _ _ _ _ (by show ck < ek; omega)]; rfl)⟩
        · have hd1 : set.drop i = [] := List.drop_eq_nil_of_le (by have := N1.out; omega)
          have HD1 := Lib.hid hd1
          clear hd1
          cases cg
          · go_wp2_with (first
              | go_quiet (fail)
              | (at_builtin; refine app_at (m := [⟨ck, ⟨va, vn, vf, vs⟩⟩]) rfl (.tmp 62) (.tmp 68) rfl rfl (by first | exact (hown.drewN _).alloc _ | exact hown.alloc _) _ _ 1 1 rfl rfl (by exact rd_one _ _ _ rfl) (by simp only [List.length_singleton]; omega) (by have := hbw.size; simp; omega) ?_; intro v' w' hown' hgr hv'))
            obtain ⟨s1, s2, s3⟩ := app_step (nq := 0) hown hbw (Nat.le_refl _) hgr hv'
            go_roundg (n2 - (k + 1))
            case measure => have := HG.out; omega
            case rel =>
              exact ⟨k + 1, i, o ++ [⟨ck, ⟨va, vn, vf, vs⟩⟩], by omega, by omega, rfl, rfl, by go_num, hown', by simp; omega, s1,
                Lib.hid (by rw [← HI.out, HD1.out, applyAt_nil, List.append_assoc]; rfl)⟩
          · go_wp2_with (go_quiet (fail))
            go_roundg (n2 - (k + 1))
            case measure => have := HG.out; omega
            case rel =>
              exact ⟨k + 1, i, o, by omega, by omega, rfl, rfl, by go_num, hown, by omega, hbw,
                Lib.hid (by rw [← HI.out, HD1.out, applyAt_nil]; rfl)⟩
    · have hkn : k = n2 := by omega
      have hdp : p.drop k = [] := List.drop_eq_nil_of_le (by have := N2.out; omega)
      have HDP := Lib.hid hdp
      clear hdp hkn
      go_wp2_with (first
        | (at_builtin; refine app_at (m := set.drop i) rfl (.tmp 71) (.tmp 74) rfl rfl (by exact hown) _ _ _ _ rfl (by rw [List.length_drop, ← N1.out]) (by have hx := (h1.below hbw (Nat.le_refl _)).cut (k := i) (cap := c1) (by have := N1.out; omega) (by have := N1.out; omega); exact hx) (by have := N1.out; rw [List.length_drop]; omega) (by exact hbw.size) ?_; intro v' w' hown' hgr hv'))
      all_goals
        have e : o ++ set.drop i = R := by have := HI.out; rw [HDP.out] at this; exact this
        rw [e] at hown'
        obtain ⟨A', c', rfl, _, _⟩ := hown'.form
        go_ret
        exact ⟨A', c', rfl, hown', below_app hbw hbw.size hown (Nat.le_refl _) hgr⟩
end Go.Proofs.YtbdkbfoplpociaaGreatDoor
namespace Go.Proofs.YtbdkbfoplpociaaGreatDoor
open Go.RowKit
set_option linter.unusedVariables false
set_option linter.unusedSimpArgs false

set_option maxRecDepth 100000 in
set_option maxHeartbeats 400000 in
theorem cloneAt_any (A : Option Addr) (n c : Nat) (l : List At) (w : World) (hn : n = l.length) (h : RdAt w w.heap.size A l) (hb : n ≤ 100000000) :
    Calls Tryz.prog 202 #[.slice A n c] w (NewAt l w) := by
  cases A with
  | none =>
    have hl : l = [] := by
      cases l with
      | nil => rfl
      | cons a l => obtain ⟨ad, e, _⟩ := h (by simp); cases e
    subst hl
    have hn0 : n = 0 := by simpa using hn
    subst hn0
    clear hn
    have hq := fun (w : World) => Lib.run_eql_slice_nil (P := Tryz.prog) w 38 53 none 0 c 0 0 Tryz.slAt
    go_enter Tryz.func202, Tryz.ntmps202
    go_wp2_with (fail)
    go_ret
    exact ⟨none, 0, rfl, Ow.nil _ _, Below.refl _ _⟩
  | some ad =>
    have N := Lib.hid hn
    clear hn
    have hq := fun (w : World) => Lib.run_eql_slice_nil (P := Tryz.prog) w 38 53 (some ad) n c 0 0 Tryz.slAt
    go_enter Tryz.func202, Tryz.ntmps202
    go_wp2_with (first
      | (at_builtin; refine app_at (m := l) rfl (.tmp 5) (.tmp 6) rfl rfl (by exact Ow.empty _ w.heap.size _) _ _ _ _ rfl N.out (by exact h.ext (ext_alloc w _)) (by have := N.out; simp only [List.length_nil]; omega) (by simp) ?_; intro v' w' hown' hgr hv'))
    rw [List.nil_append] at hown'
    obtain ⟨A', c', rfl, _, _⟩ := hown'.form
    go_ret
    exact ⟨A', c', rfl, hown', (ext_alloc w _).grown hgr (by simp) (fun k hk => by cases hk)⟩

set_option maxRecDepth 100000 in
set_option maxHeartbeats 400000 in
theorem cloneCh_any (A : Option Addr) (n c : Nat) (l : List Ch) (w : World) (hn : n = l.length) (h : RdCh w w.heap.size A l) (hb : n ≤ 100000000) :
    Calls Tryz.prog 186 #[.slice A n c] w (NewCh l w) := by
  cases A with
  | none =>
    have hl : l = [] := by
      cases l with
      | nil => rfl
      | cons a l => obtain ⟨ad, e, _⟩ := h (by simp); cases e
    subst hl
    have hn0 : n = 0 := by simpa using hn
    subst hn0
    clear hn
    have hq := fun (w : World) => Lib.run_eql_slice_nil (P := Tryz.prog) w 37 45 none 0 c 0 0 Tryz.slCh
    go_enter Tryz.func186, Tryz.ntmps186
    go_wp2_with (fail)
    go_ret
    exact ⟨none, 0, rfl, Ow.nil _ _, Below.refl _ _⟩
  | some ad =>
    have N := Lib.hid hn
    clear hn
    have hq := fun (w : World) => Lib.run_eql_slice_nil (P := Tryz.prog) w 37 45 (some ad) n c 0 0 Tryz.slCh
    go_enter Tryz.func186, Tryz.ntmps186
    go_wp2_with (first
      | (at_builtin; refine app_ch (m := l) rfl (.tmp 5) (.tmp 6) rfl rfl (by exact Ow.empty _ w.heap.size _) _ _ _ _ rfl N.out (by exact h.ext (ext_alloc w _)) (by have := N.out; simp only [List.length_nil]; omega) (by simp) ?_; intro v' w' hown' hgr hv'))
    rw [List.nil_append] at hown'
    obtain ⟨A', c', rfl, _, _⟩ := hown'.form
    go_ret
    exact ⟨A', c', rfl, hown', (ext_alloc w _).grown hgr (by simp) (fun k hk => by cases hk)⟩
end Go.Proofs.YtbdkbfoplpociaaGreatDoor
namespace Go.Proofs.YtbdkbfoplpociaaGreatDoor
set_option linter.unusedVariables false
set_option linter.unusedSimpArgs false

theorem one_less {x : Int} : ∀ {keys : List Int}, keys.Pairwise (· < ·) → keys.length ≤ (keys.filter (fun k => decide (k ≠ x))).length + 1
  | [], _ => by simp
  | a :: r, h => by
    have h1 := List.pairwise_cons.1 h
    by_cases e : a = x
    · have hf : (a :: r).filter (fun k => decide (k ≠ x)) = r := by
        rw [List.filter_cons, if_neg (by simp [e])]
        refine List.filter_eq_self.2 fun b hb => ?_
        have := h1.1 b hb
        simp; omega
      rw [hf]; simp
    · rw [List.filter_cons, if_pos (by simp [e])]
      have := one_less h1.2 (x := x)
      simp only [List.length_cons]; omega
theorem keys_len {l : List Ky} : ∀ {keys : List Int}, keys.Pairwise (· < ·) → (∀ k ∈ keys, (findK l k).isSome = true) → keys.length ≤ l.length := by
  induction l with
  | nil =>
    intro keys _ h
    cases keys with
    | nil => simp
    | cons a r => have := h a (by simp); simp [findK] at this
  | cons x l ih =>
    intro keys hp h
    have h1 := ih (keys := keys.filter (fun k => decide (k ≠ x.id))) (List.Pairwise.filter _ hp) (fun k hk => by
      obtain ⟨hk1, hk2⟩ := List.mem_filter.1 hk
      have hk2 : ¬ k = x.id := by simpa using hk2
      have h3 := h k hk1
      have h4 : ¬ x.id = k := fun e => hk2 e.symm
      simpa [findK, h4] using h3)
    have h2 := one_less (x := x.id) hp
    simp only [List.length_cons]; omega
theorem fits_some {l : List Ky} {id : Int} {v : V} (h : fitsK l id v = true) : (findK l id).isSome = true := by
  unfold fitsK at h
  cases hq : findK l id with
  | none => rw [hq] at h; cases h
  | some k => rfl
theorem keys_lenA {l : List Ky} {p : List At} (hp : riseA p = true) (h : ∀ c ∈ p, thereA l c = true) : p.length ≤ l.length := by
  have h1 := riseA_srt.1 hp
  have h2 : (p.map (·.key)).Pairwise (· < ·) := List.pairwise_map.2 h1
  have h3 := keys_len (l := l) h2 (fun k hk => by
    obtain ⟨c, hc, rfl⟩ := List.mem_map.1 hk
    exact fits_some (h c hc))
  simpa using h3
theorem stayA {l : List Ky} (hl : l.length ≤ 64) {p : List At} (hs : Srt At.key p) (h : ∀ c ∈ p, okA c = true ∧ thereA l c = true) : mayS l p = 0 := by
  have h1 := keys_lenA (l := l) (riseA_srt.2 hs) (fun c hc => (h c hc).2)
  unfold mayS
  rw [if_neg (by omega), if_pos ⟨riseA_srt.2 hs, List.all_eq_true.2 (fun c hc => (h c hc).1)⟩, if_pos (List.all_eq_true.2 (fun c hc => (h c hc).2))]
end Go.Proofs.YtbdkbfoplpociaaGreatDoor
namespace Go.Proofs.YtbdkbfoplpociaaGreatDoor
open Go.RowKit
set_option linter.unusedVariables false
set_option linter.unusedSimpArgs false

theorem up_drew {B : Nat} {a b : World} (h : Below B a b) : Below B a b.drew := ⟨h.1, h.2, h.3, h.4, h.5⟩
end Go.Proofs.YtbdkbfoplpociaaGreatDoor
namespace Go.Proofs.YtbdkbfoplpociaaGreatDoor
open Go.RowKit
set_option linter.unusedVariables false
set_option linter.unusedSimpArgs false

set_option maxRecDepth 100000 in
set_option maxHeartbeats 400000 in
theorem equalA_any (A B : Option Addr) (n m c d : Nat) (l k : List At) (w : World) (hn : n = l.length) (hm : m = k.length) (h1 : RdAt w w.heap.size A l) (h2 : RdAt w w.heap.size B k) (hb : n ≤ 140737488355328) (hb2 : m ≤ 140737488355328) :
    Calls Tryz.prog 204 #[.slice A n c, .slice B m d] w (Quiet (.bool (decide (l = k))) w) := by
  have N := Lib.hid hn
  have M := Lib.hid hm
  generalize hR : decide (l = k) = R
  have HR := Lib.hid hR
  clear hn hR hm
  by_cases hnm : (n : Int) = m
  · have hnm' : n = m := by omega
    subst hnm'
    clear hnm
    go_enter Tryz.func204, Tryz.ntmps204
    go_wp2_with (fail)
    go_loopg [13] n (fun g iv wr => ∃ i : Nat, i ≤ n ∧ g = n - i ∧ iv = .int .i64 (i : Int) ∧ (∃ d, wr = w.drewN d) ∧ Hid (decide (l.drop i = k.drop i) = R))
    case atStart => exact ⟨0, by omega, rfl, rfl, ⟨0, rfl⟩, Lib.hid (by rw [List.drop_zero, List.drop_zero]; exact HR.out)⟩
    case round =>
      obtain ⟨i, hi, hg, rfl, ⟨q, rfl⟩, HI⟩ := hrel
      have HG := Lib.hid hg
      clear hg HR
      by_cases hlt : i < n
      · have hl1 : i < l.length := by have := N.out; omega
        have hl2 : i < k.length := by have := M.out; omega
        obtain ⟨ad, x, rfl, _, hd1, _, hc1⟩ := h1.el hl1
        obtain ⟨ad2, y, rfl, _, hd2, _, hc2⟩ := h2.el hl2
        have HI' : Hid (decide (x :: l.drop (i + 1) = y :: k.drop (i + 1)) = R) := Lib.hid (by rw [← HI.out, hd1, hd2])
        clear HI hd1 hd2
        obtain ⟨x1, x2, x3, x4, x5⟩ := x
        obtain ⟨y1, y2, y3, y4, y5⟩ := y
        obtain ⟨r0, r1, r2, r3, r4⟩ := at_cells hc1
        obtain ⟨s0, s1, s2, s3, s4⟩ := at_cells hc2
        by_cases hxy : (⟨x1, ⟨x2, x3, x4, x5⟩⟩ : At) = ⟨y1, ⟨y2, y3, y4, y5⟩⟩
        · have hq := beqAt_eq hxy
          have HXY := Lib.hid hxy
          clear hxy
          go_wp2_with (go_quiet (fail))
          go_roundg (n - (i + 1))
          case measure => have := HG.out; omega
          case rel => exact ⟨i + 1, by omega, rfl, by go_num, ⟨_, rfl⟩, Lib.hid (by rw [← HI'.out]; simp only [List.cons.injEq, HXY.out, true_and])⟩
        · have hq := beqAt_ne hxy
          have HXY := Lib.hid hxy
          clear hxy
          go_wp2_with (go_quiet (fail))
          go_ret
          exact ⟨ret_bool (by rw [← HI'.out]; exact (decide_eq_false fun e => HXY.out (List.cons.inj e).1).symm), _, World.drewN_drewN _ _ _⟩
      · go_wp2_with (fail)
        go_ret
        exact ⟨ret_bool (by rw [← HI.out, List.drop_eq_nil_of_le (by have := N.out; omega), List.drop_eq_nil_of_le (by have := M.out; omega)]; rfl), _, rfl⟩
  · have hne : ((n : Int) == m) = false := beq_eq_false_iff_ne.2 hnm
    go_enter Tryz.func204, Tryz.ntmps204
    go_wp2_with (fail)
    go_ret
    refine ⟨ret_bool ?_, 0, rfl⟩
    rw [← HR.out]
    refine (decide_eq_false fun e => ?_).symm
    have h3 := N.out
    have h4 := M.out
    rw [e] at h3
    omega

set_option maxHeartbeats 400000 in
theorem attrsSame_any (A B : Option Addr) (n m c d : Nat) (l k : List At) (w : World) (hn : n = l.length) (hm : m = k.length) (h1 : RdAt w w.heap.size A l) (h2 : RdAt w w.heap.size B k) (hb : n ≤ 140737488355328) (hb2 : m ≤ 140737488355328) :
    Calls Tryz.prog 149 #[.slice A n c, .slice B m d] w (Quiet (.bool (decide (l = k))) w) := by
  have N := Lib.hid hn
  have M := Lib.hid hm
  clear hn hm
  go_enter Tryz.func149, Tryz.ntmps149
  go_wp2_with (go_at_call 204; refine (equalA_any A B n m c d l k _ N.out M.out h1 h2 hb hb2).mono ?_; rintro e w' ⟨rfl, q, rfl⟩)
  go_ret
  exact ⟨rfl, _, rfl⟩

set_option maxHeartbeats 400000 in
theorem copy_any (A : Option Addr) (n c : Nat) (l : List At) (w : World) (hn : n = l.length) (h : RdAt w w.heap.size A l) (hb : n ≤ 100000000) :
    Calls Tryz.prog 154 #[.slice A n c] w (NewAt l w) := by
  have N := Lib.hid hn
  clear hn
  go_enter Tryz.func154, Tryz.ntmps154
  go_wp2_with (go_at_call 202; refine Hid.out ?_)
  refine Lib.hid ?_
  refine (cloneAt_any A n c l w N.out h hb).mono ?_
  rintro e w2 ⟨A2, c2, rfl, ho, hb2⟩
  generalize hq : l.length = q at *
  go_wp2_with (fail)
  go_ret
  exact ⟨A2, c2, by rw [hq]; rfl, by rw [hq]; exact ho, hb2⟩

end Go.Proofs.YtbdkbfoplpociaaGreatDoor
namespace Go.Proofs.YtbdkbfoplpociaaGreatDoor
set_option linter.unusedVariables false
set_option linter.unusedSimpArgs false

/-- the attributes of block keys, or of inline ones -/
def partS (l : List Ky) (b : Bool) (p : List At) : List At := p.filter (fun c => keepK l b c.key)
end Go.Proofs.YtbdkbfoplpociaaGreatDoor
namespace Go.Proofs.YtbdkbfoplpociaaGreatDoor
open Go.RowKit
set_option linter.unusedVariables false
set_option linter.unusedSimpArgs false

/-- is an op's insert in place? -/
def placeO (l : List Ky) (o : Opd) : Bool :=
  if o.k = 2 ∧ 0 < o.s.length then
    !((decide (0 < (partS l true o.s).length) || decide (0 < nlR o.r)) && (decide ((partS l true o.s).length < o.s.length) || decide (nlR o.r < o.r.length)))
  else true
def placeP (l : List Ky) (x : List OpS) : Bool := x.all (fun o => placeO l o.o)
end Go.Proofs.YtbdkbfoplpociaaGreatDoor
namespace Go.Proofs.YtbdkbfoplpociaaGreatDoor
open Go.RowKit
set_option linter.unusedVariables false
set_option linter.unusedSimpArgs false

/-- as long as told behind a delta -/
def longO (n : Int) (x : List OpS) : Int := IntKind.i64.wrap (IntKind.i64.wrap (n - takesP x) + makesP x)
/-- why a delta does not fit a document of n cells -/
def fitsO (l : List Ky) (x : List OpS) (n most : Int) : Int :=
  if ¬ mayO l x = 0 then mayO l x
  else if n < 1 ∨ most < n ∨ n < takesP x then 5
  else if finalP n x = false then 6
  else if placeP l x = false then 7
  else if most < longO n x then 8 else 0

end Go.Proofs.YtbdkbfoplpociaaGreatDoor
namespace Go.Proofs.YtbdkbfoplpociaaGreatDoor
open Go.RowKit
set_option linter.unusedVariables false
set_option linter.unusedSimpArgs false

def goodO (l : List Ky) (x : List OpS) : Prop := ∀ o ∈ x, oneP l o.o = 0
theorem goodO.tail {l : List Ky} {o : OpS} {x : List OpS} (h : goodO l (o :: x)) : goodO l x := fun z hz => h z (List.mem_cons_of_mem _ hz)
theorem fold_one {l : List Ky} : ∀ (x : List OpS) (a : Int), (x.foldl (mayStep l) (false, a)).1 = false → (x.foldl (mayStep l) (false, a)).2 = 0 → a = 0 ∧ goodO l x
  | [], a, _, h => ⟨h, fun z hz => by cases hz⟩
  | o :: x, a, h1, h2 => by
    rw [List.foldl_cons] at h1 h2
    unfold mayStep at h1 h2
    simp only [Bool.false_eq_true, if_false] at h1 h2
    by_cases h3 : oneP l o.o = 3
    · rw [if_pos h3] at h1
      have := mayStep_true l 3 x
      unfold mayStep at this
      rw [this] at h1; cases h1
    · rw [if_neg h3] at h1 h2
      obtain ⟨h4, h5⟩ := fold_one x _ h1 h2
      by_cases h0 : oneP l o.o = 0
      · rw [if_pos h0] at h4
        refine ⟨h4, fun z hz => ?_⟩
        rcases List.mem_cons.1 hz with rfl | hz
        · exact h0
        · exact h5 z hz
      · rw [if_neg h0] at h4; exact absurd h4 h0
theorem mayO_zero {l : List Ky} {x : List OpS} (h : mayO l x = 0) : goodO l x ∧ takesP x ≤ 536870912 ∧ makesP x ≤ 536870912 := by
  unfold mayO at h
  cases h1 : (x.foldl (mayStep l) (false, 0)).1 with
  | true => rw [h1] at h; simp at h
  | false =>
    rw [h1] at h
    simp only [Bool.false_eq_true, if_false] at h
    by_cases h2 : takesP x ≤ 536870912 ∧ makesP x ≤ 536870912
    · rw [if_pos h2] at h; exact ⟨(fold_one x 0 h1 h).2, h2⟩
    · rw [if_neg h2] at h; cases h
def tkI (o : Opd) : Int := if o.k = 2 then 0 else o.n
def mkI (o : Opd) : Int := if o.k = 3 then 0 else sizeO o
def sumT : List OpS → Int
  | [] => 0
  | o :: x => tkI o.o + sumT x
def sumM : List OpS → Int
  | [] => 0
  | o :: x => mkI o.o + sumM x
theorem one_facts {l : List Ky} {o : Opd} (h : oneP l o = 0) : formO o = true ∧ 1 ≤ sizeO o ∧ sizeO o ≤ 536870912 ∧ mayS l o.s = 0 ∧ mayP l o.p = 0 := by
  unfold oneP at h
  by_cases h1 : formO o = true ∧ 1 ≤ sizeO o ∧ sizeO o ≤ 536870912
  · rw [if_pos h1] at h
    by_cases h2 : mayS l o.s = 0
    · rw [if_pos h2] at h; exact ⟨h1.1, h1.2.1, h1.2.2, h2, h⟩
    · rw [if_neg h2] at h; exact absurd h h2
  · rw [if_neg h1] at h; cases h
theorem form_kinds {o : Opd} (h : formO o = true) : o.k = 1 ∨ o.k = 2 ∨ o.k = 3 := by
  unfold formO at h
  by_cases h1 : o.k = 1
  · exact .inl h1
  rw [if_neg h1] at h
  by_cases h3 : o.k = 3
  · exact .inr (.inr h3)
  rw [if_neg h3] at h
  by_cases h2 : o.k = 2
  · exact .inr (.inl h2)
  rw [if_neg h2] at h; cases h
theorem one_ks {l : List Ky} {o : Opd} (h : oneP l o = 0) : (o.k = 2 ∧ tkI o = 0 ∧ 1 ≤ mkI o ∧ mkI o ≤ 536870912) ∨ (o.k = 3 ∧ tkI o = o.n ∧ 1 ≤ o.n ∧ o.n ≤ 536870912 ∧ mkI o = 0) ∨ (o.k = 1 ∧ tkI o = o.n ∧ 1 ≤ o.n ∧ o.n ≤ 536870912 ∧ mkI o = o.n) := by
  obtain ⟨f, h1, h2, _, _⟩ := one_facts h
  unfold tkI mkI
  unfold sizeO at *
  rcases form_kinds f with hk | hk | hk <;> rw [hk] at h1 h2 ⊢ <;> simp at h1 h2 ⊢ <;> omega
theorem fold_t {l : List Ky} : ∀ (x : List OpS) (a : Int), goodO l x → 0 ≤ a → a + 536870912 * (x.length : Int) ≤ 4611686018427387904 → x.foldl takeStep a = a + sumT x
  | [], a, _, _, _ => by simp [sumT]
  | o :: x, a, h, h0, hb => by
    have hk := one_ks (h o (by simp))
    simp only [List.length_cons] at hb
    push_cast at hb
    have e : takeStep a o = a + tkI o.o := by
      unfold takeStep
      by_cases h2 : o.o.k = 2
      · rw [if_pos h2]; unfold tkI; rw [if_pos h2]; omega
      · rw [if_neg h2]; unfold tkI; rw [if_neg h2]; exact IntWalk.i64_in _ (by omega)
    rw [List.foldl_cons, e, fold_t x _ h.tail (by omega) (by omega)]
    simp only [sumT]; omega
theorem fold_m {l : List Ky} : ∀ (x : List OpS) (a : Int), goodO l x → 0 ≤ a → a + 536870912 * (x.length : Int) ≤ 4611686018427387904 → x.foldl makeStep a = a + sumM x
  | [], a, _, _, _ => by simp [sumM]
  | o :: x, a, h, h0, hb => by
    have hk := one_ks (h o (by simp))
    have hs := (one_facts (h o (by simp))).2
    simp only [List.length_cons] at hb
    push_cast at hb
    have e : makeStep a o = a + mkI o.o := by
      unfold makeStep
      by_cases h2 : o.o.k = 3
      · rw [if_pos h2]; unfold mkI; rw [if_pos h2]; omega
      · rw [if_neg h2]; unfold mkI; rw [if_neg h2]; exact IntWalk.i64_in _ (by omega)
    rw [List.foldl_cons, e, fold_m x _ h.tail (by omega) (by omega)]
    simp only [sumM]; omega
theorem takes_sum {l : List Ky} {x : List OpS} (h : goodO l x) (hb : x.length ≤ 1048576) : takesP x = sumT x := by
  unfold takesP; rw [fold_t x 0 h (by omega) (by omega)]; omega
theorem makes_sum {l : List Ky} {x : List OpS} (h : goodO l x) (hb : x.length ≤ 1048576) : makesP x = sumM x := by
  unfold makesP; rw [fold_m x 0 h (by omega) (by omega)]; omega

end Go.Proofs.YtbdkbfoplpociaaGreatDoor
