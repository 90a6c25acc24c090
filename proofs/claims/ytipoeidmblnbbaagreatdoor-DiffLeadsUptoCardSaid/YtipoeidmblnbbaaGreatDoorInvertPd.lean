/- The walk of patch.Invert, of a set whose keys rise. -/
import Derived.Test.YtipoeidmblnbbaaGreatDoorPk12
import Derived.Test.YtipoeidmblnbbaaGreatDoorPk8
namespace Go.Proofs.YtipoeidmblnbbaaGreatDoor
open Go.RowKit
set_option linter.unusedVariables false
set_option linter.unusedSimpArgs false

theorem below_keep {B B' : Nat} {a w w' : World} (h : Below B a w) (hb : Below B' w w') (hB : B ≤ B') : Below B a w' := h.trans (hb.mono hB)

set_option maxRecDepth 100000 in
set_option maxHeartbeats 800000 in
theorem invert_any (A1 A2 : Option Addr) (n1 n2 c1 c2 : Nat) (l : List At) (k : List Ch) (w : World) (hr : riseA l = true)
    (hn1 : n1 = l.length) (hn2 : n2 = k.length) (h1 : RdAt w w.heap.size A1 l) (h2 : RdCh w w.heap.size A2 k)
    (hb1 : n1 ≤ 100000000) (hb2 : n2 ≤ 100000000) :
    Calls Tryz.prog 65 #[.slice A1 n1 c1, .slice A2 n2 c2] w (NewCh (invertP l k) w) := by
  have N1 := Lib.hid hn1
  have N2 := Lib.hid hn2
  have HRI := Lib.hid hr
  generalize hR : invertP l k = R
  have HR := Lib.hid hR
  clear hn1 hn2 hR hr
  go_enter Tryz.func65, Tryz.ntmps65
  go_wp2_with (fail)
  go_loopg [5, 12] n2 (fun g ov kv wr => ∃ (q : Nat) (o : List Ch), q ≤ n2 ∧ g = n2 - q ∧ kv = .int .i64 q ∧ OwCh wr w.heap.size ov o ∧ o.length ≤ q ∧
    Below w.heap.size w wr ∧ Hid (o ++ (k.drop q).flatMap (inv1 l) = R))
  case atStart => exact ⟨0, [], by omega, rfl, rfl, Ow.nil _ _, by simp, Below.refl _ _, Lib.hid (by rw [← HR.out]; simp [invertP])⟩
  case round =>
    obtain ⟨q, o, hk, hg, rfl, hown, hol, hbw, HI⟩ := hrel
    have HG := Lib.hid hg
    clear hg HR
    by_cases hlt : q < n2
    · have hkp : q < k.length := by have := N2.out; omega
      obtain ⟨ad2, c, rfl, _, hd2, _, hc2⟩ := (h2.below hbw (Nat.le_refl _)).el hkp
      have HI' : Hid (o ++ (inv1 l c ++ (k.drop (q+1)).flatMap (inv1 l)) = R) := Lib.hid (by rw [← HI.out, hd2, List.flatMap_cons])
      clear HI hkp hd2
      obtain ⟨ck, cg, va, vn, vf, vs⟩ := c
      obtain ⟨q0, q1, q2, q3, q4, q5⟩ := ch_cells hc2
      clear hc2
      go_wp2_with (fail)
      have hbx := heap_alloc_new wr (.cells #[.int .i64 ck, .bool cg, .int .u8 va, .int .i64 vn, .int .u64 vf, .string vs] 113)
      have hbw1 := hbw.alloc hbw.size (.cells #[.int .i64 ck, .bool cg, .int .u8 va, .int .i64 vn, .int .u64 vf, .string vs] 113)
      have hown1 := hown.alloc (.cells #[.int .i64 ck, .bool cg, .int .u8 va, .int .i64 vn, .int .u64 vf, .string vs] 113)
      refine (get_any A1 n1 c1 l ck _ N1.out ((h1.below hbw1 (Nat.le_refl _)).more hbw1.size) (by omega)).mono ?_
      rintro e w1 ⟨v, b, rfl, hget, hb1'⟩
      have hbx1 := (hb1'.block wr.heap.size (by simp)).trans hbx
      have hlt1 : wr.heap.size < w1.heap.size := by have := hb1'.size; simp at this; omega
      have hbw2 := below_keep hbw1 hb1' hbw1.size
      have hown2 := hown1.below hb1' (Nat.le_refl _)
      clear hbx hbw1 hown1 hb1' q0 q1 q2 q3 q4 q5 hown hbw
      obtain ⟨b0, b1, b2, b3, b4, b5⟩ := box_ch hbx1
      clear hbx1
      have hga := hget.2.2 HRI.out
      have hz := hget.2.1
      obtain ⟨xa, xn, xf, xs⟩ := v
      have hcases : (b = true ∧ (cg = true ∨ ¬ (⟨xa, xn, xf, xs⟩ : V) = ⟨va, vn, vf, vs⟩) ∧ inv1 l ⟨ck, cg, ⟨va, vn, vf, vs⟩⟩ = [⟨ck, false, ⟨xa, xn, xf, xs⟩⟩]) ∨
          (b = true ∧ cg = false ∧ (⟨xa, xn, xf, xs⟩ : V) = ⟨va, vn, vf, vs⟩ ∧ inv1 l ⟨ck, cg, ⟨va, vn, vf, vs⟩⟩ = []) ∨
          (b = false ∧ cg = false ∧ inv1 l ⟨ck, cg, ⟨va, vn, vf, vs⟩⟩ = [goneC ⟨ck, V.zero⟩]) ∨ (b = false ∧ cg = true ∧ inv1 l ⟨ck, cg, ⟨va, vn, vf, vs⟩⟩ = []) := by
        unfold inv1
        show _
        cases b
        · simp only [Bool.false_eq_true, if_false] at hga
          rw [hga]
          cases cg <;> simp [goneC]
        · simp only [if_true] at hga
          rw [hga]
          by_cases hv : (⟨xa, xn, xf, xs⟩ : V) = ⟨va, vn, vf, vs⟩ <;> cases cg <;> simp [hv]
      clear hga hz hget
      rcases hcases with ⟨rfl, hcv, hinv⟩ | ⟨rfl, rfl, hv, hinv⟩ | ⟨rfl, rfl, hinv⟩ | ⟨rfl, rfl, hinv⟩
      · have hbw3 := hbw2.alloc hbw2.size (.cells #[.int .u8 xa, .int .i64 xn, .int .u64 xf, .string xs] 68)
        have hown3 := hown2.alloc (.cells #[.int .u8 xa, .int .i64 xn, .int .u64 xf, .string xs] 68)
        have HINV := Lib.hid hinv
        clear hinv
        have hq : cg = true ∨ (cg = false ∧ beqV ⟨xa, xn, xf, xs⟩ ⟨va, vn, vf, vs⟩ = false) := by
          rcases hcv with h | h
          · exact .inl h
          · cases cg
            · exact .inr ⟨rfl, beqV_ne h⟩
            · exact .inl rfl
        clear hcv
        rcases hq with rfl | ⟨rfl, hq⟩
        all_goals
          go_wp2_with (first
            | (at_builtin; refine app_ch (m := [⟨ck, false, ⟨xa, xn, xf, xs⟩⟩]) rfl (.tmp 35) (.tmp 40) rfl rfl (by first | exact (hown3.drewN _).alloc _ | exact hown3.alloc _) _ _ 1 1 rfl rfl (by first | exact rd_one (enc := Ch.enc) _ _ _ rfl | exact rd_one_at (enc := Ch.enc) _ _ _ rfl (size_alloc' _ _)) (by simp only [List.length_singleton]; omega) (Nat.le_trans hbw3.size (le_alloc _ _)) ?_; intro v' w' hown' hgr hv'))
          obtain ⟨s1, s2, s3⟩ := app_step (nq := 0) hown3 hbw3 (Nat.le_refl _) hgr hv'
          go_roundg (n2 - (q + 1))
          case measure => have := HG.out; omega
          case rel => exact ⟨q + 1, _, by omega, rfl, by go_num, hown', by simp; omega, s1, Lib.hid (by rw [← HI'.out, HINV.out, List.append_assoc])⟩
      · have hbw3 := hbw2.alloc hbw2.size (.cells #[.int .u8 xa, .int .i64 xn, .int .u64 xf, .string xs] 68)
        have hown3 := hown2.alloc (.cells #[.int .u8 xa, .int .i64 xn, .int .u64 xf, .string xs] 68)
        have HINV := Lib.hid hinv
        clear hinv
        have hq := beqV_eq hv
        clear hv
        all_goals
          go_wp2_with (fail)
          go_roundg (n2 - (q + 1))
          case measure => have := HG.out; omega
          case rel => exact ⟨q + 1, o, by omega, rfl, by go_num, hown3, by omega, hbw3, Lib.hid (by rw [← HI'.out, HINV.out, List.nil_append])⟩
      · have hbw3 := hbw2.alloc hbw2.size (.cells #[.int .u8 xa, .int .i64 xn, .int .u64 xf, .string xs] 68)
        have hown3 := hown2.alloc (.cells #[.int .u8 xa, .int .i64 xn, .int .u64 xf, .string xs] 68)
        have HINV := Lib.hid hinv
        clear hinv
        all_goals
          go_wp2_with (first
            | (at_builtin; refine app_ch (m := [goneC ⟨ck, V.zero⟩]) rfl (.tmp 50) (.tmp 54) rfl rfl (by first | exact (hown3.drewN _).alloc _ | exact hown3.alloc _) _ _ 1 1 rfl rfl (by first | exact rd_one (enc := Ch.enc) _ _ _ rfl | exact rd_one_at (enc := Ch.enc) _ _ _ rfl (size_alloc' _ _)) (by simp only [List.length_singleton]; omega) (Nat.le_trans hbw3.size (le_alloc _ _)) ?_; intro v' w' hown' hgr hv'))
          obtain ⟨s1, s2, s3⟩ := app_step (nq := 0) hown3 hbw3 (Nat.le_refl _) hgr hv'
          go_roundg (n2 - (q + 1))
          case measure => have := HG.out; omega
          case rel => exact ⟨q + 1, _, by omega, rfl, by go_num, hown', by simp; omega, s1, Lib.hid (by rw [← HI'.out, HINV.out, List.append_assoc])⟩
      · have hbw3 := hbw2.alloc hbw2.size (.cells #[.int .u8 xa, .int .i64 xn, .int .u64 xf, .string xs] 68)
        have hown3 := hown2.alloc (.cells #[.int .u8 xa, .int .i64 xn, .int .u64 xf, .string xs] 68)
        have HINV := Lib.hid hinv
        clear hinv
        all_goals
          go_wp2_with (fail)
          go_roundg (n2 - (q + 1))
          case measure => have := HG.out; omega
          case rel => exact ⟨q + 1, o, by omega, rfl, by go_num, hown3, by omega, hbw3, Lib.hid (by rw [← HI'.out, HINV.out, List.nil_append])⟩
    · have hdp : k.drop q = [] := List.drop_eq_nil_of_le (by have := N2.out; omega)
      have e : o = R := by have := HI.out; rw [hdp] at this; simpa using this
      have HE := Lib.hid e
      clear hdp e
      go_wp2_with (fail)
      rw [HE.out] at hown
      obtain ⟨A', c', rfl, _, _⟩ := hown.form
      go_ret
      exact ⟨A', c', rfl, hown, hbw⟩
end Go.Proofs.YtipoeidmblnbbaaGreatDoor
