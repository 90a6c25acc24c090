/- Merged texts: Invert, DiffOk, InvertW. -/
import Derived.Test.YtnppoifgfehpfaaGreatDoorPk12
import Derived.Test.YtnppoifgfehpfaaGreatDoorPk8
import Derived.Test.YtnppoifgfehpfaaGreatDoorPk28
import Derived.Test.YtnppoifgfehpfaaGreatDoorPk15
import Derived.Test.YtnppoifgfehpfaaGreatDoorPk29
import Derived.Test.YtnppoifgfehpfaaGreatDoorPk26
/- The walk of patch.Invert, of a set whose keys rise. -/
namespace Go.Proofs.YtnppoifgfehpfaaGreatDoor
open Go.RowKit
set_option linter.unusedVariables false
set_option linter.unusedSimpArgs false

theorem below_keep {B B' : Nat} {a w w' : World} (h : Below B a w) (hb : Below B' w w') (hB : B ≤ B') : Below B a w' := h.trans (hb.mono hB)

set_option maxRecDepth 100000 in
set_option maxHeartbeats 800000 in
theorem invert_any (A1 A2 : Option Addr) (n1 n2 c1 c2 : Nat) (l : List At) (k : List Ch) (w : World) (hr : riseA l = true)
    (hn1 : n1 = l.length) (hn2 : n2 = k.length) (h1 : RdAt w w.heap.size A1 l) (h2 : RdCh w w.heap.size A2 k)
    (hb1 : n1 ≤ 100000000) (hb2 : n2 ≤ 100000000) :
    Calls Tryz.prog 61 #[.slice A1 n1 c1, .slice A2 n2 c2] w (NewCh (invertP l k) w) := by
  have N1 := Lib.hid hn1
  have N2 := Lib.hid hn2
  have HRI := Lib.hid hr
  generalize hR : invertP l k = R
  have HR := Lib.hid hR
  clear hn1 hn2 hR hr
  go_enter Tryz.func61, Tryz.ntmps61
  go_wp2_with (fail)
  go_loopg [5, 12] n2 (fun g ov kv wr => ∃ (q : Nat) (o : List Ch), q ≤ n2 ∧ g = n2 - q ∧ kv = .int .i64 q ∧ OwCh wr w.heap.size ov o ∧ o.length ≤ q ∧
    Below w.heap.size w wr ∧ Hid (o ++ (k.drop q).flatMap (inv1 l) = R))
  case atStart => exact ⟨0, [], by omega, rfl, rfl, Ow.nil _ _, by simp, Below.refl _ _, Lib.hid (by rw [← HR.out]; simp [invertP])⟩
  case round =>
    obtain ⟨q, o, hk, hg, rfl, hown, hol, hbw, HI⟩ := hrel
    have HG := Lib.hid hg
    clear hg HR
    by_cases hlt : q < n2
    · have hkp : q < k.length := by have := N2.out; omega
      obtain ⟨ad2, c, rfl, _, hd2, _, hc2⟩ := (h2.below hbw (Nat.le_refl _)).el hkp
      have HI' : Hid (o ++ (inv1 l c ++ (k.drop (q+1)).flatMap (inv1 l)) = R) := Lib.hid (by rw [← HI.out, hd2, List.flatMap_cons])
      clear HI hkp hd2
      obtain ⟨ck, cg, va, vn, vf, vs⟩ := c
      obtain ⟨q0, q1, q2, q3, q4, q5⟩ := ch_cells hc2
      clear hc2
      go_wp2_with (fail)
      have hbx := heap_alloc_new wr (.cells #[.int .i64 ck, .bool cg, .int .u8 va, .int .i64 vn, .int .u64 vf, .string vs] 59)
      have hbw1 := hbw.alloc hbw.size (.cells #[.int .i64 ck, .bool cg, .int .u8 va, .int .i64 vn, .int .u64 vf, .string vs] 59)
      have hown1 := hown.alloc (.cells #[.int .i64 ck, .bool cg, .int .u8 va, .int .i64 vn, .int .u64 vf, .string vs] 59)
      refine (get_any A1 n1 c1 l ck _ N1.out ((h1.below hbw1 (Nat.le_refl _)).more hbw1.size) (by omega)).mono ?_
      rintro e w1 ⟨v, b, rfl, hget, hb1'⟩
      have hbx1 := (hb1'.block wr.heap.size (by simp)).trans hbx
      have hlt1 : wr.heap.size < w1.heap.size := by have := hb1'.size; simp at this; omega
      have hbw2 := below_keep hbw1 hb1' hbw1.size
      have hown2 := hown1.below hb1' (Nat.le_refl _)
      clear hbx hbw1 hown1 hb1' q0 q1 q2 q3 q4 q5 hown hbw
      obtain ⟨b0, b1, b2, b3, b4, b5⟩ := box_ch hbx1
      clear hbx1
      have hga := hget.2.2 HRI.out
      have hz := hget.2.1
      obtain ⟨xa, xn, xf, xs⟩ := v
      have hcases : (b = true ∧ (cg = true ∨ ¬ (⟨xa, xn, xf, xs⟩ : V) = ⟨va, vn, vf, vs⟩) ∧ inv1 l ⟨ck, cg, ⟨va, vn, vf, vs⟩⟩ = [⟨ck, false, ⟨xa, xn, xf, xs⟩⟩]) ∨
          (b = true ∧ cg = false ∧ (⟨xa, xn, xf, xs⟩ : V) = ⟨va, vn, vf, vs⟩ ∧ inv1 l ⟨ck, cg, ⟨va, vn, vf, vs⟩⟩ = []) ∨
          (b = false ∧ cg = false ∧ inv1 l ⟨ck, cg, ⟨va, vn, vf, vs⟩⟩ = [goneC ⟨ck, V.zero⟩]) ∨ (b = false ∧ cg = true ∧ inv1 l ⟨ck, cg, ⟨va, vn, vf, vs⟩⟩ = []) := by
        unfold inv1
        show _
        cases b
        · simp only [Bool.false_eq_true, if_false] at hga
          rw [hga]
          cases cg <;> simp [goneC]
        · simp only [if_true] at hga
          rw [hga]
          by_cases hv : (⟨xa, xn, xf, xs⟩ : V) = ⟨va, vn, vf, vs⟩ <;> cases cg <;> simp [hv]
      clear hga hz hget
      rcases hcases with ⟨rfl, hcv, hinv⟩ | ⟨rfl, rfl, hv, hinv⟩ | ⟨rfl, rfl, hinv⟩ | ⟨rfl, rfl, hinv⟩
      · have hbw3 := hbw2.alloc hbw2.size (.cells #[.int .u8 xa, .int .i64 xn, .int .u64 xf, .string xs] 57)
        have hown3 := hown2.alloc (.cells #[.int .u8 xa, .int .i64 xn, .int .u64 xf, .string xs] 57)
        have HINV := Lib.hid hinv
        clear hinv
        have hq : cg = true ∨ (cg = false ∧ beqV ⟨xa, xn, xf, xs⟩ ⟨va, vn, vf, vs⟩ = false) := by
          rcases hcv with h | h
          · exact .inl h
          · cases cg
            · exact .inr ⟨rfl, beqV_ne h⟩
            · exact .inl rfl
        clear hcv
        rcases hq with rfl | ⟨rfl, hq⟩
        all_goals
          go_wp2_with (first
            | (at_builtin; refine app_ch (m := [⟨ck, false, ⟨xa, xn, xf, xs⟩⟩]) rfl (.tmp 35) (.tmp 40) rfl rfl (by first | exact (hown3.drewN _).alloc _ | exact hown3.alloc _) _ _ 1 1 rfl rfl (by first | exact rd_one (enc := Ch.enc) _ _ _ rfl | exact rd_one_at (enc := Ch.enc) _ _ _ rfl (size_alloc' _ _)) (by simp only [List.length_singleton]; omega) (Nat.le_trans hbw3.size (le_alloc _ _)) ?_; intro v' w' hown' hgr hv'))
          obtain ⟨s1, s2, s3⟩ := app_step (nq := 0) hown3 hbw3 (Nat.le_refl _) hgr hv'
          go_roundg (n2 - (q + 1))
          case measure => have := HG.out; omega
          case rel => exact ⟨q + 1, _, by omega, rfl, by go_num, hown', by simp; omega, s1, Lib.hid (by rw [← HI'.out, HINV.out, List.append_assoc])⟩
      · have hbw3 := hbw2.alloc hbw2.size (.cells #[.int .u8 xa, .int .i64 xn, .int .u64 xf, .string xs] 57)
        have hown3 := hown2.alloc (.cells #[.int .u8 xa, .int .i64 xn, .int .u64 xf, .string xs] 57)
        have HINV := Lib.hid hinv
        clear hinv
        have hq := beqV_eq hv
        clear hv
        all_goals
          go_wp2_with (fail)
          go_roundg (n2 - (q + 1))
          case measure => have := HG.out; omega
          case rel => exact ⟨q + 1, o, by omega, rfl, by go_num, hown3, by omega, hbw3, Lib.hid (by rw [← HI'.out, HINV.out, List.nil_append])⟩
      · have hbw3 := hbw2.alloc hbw2.size (.cells #[.int .u8 xa, .int .i64 xn, .int .u64 xf, .string xs] 57)
        have hown3 := hown2.alloc (.cells #[.int .u8 xa, .int .i64 xn, .int .u64 xf, .string xs] 57)
        have HINV := Lib.hid hinv
        clear hinv
        all_goals
          go_wp2_with (first
            | (at_builtin; refine app_ch (m := [goneC ⟨ck, V.zero⟩]) rfl (.tmp 50) (.tmp 54) rfl rfl (by first | exact (hown3.drewN _).alloc _ | exact hown3.alloc _) _ _ 1 1 rfl rfl (by first | exact rd_one (enc := Ch.enc) _ _ _ rfl | exact rd_one_at (enc := Ch.enc) _ _ _ rfl (size_alloc' _ _)) (by simp only [List.length_singleton]; omega) (Nat.le_trans hbw3.size (le_alloc _ _)) ?_; intro v' w' hown' hgr hv'))
          obtain ⟨s1, s2, s3⟩ := app_step (nq := 0) hown3 hbw3 (Nat.le_refl _) hgr hv'
          go_roundg (n2 - (q + 1))
          case measure => have := HG.out; omega
          case rel => exact ⟨q + 1, _, by omega, rfl, by go_num, hown', by simp; omega, s1, Lib.hid (by rw [← HI'.out, HINV.out, List.append_assoc])⟩
      · have hbw3 := hbw2.alloc hbw2.size (.cells #[.int .u8 xa, .int .i64 xn, .int .u64 xf, .string xs] 57)
        have hown3 := hown2.alloc (.cells #[.int .u8 xa, .int .i64 xn, .int .u64 xf, .string xs] 57)
        have HINV := Lib.hid hinv
        clear hinv
        all_goals
          go_wp2_with (fail)
          go_roundg (n2 - (q + 1))
          case measure => have := HG.out; omega
          case rel => exact ⟨q + 1, o, by omega, rfl, by go_num, hown3, by omega, hbw3, Lib.hid (by rw [← HI'.out, HINV.out, List.nil_append])⟩
    · have hdp : k.drop q = [] := List.drop_eq_nil_of_le (by have := N2.out; omega)
      have e : o = R := by have := HI.out; rw [hdp] at this; simpa using this
      have HE := Lib.hid e
      clear hdp e
      go_wp2_with (fail)
      rw [HE.out] at hown
      obtain ⟨A', c', rfl, _, _⟩ := hown.form
      go_ret
      exact ⟨A', c', rfl, hown, hbw⟩
end Go.Proofs.YtnppoifgfehpfaaGreatDoor
/- The walk of diff.Diff at documents that may be. -/
namespace Go.Proofs.YtnppoifgfehpfaaGreatDoor
open Go.RowKit
set_option linter.unusedVariables false
set_option linter.unusedSimpArgs false

/-- ops of the call's own, and no error -/
def NewOpsOk (o : List Opd) (w : World) (e : Ending) (w' : World) : Prop :=
  ∃ A c l, e = .returned (.tuple #[.slice A l.length c, .int .i64 0]) ∧ osOf l = o ∧ OwOs w' w.heap.size (.slice A l.length c) l ∧ (∀ x ∈ l, ∃ g, PartN w' w.heap.size g x) ∧ Below w.heap.size w w'
/-- a maker that this call has made -/
def MkIn (w wr : World) (b : Nat) (m : Mk) : Prop := ∃ F, Mkr wr F b m ∧ (∀ k, F k → w.heap.size ≤ k) ∧ Below w.heap.size w wr
theorem MkIn.out {w wr w2 : World} {b : Nat} {m2 : Mk} {F F2 : Nat → Prop} (hF : ∀ k, F k → w.heap.size ≤ k) (y : Below w.heap.size w wr) (h2 : Mkr w2 F2 b m2) (g : Grow wr F w2 F2) : MkIn w w2 b m2 :=
  ⟨F2, h2, g.low hF y.size, y.trans (g.below hF y.size)⟩
theorem MkIn.more {w wr w2 : World} {b : Nat} {m : Mk} {F : Nat → Prop} (hF : ∀ k, F k → w.heap.size ≤ k) (y : Below w.heap.size w wr) (h : Mkr wr F b m) (y2 : Below wr.heap.size wr w2) : MkIn w w2 b m :=
  ⟨F, h.below y2, hF, ext_trans y y2⟩
theorem tellM_B (n : Nat) (e1 : List Cl) (he : ∀ c ∈ e1, c.s.length ≤ 128) : MkB (tellM (mkRetain Mk.new n []) e1) (2 + e1.length) 128 := by
  have h0 := (MkB.new 128).retain (n : Int) (p := []) (by simp)
  have := h0.tellD e1 he
  rwa [show 0 + 2 + e1.length = 2 + e1.length by omega] at this

set_option maxRecDepth 100000 in
set_option maxHeartbeats 6400000 in
theorem cdiff_ok (s : Nat) (l : List Ky) (A1 A2 : Option Addr) (n1 n2 c1 c2 : Nat) (d e : List ClS) (w : World) (hn1 : n1 = d.length) (hn2 : n2 = e.length) (h1 : RdCl w w.heap.size A1 d) (h2 : RdCl w w.heap.size A2 e) (k1 : n1 ≤ c1) (k2 : n2 ≤ c2)
    (b1 : n1 ≤ 100000) (b2 : n2 ≤ 100000) (hS : Sch w s l) (q1 : ∀ x ∈ d, x.c.s.length ≤ 100000000 ∧ okVr x.c.s) (q2 : ∀ x ∈ e, x.c.s.length ≤ 100000000 ∧ okVr x.c.s) (g1 : ∀ x ∈ d, x.c.s.length ≤ x.cs ∧ x.cs ≤ maxLen)
    (hT : Lib.Utf8Tabs 1 2 w) (m1 : mayD l (clsOf d) = 0) (m2 : mayD l (clsOf e) = 0) :
    Calls Tryz.prog 49 #[.pointer (some ⟨s, 0, none⟩), .slice A1 n1 c1, .slice A2 n2 c2] w (NewOpsOk (mkOps (diffM (clsOf d) (clsOf e))) w) := by
  have N1 := Lib.hid hn1
  have N2 := Lib.hid hn2
  have H1 := Lib.hid h1
  have H2 := Lib.hid h2
  have Q1 := Lib.hid q1
  have Q2 := Lib.hid q2
  have G1 := Lib.hid g1
  have M1 := Lib.hid m1
  have M2 := Lib.hid m2
  obtain ⟨_, D1, D2⟩ := mayD_iff.1 m1
  obtain ⟨_, E1, E2⟩ := mayD_iff.1 m2
  have dne : clsOf d ≠ [] := by obtain ⟨t, c, h, _⟩ := D2; rw [h]; simp
  have ene : clsOf e ≠ [] := by obtain ⟨t, c, h, _⟩ := E2; rw [h]; simp
  have p1 : 1 ≤ n1 := by have := List.length_pos_iff.2 dne; rw [clsOf_len] at this; omega
  have p2 : 1 ≤ n2 := by have := List.length_pos_iff.2 ene; rw [clsOf_len] at this; omega
  have SD : Hid (∀ x ∈ d, x.c.s.length ≤ 64 ∧ riseA x.c.s = true) := Lib.hid (fun x hx => by
    obtain ⟨_, h2, _⟩ := D1 x.c (by unfold clsOf; exact List.mem_map_of_mem hx)
    obtain ⟨h3, h4, _⟩ := mayS_zero h2
    exact ⟨h3, h4⟩)
  have SE : Hid (∀ x ∈ e, x.c.s.length ≤ 64 ∧ riseA x.c.s = true) := Lib.hid (fun x hx => by
    obtain ⟨_, h2, _⟩ := E1 x.c (by unfold clsOf; exact List.mem_map_of_mem hx)
    obtain ⟨h3, h4, _⟩ := mayS_zero h2
    exact ⟨h3, h4⟩)
  have DNE := Lib.hid dne
  have ENE := Lib.hid ene
  clear hn1 hn2 h1 h2 q1 q2 g1 m1 m2 D1 D2 E1 E2 dne ene
  go_enter Tryz.func49, Tryz.ntmps49
  go_wp2_with (first
    | (go_at_call 67; with_reducible refine (mayCells_any s l A1 n1 c1 d w N1.out H1.out (by omega) hS Q1.out hT).mono ?_; rw [M1.out]; rintro r w1 ⟨rfl, y1⟩; have Y1 := Lib.hid y1; clear y1)
    | (go_at_call 67; refine (mayCells_any s l A2 n2 c2 e w1 N2.out (H2.out.ext Y1.out) (by omega) (hS.ext Y1.out) Q2.out (Utf8Tabs_below hT Y1.out)).mono ?_; rw [M2.out]; rintro r w2 ⟨rfl, y2⟩; have Y2 := Lib.hid (ext_trans Y1.out y2); clear y2)
    | (go_at_call 95; refine Hid.out ?_))
  refine Lib.hid ?_
  refine (begin_any A1 A2 n1 n2 c1 c2 d e w2 N1.out N2.out (H1.out.ext Y2.out) (H2.out.ext Y2.out) k1 k2 (by omega) (by omega) p1 p2 (fun x hx => by have := (SD.out x hx).1; omega) (fun x hx => by have := (SE.out x hx).1; omega)).mono ?_
  have BL := Lib.hid (begD_le DNE.out ENE.out)
  have hdm : diffM (clsOf d) (clsOf e) = retsM (diffM1 (begD (clsOf d) (clsOf e)) ((clsOf d).drop (begD (clsOf d) (clsOf e))) ((clsOf e).drop (begD (clsOf d) (clsOf e)))) _ := rfl
  have HDM := Lib.hid hdm
  clear hdm
  generalize begD (clsOf d) (clsOf e) = n at *
  rintro r w3 ⟨rfl, y3⟩
  have Y3 := Lib.hid (ext_trans Y2.out y3)
  have NL : Hid (n < n1 ∧ n < n2) := Lib.hid (by have := BL.out; rw [clsOf_len, clsOf_len, ← N1.out, ← N2.out] at this; exact this)
  clear y3
  go_wp2_with (go_at_call 57; refine Hid.out ?_)
  refine Lib.hid ?_
  refine (mkNew_any w3).mono ?_
  rintro r w4 ⟨rfl, hm, y4⟩
  have HM4 := Lib.hid hm
  have Y4 := Lib.hid (ext_trans Y3.out y4)
  obtain ⟨b, hb⟩ : ∃ b, w3.heap.size = b := ⟨_, rfl⟩
  rw [hb] at HM4
  have HB : Hid (w.heap.size ≤ b) := Lib.hid (by rw [← hb]; exact Y3.out.size)
  clear y4 hm
  rw [hb]
  clear hb
  go_wp2_with (go_at_call 60; refine Hid.out ?_)
  refine Lib.hid ?_
  refine (mkRetain_any b none n 0 0 [] w4 _ Mk.new HM4.out rfl Rd.nil OffF.zero (by omega) (by simp [Mk.new]) (fun o ho => by simp [Mk.new, mkGap] at ho)).mono ?_
  rintro r w5 ⟨rfl, F5, hm5, g5⟩
  have MI5 := Lib.hid (MkIn.out (w := w) (fun k hk => by have := HB.out; omega) Y4.out hm5 g5)
  clear hm5 g5
  -- the slices behind the beginning
  obtain ⟨A8, hA8⟩ : ∃ X, advS A1 c1 n 2 = X := ⟨_, rfl⟩
  obtain ⟨A9, hA9⟩ : ∃ X, advS A2 c2 n 2 = X := ⟨_, rfl⟩
  obtain ⟨c8, hc8⟩ : ∃ X, c1 - n = X := ⟨_, rfl⟩
  obtain ⟨c9, hc9⟩ : ∃ X, c2 - n = X := ⟨_, rfl⟩
  obtain ⟨n8, hn8⟩ : ∃ X, n1 - n = X := ⟨_, rfl⟩
  obtain ⟨n9, hn9⟩ : ∃ X, n2 - n = X := ⟨_, rfl⟩
  have sl1 : ∀ W, (Instr.slice 23 (.slice A1 n1 c1) (some (.int .i64 (n : Int))) none none).run Tryz.prog W = .ok (.slice A8 n8 c8) W := sl_from Tryz.slCl Tryz.elCl size_cl rfl hA8 hn8 hc8 (by have := NL.out; omega) k1
  have sl2 : ∀ W, (Instr.slice 23 (.slice A2 n2 c2) (some (.int .i64 (n : Int))) none none).run Tryz.prog W = .ok (.slice A9 n9 c9) W := sl_from Tryz.slCl Tryz.elCl size_cl rfl hA9 hn9 hc9 (by have := NL.out; omega) k2
  have K8 : Hid (n8 ≤ c8) := Lib.hid (by omega)
  have K9 : Hid (n9 ≤ c9) := Lib.hid (by omega)
  have B8 : Hid (n8 ≤ 100000 ∧ 1 ≤ n8) := Lib.hid (by have := NL.out; omega)
  have B9 : Hid (n9 ≤ 100000 ∧ 1 ≤ n9) := Lib.hid (by have := NL.out; omega)
  have N8 : Hid (n8 = (d.drop n).length) := Lib.hid (by rw [List.length_drop, ← N1.out]; omega)
  have N9 : Hid (n9 = (e.drop n).length) := Lib.hid (by rw [List.length_drop, ← N2.out]; omega)
  have R8 : Hid (RdCl w w.heap.size A8 (d.drop n)) := Lib.hid (H1.out.from hA8 (by have := NL.out; have := N1.out; omega) (by have := N1.out; omega))
  have R9 : Hid (RdCl w w.heap.size A9 (e.drop n)) := Lib.hid (H2.out.from hA9 (by have := NL.out; have := N2.out; omega) (by have := N2.out; omega))
  have SD8 : Hid (∀ x ∈ d.drop n, x.c.s.length ≤ 64 ∧ riseA x.c.s = true) := Lib.hid (fun x hx => SD.out x (List.mem_of_mem_drop hx))
  have SE9 : Hid (∀ x ∈ e.drop n, x.c.s.length ≤ 64 ∧ riseA x.c.s = true) := Lib.hid (fun x hx => SE.out x (List.mem_of_mem_drop hx))
  have G8 : Hid (∀ x ∈ d.drop n, x.c.s.length ≤ x.cs ∧ x.cs ≤ maxLen) := Lib.hid (fun x hx => G1.out x (List.mem_of_mem_drop hx))
  have HDM' : Hid (diffM (clsOf d) (clsOf e) = retsM (mkDelete (tellM (mkRetain Mk.new n []) (clsOf ((e.drop n).take (n9 - endD (clsOf (d.drop n)) (clsOf (e.drop n)))))) ((n8 : Int) - (endD (clsOf (d.drop n)) (clsOf (e.drop n)) : Nat)))
      ((clsOf ((d.drop n).drop (n8 - endD (clsOf (d.drop n)) (clsOf (e.drop n))))).zip (clsOf ((e.drop n).drop (n9 - endD (clsOf (d.drop n)) (clsOf (e.drop n))))))) := Lib.hid (by
    have h8 : n8 = (clsOf (d.drop n)).length := by rw [clsOf_len]; exact N8.out
    have h9 : n9 = (clsOf (e.drop n)).length := by rw [clsOf_len]; exact N9.out
    rw [clsOf_drop (d.drop n), clsOf_drop (e.drop n), clsOf_take (e.drop n), h8, h9, clsOf_drop d, clsOf_drop e]
    exact HDM.out)
  clear hA8 hA9 hc8 hc9 hn8 hn9 SD SE G1 N1 N2 H1 H2 Q1 Q2 HDM BL NL
  have EL : Hid (1 ≤ endD (clsOf (d.drop n)) (clsOf (e.drop n)) ∧ endD (clsOf (d.drop n)) (clsOf (e.drop n)) ≤ n8 ∧ endD (clsOf (d.drop n)) (clsOf (e.drop n)) ≤ n9) := Lib.hid (by
    have h1 : clsOf (d.drop n) ≠ [] := fun h => by have := congrArg List.length h; rw [clsOf_len] at this; have := N8.out; have := B8.out; simp at *; omega
    have h2 : clsOf (e.drop n) ≠ [] := fun h => by have := congrArg List.length h; rw [clsOf_len] at this; have := N9.out; have := B9.out; simp at *; omega
    have := endD_le h1 h2
    rw [clsOf_len, clsOf_len, ← N8.out, ← N9.out] at this
    exact this)
  generalize d.drop n = d8 at *
  generalize e.drop n = e9 at *
  go_wp2_with (fail)
  go_quiet (fail)
  obtain ⟨F5, mk5, low5, y5⟩ := MI5.out
  have MI6 := Lib.hid (MkIn.more low5 y5 mk5 (ext_drew _ nq))
  have Y6 := Lib.hid (ext_trans y5 (ext_drew _ nq))
  clear MI5 mk5 low5 y5 F5
  generalize World.drewN w5 nq = w6 at *
  go_wp2_with (go_at_call 96; refine Hid.out ?_)
  refine Lib.hid ?_
  refine (end_any A8 A9 n8 n9 c8 c9 d8 e9 w6 N8.out N9.out (R8.out.ext Y6.out).1 (R9.out.ext Y6.out).1 (by have := B8.out; omega) (by have := B9.out; omega) B8.out.2 B9.out.2).mono ?_
  generalize endD (clsOf d8) (clsOf e9) = k at *
  rintro r w7 ⟨rfl, q7, rfl⟩
  obtain ⟨F6, mk6, low6, y6⟩ := MI6.out
  have MI7 := Lib.hid (MkIn.more low6 y6 mk6 (ext_drew _ q7))
  have Y7 := Lib.hid (ext_trans y6 (ext_drew _ q7))
  clear MI6 mk6 low6 y6 F6 Y6
  generalize World.drewN w6 q7 = w7 at *
  obtain ⟨na, hna⟩ : ∃ X, n9 - k = X := ⟨_, rfl⟩
  obtain ⟨nb, hnb⟩ : ∃ X, n8 - k = X := ⟨_, rfl⟩
  have wa : wrap64 ((n9 : Int) - (k : Int)) = (na : Int) := by
    rw [show (n9 : Int) - (k : Int) = (na : Int) by have := EL.out; omega]; exact w64_in _ (by have := B9.out; omega)
  have wb' : wrap64 ((n8 : Int) - (k : Int)) = (nb : Int) := by
    rw [show (n8 : Int) - (k : Int) = (nb : Int) by have := EL.out; omega]; exact w64_in _ (by have := B8.out; omega)
  have sl3 : ∀ W, (Instr.slice 23 (.slice A9 n9 c9) none (some (.int .i64 (na : Int))) none).run Tryz.prog W = .ok (.slice A9 na c9) W := sl_to (l := na) Tryz.slCl Tryz.elCl size_cl rfl (by have := K9.out; omega)
  have NA : Hid (na = (e9.take na).length) := Lib.hid (by rw [List.length_take, ← N9.out]; omega)
  have RA := Lib.hid (R9.out.take na)
  have SA : Hid (∀ x ∈ e9.take na, x.c.s.length ≤ 64 ∧ riseA x.c.s = true) := Lib.hid (fun x hx => SE9.out x (List.mem_of_mem_take hx))
  have TB : Hid (∀ i, MkB (tellM (mkRetain Mk.new n []) ((clsOf (e9.take na)).take i)) (2 + na) 128) := Lib.hid (fun i => by
    have := tellM_B n ((clsOf (e9.take na)).take i) (fun c hc => by
      have hc := List.mem_of_mem_take hc
      unfold clsOf at hc
      obtain ⟨x, hx, rfl⟩ := List.mem_map.1 hc
      have := (SA.out x hx).1; omega)
    refine this.mono ?_ (Nat.le_refl _)
    have h2 : ((clsOf (e9.take na)).take i).length ≤ na := by
      rw [List.length_take, clsOf_len, ← NA.out]; exact Nat.min_le_right _ _
    omega)
  have HDM2 : Hid (diffM (clsOf d) (clsOf e) = retsM (mkDelete (tellM (mkRetain Mk.new n []) (clsOf (e9.take na))) (nb : Int)) ((clsOf (d8.drop nb)).zip (clsOf (e9.drop na)))) := Lib.hid (by
    rw [← hna, ← hnb]
    rw [show ((n8 - k : Nat) : Int) = (n8 : Int) - (k : Int) by have := EL.out; omega]
    exact HDM'.out)
  have KE : Hid (k ≤ n8 ∧ k ≤ n9 ∧ n8 = nb + k ∧ n9 = na + k ∧ 1 ≤ k) := Lib.hid (by have := EL.out; omega)
  clear hna hnb HDM' EL
  go_wp2_with (fail)
  simp only [wa]
  go_loopg [12, 47] na (fun g cv iv wr => ∃ (i : Nat), i ≤ na ∧ g = na - i ∧ iv = .int .i64 (i : Int) ∧ MkIn w wr b (tellM (mkRetain Mk.new n []) ((clsOf (e9.take na)).take i)))
  case atStart => exact ⟨0, by omega, rfl, rfl, MI7.out⟩
  case round =>
    obtain ⟨i, hi, hg, rfl, F', hm, low, y⟩ := hrel
    have HG := Lib.hid hg
    have HM := Lib.hid hm
    have LOW := Lib.hid low
    clear hg hm low MI7 Y7
    by_cases hlt : i < na
    · clear HDM2
      have hl1 : i < (e9.take na).length := by have := NA.out; omega
      obtain ⟨ad, x, rfl, had, _, hx, hc1⟩ := (RA.out.ext y).1.el hl1
      have hxm := List.mem_of_getElem? hx
      have hxc : (clsOf (e9.take na))[i]? = some x.c := clsOf_at hx
      have HT : Hid (tellM (mkRetain Mk.new n []) ((clsOf (e9.take na)).take (i + 1)) = mkInsert (tellM (mkRetain Mk.new n []) ((clsOf (e9.take na)).take i)) [x.c.r] x.c.s) := Lib.hid (by rw [List.take_add_one, hxc]; exact tellM_snoc _ _ _)
      have RS := Lib.hid ((RA.out.2 x hxm).ext y)
      have SL := Lib.hid (SA.out x hxm).1
      have KB := Lib.hid (TB.out i)
      have BN := Lib.hid (show na ≤ 100000 by have := B9.out; have := KE.out; omega)
      obtain ⟨⟨r, s'⟩, As, cs⟩ := x
      obtain ⟨z0, z1⟩ := cl_cells hc1
      clear hx hxm hxc hl1 hc1 had
      have ya := ext_alloc wr (.cells #[.int .i32 r, .slice As s'.length cs] 71)
      have yb := ext_alloc (wr.alloc (.cells #[.int .i32 r, .slice As s'.length cs] 71)) (.cells #[.int .i32 r] 21)
      have Y := Lib.hid (ext_trans ya yb)
      have hw2 : IntKind.i64.wrap ((i:Int) + 1) = (i : Int) + 1 := IntWalk.i64_in _ (by have := BN.out; omega)
      clear ya yb
      go_wp2_with (go_at_call 59; refine Hid.out ?_)
      refine Lib.hid ?_
      refine (mkInsert_any b _ As 1 1 s'.length cs [r] s' _ F' _ (HM.out.below Y.out) rfl rfl (by rw [World.size_alloc]; exact rd_one_at (enc := encI32) (size := 1) (wr.alloc (.cells #[.int .i32 r, .slice As s'.length cs] 71)) 21 r rfl (by simp)) (RS.out.ext Y.out) (by omega) (by have := SL.out; omega) (by have := KB.out.len; have := BN.out; omega)
        (fun o ho => by have := KB.out.prt o (List.mem_append_right _ ho); have := BN.out; omega)).mono ?_
      rintro r w9 ⟨rfl, F3, hm3, g3⟩
      rw [← HT.out] at hm3
      have MI9 := Lib.hid (MkIn.out LOW.out (ext_trans y Y.out) hm3 g3)
      clear hm3 g3
      go_wp2_with (fail)
      go_roundg (na - (i + 1))
      case measure => have := HG.out; omega
      case rel => exact ⟨i + 1, by omega, rfl, by go_num, MI9.out⟩
    · have hin : i = na := by omega
      subst hin
      have hm := HM.out
      rw [List.take_of_length_le (by rw [clsOf_len]; have := NA.out; omega)] at hm
      have TBE := TB.out i
      rw [List.take_of_length_le (by rw [clsOf_len]; have := NA.out; omega)] at TBE
      have TBD := Lib.hid (TBE.delete (nb : Int))
      have HM0 := Lib.hid hm
      clear hm TBE TB HM HG hlt hi
      go_wp2_with (go_at_call 58; refine Hid.out ?_)
      refine Lib.hid ?_
      refine (mkDelete_any b (nb : Int) wr F' _ HM0.out).mono ?_
      generalize mkDelete (tellM (mkRetain Mk.new n []) (clsOf (e9.take i))) (nb : Int) = M3 at *
      rintro r w9 ⟨rfl, F9, hm9, g9⟩
      have MI9 := Lib.hid (MkIn.out LOW.out y hm9 g9)
      clear hm9 g9 HM0 LOW y F' F9
      obtain ⟨Aa, hAa⟩ : ∃ X, advS A8 c8 nb 2 = X := ⟨_, rfl⟩
      obtain ⟨Ab, hAb⟩ : ∃ X, advS A9 c9 i 2 = X := ⟨_, rfl⟩
      obtain ⟨ca, hca⟩ : ∃ X, c8 - nb = X := ⟨_, rfl⟩
      obtain ⟨cb, hcb⟩ : ∃ X, c9 - i = X := ⟨_, rfl⟩
      have sl4 : ∀ W, (Instr.slice 23 (.slice A8 n8 c8) (some (.int .i64 (nb : Int))) none none).run Tryz.prog W = .ok (.slice Aa k ca) W := sl_from Tryz.slCl Tryz.elCl size_cl rfl hAa (by have := KE.out; omega) hca (by have := KE.out; omega) K8.out
      have sl5 : ∀ W, (Instr.slice 23 (.slice A9 n9 c9) (some (.int .i64 (i : Int))) none none).run Tryz.prog W = .ok (.slice Ab k cb) W := sl_from Tryz.slCl Tryz.elCl size_cl rfl hAb (by have := KE.out; omega) hcb (by have := KE.out; omega) K9.out
      have LA : Hid ((d8.drop nb).length = k) := Lib.hid (by rw [List.length_drop, ← N8.out]; have := KE.out; omega)
      have LB : Hid ((e9.drop i).length = k) := Lib.hid (by rw [List.length_drop, ← N9.out]; have := KE.out; omega)
      have Ra : Hid (RdCl w w.heap.size Aa (d8.drop nb)) := Lib.hid (R8.out.from hAa (by have := N8.out; have := KE.out; omega) (by have := N8.out; have := K8.out; omega))
      have Rb : Hid (RdCl w w.heap.size Ab (e9.drop i)) := Lib.hid (R9.out.from hAb (by have := N9.out; have := KE.out; omega) (by have := N9.out; have := K9.out; omega))
      have SDa : Hid (∀ x ∈ d8.drop nb, x.c.s.length ≤ 64 ∧ riseA x.c.s = true) := Lib.hid (fun x hx => SD8.out x (List.mem_of_mem_drop hx))
      have SEb : Hid (∀ x ∈ e9.drop i, x.c.s.length ≤ 64 ∧ riseA x.c.s = true) := Lib.hid (fun x hx => SE9.out x (List.mem_of_mem_drop hx))
      have Ga : Hid (∀ x ∈ d8.drop nb, x.c.s.length ≤ x.cs ∧ x.cs ≤ maxLen) := Lib.hid (fun x hx => G8.out x (List.mem_of_mem_drop hx))
      have BK : Hid (k ≤ 100000 ∧ i ≤ 100000) := Lib.hid (by have := B8.out; have := B9.out; have := KE.out; omega)
      clear hAa hAb hca hcb R8 R9 SD8 SE9 G8 RA SA NA
      go_wp2_with (fail)
      go_quiet (fail)
      generalize d8.drop nb = da at *
      generalize e9.drop i = eb at *
      obtain ⟨F9, mk9, low9, y9⟩ := MI9.out
      have MIa := Lib.hid (MkIn.more low9 y9 mk9 (ext_drew _ nq))
      clear MI9 mk9 low9 y9 F9
      generalize World.drewN w9 nq = wa9 at *
      have ZL : Hid (((clsOf da).zip (clsOf eb)).length = k) := Lib.hid (by rw [List.length_zip, clsOf_len, clsOf_len, LA.out, LB.out]; omega)
      have ZB : Hid (∀ j, j ≤ k → MkB (retsM M3 (((clsOf da).zip (clsOf eb)).take j)) (2 + i + 2 * j) 128) := Lib.hid (fun j hj => by
        have := retsM_B TBD.out (((clsOf da).zip (clsOf eb)).take j) (fun x hx => by
          have hx := List.mem_of_mem_take hx
          obtain ⟨h1, h2⟩ := List.of_mem_zip (a := x.1) (b := x.2) hx
          unfold clsOf at h1 h2
          obtain ⟨u, hu, e1⟩ := List.mem_map.1 h1
          obtain ⟨v, hv, e2⟩ := List.mem_map.1 h2
          rw [← e1, ← e2]
          have := diff_len (SDa.out u hu).2 (SEb.out v hv).2
          have := (SDa.out u hu).1
          have := (SEb.out v hv).1
          omega)
        rw [List.length_take, ZL.out, Nat.min_eq_left hj] at this
        exact this)
      go_wp2_with (fail)
      try simp only [wa, wb']
      go_loopg [13, 79] k (fun g xv iv wr => ∃ (j : Nat), j ≤ k ∧ g = k - j ∧ iv = .int .i64 (j : Int) ∧ MkIn w wr b (retsM M3 (((clsOf da).zip (clsOf eb)).take j)))
      case atStart => exact ⟨0, by omega, rfl, rfl, MIa.out⟩
      case round =>
        obtain ⟨j, hj, hg, rfl, F', hm, low, y⟩ := hrel
        have HG := Lib.hid hg
        have HM := Lib.hid hm
        have LOW := Lib.hid low
        clear hg hm low MIa
        by_cases hlt : j < k
        · obtain ⟨ad, x, rfl, had, _, hx, hc1⟩ := Ra.out.1.el (i := j) (by rw [LA.out]; exact hlt)
          obtain ⟨ad2, z, rfl, had2, _, hz, hc2⟩ := Rb.out.1.el (i := j) (by rw [LB.out]; exact hlt)
          have hxm := List.mem_of_getElem? hx
          have hzm := List.mem_of_getElem? hz
          have hzz : ((clsOf da).zip (clsOf eb))[j]? = some (x.c, z.c) := by rw [List.getElem?_zip_eq_some]; exact ⟨clsOf_at hx, clsOf_at hz⟩
          have HT : Hid (retsM M3 (((clsOf da).zip (clsOf eb)).take (j + 1)) = mkRetain (retsM M3 (((clsOf da).zip (clsOf eb)).take j)) 1 (diffP x.c.s z.c.s)) := Lib.hid (by rw [List.take_add_one, hzz]; exact retsM_snoc _ _ _)
          have RX := Lib.hid (Ra.out.2 x hxm)
          have RZ := Lib.hid (Rb.out.2 z hzm)
          have SX := Lib.hid (SDa.out x hxm)
          have SZ := Lib.hid (SEb.out z hzm)
          have GX := Lib.hid (Ga.out x hxm)
          have KB := Lib.hid (ZB.out j (by omega))
          have DL := Lib.hid (diff_len SX.out.2 SZ.out.2)
          obtain ⟨⟨r1, s1⟩, As1, cs1⟩ := x
          obtain ⟨⟨r2, s2⟩, As2, cs2⟩ := z
          have HC1 := Lib.hid hc1
          have HC2 := Lib.hid hc2
          have SF : Hid (∀ v, Below w.heap.size w v → v.cell? { block := (ad.add (j * 2)).block, off := (ad.add (j * 2)).off + 1 } = some (.slice As1 s1.length cs1) ∧ v.cell? { block := (ad2.add (j * 2)).block, off := (ad2.add (j * 2)).off + 1 } = some (.slice As2 s2.length cs2)) := Lib.hid (fun v hv =>
            ⟨(cl_cells (HC1.out.keep (w' := v) fun q hq => hv.cell (by rw [hq, add_block]; exact had))).2, (cl_cells (HC2.out.keep (w' := v) fun q hq => hv.cell (by rw [hq, add_block]; exact had2))).2⟩)
          obtain ⟨u0, u1⟩ := SF.out wr y
          have hw2 : IntKind.i64.wrap ((j:Int) + 1) = (j : Int) + 1 := IntWalk.i64_in _ (by have := BK.out; omega)
          have hlt' : (j : Int) < (k : Int) := by omega
          have Y := Lib.hid y
          clear hx hz hxm hzm hzz hc1 hc2 had had2
          go_wp2_with (fail)
          go_region_held3 (fun w' => w'.cell? { block := (ad.add (j * 2)).block, off := (ad.add (j * 2)).off + 1 } = some (.slice As1 s1.length cs1) ∧ w'.cell? { block := (ad2.add (j * 2)).block, off := (ad2.add (j * 2)).off + 1 } = some (.slice As2 s2.length cs2))
            (go_keep) (first
              | (go_at_call 97
                 with_reducible refine (diff_any As1 As2 s1.length s2.length cs1 cs2 s1 s2 wr.drew rfl rfl (RX.out.ext (up_drew Y.out)) (RZ.out.ext (up_drew Y.out)) (by have := SX.out.1; omega) (by have := SZ.out.1; omega) GX.out.1 GX.out.2).mono ?_
                 rintro r wd ⟨A3, k3, rfl, o3, y3⟩
                 have O3 := Lib.hid o3
                 have Y3 := Lib.hid (ext_trans (up_drew Y.out) y3)
                 have YD := Lib.hid y3
                 obtain ⟨d0, d1⟩ := SF.out _ Y3.out
                 clear o3 y3)
              | (go_at_call 60
                 with_reducible refine (mkRetain_any b A3 1 (diffP s1 s2).length k3 (diffP s1 s2) wd F' (retsM M3 (((clsOf da).zip (clsOf eb)).take j)) ((HM.out.below (up_drew (Below.refl _ _))).below YD.out) rfl (O3.out.rd Ch.enc_len) (O3.out.offF Ch.enc_len rfl (fun k hk hF => by have := (O3.out.wb_lt k hk).1; have := HM.out.lt k hF; simp at *; omega)) (by have := DL.out; have := SX.out.1; have := SZ.out.1; omega)
                    (by have := KB.out.len; have := BK.out; omega) (fun o ho => by have := (KB.out.gap.2 o ho).2.2; omega)).mono ?_
                 rintro r we ⟨rfl, F4, hm4, g4⟩
                 have MI4 := Lib.hid (MkIn.out LOW.out Y3.out hm4 g4)
                 obtain ⟨_, _, _, Y4⟩ := MI4.out
                 obtain ⟨e0, e1⟩ := SF.out _ Y4))
          rw [← HT.out] at MI4
          go_wp2_with (fail)
          go_roundg (k - (j + 1))
          case measure => have := HG.out; omega
          case rel => exact ⟨j + 1, by omega, rfl, by go_num, MI4.out⟩
        · have hjk : j = k := by omega
          subst hjk
          have hm := HM.out
          rw [List.take_of_length_le (by rw [ZL.out]; omega), ← HDM2.out] at hm
          have KB := ZB.out j (by omega)
          rw [List.take_of_length_le (by rw [ZL.out]; omega), ← HDM2.out] at KB
          have HM1 := Lib.hid hm
          have KB1 := Lib.hid KB
          have hlt' : ¬ (j : Int) < (j : Int) := by omega
          clear hm KB ZB
          go_wp2_with (go_at_call 63; refine Hid.out ?_)
          refine Lib.hid ?_
          refine (mkOps_any b wr F' _ HM1.out (by have := KB1.out.len; have := BK.out; omega) (fun o ho => by have := KB1.out.gap.2 o ho; have := BK.out; omega)).mono ?_
          intro r wz hN
          obtain ⟨A2, c2, x2, rfl, o1, o2, o3, o4⟩ := hN.late y
          have OO := Lib.hid (And.intro o1 (And.intro o2 (And.intro o3 o4)))
          clear o1 o2 o3 o4 hN
          go_wp2_with (fail)
          refine bodyPost_ret (v := .tuple #[.slice A2 x2.length c2, .int .i64 0]) (by simp [results, Tryz.results49, go_sem]) rfl ?_
          exact ⟨A2, c2, x2, rfl, OO.out.1, OO.out.2.1, OO.out.2.2.1, OO.out.2.2.2⟩
end Go.Proofs.YtnppoifgfehpfaaGreatDoor
/- The walk of invert.Invert at deltas that fit. Printed by wip/gen_invw.py. -/
namespace Go.Proofs.YtnppoifgfehpfaaGreatDoor
open Go.RowKit
set_option linter.unusedVariables false
set_option linter.unusedSimpArgs false

/-- a maker that this call has made, and a box beside it -/
def MkIn2 (w wr : World) (b : Nat) (m : Mk) (bo : Nat) (ob : Obj) : Prop :=
  ∃ F, Mkr wr F b m ∧ (∀ k, F k → w.heap.size ≤ k) ∧ Below w.heap.size w wr ∧ ¬ F bo ∧ wr.heap[bo]? = some ob
theorem MkIn2.out {w wr w2 : World} {b bo : Nat} {m2 : Mk} {F F2 : Nat → Prop} {ob : Obj} (hF : ∀ k, F k → w.heap.size ≤ k) (y : Below w.heap.size w wr) (hn : ¬ F bo) (hb : wr.heap[bo]? = some ob) (h2 : Mkr w2 F2 b m2) (g : Grow wr F w2 F2) : MkIn2 w w2 b m2 bo ob :=
  ⟨F2, h2, g.low hF y.size, y.trans (g.below hF y.size), g.out (lt_of_some hb) hn, (g.block bo (lt_of_some hb) hn).trans hb⟩
theorem box_5 {w : World} {b : Nat} {t : TypeId} {c0 c1 c2 c3 c4 : Value} (h : w.heap[b]? = some (.cells #[c0, c1, c2, c3, c4] t (0, 0))) : w.cell? ⟨b, 0, none⟩ = some c0 ∧ w.cell? ⟨b, 1, none⟩ = some c1 ∧ w.cell? ⟨b, 2, none⟩ = some c2 ∧ w.cell? ⟨b, 3, none⟩ = some c3 ∧ w.cell? ⟨b, 4, none⟩ = some c4 := by
  simp [World.cell?, h]
/-- units of one op, one by one -/
theorem invU_reps_d (l : List Ky) (k : Nat) (rest : List Un) (c : Cl) (d : List Cl) : invU l (List.replicate (k + 1) .del ++ rest) (c :: d) = .ins c.r c.s :: invU l (List.replicate k .del ++ rest) d := rfl
theorem invU_reps_r (l : List Ky) (k : Nat) (p : List Ch) (rest : List Un) (c : Cl) (d : List Cl) : invU l (List.replicate (k + 1) (.ret p) ++ rest) (c :: d) = .ret (invC l c p) :: invU l (List.replicate k (.ret p) ++ rest) d := rfl
theorem invU_inss' (l : List Ky) (s : List At) (rest : List Un) (d : List Cl) : ∀ r : List Int, invU l (r.map (fun r => Un.ins r s) ++ rest) d = List.replicate r.length .del ++ invU l rest d
  | [] => rfl
  | a :: r => by
    show .del :: invU l (r.map (fun r => Un.ins r s) ++ rest) d = _
    rw [invU_inss' l s rest d r, List.length_cons, List.replicate_succ]; rfl
theorem len_left {us vs T : List Un} (h : us ++ vs = T) : us.length ≤ T.length := by rw [← h, List.length_append]; omega

set_option maxRecDepth 100000 in
set_option maxHeartbeats 12800000 in
theorem invertOk_any (s : Nat) (l : List Ky) (A1 Ax : Option Addr) (n1 c1 nx cx : Nat) (d : List ClS) (x : List OpS) (w : World) (hD : DocAt w A1 n1 c1 d) (hX : OpsAt w Ax nx x) (hS : Sch w s l) (hl : l.length ≤ 64)
    (hT : Lib.Utf8Tabs 1 2 w) (hz : applyN l x (clsOf d) 536870912 = 0) :
    Calls Tryz.prog 18 #[.pointer (some ⟨s, 0, none⟩), .slice A1 n1 c1, .slice Ax nx cx] w (NewOpOk (mkU (invU l (units (osOf x)) (clsOf d))) w) := by
  obtain ⟨hmd, hfo⟩ := applyN_zero hz
  obtain ⟨hgood, hfit⟩ := fits_units (most := 536870912) (by have := hX.len; have := hX.b; omega) (by omega) hfo
  obtain ⟨_, hok, _⟩ := mayD_iff.1 hmd
  have IS := Lib.hid (good_isOp hgood)
  have MU := Lib.hid (good_mU hgood)
  have TK : Hid (takesU (units (osOf x)) ≤ n1) := Lib.hid (by have := hfit.t; rw [hD.clen] at this; exact this)
  have TL : Hid ((units (osOf x)).length ≤ 1073741824) := Lib.hid (by have h1 := units_length (us := units (osOf x)); have h2 := hfit.tb; have h3 := hfit.mb; omega)
  have OKC : Hid (∀ z ∈ d, okCl l z.c ∧ okVr z.c.s) := Lib.hid (fun z hz => ⟨hok _ (mem_cls hz), (hD.vr z hz).2⟩)
  have OKU : Hid (∀ u ∈ invU l (units (osOf x)) (clsOf d), okUn u) := Lib.hid (inv_okUn _ _ MU.out (fun c hc => by
    obtain ⟨z, hz, rfl⟩ := cls_mem hc
    exact ⟨(OKC.out z hz).1.2.1, (OKC.out z hz).2⟩))
  have DD := Lib.hid hD
  have XX := Lib.hid hX
  have HS := Lib.hid hS
  have HZ := Lib.hid hz
  have HN := Lib.hid hX.len
  have HB : Hid (nx ≤ 1000000 ∧ n1 ≤ 20000) := Lib.hid ⟨hX.b, hD.b⟩
  obtain ⟨T, hT0⟩ : ∃ X, invU l (units (osOf x)) (clsOf d) = X := ⟨_, rfl⟩
  have TT := Lib.hid hT0
  rw [hT0] at OKU ⊢
  have TLEN : Hid (T.length ≤ 1073741824) := Lib.hid (by rw [← TT.out]; have := inv_len l (units (osOf x)) (clsOf d); have := TL.out; omega)
  clear hD hX hS hz hmd hfo hgood hfit hok hT0
  go_enter Tryz.func18, Tryz.ntmps18
  go_wp2_with (fail)
  go_step3
  go_wp2_with (go_at_call 21; refine Hid.out ?_)
  refine Lib.hid ?_
  refine (applyD_any s l A1 Ax n1 c1 nx cx d x 536870912 w DD.out.len XX.out.len DD.out.cap (by have := HB.out; omega) (by have := HB.out; omega) DD.out.rd XX.out.rd HS.out (fun z hz => ⟨by have := (DD.out.vr z hz).1; omega, (DD.out.vr z hz).2⟩) DD.out.caps XX.out.ok hT).mono ?_
  rintro e w1 ⟨y, ⟨hne, _⟩ | ⟨_, A2, c2, M, rfl, _, _, _⟩⟩
  · exact absurd HZ.out hne
  have Y1 := Lib.hid y
  clear y
  go_wp2_with (go_at_call 57; refine Hid.out ?_)
  refine Lib.hid ?_
  refine (mkNew_any w1).mono ?_
  rintro e w2 ⟨rfl, hm, y2⟩
  have HM2 := Lib.hid hm
  have Y2 := Lib.hid (ext_trans Y1.out y2)
  obtain ⟨b, hb⟩ : ∃ b, w1.heap.size = b := ⟨_, rfl⟩
  rw [hb] at HM2
  have HBB : Hid (w.heap.size ≤ b) := Lib.hid (by rw [← hb]; exact Y1.out.size)
  clear y2 hm
  rw [hb]
  clear hb
  have MI2 : Hid (MkIn w w2 b Mk.new) := Lib.hid ⟨_, HM2.out, (fun k hk => by have := HBB.out; omega), Y2.out⟩
  clear HM2 Y1
  go_wp2_with (fail)
  go_step3
  go_wp2_with (fail)
  go_loopg [1, 28] nx (fun g dv iv wr => ∃ (i k : Nat) (m : Mk) (us : List Un) (K : Nat) (A' : Option Addr) (n' c' : Nat), i ≤ nx ∧ g = nx - i ∧ iv = .int .i64 (i : Int) ∧ dv = .slice A' n' c' ∧ Hid (RdCl w w.heap.size A' (d.drop k) ∧ n' + k = n1 ∧ n' ≤ c') ∧
      Hid (Told m us ∧ MkB m K 64 ∧ K ≤ 2 * k ∧ us ++ invU l (units (osOf (x.drop i))) ((clsOf d).drop k) = T ∧ takesU (units (osOf (x.drop i))) + k ≤ n1) ∧ MkIn w wr b m)
  case atStart => exact ⟨0, 0, Mk.new, [], 0, A1, n1, c1, by omega, rfl, rfl, rfl, Lib.hid ⟨DD.out.rd, rfl, DD.out.cap⟩, Lib.hid ⟨Told.new, MkB.new 64, by omega, TT.out, by have := TK.out; exact this⟩, MI2.out⟩
  case round =>
    obtain ⟨i, k, m, us, K, A', n', c', hi, hg, rfl, rfl, HR, HQ, hmk⟩ := hrel
    have HG := Lib.hid hg
    clear hg MI2
    by_cases hlt : i < nx
    · have hl1 : i < x.length := by have := HN.out; omega
      obtain ⟨F, hm, low, y⟩ := hmk
      have HM := Lib.hid hm
      have LOW := Lib.hid low
      have Y := Lib.hid y
      clear hm low y
      obtain ⟨ad, o, rfl, had, hdrop, hx1, hc1⟩ := (XX.out.rd.ext Y.out).1.el hl1
      have hom := List.mem_of_getElem? hx1
      have RO := Lib.hid (XX.out.rd.2 o hom)
      have IOq := Lib.hid (IS.out o hom)
      have MO : Hid (∀ u ∈ unitsO o.o, mU l u) := Lib.hid (fun u hu => MU.out u (units_mem.2 ⟨o, hom, hu⟩))
      have OO := Lib.hid (XX.out.ok o hom)
      have HU : Hid (units (osOf (x.drop i)) = unitsO o.o ++ units (osOf (x.drop (i + 1)))) := Lib.hid (by rw [hdrop]; rfl)
      obtain ⟨rest, hrest⟩ : ∃ X, units (osOf (x.drop (i + 1))) = X := ⟨_, rfl⟩
      rw [hrest] at HU
      have HREST := Lib.hid hrest
      obtain ⟨⟨kk, nn, r, s', p⟩, Ar, cr, As, cs, Ap, cp⟩ := o
      obtain ⟨z0, z1, z2, z3, z4⟩ := op_cells hc1
      have yb := ext_alloc wr (.cells #[.int .u8 kk, .int .i64 nn, .slice Ar r.length cr, .slice As s'.length cs, .slice Ap p.length cp] 54)
      have hbx := heap_alloc_new wr (.cells #[.int .u8 kk, .int .i64 nn, .slice Ar r.length cr, .slice As s'.length cs, .slice Ap p.length cp] 54)
      obtain ⟨q0, q1, q2, q3, q4⟩ := box_5 hbx
      have YB := Lib.hid yb
      have HBX := Lib.hid hbx
      have hw2 : IntKind.i64.wrap ((i:Int) + 1) = (i : Int) + 1 := IntWalk.i64_in _ (by have := HB.out; omega)
      have hlt' : (i : Int) < (nx : Int) := by omega
      clear hx1 hom hl1 hc1 had yb hbx hdrop hrest
      by_cases hk2 : kk = 2
      · -- an insert: so many are deleted
        subst hk2
        go_wp2_with (go_at_call 58; refine Hid.out ?_)
        refine Lib.hid ?_
        refine (mkDelete_any b (r.length : Int) _ F m (HM.out.below YB.out)).mono ?_
        rintro e w3 ⟨rfl, F3, hm3, g3⟩
        have MI3 := Lib.hid (MkIn.out LOW.out (ext_trans Y.out YB.out) hm3 g3)
        clear hm3 g3
        go_wp2_with (fail)
        go_roundg (nx - (i + 1))
        case measure => have := HG.out; omega
        case rel =>
          refine ⟨i + 1, k, _, us ++ List.replicate r.length .del, K, A', n', c', by omega, rfl, by go_num, rfl, HR, Lib.hid ?_, MI3.out⟩
          obtain ⟨t1, t2, t3, t4, t5⟩ := HQ.out
          have hu : unitsO (⟨2, nn, r, s', p⟩ : Opd) = r.map (fun r => Un.ins r s') := rfl
          rw [HU.out, hu, invU_inss'] at t4
          rw [HU.out, hu, takesU_append, takesU_ins] at t5
          rw [HREST.out]
          have t4' : us ++ List.replicate r.length .del ++ invU l rest ((clsOf d).drop k) = T := by rw [List.append_assoc]; exact t4
          have hlen := len_left t4'
          rw [List.length_append, List.length_replicate] at hlen
          refine ⟨?_, t2.delete _, t3, t4', by omega⟩
          have := t1.delete (r.length : Int) (by have := TLEN.out; omega) (by have := TLEN.out; omega)
          simpa using this
      by_cases hk3 : kk = 3
      · subst hk3
        clear hk2
        have hk2' : ((3 : Int) == 2) = false := rfl
        have NN : Hid (1 ≤ nn) := Lib.hid ((opD_of IOq.out rfl).2)
        obtain ⟨N, hN⟩ : ∃ X : Nat, nn = (X : Int) := ⟨nn.toNat, by have := NN.out; omega⟩
        subst hN
        have hu : unitsO (⟨3, (N : Int), r, s', p⟩ : Opd) = List.replicate N .del := by
          unfold unitsO
          rw [if_neg (show ¬ (3 : Int) = 2 by decide), if_neg (show ¬ (3 : Int) = 1 by decide)]; rfl
        have HU2 : Hid (units (osOf (x.drop i)) = List.replicate N .del ++ rest) := Lib.hid (by rw [HU.out, hu])
        have NK : Hid (N + k ≤ n1 ∧ N ≤ n' ∧ takesU rest + (k + N) ≤ n1) := Lib.hid (by
          have h1 := HQ.out.2.2.2.2
          have h2 := HR.out.2.1
          rw [HU2.out, takesU_append, takesU_del] at h1
          omega)
        have QQ := Lib.hid HQ.out.2.2.2.1
        rw [HU2.out] at QQ
        clear hu
        have sl1 : ∀ W, (Instr.slice 23 (.slice A' n' c') none (some (.int .i64 (N : Int))) none).run Tryz.prog W = .ok (.slice A' N c') W := sl_to (l := N) Tryz.slCl Tryz.elCl size_cl rfl (by have := NK.out; have := HR.out; omega)
        obtain ⟨A'', hA''⟩ : ∃ X, advS A' c' N 2 = X := ⟨_, rfl⟩
        obtain ⟨c'', hc''⟩ : ∃ X, c' - N = X := ⟨_, rfl⟩
        obtain ⟨n'', hn''⟩ : ∃ X, n' - N = X := ⟨_, rfl⟩
        have sl2 : ∀ W, (Instr.slice 23 (.slice A' n' c') (some (.int .i64 (N : Int))) none none).run Tryz.prog W = .ok (.slice A'' n'' c'') W := sl_from Tryz.slCl Tryz.elCl size_cl rfl hA'' hn'' hc'' (by have := NK.out; omega) HR.out.2.2
        have HR2 : Hid (RdCl w w.heap.size A'' (d.drop (k + N)) ∧ n'' + (k + N) = n1 ∧ n'' ≤ c'') := Lib.hid (by
          have h1 := HR.out
          have h2 := NK.out
          have hl : (d.drop k).length = n' := by rw [List.length_drop, ← DD.out.len]; omega
          have h3 := h1.1.from hA'' (by rw [hl]; omega) (by rw [hl]; exact h1.2.2)
          rw [List.drop_drop] at h3
          exact ⟨h3, by omega, by omega⟩)
        have RC : Hid (RdCl w w.heap.size A' ((d.drop k).take N)) := Lib.hid (HR.out.1.take N)
        have LC : Hid (((d.drop k).take N).length = N) := Lib.hid (by rw [List.length_take, List.length_drop, ← DD.out.len]; have := NK.out; omega)
        obtain ⟨bo, hbo⟩ : ∃ X, wr.heap.size = X := ⟨_, rfl⟩
        have NF : Hid (¬ F bo) := Lib.hid (fun h => by have := HM.out.lt bo h; omega)
        rw [hbo] at HBX q0 q1 q2 q3 q4
        have M0 : Hid (MkIn2 w (wr.alloc (.cells #[.int .u8 3, .int .i64 (N : Int), .slice Ar r.length cr, .slice As s'.length cs, .slice Ap p.length cp] 54)) b m bo (.cells #[.int .u8 3, .int .i64 (N : Int), .slice Ar r.length cr, .slice As s'.length cs, .slice Ap p.length cp] 54 (0, 0))) := Lib.hid ⟨F, HM.out.below YB.out, LOW.out, ext_trans Y.out YB.out, NF.out, HBX.out⟩
        clear hA'' hc'' hn''
        go_wp2_with (fail)
        try rw [hbo]
        go_loopg [45] N (fun g jv wi => ∃ (j : Nat) (m' : Mk) (us' : List Un) (K' : Nat), j ≤ N ∧ g = N - j ∧ jv = .int .i64 (j : Int) ∧ Hid (Told m' us' ∧ MkB m' K' 64 ∧ K' ≤ 2 * (k + j) ∧ us' ++ invU l (List.replicate (N - j) .del ++ rest) ((clsOf d).drop (k + j)) = T) ∧
            MkIn2 w wi b m' bo (.cells #[.int .u8 3, .int .i64 (N : Int), .slice Ar r.length cr, .slice As s'.length cs, .slice Ap p.length cp] 54 (0, 0)))
        case atStart => exact ⟨0, m, us, K, by omega, rfl, rfl, Lib.hid ⟨HQ.out.1, HQ.out.2.1, HQ.out.2.2.1, QQ.out⟩, M0.out⟩
        case round =>
          obtain ⟨j, m', us', K', hj, hgj, rfl, HQ', F', hm', low', y', nf', hbx'⟩ := hrel
          have HGJ := Lib.hid hgj
          have HM' := Lib.hid hm'
          have LOW' := Lib.hid low'
          have Y' := Lib.hid y'
          have NF' := Lib.hid nf'
          have HBX' := Lib.hid hbx'
          clear hgj hm' low' y' nf' hbx' M0
          by_cases hltj : j < N
          · obtain ⟨ae, z, rfl, hae, _, hz1, hc2⟩ := (RC.out.ext Y'.out).1.el (i := j) (by rw [LC.out]; exact hltj)
            have hzm := List.mem_of_getElem? hz1
            have hzd : z ∈ d := List.mem_of_mem_drop (List.mem_of_mem_take hzm)
            have RZ := Lib.hid ((RC.out.ext Y'.out).2 z hzm)
            have OZ := Lib.hid (OKC.out z hzd)
            have CZ := Lib.hid (DD.out.caps z hzd)
            have HNX : Hid ((clsOf d).drop (k + j) = z.c :: (clsOf d).drop (k + (j + 1))) := Lib.hid (by
              have h1 : d[k + j]? = some z := by
                rw [List.getElem?_take_of_lt hltj, List.getElem?_drop] at hz1; exact hz1
              have h2 := clsOf_at h1
              obtain ⟨h3, h4⟩ := List.getElem?_eq_some_iff.1 h2
              rw [List.drop_eq_getElem_cons h3, h4, Nat.add_assoc])
            obtain ⟨⟨cr1, cs1⟩, Ac, cc⟩ := z
            obtain ⟨t0, t1⟩ := cl_cells hc2
            have yc := ext_alloc wr (.cells #[.int .i32 cr1, .slice Ac cs1.length cc] 71)
            have hbc := heap_alloc_new wr (.cells #[.int .i32 cr1, .slice Ac cs1.length cc] 71)
            have YC := Lib.hid yc
            have hbo2 := (yc.block bo (lt_of_some HBX'.out)).trans HBX'.out
            obtain ⟨p0, p1, p2, p3, p4⟩ := box_5 hbo2
            have HBO2 := Lib.hid hbo2
            have HBC := Lib.hid hbc
            obtain ⟨v0, v1⟩ := box_cl hbc
            have hwj : IntKind.i64.wrap ((j:Int) + 1) = (j : Int) + 1 := IntWalk.i64_in _ (by have := NK.out; have := HB.out; omega)
            have hltj' : (j : Int) < (N : Int) := by omega
            have S64 : Hid (cs1.length ≤ 64) := Lib.hid (mayS_zero OZ.out.1.2.1).1
            have KB : Hid (K' ≤ 40000) := Lib.hid (by have := HQ'.out.2.2.1; have := NK.out; have := HB.out; omega)
            clear hz1 hzm hzd hc2 hae yc hbo2 hbc
            have yd := ext_alloc (wr.alloc (.cells #[.int .i32 cr1, .slice Ac cs1.length cc] 71)) (.cells #[.int .i32 cr1] 21)
            have YD := Lib.hid (ext_trans YC.out yd)
            clear yd
            go_wp2_with (go_at_call 59; refine Hid.out ?_)
            refine Lib.hid ?_
            refine (mkInsert_any b _ Ac 1 1 cs1.length cc [cr1] cs1 _ F' m' (HM'.out.below YD.out) rfl rfl (by rw [World.size_alloc]; exact rd_one_at (enc := encI32) (size := 1) (wr.alloc (.cells #[.int .i32 cr1, .slice Ac cs1.length cc] 71)) 21 cr1 rfl (by simp)) (RZ.out.ext YD.out) (by omega) (by have := S64.out; omega) (by have := HQ'.out.2.1.len; have := KB.out; omega)
              (fun o ho => by have := HQ'.out.2.1.prt o (List.mem_append_right _ ho); have := KB.out; omega)).mono ?_
            rintro e w9 ⟨rfl, F3, hm3, g3⟩
            have MI9 := Lib.hid (MkIn2.out LOW'.out (ext_trans Y'.out YD.out) NF'.out ((YD.out.block bo (lt_of_some HBX'.out)).trans HBX'.out) hm3 g3)
            clear hm3 g3
            go_wp2_with (fail)
            go_roundg (N - (j + 1))
            case measure => have := HGJ.out; omega
            case rel =>
              refine ⟨j + 1, _, us' ++ [.ins cr1 cs1], K' + 1, by omega, rfl, by go_num, Lib.hid ?_, MI9.out⟩
              obtain ⟨t1, t2, t3, t4⟩ := HQ'.out
              obtain ⟨q, hq⟩ : ∃ q, N - j = q + 1 := ⟨N - j - 1, by omega⟩
              rw [hq, HNX.out, invU_reps_d] at t4
              refine ⟨t1.insert [cr1] cs1, t2.insert [cr1] (by have := S64.out; exact this), by omega, ?_⟩
              rw [List.append_assoc, show N - (j + 1) = q by omega]
              exact t4
          · have hjN : j = N := by omega
            subst hjN
            have hltj' : ¬ (j : Int) < (j : Int) := by omega
            obtain ⟨p0, p1, p2, p3, p4⟩ := box_5 HBX'.out
            have MI9 : Hid (MkIn w wr b m') := Lib.hid ⟨F', HM'.out, LOW'.out, Y'.out⟩
            go_wp2_with (fail)
            go_roundg (nx - (i + 1))
            case measure => have := HG.out; omega
            case rel =>
              refine ⟨i + 1, k + j, m', us', K', A'', n'', c'', by omega, rfl, by go_num, rfl, HR2, Lib.hid ?_, MI9.out⟩
              obtain ⟨t1, t2, t3, t4⟩ := HQ'.out
              rw [Nat.sub_self] at t4
              rw [HREST.out]
              exact ⟨t1, t2, t3, t4, by have := NK.out; omega⟩
      · have hk1 : kk = 1 := by
          rcases isOp_kind IOq.out with h | h | h
          · exact absurd h hk2
          · exact absurd h hk3
          · exact h
        subst hk1
        clear hk2 hk3
        have NN : Hid (1 ≤ nn) := Lib.hid ((opR_of IOq.out rfl).2)
        obtain ⟨N, hN⟩ : ∃ X : Nat, nn = (X : Int) := ⟨nn.toNat, by have := NN.out; omega⟩
        subst hN
        have hu : unitsO (⟨1, (N : Int), r, s', p⟩ : Opd) = List.replicate N (.ret p) := by
          unfold unitsO
          rw [if_neg (show ¬ (1 : Int) = 2 by decide), if_pos rfl]; rfl
        have MP : Hid (mayP l p = 0) := Lib.hid (MO.out (.ret p) (by rw [hu]; exact List.mem_replicate.2 ⟨by have := NN.out; omega, rfl⟩))
        have HU2 : Hid (units (osOf (x.drop i)) = List.replicate N (.ret p) ++ rest) := Lib.hid (by rw [HU.out, hu])
        have NK : Hid (N + k ≤ n1 ∧ N ≤ n' ∧ takesU rest + (k + N) ≤ n1) := Lib.hid (by
          have h1 := HQ.out.2.2.2.2
          have h2 := HR.out.2.1
          rw [HU2.out, takesU_append, takesU_ret] at h1
          omega)
        have QQ := Lib.hid HQ.out.2.2.2.1
        rw [HU2.out] at QQ
        clear hu
        have sl1 : ∀ W, (Instr.slice 23 (.slice A' n' c') none (some (.int .i64 (N : Int))) none).run Tryz.prog W = .ok (.slice A' N c') W := sl_to (l := N) Tryz.slCl Tryz.elCl size_cl rfl (by have := NK.out; have := HR.out; omega)
        obtain ⟨A'', hA''⟩ : ∃ X, advS A' c' N 2 = X := ⟨_, rfl⟩
        obtain ⟨c'', hc''⟩ : ∃ X, c' - N = X := ⟨_, rfl⟩
        obtain ⟨n'', hn''⟩ : ∃ X, n' - N = X := ⟨_, rfl⟩
        have sl2 : ∀ W, (Instr.slice 23 (.slice A' n' c') (some (.int .i64 (N : Int))) none none).run Tryz.prog W = .ok (.slice A'' n'' c'') W := sl_from Tryz.slCl Tryz.elCl size_cl rfl hA'' hn'' hc'' (by have := NK.out; omega) HR.out.2.2
        have HR2 : Hid (RdCl w w.heap.size A'' (d.drop (k + N)) ∧ n'' + (k + N) = n1 ∧ n'' ≤ c'') := Lib.hid (by
          have h1 := HR.out
          have h2 := NK.out
          have hl : (d.drop k).length = n' := by rw [List.length_drop, ← DD.out.len]; omega
          have h3 := h1.1.from hA'' (by rw [hl]; omega) (by rw [hl]; exact h1.2.2)
          rw [List.drop_drop] at h3
          exact ⟨h3, by omega, by omega⟩)
        have RC : Hid (RdCl w w.heap.size A' ((d.drop k).take N)) := Lib.hid (HR.out.1.take N)
        have LC : Hid (((d.drop k).take N).length = N) := Lib.hid (by rw [List.length_take, List.length_drop, ← DD.out.len]; have := NK.out; omega)
        obtain ⟨bo, hbo⟩ : ∃ X, wr.heap.size = X := ⟨_, rfl⟩
        have NF : Hid (¬ F bo) := Lib.hid (fun h => by have := HM.out.lt bo h; omega)
        rw [hbo] at HBX q0 q1 q2 q3 q4
        have M0 : Hid (MkIn2 w (wr.alloc (.cells #[.int .u8 1, .int .i64 (N : Int), .slice Ar r.length cr, .slice As s'.length cs, .slice Ap p.length cp] 54)) b m bo (.cells #[.int .u8 1, .int .i64 (N : Int), .slice Ar r.length cr, .slice As s'.length cs, .slice Ap p.length cp] 54 (0, 0))) := Lib.hid ⟨F, HM.out.below YB.out, LOW.out, ext_trans Y.out YB.out, NF.out, HBX.out⟩
        clear hA'' hc'' hn''
        go_wp2_with (fail)
        try rw [hbo]
        go_loopg [45] N (fun g jv wi => ∃ (j : Nat) (m' : Mk) (us' : List Un) (K' : Nat), j ≤ N ∧ g = N - j ∧ jv = .int .i64 (j : Int) ∧ Hid (Told m' us' ∧ MkB m' K' 64 ∧ K' ≤ 2 * (k + j) ∧ us' ++ invU l (List.replicate (N - j) (.ret p) ++ rest) ((clsOf d).drop (k + j)) = T) ∧
            MkIn2 w wi b m' bo (.cells #[.int .u8 1, .int .i64 (N : Int), .slice Ar r.length cr, .slice As s'.length cs, .slice Ap p.length cp] 54 (0, 0)))
        case atStart => exact ⟨0, m, us, K, by omega, rfl, rfl, Lib.hid ⟨HQ.out.1, HQ.out.2.1, HQ.out.2.2.1, QQ.out⟩, M0.out⟩
        case round =>
          obtain ⟨j, m', us', K', hj, hgj, rfl, HQ', F', hm', low', y', nf', hbx'⟩ := hrel
          have HGJ := Lib.hid hgj
          have HM' := Lib.hid hm'
          have LOW' := Lib.hid low'
          have Y' := Lib.hid y'
          have NF' := Lib.hid nf'
          have HBX' := Lib.hid hbx'
          clear hgj hm' low' y' nf' hbx' M0
          by_cases hltj : j < N
          · obtain ⟨ae, z, rfl, hae, _, hz1, hc2⟩ := (RC.out.ext Y'.out).1.el (i := j) (by rw [LC.out]; exact hltj)
            have hzm := List.mem_of_getElem? hz1
            have hzd : z ∈ d := List.mem_of_mem_drop (List.mem_of_mem_take hzm)
            have RZ := Lib.hid ((RC.out.ext Y'.out).2 z hzm)
            have OZ := Lib.hid (OKC.out z hzd)
            have CZ := Lib.hid (DD.out.caps z hzd)
            have HNX : Hid ((clsOf d).drop (k + j) = z.c :: (clsOf d).drop (k + (j + 1))) := Lib.hid (by
              have h1 : d[k + j]? = some z := by
                rw [List.getElem?_take_of_lt hltj, List.getElem?_drop] at hz1; exact hz1
              have h2 := clsOf_at h1
              obtain ⟨h3, h4⟩ := List.getElem?_eq_some_iff.1 h2
              rw [List.drop_eq_getElem_cons h3, h4, Nat.add_assoc])
            obtain ⟨⟨cr1, cs1⟩, Ac, cc⟩ := z
            obtain ⟨t0, t1⟩ := cl_cells hc2
            have yc := ext_alloc wr (.cells #[.int .i32 cr1, .slice Ac cs1.length cc] 71)
            have hbc := heap_alloc_new wr (.cells #[.int .i32 cr1, .slice Ac cs1.length cc] 71)
            have YC := Lib.hid yc
            have hbo2 := (yc.block bo (lt_of_some HBX'.out)).trans HBX'.out
            obtain ⟨p0, p1, p2, p3, p4⟩ := box_5 hbo2
            have HBO2 := Lib.hid hbo2
            have HBC := Lib.hid hbc
            obtain ⟨v0, v1⟩ := box_cl hbc
            have hwj : IntKind.i64.wrap ((j:Int) + 1) = (j : Int) + 1 := IntWalk.i64_in _ (by have := NK.out; have := HB.out; omega)
            have hltj' : (j : Int) < (N : Int) := by omega
            have S64 : Hid (cs1.length ≤ 64) := Lib.hid (mayS_zero OZ.out.1.2.1).1
            have KB : Hid (K' ≤ 40000) := Lib.hid (by have := HQ'.out.2.2.1; have := NK.out; have := HB.out; omega)
            clear hz1 hzm hzd hc2 hae yc hbo2 hbc
            obtain ⟨bc, hbc0⟩ : ∃ X, wr.heap.size = X := ⟨_, rfl⟩
            rw [hbc0] at HBC v0 v1
            have SF : Hid (∀ v, Below (wr.alloc (.cells #[.int .i32 cr1, .slice Ac cs1.length cc] 71)).heap.size (wr.alloc (.cells #[.int .i32 cr1, .slice Ac cs1.length cc] 71)) v → v.cell? ⟨bo, 4, none⟩ = some (.slice Ap p.length cp) ∧ v.cell? ⟨bc, 0, none⟩ = some (.int .i32 cr1) ∧ v.cell? ⟨bc, 1, none⟩ = some (.slice Ac cs1.length cc)) := Lib.hid (fun v hv =>
              ⟨(box_5 ((hv.block bo (lt_of_some HBO2.out)).trans HBO2.out)).2.2.2.2, (box_cl ((hv.block bc (lt_of_some HBC.out)).trans HBC.out)).1, (box_cl ((hv.block bc (lt_of_some HBC.out)).trans HBC.out)).2⟩)
            obtain ⟨X, hX⟩ : ∃ X, partP l (cr1 == 10) p = X := ⟨_, rfl⟩
            have HX := Lib.hid hX
            have XL : Hid (X.length ≤ 64) := Lib.hid (by rw [← hX]; exact Nat.le_trans (List.length_filter_le _ _) (mayP_zero MP.out).1)
            obtain ⟨Q, hQ⟩ : ∃ Q, invertP cs1 X = Q := ⟨_, rfl⟩
            have HQI : Hid (invC l ⟨cr1, cs1⟩ p = Q) := Lib.hid (by unfold invC; rw [← hQ, ← hX])
            have HQ9 := Lib.hid hQ
            have QL : Hid (Q.length ≤ 64) := Lib.hid (by rw [← hQ]; exact Nat.le_trans (invert_len (by rw [← hX]; exact riseC_srt.2 (part_srt (riseC_srt.1 (mayP_zero MP.out).2.1)))) XL.out)
            clear hX hQ
            have NFC : Hid (¬ F' bc) := Lib.hid (fun h => by have := HM'.out.lt bc h; omega)
            have RISE : Hid (riseA cs1 = true) := Lib.hid (mayS_zero OZ.out.1.2.1).2.1
            have SR : Hid (Sch (wr.alloc (.cells #[.int .i32 cr1, .slice Ac cs1.length cc] 71)) s l) := Lib.hid (HS.out.ext (ext_trans Y'.out YC.out))
            have YR : Hid (Below w.heap.size w (wr.alloc (.cells #[.int .i32 cr1, .slice Ac cs1.length cc] 71))) := Lib.hid (ext_trans Y'.out YC.out)
            have PRR : Hid (RdCh w w.heap.size Ap p) := Lib.hid RO.out.2.2
            generalize hwv : wr.alloc (.cells #[.int .i32 cr1, .slice Ac cs1.length cc] 71) = wv at *
            go_wp2_with (fail)
            try rw [hbc0]
            try rw [hwv]
            go_region_held3 (fun w' => w'.cell? ⟨bo, 4, none⟩ = some (.slice Ap p.length cp) ∧ w'.cell? ⟨bc, 0, none⟩ = some (.int .i32 cr1) ∧ w'.cell? ⟨bc, 1, none⟩ = some (.slice Ac cs1.length cc))
              (go_keep) (first
                | (go_at_call 62
                   with_reducible refine (part_any s l (cr1 == 10) Ap p.length cp p wv.drew rfl ((PRR.out.ext YR.out).ext (up_drew (Below.refl _ _))) (by have := (mayP_zero MP.out).1; omega) (SR.out.ext (up_drew (Below.refl _ _)))).mono ?_
                   rw [HX.out]
                   rintro e wd ⟨A3, k3, rfl, o3, y3⟩
                   have O3 := Lib.hid o3
                   have YP := Lib.hid (ext_trans (up_drew (Below.refl _ _)) y3)
                   obtain ⟨d0, d1, d2⟩ := SF.out _ YP.out
                   clear o3 y3)
                | (go_at_call 61
                   with_reducible refine (invert_any Ac A3 cs1.length X.length cc k3 cs1 X wd RISE.out rfl rfl ((RZ.out.ext YC.out).ext YP.out) (O3.out.rd Ch.enc_len) (by have := S64.out; omega) (by have := XL.out; omega)).mono ?_
                   rw [HQ9.out]
                   rintro e we ⟨A4, k4, rfl, o4, y4⟩
                   have O4 := Lib.hid o4
                   have YI := Lib.hid (ext_trans YP.out y4)
                   obtain ⟨e0, e1, e2⟩ := SF.out _ YI.out
                   clear o4 y4)
                | (go_at_call 60
                   with_reducible refine (mkRetain_any b A4 1 Q.length k4 Q we F' m' ((HM'.out.below YC.out).below YI.out) rfl (O4.out.rd Ch.enc_len) (O4.out.offF Ch.enc_len rfl (fun k hk hF => by have := (O4.out.wb_lt k hk).1; have := (HM'.out.below (YC.out.trans (YP.out.mono YC.out.size))).lt k hF; omega)) (by have := QL.out; omega)
                      (by have := HQ'.out.2.1.len; have := KB.out; omega) (fun o ho => by have := (HQ'.out.2.1.gap.2 o ho).2.2; omega)).mono ?_
                   rintro e wf ⟨rfl, F4, hm4, g4⟩
                   have hbo4 := (YI.out.block bo (lt_of_some HBO2.out)).trans HBO2.out
                   have hbc4 := (YI.out.block bc (lt_of_some HBC.out)).trans HBC.out
                   have MI4 := Lib.hid (MkIn2.out LOW'.out (ext_trans YR.out YI.out) NF'.out hbo4 hm4 g4)
                   obtain ⟨_, _, _, _, f0⟩ := box_5 ((g4.block bo (lt_of_some hbo4) NF'.out).trans hbo4)
                   obtain ⟨f1, f2⟩ := box_cl ((g4.block bc (lt_of_some hbc4) NFC.out).trans hbc4)
                   clear hbo4 hbc4))
            go_wp2_with (fail)
            go_roundg (N - (j + 1))
            case measure => have := HGJ.out; omega
            case rel =>
              refine ⟨j + 1, _, us' ++ [.ret Q], K' + 2, by omega, rfl, by go_num, Lib.hid ?_, MI4.out⟩
              obtain ⟨t1, t2, t3, t4⟩ := HQ'.out
              obtain ⟨q, hq⟩ : ∃ q, N - j = q + 1 := ⟨N - j - 1, by omega⟩
              rw [hq, HNX.out, invU_reps_r, HQI.out] at t4
              have hlen := len_left t4
              refine ⟨t1.retain 1 Q (by have := TLEN.out; omega), t2.retain 1 (by have := QL.out; exact this), by omega, ?_⟩
              rw [List.append_assoc, show N - (j + 1) = q by omega]
              exact t4
          · have hjN : j = N := by omega
            subst hjN
            have hltj' : ¬ (j : Int) < (j : Int) := by omega
            obtain ⟨p0, p1, p2, p3, p4⟩ := box_5 HBX'.out
            have MI9 : Hid (MkIn w wr b m') := Lib.hid ⟨F', HM'.out, LOW'.out, Y'.out⟩
            go_wp2_with (fail)
            go_roundg (nx - (i + 1))
            case measure => have := HG.out; omega
            case rel =>
              refine ⟨i + 1, k + j, m', us', K', A'', n'', c'', by omega, rfl, by go_num, rfl, HR2, Lib.hid ?_, MI9.out⟩
              obtain ⟨t1, t2, t3, t4⟩ := HQ'.out
              rw [Nat.sub_self] at t4
              rw [HREST.out]
              exact ⟨t1, t2, t3, t4, by have := NK.out; omega⟩
    · have hin : i = nx := by omega
      subst hin
      have hlt' : ¬ (i : Int) < (i : Int) := by omega
      obtain ⟨F, hm, low, y⟩ := hmk
      have HM := Lib.hid hm
      have Y := Lib.hid y
      clear hm low y
      obtain ⟨t1, t2, t3, t4, t5⟩ := HQ.out
      have hdr : x.drop i = [] := List.drop_eq_nil_of_le (by have := HN.out; omega)
      rw [hdr] at t4
      have ht : us = T := by rw [← t4]; show us = us ++ []; rw [List.append_nil]
      have KB : K ≤ 40000 := by have := HR.out.2.1; have := HB.out; omega
      have TD := Lib.hid (ht ▸ t1)
      have MB := Lib.hid t2
      clear t1 t2 t3 t4 t5 hdr ht HQ
      go_wp2_with (go_at_call 63; refine Hid.out ?_)
      refine Lib.hid ?_
      refine (mkOps_any b wr F m HM.out (by have := MB.out.len; omega) (fun o ho => by have := MB.out.gap.2 o ho; omega)).mono ?_
      intro e wz hN
      obtain ⟨A9, c9, x9, rfl, hx9, ho9, hy9⟩ := NewOps.opC hN TD.out OKU.out MB.out (by omega) (by omega)
      have FIN9 := Lib.hid (And.intro hx9 (And.intro ho9 (ext_trans Y.out hy9)))
      clear hx9 ho9 hy9 hN
      go_wp2_with (fail)
      refine bodyPost_ret (v := .tuple #[.slice A9 x9.length c9, .int .i64 0]) (by simp [results, Tryz.results18, go_sem]) rfl ?_
      exact ⟨A9, c9, x9, rfl, FIN9.out.1, FIN9.out.2.1, FIN9.out.2.2⟩

set_option maxHeartbeats 1600000 in
/-- a delta that does not fit has no inverse -/
theorem invertBad_any (s : Nat) (l : List Ky) (A1 Ax : Option Addr) (n1 c1 nx cx : Nat) (d : List ClS) (x : List OpS) (w : World) (hD : DocAt w A1 n1 c1 d) (hX : OpsAt w Ax nx x) (hS : Sch w s l)
    (hT : Lib.Utf8Tabs 1 2 w) {r : Int} (hr : applyN l x (clsOf d) 536870912 = r) (hz : r ≠ 0) :
    Calls Tryz.prog 18 #[.pointer (some ⟨s, 0, none⟩), .slice A1 n1 c1, .slice Ax nx cx] w (fun e w' => e = .returned (.tuple #[.slice none 0 0, .int .i64 r]) ∧ Below w.heap.size w w') := by
  have HC := Lib.hid (applyBad (c2 := cx) hD hX hS hT hr hz)
  have h0' : (r != 0) = true := by rw [bne, beq_eq_false_iff_ne.2 hz]; rfl
  clear hD hX hS hT hr
  go_enter Tryz.func18, Tryz.ntmps18
  go_wp2_with (fail)
  go_step3
  go_wp2_with (go_at_call 21; refine Hid.out ?_)
  refine Lib.hid ?_
  refine HC.out.mono ?_
  rintro e w1 ⟨rfl, y⟩
  have Y := Lib.hid y
  clear y
  go_wp2_with (fail)
  try rw [Exit.noGoto_ret]
  refine bodyPost_ret (v := .tuple #[.slice none 0 0, .int .i64 r]) (by simp [results, Tryz.results18, go_sem]) rfl ?_
  exact ⟨rfl, Y.out⟩
end Go.Proofs.YtnppoifgfehpfaaGreatDoor
