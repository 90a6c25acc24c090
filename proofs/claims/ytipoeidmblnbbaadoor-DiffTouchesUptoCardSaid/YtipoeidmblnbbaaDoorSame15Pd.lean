/- The walk of rubricref15.Same. -/
import Derived.Test.YtipoeidmblnbbaaDoorPk7
import Derived.Test.YtipoeidmblnbbaaDoorPk2
import Derived.Test.YtipoeidmblnbbaaDoorPk25
import Derived.Test.YtipoeidmblnbbaaDoorPk17
import Derived.Deep.RegionHeld3
namespace Go.Proofs.YtipoeidmblnbbaaDoor
open Go.RowKit
set_option linter.unusedVariables false
set_option linter.unusedSimpArgs false

theorem abs_world {P F : World → Prop} {v : World} (h : F v) (k : ∀ v, F v → P v) : P v := k v h
set_option maxRecDepth 100000 in
set_option maxHeartbeats 3200000 in
theorem same15_any (A B : Option Addr) (n m c d : Nat) (l k : List OpS) (w : World) (hn : n = l.length) (hm : m = k.length) (h1 : RdOp w w.heap.size A l) (h2 : RdOp w w.heap.size B k) (hb : n ≤ 100000000) (hb2 : m ≤ 100000000)
    (hs1 : ∀ x ∈ l, x.o.r.length ≤ 100000000 ∧ x.o.s.length ≤ 100000000 ∧ x.o.p.length ≤ 100000000) (hs2 : ∀ x ∈ k, x.o.r.length ≤ 100000000 ∧ x.o.s.length ≤ 100000000 ∧ x.o.p.length ≤ 100000000) :
    Calls Tryd.prog 49 #[.slice A n c, .slice B m d] w fun e w' => e = .returned (.bool (decide (osOf l = osOf k))) ∧ Below w.heap.size w w' := by
  have N := Lib.hid hn
  have M := Lib.hid hm
  have H1 := Lib.hid h1
  have H2 := Lib.hid h2
  have S1 := Lib.hid hs1
  have S2 := Lib.hid hs2
  generalize hR : decide (osOf l = osOf k) = R
  have HR := Lib.hid hR
  clear hn hR hm h1 h2 hs1 hs2
  have HL : Hid (∀ x : List OpS, (osOf x).length = x.length) := Lib.hid (fun x => by unfold osOf; simp)
  by_cases hnm : (n : Int) = m
  · have hnm' : n = m := by omega
    subst hnm'
    clear hnm
    have hne : ((n : Int) != n) = false := by simp
    go_enter Tryd.func49, Tryd.ntmps49
    go_wp2_with (fail)
    go_loopg [5] n (fun g iv wr => ∃ i : Nat, i ≤ n ∧ g = n - i ∧ iv = .int .i64 (i : Int) ∧ Below w.heap.size w wr ∧ Hid (decide (osOf (l.drop i) = osOf (k.drop i)) = R))
    case atStart => exact ⟨0, by omega, rfl, rfl, Below.refl _ _, Lib.hid (by rw [List.drop_zero, List.drop_zero]; exact HR.out)⟩
    case round =>
      obtain ⟨i, hi, hg, rfl, y, HI⟩ := hrel
      have HG := Lib.hid hg
      clear hg HR
      by_cases hlt : i < n
      · have hl1 : i < l.length := by have := N.out; omega
        have hl2 : i < k.length := by have := M.out; omega
        obtain ⟨ad, x, rfl, had1, hd1, hx1, hc1⟩ := (H1.out.ext y).1.el hl1
        obtain ⟨ad2, x', rfl, had2, hd2, hx2, hc2⟩ := (H2.out.ext y).1.el hl2
        have hm1 := List.mem_of_getElem? hx1
        have hm2 := List.mem_of_getElem? hx2
        have p1 := Lib.hid (H1.out.2 x hm1)
        have p2 := Lib.hid (H2.out.2 x' hm2)
        have b1 := Lib.hid (S1.out x hm1)
        have b2 := Lib.hid (S2.out x' hm2)
        have HI' : Hid (decide (x.o :: osOf (l.drop (i + 1)) = x'.o :: osOf (k.drop (i + 1))) = R) := Lib.hid (by rw [← HI.out, hd1, hd2]; rfl)
        clear HI hd1 hd2 hx1 hx2 hm1 hm2
        obtain ⟨⟨k1, n1, r1, s1, q1⟩, Ar1, cr1, As1, cs1, Ap1, cp1⟩ := x
        obtain ⟨⟨k2, n2, r2, s2, q2'⟩, Ar2, cr2, As2, cs2, Ap2, cp2⟩ := x'
        obtain ⟨z0, z1, z2, z3, z4⟩ := op_cells hc1
        obtain ⟨u0, u1, u2, u3, u4⟩ := op_cells hc2
        have hlt' : (i : Int) < (n : Int) := by omega
        have v1 : wr.heap.size ≠ (ad.add (i * 5)).block := by rw [add_block]; omega
        have v2 : wr.heap.size ≠ (ad2.add (i * 5)).block := by rw [add_block]; omega
        have v3 : wr.heap.size + 1 ≠ (ad.add (i * 5)).block := by rw [add_block]; omega
        have v4 : wr.heap.size + 1 ≠ (ad2.add (i * 5)).block := by rw [add_block]; omega
        clear hc1 hc2 hl1 hl2 had2 had1
        obtain ⟨sz, hsz⟩ : ∃ z, wr.heap.size = z := ⟨_, rfl⟩
        go_wp2_with (fail)
        go_region_held3 (fun w' => w'.cell? (ad.add (i * 5)) = some (.int .u8 k1) ∧ w'.cell? { block := (ad.add (i * 5)).block, off := (ad.add (i * 5)).off + 1 } = some (.int .i64 n1) ∧ w'.cell? { block := (ad.add (i * 5)).block, off := (ad.add (i * 5)).off + 2 } = some (.slice Ar1 r1.length cr1) ∧ w'.cell? { block := (ad.add (i * 5)).block, off := (ad.add (i * 5)).off + 3 } = some (.slice As1 s1.length cs1) ∧ w'.cell? { block := (ad.add (i * 5)).block, off := (ad.add (i * 5)).off + 4 } = some (.slice Ap1 q1.length cp1) ∧ w'.cell? (ad2.add (i * 5)) = some (.int .u8 k2) ∧ w'.cell? { block := (ad2.add (i * 5)).block, off := (ad2.add (i * 5)).off + 1 } = some (.int .i64 n2) ∧ w'.cell? { block := (ad2.add (i * 5)).block, off := (ad2.add (i * 5)).off + 2 } = some (.slice Ar2 r2.length cr2) ∧ w'.cell? { block := (ad2.add (i * 5)).block, off := (ad2.add (i * 5)).off + 3 } = some (.slice As2 s2.length cs2) ∧ w'.cell? { block := (ad2.add (i * 5)).block, off := (ad2.add (i * 5)).off + 4 } = some (.slice Ap2 q2'.length cp2))
          (go_keep) (fail)
        · have ya := ext_alloc wr (.cells #[.int .u8 k1, .int .i64 n1, .slice Ar1 r1.length cr1, .slice As1 s1.length cs1, .slice Ap1 q1.length cp1] 45)
          have yb := ext_alloc (wr.alloc (.cells #[.int .u8 k1, .int .i64 n1, .slice Ar1 r1.length cr1, .slice As1 s1.length cs1, .slice Ap1 q1.length cp1] 45)) (.cells #[.int .u8 k2, .int .i64 n2, .slice Ar2 r2.length cr2, .slice As2 s2.length cs2, .slice Ap2 q2'.length cp2] 45)
          have ga := (yb.block wr.heap.size (by simp)).trans (heap_alloc_new wr (.cells #[.int .u8 k1, .int .i64 n1, .slice Ar1 r1.length cr1, .slice As1 s1.length cs1, .slice Ap1 q1.length cp1] 45))
          have gb := heap_alloc_new (wr.alloc (.cells #[.int .u8 k1, .int .i64 n1, .slice Ar1 r1.length cr1, .slice As1 s1.length cs1, .slice Ap1 q1.length cp1] 45)) (.cells #[.int .u8 k2, .int .i64 n2, .slice Ar2 r2.length cr2, .slice As2 s2.length cs2, .slice Ap2 q2'.length cp2] 45)
          rw [World.size_alloc] at gb
          rw [hsz] at ga gb
          refine abs_world (F := fun v => Below w.heap.size w v ∧ v.heap[sz]? = some (.cells #[.int .u8 k1, .int .i64 n1, .slice Ar1 r1.length cr1, .slice As1 s1.length cs1, .slice Ap1 q1.length cp1] 45 (0, 0)) ∧ v.heap[sz + 1]? = some (.cells #[.int .u8 k2, .int .i64 n2, .slice Ar2 r2.length cr2, .slice As2 s2.length cs2, .slice Ap2 q2'.length cp2] 45 (0, 0))) ⟨(ext_trans y (ext_trans ya yb)).drew, ga, gb⟩ ?_
          clear ya yb ga gb hsz v1 v2 v3 v4
          obtain ⟨sz1, hs1⟩ : ∃ z, sz + 1 = z := ⟨_, rfl⟩
          rw [hs1]
          clear hs1
          intro v
          rintro ⟨yv, g6, g7⟩
          obtain ⟨c0, c1, c2, c3, c4⟩ := box_at g6
          obtain ⟨e0, e1, e2, e3, e4⟩ := box_at g7
          have YV := Lib.hid yv
          clear g6 g7
          by_cases hk : k1 = k2
          · subst hk
            have hkk : (k1 != k1) = false := by simp
            by_cases hn : n1 = n2
            · subst hn
              have hnn : (n1 != n1) = false := by simp
              go_wp2_with (go_at_call 14; refine Hid.out ?_)
              refine Lib.hid ?_
              refine (refSame_any Ar1 Ar2 r1.length r2.length cr1 cr2 r1 r2 v rfl rfl (p1.out.1.ext yv) (p2.out.1.ext yv) (by have := b1.out.1; omega) (by have := b2.out.1; omega)).mono ?_
              by_cases hr : r1 = r2
              · subst hr
                rw [decide_eq_true rfl]
                rintro e v2 ⟨rfl, q2, rfl⟩
                go_wp2_with (go_at_call 76; refine Hid.out ?_)
                refine Lib.hid ?_
                refine (sameA_any As1 As2 s1.length s2.length cs1 cs2 s1 s2 _ rfl rfl ((p1.out.2.1.ext yv).drewN _) ((p2.out.2.1.ext yv).drewN _) (by have := b1.out.2.1; omega) (by have := b2.out.2.1; omega)).mono ?_
                by_cases hs : s1 = s2
                · subst hs
                  rw [decide_eq_true rfl]
                  rintro e v3 ⟨rfl, q3, rfl⟩
                  go_wp2_with (go_at_call 77; refine Hid.out ?_)
                  refine Lib.hid ?_
                  refine (sameR6_any Ap1 Ap2 q1.length q2'.length cp1 cp2 q1 q2' _ rfl rfl ((p1.out.2.2.ext yv).drewN _) ((p2.out.2.2.ext yv).drewN _) (by have := b1.out.2.2; omega) (by have := b2.out.2.2; omega)).mono ?_
                  by_cases hp : q1 = q2'
                  · subst hp
                    rw [decide_eq_true rfl]
                    rintro e v4 ⟨rfl, q4, rfl⟩
                    have hw2 : IntKind.i64.wrap ((i:Int) + 1) = (i : Int) + 1 := IntWalk.i64_in _ (by omega)
                    go_wp2_with (fail)
                    go_roundg (n - (i + 1))
                    case measure => have := HG.out; omega
                    case rel => exact ⟨i + 1, by omega, rfl, by go_num, below_drewN YV.out _, Lib.hid (by rw [← HI'.out]; simp only [List.cons.injEq, true_and])⟩
                  · rw [decide_eq_false hp]
                    rintro e v4 ⟨rfl, q4, rfl⟩
                    have HP := Lib.hid hp
                    clear hp
                    go_wp2_with (fail)
                    go_ret
                    exact ⟨ret_bool (by rw [← HI'.out]; exact (decide_eq_false fun e => HP.out (Opd.mk.inj (List.cons.inj e).1).2.2.2.2).symm), below_drewN YV.out _⟩
                · rw [decide_eq_false hs]
                  rintro e v3 ⟨rfl, q3, rfl⟩
                  have HP := Lib.hid hs
                  clear hs
                  go_wp2_with (fail)
                  go_ret
                  exact ⟨ret_bool (by rw [← HI'.out]; exact (decide_eq_false fun e => HP.out (Opd.mk.inj (List.cons.inj e).1).2.2.2.1).symm), below_drewN YV.out _⟩
              · rw [decide_eq_false hr]
                rintro e v2 ⟨rfl, q2, rfl⟩
                have HP := Lib.hid hr
                clear hr
                go_wp2_with (fail)
                go_ret
                exact ⟨ret_bool (by rw [← HI'.out]; exact (decide_eq_false fun e => HP.out (Opd.mk.inj (List.cons.inj e).1).2.2.1).symm), below_drewN YV.out _⟩
            · have hnn : (n1 != n2) = true := by simp [hn]
              have HP := Lib.hid hn
              clear hn
              go_wp2_with (fail)
              go_ret
              exact ⟨ret_bool (by rw [← HI'.out]; exact (decide_eq_false fun e => HP.out (Opd.mk.inj (List.cons.inj e).1).2.1).symm), YV.out⟩
          · have hkk : (k1 != k2) = true := by simp [hk]
            have HP := Lib.hid hk
            clear hk
            go_wp2_with (fail)
            go_ret
            exact ⟨ret_bool (by rw [← HI'.out]; exact (decide_eq_false fun e => HP.out (Opd.mk.inj (List.cons.inj e).1).1).symm), YV.out⟩
        · have ya := ext_alloc wr (.cells #[.int .u8 k2, .int .i64 n2, .slice Ar2 r2.length cr2, .slice As2 s2.length cs2, .slice Ap2 q2'.length cp2] 45)
          have yb := ext_alloc (wr.alloc (.cells #[.int .u8 k2, .int .i64 n2, .slice Ar2 r2.length cr2, .slice As2 s2.length cs2, .slice Ap2 q2'.length cp2] 45)) (.cells #[.int .u8 k1, .int .i64 n1, .slice Ar1 r1.length cr1, .slice As1 s1.length cs1, .slice Ap1 q1.length cp1] 45)
          have ga := (yb.block wr.heap.size (by simp)).trans (heap_alloc_new wr (.cells #[.int .u8 k2, .int .i64 n2, .slice Ar2 r2.length cr2, .slice As2 s2.length cs2, .slice Ap2 q2'.length cp2] 45))
          have gb := heap_alloc_new (wr.alloc (.cells #[.int .u8 k2, .int .i64 n2, .slice Ar2 r2.length cr2, .slice As2 s2.length cs2, .slice Ap2 q2'.length cp2] 45)) (.cells #[.int .u8 k1, .int .i64 n1, .slice Ar1 r1.length cr1, .slice As1 s1.length cs1, .slice Ap1 q1.length cp1] 45)
          rw [World.size_alloc] at gb
          rw [hsz] at ga gb
          refine abs_world (F := fun v => Below w.heap.size w v ∧ v.heap[sz + 1]? = some (.cells #[.int .u8 k1, .int .i64 n1, .slice Ar1 r1.length cr1, .slice As1 s1.length cs1, .slice Ap1 q1.length cp1] 45 (0, 0)) ∧ v.heap[sz]? = some (.cells #[.int .u8 k2, .int .i64 n2, .slice Ar2 r2.length cr2, .slice As2 s2.length cs2, .slice Ap2 q2'.length cp2] 45 (0, 0))) ⟨(ext_trans y (ext_trans ya yb)).drew, gb, ga⟩ ?_
          clear ya yb ga gb hsz v1 v2 v3 v4
          obtain ⟨sz1, hs1⟩ : ∃ z, sz + 1 = z := ⟨_, rfl⟩
          rw [hs1]
          clear hs1
          intro v
          rintro ⟨yv, g6, g7⟩
          obtain ⟨c0, c1, c2, c3, c4⟩ := box_at g6
          obtain ⟨e0, e1, e2, e3, e4⟩ := box_at g7
          have YV := Lib.hid yv
          clear g6 g7
          by_cases hk : k1 = k2
          · subst hk
            have hkk : (k1 != k1) = false := by simp
            by_cases hn : n1 = n2
            · subst hn
              have hnn : (n1 != n1) = false := by simp
              go_wp2_with (go_at_call 14; refine Hid.out ?_)
              refine Lib.hid ?_
              refine (refSame_any Ar1 Ar2 r1.length r2.length cr1 cr2 r1 r2 v rfl rfl (p1.out.1.ext yv) (p2.out.1.ext yv) (by have := b1.out.1; omega) (by have := b2.out.1; omega)).mono ?_
              by_cases hr : r1 = r2
              · subst hr
                rw [decide_eq_true rfl]
                rintro e v2 ⟨rfl, q2, rfl⟩
                go_wp2_with (go_at_call 76; refine Hid.out ?_)
                refine Lib.hid ?_
                refine (sameA_any As1 As2 s1.length s2.length cs1 cs2 s1 s2 _ rfl rfl ((p1.out.2.1.ext yv).drewN _) ((p2.out.2.1.ext yv).drewN _) (by have := b1.out.2.1; omega) (by have := b2.out.2.1; omega)).mono ?_
                by_cases hs : s1 = s2
                · subst hs
                  rw [decide_eq_true rfl]
                  rintro e v3 ⟨rfl, q3, rfl⟩
                  go_wp2_with (go_at_call 77; refine Hid.out ?_)
                  refine Lib.hid ?_
                  refine (sameR6_any Ap1 Ap2 q1.length q2'.length cp1 cp2 q1 q2' _ rfl rfl ((p1.out.2.2.ext yv).drewN _) ((p2.out.2.2.ext yv).drewN _) (by have := b1.out.2.2; omega) (by have := b2.out.2.2; omega)).mono ?_
                  by_cases hp : q1 = q2'
                  · subst hp
                    rw [decide_eq_true rfl]
                    rintro e v4 ⟨rfl, q4, rfl⟩
                    have hw2 : IntKind.i64.wrap ((i:Int) + 1) = (i : Int) + 1 := IntWalk.i64_in _ (by omega)
                    go_wp2_with (fail)
                    go_roundg (n - (i + 1))
                    case measure => have := HG.out; omega
                    case rel => exact ⟨i + 1, by omega, rfl, by go_num, below_drewN YV.out _, Lib.hid (by rw [← HI'.out]; simp only [List.cons.injEq, true_and])⟩
                  · rw [decide_eq_false hp]
                    rintro e v4 ⟨rfl, q4, rfl⟩
                    have HP := Lib.hid hp
                    clear hp
                    go_wp2_with (fail)
                    go_ret
                    exact ⟨ret_bool (by rw [← HI'.out]; exact (decide_eq_false fun e => HP.out (Opd.mk.inj (List.cons.inj e).1).2.2.2.2).symm), below_drewN YV.out _⟩
                · rw [decide_eq_false hs]
                  rintro e v3 ⟨rfl, q3, rfl⟩
                  have HP := Lib.hid hs
                  clear hs
                  go_wp2_with (fail)
                  go_ret
                  exact ⟨ret_bool (by rw [← HI'.out]; exact (decide_eq_false fun e => HP.out (Opd.mk.inj (List.cons.inj e).1).2.2.2.1).symm), below_drewN YV.out _⟩
              · rw [decide_eq_false hr]
                rintro e v2 ⟨rfl, q2, rfl⟩
                have HP := Lib.hid hr
                clear hr
                go_wp2_with (fail)
                go_ret
                exact ⟨ret_bool (by rw [← HI'.out]; exact (decide_eq_false fun e => HP.out (Opd.mk.inj (List.cons.inj e).1).2.2.1).symm), below_drewN YV.out _⟩
            · have hnn : (n1 != n2) = true := by simp [hn]
              have HP := Lib.hid hn
              clear hn
              go_wp2_with (fail)
              go_ret
              exact ⟨ret_bool (by rw [← HI'.out]; exact (decide_eq_false fun e => HP.out (Opd.mk.inj (List.cons.inj e).1).2.1).symm), YV.out⟩
          · have hkk : (k1 != k2) = true := by simp [hk]
            have HP := Lib.hid hk
            clear hk
            go_wp2_with (fail)
            go_ret
            exact ⟨ret_bool (by rw [← HI'.out]; exact (decide_eq_false fun e => HP.out (Opd.mk.inj (List.cons.inj e).1).1).symm), YV.out⟩
      · have hlt' : ¬ (i : Int) < (n : Int) := by omega
        go_wp2_with (fail)
        go_ret
        exact ⟨ret_bool (by rw [← HI.out, List.drop_eq_nil_of_le (by have := N.out; omega), List.drop_eq_nil_of_le (by have := M.out; omega)]; rfl), y⟩
  · have hne : ((n : Int) != m) = true := by simp [hnm]
    go_enter Tryd.func49, Tryd.ntmps49
    go_wp2_with (fail)
    go_ret
    refine ⟨ret_bool ?_, Below.refl _ _⟩
    rw [← HR.out]
    refine (decide_eq_false fun e => ?_).symm
    have h3 := N.out
    have h4 := M.out
    have h5 := congrArg List.length e
    rw [HL.out, HL.out] at h5
    omega
end Go.Proofs.YtipoeidmblnbbaaDoor
