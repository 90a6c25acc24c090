/- Merged texts: Same15, OpGreat, OpKnown, Known26, Great18, LawKit. -/
import Derived.Test.YtipoeidmblnbbaaGreatDoorPk15
import Derived.Test.YtipoeidmblnbbaaGreatDoorPk3
import Derived.Test.YtipoeidmblnbbaaGreatDoorPk2
import Derived.Test.YtipoeidmblnbbaaGreatDoorPk26
import Derived.Deep.RegionHeld3
import Derived.Test.YtipoeidmblnbbaaGreatDoorPk13
import Derived.Test.YtipoeidmblnbbaaGreatDoorPk25
import Derived.Test.YtipoeidmblnbbaaGreatDoorPk7
import Derived.Test.YtipoeidmblnbbaaGreatDoorPk6
import Derived.BigQuiet
import Derived.Deep.QuietTactic
/- The walk of rubricref15.Same. -/
namespace Go.Proofs.YtipoeidmblnbbaaGreatDoor
open Go.RowKit
set_option linter.unusedVariables false
set_option linter.unusedSimpArgs false

theorem abs_world {P F : World → Prop} {v : World} (h : F v) (k : ∀ v, F v → P v) : P v := k v h
set_option maxRecDepth 100000 in
set_option maxHeartbeats 3200000 in
theorem same15_any (A B : Option Addr) (n m c d : Nat) (l k : List OpS) (w : World) (hn : n = l.length) (hm : m = k.length) (h1 : RdOp w w.heap.size A l) (h2 : RdOp w w.heap.size B k) (hb : n ≤ 100000000) (hb2 : m ≤ 100000000)
    (hs1 : ∀ x ∈ l, x.o.r.length ≤ 100000000 ∧ x.o.s.length ≤ 100000000 ∧ x.o.p.length ≤ 100000000) (hs2 : ∀ x ∈ k, x.o.r.length ≤ 100000000 ∧ x.o.s.length ≤ 100000000 ∧ x.o.p.length ≤ 100000000) :
    Calls Tryz.prog 34 #[.slice A n c, .slice B m d] w fun e w' => e = .returned (.bool (decide (osOf l = osOf k))) ∧ Below w.heap.size w w' := by
  have N := Lib.hid hn
  have M := Lib.hid hm
  have H1 := Lib.hid h1
  have H2 := Lib.hid h2
  have S1 := Lib.hid hs1
  have S2 := Lib.hid hs2
  generalize hR : decide (osOf l = osOf k) = R
  have HR := Lib.hid hR
  clear hn hR hm h1 h2 hs1 hs2
  have HL : Hid (∀ x : List OpS, (osOf x).length = x.length) := Lib.hid (fun x => by unfold osOf; simp)
  by_cases hnm : (n : Int) = m
  · have hnm' : n = m := by omega
    subst hnm'
    clear hnm
    have hne : ((n : Int) != n) = false := by simp
    go_enter Tryz.func34, Tryz.ntmps34
    go_wp2_with (fail)
    go_loopg [5] n (fun g iv wr => ∃ i : Nat, i ≤ n ∧ g = n - i ∧ iv = .int .i64 (i : Int) ∧ Below w.heap.size w wr ∧ Hid (decide (osOf (l.drop i) = osOf (k.drop i)) = R))
    case atStart => exact ⟨0, by omega, rfl, rfl, Below.refl _ _, Lib.hid (by rw [List.drop_zero, List.drop_zero]; exact HR.out)⟩
    case round =>
      obtain ⟨i, hi, hg, rfl, y, HI⟩ := hrel
      have HG := Lib.hid hg
      clear hg HR
      by_cases hlt : i < n
      · have hl1 : i < l.length := by have := N.out; omega
        have hl2 : i < k.length := by have := M.out; omega
        obtain ⟨ad, x, rfl, had1, hd1, hx1, hc1⟩ := (H1.out.ext y).1.el hl1
        obtain ⟨ad2, x', rfl, had2, hd2, hx2, hc2⟩ := (H2.out.ext y).1.el hl2
        have hm1 := List.mem_of_getElem? hx1
        have hm2 := List.mem_of_getElem? hx2
        have p1 := Lib.hid (H1.out.2 x hm1)
        have p2 := Lib.hid (H2.out.2 x' hm2)
        have b1 := Lib.hid (S1.out x hm1)
        have b2 := Lib.hid (S2.out x' hm2)
        have HI' : Hid (decide (x.o :: osOf (l.drop (i + 1)) = x'.o :: osOf (k.drop (i + 1))) = R) := Lib.hid (by rw [← HI.out, hd1, hd2]; rfl)
        clear HI hd1 hd2 hx1 hx2 hm1 hm2
        obtain ⟨⟨k1, n1, r1, s1, q1⟩, Ar1, cr1, As1, cs1, Ap1, cp1⟩ := x
        obtain ⟨⟨k2, n2, r2, s2, q2'⟩, Ar2, cr2, As2, cs2, Ap2, cp2⟩ := x'
        obtain ⟨z0, z1, z2, z3, z4⟩ := op_cells hc1
        obtain ⟨u0, u1, u2, u3, u4⟩ := op_cells hc2
        have hlt' : (i : Int) < (n : Int) := by omega
        have v1 : wr.heap.size ≠ (ad.add (i * 5)).block := by rw [add_block]; omega
        have v2 : wr.heap.size ≠ (ad2.add (i * 5)).block := by rw [add_block]; omega
        have v3 : wr.heap.size + 1 ≠ (ad.add (i * 5)).block := by rw [add_block]; omega
        have v4 : wr.heap.size + 1 ≠ (ad2.add (i * 5)).block := by rw [add_block]; omega
        clear hc1 hc2 hl1 hl2 had2 had1
        obtain ⟨sz, hsz⟩ : ∃ z, wr.heap.size = z := ⟨_, rfl⟩
        go_wp2_with (fail)
        go_region_held3 (fun w' => w'.cell? (ad.add (i * 5)) = some (.int .u8 k1) ∧ w'.cell? { block := (ad.add (i * 5)).block, off := (ad.add (i * 5)).off + 1 } = some (.int .i64 n1) ∧ w'.cell? { block := (ad.add (i * 5)).block, off := (ad.add (i * 5)).off + 2 } = some (.slice Ar1 r1.length cr1) ∧ w'.cell? { block := (ad.add (i * 5)).block, off := (ad.add (i * 5)).off + 3 } = some (.slice As1 s1.length cs1) ∧ w'.cell? { block := (ad.add (i * 5)).block, off := (ad.add (i * 5)).off + 4 } = some (.slice Ap1 q1.length cp1) ∧ w'.cell? (ad2.add (i * 5)) = some (.int .u8 k2) ∧ w'.cell? { block := (ad2.add (i * 5)).block, off := (ad2.add (i * 5)).off + 1 } = some (.int .i64 n2) ∧ w'.cell? { block := (ad2.add (i * 5)).block, off := (ad2.add (i * 5)).off + 2 } = some (.slice Ar2 r2.length cr2) ∧ w'.cell? { block := (ad2.add (i * 5)).block, off := (ad2.add (i * 5)).off + 3 } = some (.slice As2 s2.length cs2) ∧ w'.cell? { block := (ad2.add (i * 5)).block, off := (ad2.add (i * 5)).off + 4 } = some (.slice Ap2 q2'.length cp2))
          (go_keep) (fail)
        · have ya := ext_alloc wr (.cells #[.int .u8 k1, .int .i64 n1, .slice Ar1 r1.length cr1, .slice As1 s1.length cs1, .slice Ap1 q1.length cp1] 46)
          have yb := ext_alloc (wr.alloc (.cells #[.int .u8 k1, .int .i64 n1, .slice Ar1 r1.length cr1, .slice As1 s1.length cs1, .slice Ap1 q1.length cp1] 46)) (.cells #[.int .u8 k2, .int .i64 n2, .slice Ar2 r2.length cr2, .slice As2 s2.length cs2, .slice Ap2 q2'.length cp2] 46)
          have ga := (yb.block wr.heap.size (by simp)).trans (heap_alloc_new wr (.cells #[.int .u8 k1, .int .i64 n1, .slice Ar1 r1.length cr1, .slice As1 s1.length cs1, .slice Ap1 q1.length cp1] 46))
          have gb := heap_alloc_new (wr.alloc (.cells #[.int .u8 k1, .int .i64 n1, .slice Ar1 r1.length cr1, .slice As1 s1.length cs1, .slice Ap1 q1.length cp1] 46)) (.cells #[.int .u8 k2, .int .i64 n2, .slice Ar2 r2.length cr2, .slice As2 s2.length cs2, .slice Ap2 q2'.length cp2] 46)
          rw [World.size_alloc] at gb
          rw [hsz] at ga gb
          refine abs_world (F := fun v => Below w.heap.size w v ∧ v.heap[sz]? = some (.cells #[.int .u8 k1, .int .i64 n1, .slice Ar1 r1.length cr1, .slice As1 s1.length cs1, .slice Ap1 q1.length cp1] 46 (0, 0)) ∧ v.heap[sz + 1]? = some (.cells #[.int .u8 k2, .int .i64 n2, .slice Ar2 r2.length cr2, .slice As2 s2.length cs2, .slice Ap2 q2'.length cp2] 46 (0, 0))) ⟨(ext_trans y (ext_trans ya yb)).drew, ga, gb⟩ ?_
          clear ya yb ga gb hsz v1 v2 v3 v4
          obtain ⟨sz1, hs1⟩ : ∃ z, sz + 1 = z := ⟨_, rfl⟩
          rw [hs1]
          clear hs1
          intro v
          rintro ⟨yv, g6, g7⟩
          obtain ⟨c0, c1, c2, c3, c4⟩ := box_at g6
          obtain ⟨e0, e1, e2, e3, e4⟩ := box_at g7
          have YV := Lib.hid yv
          clear g6 g7
          by_cases hk : k1 = k2
          · subst hk
            have hkk : (k1 != k1) = false := by simp
            by_cases hn : n1 = n2
            · subst hn
              have hnn : (n1 != n1) = false := by simp
              go_wp2_with (go_at_call 73; refine Hid.out ?_)
              refine Lib.hid ?_
              refine (refSame_any Ar1 Ar2 r1.length r2.length cr1 cr2 r1 r2 v rfl rfl (p1.out.1.ext yv) (p2.out.1.ext yv) (by have := b1.out.1; omega) (by have := b2.out.1; omega)).mono ?_
              by_cases hr : r1 = r2
              · subst hr
                rw [decide_eq_true rfl]
                rintro e v2 ⟨rfl, q2, rfl⟩
                go_wp2_with (go_at_call 74; refine Hid.out ?_)
                refine Lib.hid ?_
                refine (sameA_any As1 As2 s1.length s2.length cs1 cs2 s1 s2 _ rfl rfl ((p1.out.2.1.ext yv).drewN _) ((p2.out.2.1.ext yv).drewN _) (by have := b1.out.2.1; omega) (by have := b2.out.2.1; omega)).mono ?_
                by_cases hs : s1 = s2
                · subst hs
                  rw [decide_eq_true rfl]
                  rintro e v3 ⟨rfl, q3, rfl⟩
                  go_wp2_with (go_at_call 75; refine Hid.out ?_)
                  refine Lib.hid ?_
                  refine (sameR6_any Ap1 Ap2 q1.length q2'.length cp1 cp2 q1 q2' _ rfl rfl ((p1.out.2.2.ext yv).drewN _) ((p2.out.2.2.ext yv).drewN _) (by have := b1.out.2.2; omega) (by have := b2.out.2.2; omega)).mono ?_
                  by_cases hp : q1 = q2'
                  · subst hp
                    rw [decide_eq_true rfl]
                    rintro e v4 ⟨rfl, q4, rfl⟩
                    have hw2 : IntKind.i64.wrap ((i:Int) + 1) = (i : Int) + 1 := IntWalk.i64_in _ (by omega)
                    go_wp2_with (fail)
                    go_roundg (n - (i + 1))
                    case measure => have := HG.out; omega
                    case rel => exact ⟨i + 1, by omega, rfl, by go_num, below_drewN YV.out _, Lib.hid (by rw [← HI'.out]; simp only [List.cons.injEq, true_and])⟩
                  · rw [decide_eq_false hp]
                    rintro e v4 ⟨rfl, q4, rfl⟩
                    have HP := Lib.hid hp
                    clear hp
                    go_wp2_with (fail)
                    go_ret
                    exact ⟨ret_bool (by rw [← HI'.out]; exact (decide_eq_false fun e => HP.out (Opd.mk.inj (List.cons.inj e).1).2.2.2.2).symm), below_drewN YV.out _⟩
                · rw [decide_eq_false hs]
                  rintro e v3 ⟨rfl, q3, rfl⟩
                  have HP := Lib.hid hs
                  clear hs
                  go_wp2_with (fail)
                  go_ret
                  exact ⟨ret_bool (by rw [← HI'.out]; exact (decide_eq_false fun e => HP.out (Opd.mk.inj (List.cons.inj e).1).2.2.2.1).symm), below_drewN YV.out _⟩
              · rw [decide_eq_false hr]
                rintro e v2 ⟨rfl, q2, rfl⟩
                have HP := Lib.hid hr
                clear hr
                go_wp2_with (fail)
                go_ret
                exact ⟨ret_bool (by rw [← HI'.out]; exact (decide_eq_false fun e => HP.out (Opd.mk.inj (List.cons.inj e).1).2.2.1).symm), below_drewN YV.out _⟩
            · have hnn : (n1 != n2) = true := by simp [hn]
              have HP := Lib.hid hn
              clear hn
              go_wp2_with (fail)
              go_ret
              exact ⟨ret_bool (by rw [← HI'.out]; exact (decide_eq_false fun e => HP.out (Opd.mk.inj (List.cons.inj e).1).2.1).symm), YV.out⟩
          · have hkk : (k1 != k2) = true := by simp [hk]
            have HP := Lib.hid hk
            clear hk
            go_wp2_with (fail)
            go_ret
            exact ⟨ret_bool (by rw [← HI'.out]; exact (decide_eq_false fun e => HP.out (Opd.mk.inj (List.cons.inj e).1).1).symm), YV.out⟩
        · have ya := ext_alloc wr (.cells #[.int .u8 k2, .int .i64 n2, .slice Ar2 r2.length cr2, .slice As2 s2.length cs2, .slice Ap2 q2'.length cp2] 46)
          have yb := ext_alloc (wr.alloc (.cells #[.int .u8 k2, .int .i64 n2, .slice Ar2 r2.length cr2, .slice As2 s2.length cs2, .slice Ap2 q2'.length cp2] 46)) (.cells #[.int .u8 k1, .int .i64 n1, .slice Ar1 r1.length cr1, .slice As1 s1.length cs1, .slice Ap1 q1.length cp1] 46)
          have ga := (yb.block wr.heap.size (by simp)).trans (heap_alloc_new wr (.cells #[.int .u8 k2, .int .i64 n2, .slice Ar2 r2.length cr2, .slice As2 s2.length cs2, .slice Ap2 q2'.length cp2] 46))
          have gb := heap_alloc_new (wr.alloc (.cells #[.int .u8 k2, .int .i64 n2, .slice Ar2 r2.length cr2, .slice As2 s2.length cs2, .slice Ap2 q2'.length cp2] 46)) (.cells #[.int .u8 k1, .int .i64 n1, .slice Ar1 r1.length cr1, .slice As1 s1.length cs1, .slice Ap1 q1.length cp1] 46)
          rw [World.size_alloc] at gb
          rw [hsz] at ga gb
          refine abs_world (F := fun v => Below w.heap.size w v ∧ v.heap[sz + 1]? = some (.cells #[.int .u8 k1, .int .i64 n1, .slice Ar1 r1.length cr1, .slice As1 s1.length cs1, .slice Ap1 q1.length cp1] 46 (0, 0)) ∧ v.heap[sz]? = some (.cells #[.int .u8 k2, .int .i64 n2, .slice Ar2 r2.length cr2, .slice As2 s2.length cs2, .slice Ap2 q2'.length cp2] 46 (0, 0))) ⟨(ext_trans y (ext_trans ya yb)).drew, gb, ga⟩ ?_
          clear ya yb ga gb hsz v1 v2 v3 v4
          obtain ⟨sz1, hs1⟩ : ∃ z, sz + 1 = z := ⟨_, rfl⟩
          rw [hs1]
          clear hs1
          intro v
          rintro ⟨yv, g6, g7⟩
          obtain ⟨c0, c1, c2, c3, c4⟩ := box_at g6
          obtain ⟨e0, e1, e2, e3, e4⟩ := box_at g7
          have YV := Lib.hid yv
          clear g6 g7
          by_cases hk : k1 = k2
          · subst hk
            have hkk : (k1 != k1) = false := by simp
            by_cases hn : n1 = n2
            · subst hn
              have hnn : (n1 != n1) = false := by simp
              go_wp2_with (go_at_call 73; refine Hid.out ?_)
              refine Lib.hid ?_
              refine (refSame_any Ar1 Ar2 r1.length r2.length cr1 cr2 r1 r2 v rfl rfl (p1.out.1.ext yv) (p2.out.1.ext yv) (by have := b1.out.1; omega) (by have := b2.out.1; omega)).mono ?_
              by_cases hr : r1 = r2
              · subst hr
                rw [decide_eq_true rfl]
                rintro e v2 ⟨rfl, q2, rfl⟩
                go_wp2_with (go_at_call 74; refine Hid.out ?_)
                refine Lib.hid ?_
                refine (sameA_any As1 As2 s1.length s2.length cs1 cs2 s1 s2 _ rfl rfl ((p1.out.2.1.ext yv).drewN _) ((p2.out.2.1.ext yv).drewN _) (by have := b1.out.2.1; omega) (by have := b2.out.2.1; omega)).mono ?_
                by_cases hs : s1 = s2
                · subst hs
                  rw [decide_eq_true rfl]
                  rintro e v3 ⟨rfl, q3, rfl⟩
                  go_wp2_with (go_at_call 75; refine Hid.out ?_)
                  refine Lib.hid ?_
                  refine (sameR6_any Ap1 Ap2 q1.length q2'.length cp1 cp2 q1 q2' _ rfl rfl ((p1.out.2.2.ext yv).drewN _) ((p2.out.2.2.ext yv).drewN _) (by have := b1.out.2.2; omega) (by have := b2.out.2.2; omega)).mono ?_
                  by_cases hp : q1 = q2'
                  · subst hp
                    rw [decide_eq_true rfl]
                    rintro e v4 ⟨rfl, q4, rfl⟩
                    have hw2 : IntKind.i64.wrap ((i:Int) + 1) = (i : Int) + 1 := IntWalk.i64_in _ (by omega)
                    go_wp2_with (fail)
                    go_roundg (n - (i + 1))
                    case measure => have := HG.out; omega
                    case rel => exact ⟨i + 1, by omega, rfl, by go_num, below_drewN YV.out _, Lib.hid (by rw [← HI'.out]; simp only [List.cons.injEq, true_and])⟩
                  · rw [decide_eq_false hp]
                    rintro e v4 ⟨rfl, q4, rfl⟩
                    have HP := Lib.hid hp
                    clear hp
                    go_wp2_with (fail)
                    go_ret
                    exact ⟨ret_bool (by rw [← HI'.out]; exact (decide_eq_false fun e => HP.out (Opd.mk.inj (List.cons.inj e).1).2.2.2.2).symm), below_drewN YV.out _⟩
                · rw [decide_eq_false hs]
                  rintro e v3 ⟨rfl, q3, rfl⟩
                  have HP := Lib.hid hs
                  clear hs
                  go_wp2_with (fail)
                  go_ret
                  exact ⟨ret_bool (by rw [← HI'.out]; exact (decide_eq_false fun e => HP.out (Opd.mk.inj (List.cons.inj e).1).2.2.2.1).symm), below_drewN YV.out _⟩
              · rw [decide_eq_false hr]
                rintro e v2 ⟨rfl, q2, rfl⟩
                have HP := Lib.hid hr
                clear hr
                go_wp2_with (fail)
                go_ret
                exact ⟨ret_bool (by rw [← HI'.out]; exact (decide_eq_false fun e => HP.out (Opd.mk.inj (List.cons.inj e).1).2.2.1).symm), below_drewN YV.out _⟩
            · have hnn : (n1 != n2) = true := by simp [hn]
              have HP := Lib.hid hn
              clear hn
              go_wp2_with (fail)
              go_ret
              exact ⟨ret_bool (by rw [← HI'.out]; exact (decide_eq_false fun e => HP.out (Opd.mk.inj (List.cons.inj e).1).2.1).symm), YV.out⟩
          · have hkk : (k1 != k2) = true := by simp [hk]
            have HP := Lib.hid hk
            clear hk
            go_wp2_with (fail)
            go_ret
            exact ⟨ret_bool (by rw [← HI'.out]; exact (decide_eq_false fun e => HP.out (Opd.mk.inj (List.cons.inj e).1).1).symm), YV.out⟩
      · have hlt' : ¬ (i : Int) < (n : Int) := by omega
        go_wp2_with (fail)
        go_ret
        exact ⟨ret_bool (by rw [← HI.out, List.drop_eq_nil_of_le (by have := N.out; omega), List.drop_eq_nil_of_le (by have := M.out; omega)]; rfl), y⟩
  · have hne : ((n : Int) != m) = true := by simp [hnm]
    go_enter Tryz.func34, Tryz.ntmps34
    go_wp2_with (fail)
    go_ret
    refine ⟨ret_bool ?_, Below.refl _ _⟩
    rw [← HR.out]
    refine (decide_eq_false fun e => ?_).symm
    have h3 := N.out
    have h4 := M.out
    have h5 := congrArg List.length e
    rw [HL.out, HL.out] at h5
    omega
end Go.Proofs.YtipoeidmblnbbaaGreatDoor
/- The walks of rubricref15.Size and rubriclaw15.great: they answer something and change nothing. -/
namespace Go.Proofs.YtipoeidmblnbbaaGreatDoor
open Go.RowKit
set_option linter.unusedVariables false
set_option linter.unusedSimpArgs false

set_option maxRecDepth 100000 in
set_option maxHeartbeats 1600000 in
theorem sizeX_any (A : Option Addr) (n c : Nat) (x : List OpS) (w : World) (hn : n = x.length) (h : RdOp w w.heap.size A x) (hb : n ≤ 140737488355328) (ho : ∀ o ∈ x, okOp o.o) :
    Calls Tryz.prog 67 #[.slice A n c] w fun e w' => ∃ v : Int, e = .returned (.int .i64 v) ∧ ∃ d, w' = w.drewN d := by
  have N := Lib.hid hn
  clear hn
  go_enter Tryz.func67, Tryz.ntmps67
  go_wp2_with (fail)
  go_loopg [3, 4] n (fun g av iv wr => ∃ (m : Nat) (a : Int), m ≤ n ∧ g = n - m ∧ av = .int .i64 a ∧ iv = .int .i64 (m : Int) ∧ ∃ d, wr = w.drewN d)
  case atStart => exact ⟨0, 0, by omega, rfl, rfl, rfl, 0, rfl⟩
  case round =>
    obtain ⟨m, a, hm, hg, rfl, rfl, d, rfl⟩ := hrel
    have HG := Lib.hid hg
    clear hg
    by_cases hlt : m < n
    · have hl1 : m < x.length := by have := N.out; omega
      obtain ⟨ad, o, had0, had, hd1, hx1, hc0⟩ := h.1.el hl1
      subst had0
      have hmem := List.mem_of_getElem? hx1
      obtain ⟨q1, q2, q3, q4, q5⟩ := ho o hmem
      obtain ⟨g1, g2, g3⟩ := h.2 o hmem
      obtain ⟨⟨k, nn, r, s, p⟩, Ar, cr, As, cs, Ap, cp⟩ := o
      simp only at g1 g2 g3 q3 q4 q5
      obtain ⟨r0, r1, r2, r3, r4⟩ := op_cells hc0
      obtain ⟨ns, hns⟩ : ∃ X, s.length = X := ⟨_, rfl⟩
      obtain ⟨np, hnp⟩ : ∃ X, p.length = X := ⟨_, rfl⟩
      have NS := Lib.hid hns
      have NP := Lib.hid hnp
      rw [hns] at r3 q4
      rw [hnp] at r4 q5
      have hw2 : IntKind.i64.wrap ((m:Int) + 1) = (m : Int) + 1 := IntWalk.i64_in _ (by omega)
      clear hc0 hd1 hx1 hmem hns hnp
      go_wp2_with (fail)
      go_quiet (fail)
      go_wp2_with (fail)
      go_loopg [3, 5] ns (fun g av iv wi => ∃ (j : Nat) (b : Int), j ≤ ns ∧ g = ns - j ∧ av = .int .i64 b ∧ iv = .int .i64 (j : Int) ∧ ∃ d, wi = w.drewN d)
      case atStart => exact ⟨0, _, by omega, rfl, rfl, rfl, _, (by first | rfl | exact World.drewN_drewN _ _ _)⟩
      case round =>
        obtain ⟨j, b, hj, hg2, rfl, rfl, d2, rfl⟩ := hrel
        have HG2 := Lib.hid hg2
        clear hg2
        by_cases hls : j < ns
        · obtain ⟨ad2, z, e2, _, _, _, hz⟩ := g2.el (i := j) (by have := NS.out; omega)
          subst e2
          obtain ⟨z1, z2, z3, z4, z5⟩ := z
          obtain ⟨s0, s1, s2, s3, s4⟩ := at_cells hz
          have hw3 : IntKind.i64.wrap ((j:Int) + 1) = (j : Int) + 1 := IntWalk.i64_in _ (by omega)
          clear hz
          go_wp2_with (fail)
          go_roundg (ns - (j + 1))
          case measure => have := HG2.out; omega
          case rel => exact ⟨j + 1, _, by omega, rfl, rfl, by go_num, _, rfl⟩
        · go_wp2_with (fail)
          go_loopg [3, 6] np (fun g av iv wi => ∃ (j : Nat) (b : Int), j ≤ np ∧ g = np - j ∧ av = .int .i64 b ∧ iv = .int .i64 (j : Int) ∧ ∃ d, wi = w.drewN d)
          case atStart => exact ⟨0, _, by omega, rfl, rfl, rfl, _, rfl⟩
          case round =>
            obtain ⟨t, b, ht, hg2, rfl, rfl, d2, rfl⟩ := hrel
            have HG3 := Lib.hid hg2
            clear hg2
            by_cases hls : t < np
            · obtain ⟨ad2, z, e2, _, _, _, hz⟩ := g3.el (i := t) (by have := NP.out; omega)
              subst e2
              obtain ⟨z1, z6, z2, z3, z4, z5⟩ := z
              obtain ⟨s0, s1, s2, s3, s4, s5⟩ := ch_cells hz
              have hw3 : IntKind.i64.wrap ((t:Int) + 1) = (t : Int) + 1 := IntWalk.i64_in _ (by omega)
              clear hz
              go_wp2_with (fail)
              go_roundg (np - (t + 1))
              case measure => have := HG3.out; omega
              case rel => exact ⟨t + 1, _, by omega, rfl, rfl, by go_num, _, rfl⟩
            · go_wp2_with (fail)
              go_roundg (n - (m + 1))
              case measure => have := HG.out; omega
              case rel => exact ⟨m + 1, _, by omega, rfl, rfl, by go_num, _, rfl⟩
    · go_wp2_with (fail)
      go_ret
      exact ⟨_, rfl, _, rfl⟩

structure SX where
  A : Option Addr
  c : Nat
  l : List OpS
def SX.enc (s : SX) : List Value := [.slice s.A s.l.length s.c]
end Go.Proofs.YtipoeidmblnbbaaGreatDoor
/- The walk of rubriclaw15.known. -/
namespace Go.Proofs.YtipoeidmblnbbaaGreatDoor
open Go.RowKit
set_option linter.unusedVariables false
set_option linter.unusedSimpArgs false

def kK : List Ky := [⟨1, false, 1, false, false, 0⟩]
theorem rd_ops (u : World) (l : List OpS) (hs : Sub u u.heap.size l) {cs : Array Value} (hc : cs.toList = l.flatMap OpS.enc) {b : Nat} (hb : b = u.heap.size) :
    RdOp (u.alloc (.cells cs 46)) (u.alloc (.cells cs 46)).heap.size (some ⟨b, 0, none⟩) l :=
  ⟨Rd.new (enc := OpS.enc) (size := 5) OpS.enc_len u 46 l hc hb, hs.ext (ext_alloc u _)⟩
theorem ok_small (o : Opd) (h1 : o.s = []) (h2 : o.p = []) (h3 : o.r.length ≤ 10) : okOp o := by
  refine ⟨?_, ?_, by omega, by rw [h1]; simp, by rw [h2]; simp⟩
  · rw [h1]; intro c hc; cases hc
  · rw [h2]; intro c hc; cases hc
theorem sub_plain {u : World} {B : Nat} {k n : Int} : Sub u B [(⟨⟨k, n, [], [], []⟩, none, 0, none, 0, none, 0⟩ : OpS)] := by
  intro x hx
  simp at hx; subst hx
  exact ⟨Rd.nil, Rd.nil, Rd.nil⟩
theorem sub_cons {u : World} {B : Nat} {x : OpS} {l : List OpS} (h : Sub u B [x]) (h2 : Sub u B l) : Sub u B (x :: l) := by
  intro z hz
  rcases List.mem_cons.1 hz with rfl | hz
  · exact h z (by simp)
  · exact h2 z hz
end Go.Proofs.YtipoeidmblnbbaaGreatDoor
/- The walk of rubriclaw26.known. -/
namespace Go.Proofs.YtipoeidmblnbbaaGreatDoor
open Go.RowKit
set_option linter.unusedVariables false
set_option linter.unusedSimpArgs false

def dA26 : List ClS := [⟨⟨97, []⟩, none, 0⟩, ⟨⟨98, []⟩, none, 0⟩, ⟨⟨10, []⟩, none, 0⟩]
def xA26 (b : Nat) : List OpS := [⟨opR 2 [], none, 0, none, 0, none, 0⟩, ⟨opI [98, 10] [], some ⟨b, 0, none⟩, 2, none, 0, none, 0⟩]
theorem cut26 : cutC (clsOf dA26) 1 3 = [⟨98, []⟩, ⟨10, []⟩] := by kernel_rfl
theorem paste26 : mkOps (pasteM 2 [⟨98, []⟩, ⟨10, []⟩]) = [opR 2 [], opI [98, 10] []] := by decide +kernel
set_option maxRecDepth 100000 in
set_option maxHeartbeats 3200000 in
theorem known26_any (w : World) (hT : Lib.Utf8Tabs 1 2 w) :
    Calls Tryz.prog 12 #[] w fun e w' => e = .returned (.bool true) ∧ Below w.heap.size w w' := by
  go_enter Tryz.func12, Tryz.ntmps12
  go_wp2_with (go_at_call 15; refine Hid.out ?_)
  refine Lib.hid ?_
  have ya := ext_alloc w (.cells #[.int .i32 97, .slice none 0 0, .int .i32 98, .slice none 0 0, .int .i32 10, .slice none 0 0] 59)
  have ra : RdCs _ _ _ dA26 := Rd.new (enc := ClS.enc) (size := 2) ClS.enc_len w 59 dA26 (cs := #[.int .i32 97, .slice none 0 0, .int .i32 98, .slice none 0 0, .int .i32 10, .slice none 0 0]) rfl rfl
  have nA : ∀ x ∈ dA26, x.c.s = [] := fun x hx => by
    simp only [dA26, List.mem_cons, List.not_mem_nil, or_false] at hx
    rcases hx with rfl | rfl | rfl <;> rfl
  refine (cut_any (some ⟨w.heap.size, 0, none⟩) 3 3 dA26 1 3 _ rfl (Nat.le_refl _) (show RdCl _ _ _ dA26 from ⟨ra, fun x hx => by rw [nA x hx]; exact Rd.nil⟩) (by omega) (fun x hx => by rw [nA x hx]; simp)).mono ?_
  rw [cut26]
  rintro e w1 ⟨A1, c1, L, rfl, hL, oL, pL, y1⟩
  have Y1 := Lib.hid (ext_trans ya y1)
  have hlen : L.length = 2 := by have := congrArg List.length hL; rw [clsOf_len] at this; simpa using this
  have LN := Lib.hid hlen
  have HL := Lib.hid hL
  have RL := Lib.hid (rd_cells oL pL).1
  have SL : Hid (∀ z ∈ L, z.c.s.length ≤ 64) := Lib.hid (fun z hz => by
    have hm : z.c ∈ clsOf L := by unfold clsOf; exact List.mem_map_of_mem hz
    rw [hL] at hm
    simp only [List.mem_cons, List.not_mem_nil, or_false] at hm
    rcases hm with h | h <;> rw [h] <;> simp)
  obtain ⟨g, cur, hA, _, _, _, _, _, _, _⟩ := oL.row (by omega)
  subst hA
  have Z1 : Hid (∀ v, Below w1.heap.size w1 v → v.cell? ⟨g, 0, none⟩ = some (.int .i32 98)) := Lib.hid (fun v hv => by
    obtain ⟨ad, x, hA2, _, _, hx1, hc1⟩ := (RL.out.ext hv).1.el (i := 0) (by omega)
    injection hA2 with hA2
    subst hA2
    have h1 := clsOf_at hx1
    rw [hL] at h1
    have h2 : (⟨98, []⟩ : Cl) = x.c := by simpa using h1
    obtain ⟨⟨r, s⟩, As, cs⟩ := x
    have h3 : r = 98 := by injection h2 with h3; exact h3.symm
    subst h3
    obtain ⟨t0, -⟩ := cl_cells hc1
    exact t0)
  rw [hlen]
  clear ya ra nA y1 hL oL pL hlen
  go_wp2_with (go_at_call 18; refine Hid.out ?_)
  refine Lib.hid ?_
  refine (paste_any 2 (some ⟨g, 0, none⟩) 2 c1 L w1 LN.out.symm RL.out (by omega) SL.out).mono ?_
  rw [HL.out, paste26]
  rintro e w2 ⟨A2, c2, x2, rfl, ho2, hw2, hp2, y2⟩
  have Y2 := Lib.hid y2
  have hlx : x2.length = 2 := by have := congrArg List.length ho2; unfold osOf at this; simpa using this
  have OB : ∀ x ∈ x2, x.o.r.length ≤ 100000000 ∧ x.o.s.length ≤ 100000000 ∧ x.o.p.length ≤ 100000000 := fun x hx => by
    have hm : x.o ∈ osOf x2 := by unfold osOf; exact List.mem_map_of_mem hx
    rw [ho2] at hm
    simp only [List.mem_cons, List.not_mem_nil, or_false] at hm
    rcases hm with h | h <;> rw [h] <;> simp [opR, opI]
  have R2 := Lib.hid (rd_made hw2 hp2)
  have HO := Lib.hid ho2
  have HOB := Lib.hid OB
  have HLN := Lib.hid hlx
  rw [hlx]
  clear ho2 hw2 hp2 OB hlx y2
  go_wp2_with (go_at_call 21; refine Hid.out ?_)
  refine Lib.hid ?_
  refine (part26_any (some ⟨g, 0, none⟩) 2 c1 L w2 LN.out.symm (RL.out.ext Y2.out).1 (by omega)).mono ?_
  rw [HL.out, show linesC [⟨98, []⟩, ⟨10, []⟩] = 1 from rfl]
  rintro e w3 ⟨rfl, d3, rfl⟩
  have y3 := ext_drew w2 d3
  generalize w2.drewN d3 = w3 at *
  have Y3 := Lib.hid y3
  have z1 := Z1.out w3 (ext_trans Y2.out y3)
  clear y3
  go_wp2_with (go_at_call 34; refine Hid.out ?_)
  refine Lib.hid ?_
  have ya := ext_alloc w3 (.cells #[.int .i32 98, .int .i32 10] 21)
  have ra : RdI32 _ _ _ [98, 10] := Rd.new (enc := encI32) (size := 1) encI32_len w3 21 [98, 10] (cs := #[.int .i32 98, .int .i32 10]) rfl rfl
  have s1 : (w3.alloc (.cells #[.int .i32 98, .int .i32 10] 21)).heap.size = w3.heap.size + 1 := by simp
  generalize w3.alloc (.cells #[.int .i32 98, .int .i32 10] 21) = u4 at *
  have yb := ext_alloc u4 (.cells #[.int .u8 1, .int .i64 2, .slice none 0 0, .slice none 0 0, .slice none 0 0, .int .u8 2, .int .i64 0, .slice (some ⟨w3.heap.size, 0, none⟩) 2 2, .slice none 0 0, .slice none 0 0] 46)
  have rb := rd_ops u4 (xA26 w3.heap.size) (fun z hz => by
    simp only [xA26, List.mem_cons, List.not_mem_nil, or_false] at hz
    rcases hz with rfl | rfl
    · exact ⟨Rd.nil, Rd.nil, Rd.nil⟩
    · exact ⟨ra, Rd.nil, Rd.nil⟩) (cs := #[.int .u8 1, .int .i64 2, .slice none 0 0, .slice none 0 0, .slice none 0 0, .int .u8 2, .int .i64 0, .slice (some ⟨w3.heap.size, 0, none⟩) 2 2, .slice none 0 0, .slice none 0 0]) rfl (b := w3.heap.size + 1) s1.symm
  generalize u4.alloc (.cells #[.int .u8 1, .int .i64 2, .slice none 0 0, .slice none 0 0, .slice none 0 0, .int .u8 2, .int .i64 0, .slice (some ⟨w3.heap.size, 0, none⟩) 2 2, .slice none 0 0, .slice none 0 0] 46) = u5 at *
  refine (same15_any A2 (some ⟨w3.heap.size + 1, 0, none⟩) 2 2 c2 2 x2 (xA26 w3.heap.size) u5 HLN.out.symm rfl (R2.out.ext (ext_trans Y3.out (ext_trans ya yb))) rb (by omega) (by omega) HOB.out (fun z hz => by
    simp only [xA26, List.mem_cons, List.not_mem_nil, or_false] at hz
    rcases hz with rfl | rfl <;> simp [opR, opI])).mono ?_
  rw [HO.out, show osOf (xA26 w3.heap.size) = [opR 2 [], opI [98, 10] []] from rfl, decide_eq_true rfl]
  have Y5 := Lib.hid (ext_trans (ext_trans Y1.out Y2.out) (ext_trans Y3.out (ext_trans ya yb)))
  clear ya yb ra rb s1
  rintro e u6 ⟨rfl, y6⟩
  have yy := ext_trans Y5.out y6
  go_wp2_with (fail)
  go_ret
  exact ⟨rfl, yy⟩
end Go.Proofs.YtipoeidmblnbbaaGreatDoor
/- The walk of rubricref18.Great. -/
namespace Go.Proofs.YtipoeidmblnbbaaGreatDoor
open Go.RowKit
set_option linter.unusedVariables false
set_option linter.unusedSimpArgs false

def GreatOut (n : Nat) (l : List ClS) (lim : Int) (w : World) (e : Ending) (w' : World) : Prop :=
  ∃ b : Bool, e = .returned (.bool b) ∧ (b = false → (n : Int) ≤ lim ∧ ∀ x ∈ l, x.c.s.length ≤ 64) ∧ ∃ d, w' = w.drewN d
set_option maxRecDepth 100000 in
set_option maxHeartbeats 1600000 in
theorem great18_any (A : Option Addr) (n c : Nat) (l : List ClS) (lim : Int) (w : World) (hn : n = l.length) (h : RdCl w w.heap.size A l) (hb : n ≤ 140737488355328) (hs : ∀ x ∈ l, x.c.s.length ≤ 140737488355328) :
    Calls Tryz.prog 11 #[.slice A n c, .int .i64 lim] w (GreatOut n l lim w) := by
  have N := Lib.hid hn
  have HR := Lib.hid h
  have HS := Lib.hid hs
  clear hn h hs
  by_cases hl : lim < (n : Int)
  · go_enter Tryz.func11, Tryz.ntmps11
    go_wp2_with (fail)
    go_ret
    exact ⟨true, rfl, (by intro h; cases h), 0, rfl⟩
  have hle : (n : Int) ≤ lim := by omega
  go_enter Tryz.func11, Tryz.ntmps11
  go_wp2_with (fail)
  go_loopg [5, 6] n (fun g av iv wr => ∃ (m : Nat) (a : Int), m ≤ n ∧ g = n - m ∧ av = .int .i64 a ∧ iv = .int .i64 (m : Int) ∧ (∃ d, wr = w.drewN d) ∧ Hid (∀ x ∈ l.take m, x.c.s.length ≤ 64))
  case atStart => exact ⟨0, 0, by omega, rfl, rfl, rfl, ⟨0, rfl⟩, Lib.hid (by simp)⟩
  case round =>
    obtain ⟨m, a, hm, hg, rfl, rfl, ⟨d, rfl⟩, HI⟩ := hrel
    have HG := Lib.hid hg
    clear hg
    by_cases hlt : m < n
    · have hl1 : m < l.length := by have := N.out; omega
      obtain ⟨ad, o, had0, had, hd1, hx1, hc0⟩ := HR.out.1.el hl1
      subst had0
      have hmem := List.mem_of_getElem? hx1
      have g2 := HR.out.2 o hmem
      have hso := HS.out o hmem
      have HT : Hid (l.take (m + 1) = l.take m ++ [o]) := Lib.hid (by rw [List.take_add_one, hx1]; rfl)
      obtain ⟨⟨r, s⟩, As, cs⟩ := o
      simp only at g2 hso
      obtain ⟨r0, r1⟩ := cl_cells hc0
      obtain ⟨ns, hns⟩ : ∃ X, s.length = X := ⟨_, rfl⟩
      have NS := Lib.hid hns
      rw [hns] at r1 hso
      have hw2 : IntKind.i64.wrap ((m:Int) + 1) = (m : Int) + 1 := IntWalk.i64_in _ (by omega)
      clear hc0 hd1 hx1 hmem hns hl1
      by_cases h64 : (64 : Int) < (ns : Int)
      · go_wp2_with (fail)
        go_ret
        exact ⟨true, rfl, (by intro h; cases h), _, rfl⟩
      · have h64' : Hid (s.length ≤ 64) := Lib.hid (by rw [NS.out]; omega)
        go_wp2_with (fail)
        go_loopg [5, 7] ns (fun g av iv wi => ∃ (j : Nat) (b : Int), j ≤ ns ∧ g = ns - j ∧ av = .int .i64 b ∧ iv = .int .i64 (j : Int) ∧ ∃ d, wi = w.drewN d)
        case atStart => exact ⟨0, _, by omega, rfl, rfl, rfl, _, rfl⟩
        case round =>
          obtain ⟨j, b, hj, hg2, rfl, rfl, d2, rfl⟩ := hrel
          have HG2 := Lib.hid hg2
          clear hg2
          by_cases hls : j < ns
          · obtain ⟨ad2, z, e2, _, _, _, hz⟩ := g2.el (i := j) (by have := NS.out; omega)
            subst e2
            obtain ⟨z1, z2, z3, z4, z5⟩ := z
            obtain ⟨s0, s1, s2, s3, s4⟩ := at_cells hz
            have hw3 : IntKind.i64.wrap ((j:Int) + 1) = (j : Int) + 1 := IntWalk.i64_in _ (by omega)
            clear hz
            go_wp2_with (fail)
            go_roundg (ns - (j + 1))
            case measure => have := HG2.out; omega
            case rel => exact ⟨j + 1, _, by omega, rfl, rfl, by go_num, _, rfl⟩
          · go_wp2_with (fail)
            go_roundg (n - (m + 1))
            case measure => have := HG.out; omega
            case rel =>
              refine ⟨m + 1, _, by omega, rfl, rfl, by go_num, ⟨_, rfl⟩, Lib.hid ?_⟩
              intro y hy
              rw [HT.out] at hy
              rcases List.mem_append.1 hy with hy | hy
              · exact HI.out y hy
              · simp at hy; subst hy; exact h64'.out
    · have hmn : l.take m = l := List.take_of_length_le (by have := N.out; omega)
      have HI2 := HI.out
      rw [hmn] at HI2
      have H2 := Lib.hid HI2
      clear HI2 hmn
      go_wp2_with (fail)
      go_ret
      exact ⟨_, rfl, fun _ => ⟨hle, H2.out⟩, _, rfl⟩
end Go.Proofs.YtipoeidmblnbbaaGreatDoor
/- Small words for the walks of laws: cells that stay along a world, answers that are known. -/
namespace Go.Proofs.YtipoeidmblnbbaaGreatDoor
open Go.RowKit
set_option linter.unusedVariables false
set_option linter.unusedSimpArgs false

/-- cells of a block that is there -/
def CellsIn (w : World) (p : Addr) (cs : List Value) : Prop := p.block < w.heap.size ∧ CellsAt w p cs
theorem CellsIn.ext {w w' : World} {p : Addr} {cs : List Value} (h : CellsIn w p cs) (y : Below w.heap.size w w') : CellsIn w' p cs :=
  ⟨Nat.lt_of_lt_of_le h.1 y.size, h.2.keep fun q hq => y.cell (by rw [hq]; exact h.1)⟩
theorem Rd.elIn {α : Type} {enc : α → List Value} {size : Nat} {w : World} {A : Option Addr} {l : List α} (h : Rd enc size w w.heap.size A l) {i : Nat} (hi : i < l.length) :
    ∃ ad a, A = some ad ∧ l.drop i = a :: l.drop (i + 1) ∧ l[i]? = some a ∧ CellsIn w (ad.add (i * size)) (enc a) := by
  obtain ⟨ad, a, h1, h2, h3, h4, h5⟩ := h.el hi
  exact ⟨ad, a, h1, h3, h4, by rw [add_block]; exact h2, h5⟩

theorem drew_ext {w w' : World} {d : Nat} (h : w' = w.drewN d) : Below w.heap.size w w' := by subst h; exact ext_drew w d
theorem findS_some (s : Nat) (l : List Ky) (id : Int) (w : World) (h : Sch w s l) {i n g : Int} {c d f : Bool} (hf : findK l id = some ⟨i, c, n, d, f, g⟩) :
    Calls Tryz.prog 86 #[.pointer (some ⟨s, 0, none⟩), .int .i64 id] w fun e w' => e = .returned (.tuple #[.agg #[.int .i64 i, .bool c, .int .u8 n, .bool d, .bool f, .int .i64 g], .bool true]) ∧ Below w.heap.size w w' :=
  (findS_any s l id w h).mono fun e w' ⟨i', c', n', d', f', g', q, he, h1, h2, y⟩ => by
    rw [hf] at h1 h2
    simp only [Option.getD_some, Option.isSome_some] at h1 h2
    injection h1 with a1 a2 a3 a4 a5 a6
    subst a1 a2 a3 a4 a5 a6 h2
    exact ⟨he, y⟩
theorem findS_none (s : Nat) (l : List Ky) (id : Int) (w : World) (h : Sch w s l) (hf : findK l id = none) :
    Calls Tryz.prog 86 #[.pointer (some ⟨s, 0, none⟩), .int .i64 id] w fun e w' => e = .returned (.tuple #[.agg #[.int .i64 0, .bool false, .int .u8 0, .bool false, .bool false, .int .i64 0], .bool false]) ∧ Below w.heap.size w w' :=
  (findS_any s l id w h).mono fun e w' ⟨i', c', n', d', f', g', q, he, h1, h2, y⟩ => by
    rw [hf] at h1 h2
    simp only [Option.getD_none, Option.isSome_none] at h1 h2
    injection h1 with a1 a2 a3 a4 a5 a6
    subst a1 a2 a3 a4 a5 a6 h2
    exact ⟨he, y⟩
end Go.Proofs.YtipoeidmblnbbaaGreatDoor
