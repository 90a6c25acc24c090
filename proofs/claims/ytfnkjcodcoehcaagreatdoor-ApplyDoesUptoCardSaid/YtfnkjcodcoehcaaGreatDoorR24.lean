/- Merged texts: Same15, Same18, DoesKit. -/
import Derived.Deep.RegionHeld3
import Derived.Test.YtfnkjcodcoehcaaGreatDoorR18
import Derived.Test.YtfnkjcodcoehcaaGreatDoorR3
import Derived.Test.YtfnkjcodcoehcaaGreatDoorR2
import Derived.Test.YtfnkjcodcoehcaaGreatDoorR23
import Derived.Test.YtfnkjcodcoehcaaGreatDoorR17
namespace Go.Proofs.YtfnkjcodcoehcaaGreatDoor
open Go.RowKit
set_option linter.unusedVariables false
set_option linter.unusedSimpArgs false

theorem abs_world {P F : World → Prop} {v : World} (h : F v) (k : ∀ v, F v → P v) : P v := k v h
set_option maxRecDepth 100000 in
set_option maxHeartbeats 3200000 in
theorem same15_any (A B : Option Addr) (n m c d : Nat) (l k : List OpS) (w : World) (hn : n = l.length) (hm : m = k.length) (h1 : RdOp w w.heap.size A l) (h2 : RdOp w w.heap.size B k) (hb : n ≤ 100000000) (hb2 : m ≤ 100000000)
    (hs1 : ∀ x ∈ l, x.o.r.length ≤ 100000000 ∧ x.o.s.length ≤ 100000000 ∧ x.o.p.length ≤ 100000000) (hs2 : ∀ x ∈ k, x.o.r.length ≤ 100000000 ∧ x.o.s.length ≤ 100000000 ∧ x.o.p.length ≤ 100000000) :
    Calls Tryz.prog 22 #[.slice A n c, .slice B m d] w fun e w' => e = .returned (.bool (decide (osOf l = osOf k))) ∧ Below w.heap.size w w' := by
  have N := Lib.hid hn
  have M := Lib.hid hm
  have H1 := Lib.hid h1
  have H2 := Lib.hid h2
  have S1 := Lib.hid hs1
  have S2 := Lib.hid hs2
  generalize hR : decide (osOf l = osOf k) = R
  have HR := Lib.hid hR
  clear hn hR hm h1 h2 hs1 hs2
  have HL : Hid (∀ x : List OpS, (osOf x).length = x.length) := Lib.hid (fun x => by unfold osOf; simp)
  by_cases hnm : (n : Int) = m
  · have hnm' : n = m := by omega
    subst hnm'
    clear hnm
    have hne : ((n : Int) != n) = false := by simp
    go_enter Tryz.func22, Tryz.ntmps22
    go_wp2_with (fail)
    go_loopg [5] n (fun g iv wr => ∃ i : Nat, i ≤ n ∧ g = n - i ∧ iv = .int .i64 (i : Int) ∧ Below w.heap.size w wr ∧ Hid (decide (osOf (l.drop i) = osOf (k.drop i)) = R))
    case atStart => exact ⟨0, by omega, rfl, rfl, Below.refl _ _, Lib.hid (by rw [List.drop_zero, List.drop_zero]; exact HR.out)⟩
    case round =>
      obtain ⟨i, hi, hg, rfl, y, HI⟩ := hrel
      have HG := Lib.hid hg
      clear hg HR
      by_cases hlt : i < n
      · have hl1 : i < l.length := by have := N.out; omega
        have hl2 : i < k.length := by have := M.out; omega
        obtain ⟨ad, x, rfl, had1, hd1, hx1, hc1⟩ := (H1.out.ext y).1.el hl1
        obtain ⟨ad2, x', rfl, had2, hd2, hx2, hc2⟩ := (H2.out.ext y).1.el hl2
        have hm1 := List.mem_of_getElem? hx1
        have hm2 := List.mem_of_getElem? hx2
        have p1 := Lib.hid (H1.out.2 x hm1)
        have p2 := Lib.hid (H2.out.2 x' hm2)
        have b1 := Lib.hid (S1.out x hm1)
        have b2 := Lib.hid (S2.out x' hm2)
        have HI' : Hid (decide (x.o :: osOf (l.drop (i + 1)) = x'.o :: osOf (k.drop (i + 1))) = R) := Lib.hid (by rw [← HI.out, hd1, hd2]; rfl)
        clear HI hd1 hd2 hx1 hx2 hm1 hm2
        obtain ⟨⟨k1, n1, r1, s1, q1⟩, Ar1, cr1, As1, cs1, Ap1, cp1⟩ := x
        obtain ⟨⟨k2, n2, r2, s2, q2'⟩, Ar2, cr2, As2, cs2, Ap2, cp2⟩ := x'
        obtain ⟨z0, z1, z2, z3, z4⟩ := op_cells hc1
        obtain ⟨u0, u1, u2, u3, u4⟩ := op_cells hc2
        have hlt' : (i : Int) < (n : Int) := by omega
        have v1 : wr.heap.size ≠ (ad.add (i * 5)).block := by rw [add_block]; omega
        have v2 : wr.heap.size ≠ (ad2.add (i * 5)).block := by rw [add_block]; omega
        have v3 : wr.heap.size + 1 ≠ (ad.add (i * 5)).block := by rw [add_block]; omega
        have v4 : wr.heap.size + 1 ≠ (ad2.add (i * 5)).block := by rw [add_block]; omega
        clear hc1 hc2 hl1 hl2 had2 had1
        obtain ⟨sz, hsz⟩ : ∃ z, wr.heap.size = z := ⟨_, rfl⟩
        go_wp2_with (fail)
        go_region_held3 (fun w' => w'.cell? (ad.add (i * 5)) = some (.int .u8 k1) ∧ w'.cell? { block := (ad.add (i * 5)).block, off := (ad.add (i * 5)).off + 1 } = some (.int .i64 n1) ∧ w'.cell? { block := (ad.add (i * 5)).block, off := (ad.add (i * 5)).off + 2 } = some (.slice Ar1 r1.length cr1) ∧ w'.cell? { block := (ad.add (i * 5)).block, off := (ad.add (i * 5)).off + 3 } = some (.slice As1 s1.length cs1) ∧ w'.cell? { block := (ad.add (i * 5)).block, off := (ad.add (i * 5)).off + 4 } = some (.slice Ap1 q1.length cp1) ∧ w'.cell? (ad2.add (i * 5)) = some (.int .u8 k2) ∧ w'.cell? { block := (ad2.add (i * 5)).block, off := (ad2.add (i * 5)).off + 1 } = some (.int .i64 n2) ∧ w'.cell? { block := (ad2.add (i * 5)).block, off := (ad2.add (i * 5)).off + 2 } = some (.slice Ar2 r2.length cr2) ∧ w'.cell? { block := (ad2.add (i * 5)).block, off := (ad2.add (i * 5)).off + 3 } = some (.slice As2 s2.length cs2) ∧ w'.cell? { block := (ad2.add (i * 5)).block, off := (ad2.add (i * 5)).off + 4 } = some (.slice Ap2 q2'.length cp2))
          (go_keep) (fail)
        · have ya := ext_alloc wr (.cells #[.int .u8 k1, .int .i64 n1, .slice Ar1 r1.length cr1, .slice As1 s1.length cs1, .slice Ap1 q1.length cp1] 50)
          have yb := ext_alloc (wr.alloc (.cells #[.int .u8 k1, .int .i64 n1, .slice Ar1 r1.length cr1, .slice As1 s1.length cs1, .slice Ap1 q1.length cp1] 50)) (.cells #[.int .u8 k2, .int .i64 n2, .slice Ar2 r2.length cr2, .slice As2 s2.length cs2, .slice Ap2 q2'.length cp2] 50)
          have ga := (yb.block wr.heap.size (by simp)).trans (heap_alloc_new wr (.cells #[.int .u8 k1, .int .i64 n1, .slice Ar1 r1.length cr1, .slice As1 s1.length cs1, .slice Ap1 q1.length cp1] 50))
          have gb := heap_alloc_new (wr.alloc (.cells #[.int .u8 k1, .int .i64 n1, .slice Ar1 r1.length cr1, .slice As1 s1.length cs1, .slice Ap1 q1.length cp1] 50)) (.cells #[.int .u8 k2, .int .i64 n2, .slice Ar2 r2.length cr2, .slice As2 s2.length cs2, .slice Ap2 q2'.length cp2] 50)
          rw [World.size_alloc] at gb
          rw [hsz] at ga gb
          refine abs_world (F := fun v => Below w.heap.size w v ∧ v.heap[sz]? = some (.cells #[.int .u8 k1, .int .i64 n1, .slice Ar1 r1.length cr1, .slice As1 s1.length cs1, .slice Ap1 q1.length cp1] 50 (0, 0)) ∧ v.heap[sz + 1]? = some (.cells #[.int .u8 k2, .int .i64 n2, .slice Ar2 r2.length cr2, .slice As2 s2.length cs2, .slice Ap2 q2'.length cp2] 50 (0, 0))) ⟨(ext_trans y (ext_trans ya yb)).drew, ga, gb⟩ ?_
          clear ya yb ga gb hsz v1 v2 v3 v4
          obtain ⟨sz1, hs1⟩ : ∃ z, sz + 1 = z := ⟨_, rfl⟩
          rw [hs1]
          clear hs1
          intro v
          rintro ⟨yv, g6, g7⟩
          obtain ⟨c0, c1, c2, c3, c4⟩ := box_at g6
          obtain ⟨e0, e1, e2, e3, e4⟩ := box_at g7
          have YV := Lib.hid yv
          clear g6 g7
          by_cases hk : k1 = k2
          · subst hk
            have hkk : (k1 != k1) = false := by simp
            by_cases hn : n1 = n2
            · subst hn
              have hnn : (n1 != n1) = false := by simp
              go_wp2_with (go_at_call 59; refine Hid.out ?_)
              refine Lib.hid ?_
              refine (refSame_any Ar1 Ar2 r1.length r2.length cr1 cr2 r1 r2 v rfl rfl (p1.out.1.ext yv) (p2.out.1.ext yv) (by have := b1.out.1; omega) (by have := b2.out.1; omega)).mono ?_
              by_cases hr : r1 = r2
              · subst hr
                rw [decide_eq_true rfl]
                rintro e v2 ⟨rfl, q2, rfl⟩
                go_wp2_with (go_at_call 39; refine Hid.out ?_)
                refine Lib.hid ?_
                refine (sameA_any As1 As2 s1.length s2.length cs1 cs2 s1 s2 _ rfl rfl ((p1.out.2.1.ext yv).drewN _) ((p2.out.2.1.ext yv).drewN _) (by have := b1.out.2.1; omega) (by have := b2.out.2.1; omega)).mono ?_
                by_cases hs : s1 = s2
                · subst hs
                  rw [decide_eq_true rfl]
                  rintro e v3 ⟨rfl, q3, rfl⟩
                  go_wp2_with (go_at_call 78; refine Hid.out ?_)
                  refine Lib.hid ?_
                  refine (sameR6_any Ap1 Ap2 q1.length q2'.length cp1 cp2 q1 q2' _ rfl rfl ((p1.out.2.2.ext yv).drewN _) ((p2.out.2.2.ext yv).drewN _) (by have := b1.out.2.2; omega) (by have := b2.out.2.2; omega)).mono ?_
                  by_cases hp : q1 = q2'
                  · subst hp
                    rw [decide_eq_true rfl]
                    rintro e v4 ⟨rfl, q4, rfl⟩
                    have hw2 : IntKind.i64.wrap ((i:Int) + 1) = (i : Int) + 1 := IntWalk.i64_in _ (by omega)
                    go_wp2_with (fail)
                    go_roundg (n - (i + 1))
                    case measure => have := HG.out; omega
                    case rel => exact ⟨i + 1, by omega, rfl, by go_num, below_drewN YV.out _, Lib.hid (by rw [← HI'.out]; simp only [List.cons.injEq, true_and])⟩
                  · rw [decide_eq_false hp]
                    rintro e v4 ⟨rfl, q4, rfl⟩
                    have HP := Lib.hid hp
                    clear hp
                    go_wp2_with (fail)
                    go_ret
                    exact ⟨ret_bool (by rw [← HI'.out]; exact (decide_eq_false fun e => HP.out (Opd.mk.inj (List.cons.inj e).1).2.2.2.2).symm), below_drewN YV.out _⟩
                · rw [decide_eq_false hs]
                  rintro e v3 ⟨rfl, q3, rfl⟩
                  have HP := Lib.hid hs
                  clear hs
                  go_wp2_with (fail)
                  go_ret
                  exact ⟨ret_bool (by rw [← HI'.out]; exact (decide_eq_false fun e => HP.out (Opd.mk.inj (List.cons.inj e).1).2.2.2.1).symm), below_drewN YV.out _⟩
              · rw [decide_eq_false hr]
                rintro e v2 ⟨rfl, q2, rfl⟩
                have HP := Lib.hid hr
                clear hr
                go_wp2_with (fail)
                go_ret
                exact ⟨ret_bool (by rw [← HI'.out]; exact (decide_eq_false fun e => HP.out (Opd.mk.inj (List.cons.inj e).1).2.2.1).symm), below_drewN YV.out _⟩
            · have hnn : (n1 != n2) = true := by simp [hn]
              have HP := Lib.hid hn
              clear hn
              go_wp2_with (fail)
              go_ret
              exact ⟨ret_bool (by rw [← HI'.out]; exact (decide_eq_false fun e => HP.out (Opd.mk.inj (List.cons.inj e).1).2.1).symm), YV.out⟩
          · have hkk : (k1 != k2) = true := by simp [hk]
            have HP := Lib.hid hk
            clear hk
            go_wp2_with (fail)
            go_ret
            exact ⟨ret_bool (by rw [← HI'.out]; exact (decide_eq_false fun e => HP.out (Opd.mk.inj (List.cons.inj e).1).1).symm), YV.out⟩
        · have ya := ext_alloc wr (.cells #[.int .u8 k2, .int .i64 n2, .slice Ar2 r2.length cr2, .slice As2 s2.length cs2, .slice Ap2 q2'.length cp2] 50)
          have yb := ext_alloc (wr.alloc (.cells #[.int .u8 k2, .int .i64 n2, .slice Ar2 r2.length cr2, .slice As2 s2.length cs2, .slice Ap2 q2'.length cp2] 50)) (.cells #[.int .u8 k1, .int .i64 n1, .slice Ar1 r1.length cr1, .slice As1 s1.length cs1, .slice Ap1 q1.length cp1] 50)
          have ga := (yb.block wr.heap.size (by simp)).trans (heap_alloc_new wr (.cells #[.int .u8 k2, .int .i64 n2, .slice Ar2 r2.length cr2, .slice As2 s2.length cs2, .slice Ap2 q2'.length cp2] 50))
          have gb := heap_alloc_new (wr.alloc (.cells #[.int .u8 k2, .int .i64 n2, .slice Ar2 r2.length cr2, .slice As2 s2.length cs2, .slice Ap2 q2'.length cp2] 50)) (.cells #[.int .u8 k1, .int .i64 n1, .slice Ar1 r1.length cr1, .slice As1 s1.length cs1, .slice Ap1 q1.length cp1] 50)
          rw [World.size_alloc] at gb
          rw [hsz] at ga gb
          refine abs_world (F := fun v => Below w.heap.size w v ∧ v.heap[sz + 1]? = some (.cells #[.int .u8 k1, .int .i64 n1, .slice Ar1 r1.length cr1, .slice As1 s1.length cs1, .slice Ap1 q1.length cp1] 50 (0, 0)) ∧ v.heap[sz]? = some (.cells #[.int .u8 k2, .int .i64 n2, .slice Ar2 r2.length cr2, .slice As2 s2.length cs2, .slice Ap2 q2'.length cp2] 50 (0, 0))) ⟨(ext_trans y (ext_trans ya yb)).drew, gb, ga⟩ ?_
          clear ya yb ga gb hsz v1 v2 v3 v4
          obtain ⟨sz1, hs1⟩ : ∃ z, sz + 1 = z := ⟨_, rfl⟩
          rw [hs1]
          clear hs1
          intro v
          rintro ⟨yv, g6, g7⟩
          obtain ⟨c0, c1, c2, c3, c4⟩ := box_at g6
          obtain ⟨e0, e1, e2, e3, e4⟩ := box_at g7
          have YV := Lib.hid yv
          clear g6 g7
          by_cases hk : k1 = k2
          · subst hk
            have hkk : (k1 != k1) = false := by simp
            by_cases hn : n1 = n2
            · subst hn
              have hnn : (n1 != n1) = false := by simp
              go_wp2_with (go_at_call 59; refine Hid.out ?_)
              refine Lib.hid ?_
              refine (refSame_any Ar1 Ar2 r1.length r2.length cr1 cr2 r1 r2 v rfl rfl (p1.out.1.ext yv) (p2.out.1.ext yv) (by have := b1.out.1; omega) (by have := b2.out.1; omega)).mono ?_
              by_cases hr : r1 = r2
              · subst hr
                rw [decide_eq_true rfl]
                rintro e v2 ⟨rfl, q2, rfl⟩
                go_wp2_with (go_at_call 39; refine Hid.out ?_)
                refine Lib.hid ?_
                refine (sameA_any As1 As2 s1.length s2.length cs1 cs2 s1 s2 _ rfl rfl ((p1.out.2.1.ext yv).drewN _) ((p2.out.2.1.ext yv).drewN _) (by have := b1.out.2.1; omega) (by have := b2.out.2.1; omega)).mono ?_
                by_cases hs : s1 = s2
                · subst hs
                  rw [decide_eq_true rfl]
                  rintro e v3 ⟨rfl, q3, rfl⟩
                  go_wp2_with (go_at_call 78; refine Hid.out ?_)
                  refine Lib.hid ?_
                  refine (sameR6_any Ap1 Ap2 q1.length q2'.length cp1 cp2 q1 q2' _ rfl rfl ((p1.out.2.2.ext yv).drewN _) ((p2.out.2.2.ext yv).drewN _) (by have := b1.out.2.2; omega) (by have := b2.out.2.2; omega)).mono ?_
                  by_cases hp : q1 = q2'
                  · subst hp
                    rw [decide_eq_true rfl]
                    rintro e v4 ⟨rfl, q4, rfl⟩
                    have hw2 : IntKind.i64.wrap ((i:Int) + 1) = (i : Int) + 1 := IntWalk.i64_in _ (by omega)
                    go_wp2_with (fail)
                    go_roundg (n - (i + 1))
                    case measure => have := HG.out; omega
                    case rel => exact ⟨i + 1, by omega, rfl, by go_num, below_drewN YV.out _, Lib.hid (by rw [← HI'.out]; simp only [List.cons.injEq, true_and])⟩
                  · rw [decide_eq_false hp]
                    rintro e v4 ⟨rfl, q4, rfl⟩
                    have HP := Lib.hid hp
                    clear hp
                    go_wp2_with (fail)
                    go_ret
                    exact ⟨ret_bool (by rw [← HI'.out]; exact (decide_eq_false fun e => HP.out (Opd.mk.inj (List.cons.inj e).1).2.2.2.2).symm), below_drewN YV.out _⟩
                · rw [decide_eq_false hs]
                  rintro e v3 ⟨rfl, q3, rfl⟩
                  have HP := Lib.hid hs
                  clear hs
                  go_wp2_with (fail)
                  go_ret
                  exact ⟨ret_bool (by rw [← HI'.out]; exact (decide_eq_false fun e => HP.out (Opd.mk.inj (List.cons.inj e).1).2.2.2.1).symm), below_drewN YV.out _⟩
              · rw [decide_eq_false hr]
                rintro e v2 ⟨rfl, q2, rfl⟩
                have HP := Lib.hid hr
                clear hr
                go_wp2_with (fail)
                go_ret
                exact ⟨ret_bool (by rw [← HI'.out]; exact (decide_eq_false fun e => HP.out (Opd.mk.inj (List.cons.inj e).1).2.2.1).symm), below_drewN YV.out _⟩
            · have hnn : (n1 != n2) = true := by simp [hn]
              have HP := Lib.hid hn
              clear hn
              go_wp2_with (fail)
              go_ret
              exact ⟨ret_bool (by rw [← HI'.out]; exact (decide_eq_false fun e => HP.out (Opd.mk.inj (List.cons.inj e).1).2.1).symm), YV.out⟩
          · have hkk : (k1 != k2) = true := by simp [hk]
            have HP := Lib.hid hk
            clear hk
            go_wp2_with (fail)
            go_ret
            exact ⟨ret_bool (by rw [← HI'.out]; exact (decide_eq_false fun e => HP.out (Opd.mk.inj (List.cons.inj e).1).1).symm), YV.out⟩
      · have hlt' : ¬ (i : Int) < (n : Int) := by omega
        go_wp2_with (fail)
        go_ret
        exact ⟨ret_bool (by rw [← HI.out, List.drop_eq_nil_of_le (by have := N.out; omega), List.drop_eq_nil_of_le (by have := M.out; omega)]; rfl), y⟩
  · have hne : ((n : Int) != m) = true := by simp [hnm]
    go_enter Tryz.func22, Tryz.ntmps22
    go_wp2_with (fail)
    go_ret
    refine ⟨ret_bool ?_, Below.refl _ _⟩
    rw [← HR.out]
    refine (decide_eq_false fun e => ?_).symm
    have h3 := N.out
    have h4 := M.out
    have h5 := congrArg List.length e
    rw [HL.out, HL.out] at h5
    omega
end Go.Proofs.YtfnkjcodcoehcaaGreatDoor
namespace Go.Proofs.YtfnkjcodcoehcaaGreatDoor
open Go.RowKit
set_option linter.unusedVariables false
set_option linter.unusedSimpArgs false

set_option maxRecDepth 100000 in
set_option maxHeartbeats 1600000 in
theorem same18_any (A B : Option Addr) (n m c d : Nat) (l k : List ClS) (w : World) (hn : n = l.length) (hm : m = k.length) (h1 : RdCl w w.heap.size A l) (h2 : RdCl w w.heap.size B k) (hb : n ≤ 100000000) (hb2 : m ≤ 100000000)
    (hs1 : ∀ x ∈ l, x.c.s.length ≤ 140737488355328) (hs2 : ∀ x ∈ k, x.c.s.length ≤ 140737488355328) :
    Calls Tryz.prog 19 #[.slice A n c, .slice B m d] w (QuietR (.bool (decide (clsOf l = clsOf k))) w) := by
  have N := Lib.hid hn
  have M := Lib.hid hm
  have H1 := Lib.hid h1
  have H2 := Lib.hid h2
  have S1 := Lib.hid hs1
  have S2 := Lib.hid hs2
  generalize hR : decide (clsOf l = clsOf k) = R
  have HR := Lib.hid hR
  clear hn hR hm h1 h2 hs1 hs2
  have HL : Hid (∀ x : List ClS, (clsOf x).length = x.length) := Lib.hid (fun x => by unfold clsOf; simp)
  by_cases hnm : (n : Int) = m
  · have hnm' : n = m := by omega
    subst hnm'
    clear hnm
    have hne : ((n : Int) != n) = false := by simp
    go_enter Tryz.func19, Tryz.ntmps19
    go_wp2_with (fail)
    go_loopg [5] n (fun g iv wr => ∃ (i dr : Nat), i ≤ n ∧ g = n - i ∧ iv = .int .i64 (i : Int) ∧ wr = w.drewN dr ∧ Hid (decide (clsOf (l.drop i) = clsOf (k.drop i)) = R))
    case atStart => exact ⟨0, 0, by omega, rfl, rfl, rfl, Lib.hid (by rw [List.drop_zero, List.drop_zero]; exact HR.out)⟩
    case round =>
      obtain ⟨i, dr, hi, hg, rfl, rfl, HI⟩ := hrel
      have HG := Lib.hid hg
      clear hg HR
      by_cases hlt : i < n
      · have hl1 : i < l.length := by have := N.out; omega
        have hl2 : i < k.length := by have := M.out; omega
        have hlt' : (i : Int) < (n : Int) := by omega
        have y := ext_drew w dr
        generalize hwq : w.drewN dr = wq at *
        have HWQ := Lib.hid hwq
        clear hwq
        obtain ⟨ad, x, rfl, _, hd1, hx1, hc1⟩ := (H1.out.ext y).1.el hl1
        obtain ⟨ad2, x', rfl, _, hd2, hx2, hc2⟩ := (H2.out.ext y).1.el hl2
        have hm1 := List.mem_of_getElem? hx1
        have hm2 := List.mem_of_getElem? hx2
        have p1 := Lib.hid ((H1.out.ext y).2 x hm1)
        have p2 := Lib.hid ((H2.out.ext y).2 x' hm2)
        have b1 := Lib.hid (S1.out x hm1)
        have b2 := Lib.hid (S2.out x' hm2)
        have HI' : Hid (decide (x.c :: clsOf (l.drop (i + 1)) = x'.c :: clsOf (k.drop (i + 1))) = R) := Lib.hid (by rw [← HI.out, hd1, hd2]; rfl)
        clear HI hd1 hd2 hx1 hx2 hm1 hm2
        obtain ⟨⟨r1, s1⟩, As1, cs1⟩ := x
        obtain ⟨⟨r2, s2⟩, As2, cs2⟩ := x'
        obtain ⟨z0, z1⟩ := cl_cells hc1
        obtain ⟨u0, u1⟩ := cl_cells hc2
        have hw2 : IntKind.i64.wrap ((i:Int) + 1) = (i : Int) + 1 := IntWalk.i64_in _ (by omega)
        clear hc1 hc2 hl1 hl2
        by_cases hr : r1 = r2
        · subst hr
          have hrr : (r1 != r1) = false := by simp
          cases hd : decide (s1 = s2)
          all_goals
            have HD := Lib.hid hd
            clear hd
            have HSM : Hid (∀ v : Nat, Calls Tryz.prog 39 #[.slice As1 s1.length cs1, .slice As2 s2.length cs2] (wq.drewN v) (fun e w' => e = .returned (.bool _) ∧ ∃ m, w' = (wq.drewN v).drewN m)) := Lib.hid (fun v => by
              have h := sameA_any As1 As2 s1.length s2.length cs1 cs2 s1 s2 (wq.drewN v) rfl rfl (p1.out.ext (ext_drew _ v)) (p2.out.ext (ext_drew _ v)) b1.out b2.out
              rw [HD.out] at h
              exact h)
            go_wp2_with (fail)
            go_quiet ((go_at_call 39; exact Calls.quiet_of (HSM.out _)))
          · go_wp2_with (fail)
            go_ret
            exact ⟨ret_bool (by rw [← HI'.out]; exact (decide_eq_false fun e => of_decide_eq_false HD.out (Cl.mk.inj (List.cons.inj e).1).2).symm), dr + nq, (by rw [← HWQ.out]; exact World.drewN_drewN _ _ _)⟩
          · have e2 : s1 = s2 := of_decide_eq_true HD.out
            go_wp2_with (fail)
            go_roundg (n - (i + 1))
            case measure => have := HG.out; omega
            case rel => exact ⟨i + 1, dr + nq, by omega, rfl, by go_num, (by rw [← HWQ.out]; exact World.drewN_drewN _ _ _), Lib.hid (by rw [← HI'.out, e2]; simp only [List.cons.injEq, true_and])⟩
        · have hrr : (r1 != r2) = true := by rw [bne, beq_eq_false_iff_ne.2 hr]; rfl
          have HD := Lib.hid hr
          clear hr
          go_wp2_with (fail)
          go_quiet (fail)
          go_wp2_with (fail)
          go_ret
          exact ⟨ret_bool (by rw [← HI'.out]; exact (decide_eq_false fun e => HD.out (Cl.mk.inj (List.cons.inj e).1).1).symm), dr + nq, (by rw [← HWQ.out]; exact World.drewN_drewN _ _ _)⟩
      · have hlt' : ¬ (i : Int) < (n : Int) := by omega
        go_wp2_with (fail)
        go_ret
        exact ⟨ret_bool (by rw [← HI.out, List.drop_eq_nil_of_le (by have := N.out; omega), List.drop_eq_nil_of_le (by have := M.out; omega)]; rfl), dr, rfl⟩
  · have hne : ((n : Int) != m) = true := by rw [bne, beq_eq_false_iff_ne.2 hnm]; rfl
    go_enter Tryz.func19, Tryz.ntmps19
    go_wp2_with (fail)
    go_ret
    refine ⟨ret_bool ?_, 0, rfl⟩
    rw [← HR.out]
    refine (decide_eq_false fun e => ?_).symm
    have h3 := N.out
    have h4 := M.out
    have h5 := congrArg List.length e
    rw [HL.out, HL.out] at h5
    omega
end Go.Proofs.YtfnkjcodcoehcaaGreatDoor
namespace Go.Proofs.YtfnkjcodcoehcaaGreatDoor
open Go.RowKit
set_option linter.unusedVariables false
set_option linter.unusedSimpArgs false

theorem copy18D {w : World} {A : Option Addr} {n c : Nat} {L : List ClS} (h : DocAt w A n c L) : Calls Tryz.prog 15 #[.slice A n c] w (NewDoc (clsOf L) w) :=
  (copy18_any A n c L w h.len h.rd (by have := h.b; omega) (fun x hx => by have := (h.vr x hx).1; omega)).mono fun e w' hN => hN.doc (fun x hx => by
    obtain ⟨z, hz, rfl⟩ := cls_mem hx
    exact h.vr z hz) (by have := h.clen; have := h.b; omega)
theorem same18D {w : World} {A B : Option Addr} {n c n2 c2 : Nat} {L M : List ClS} (h1 : DocAt w A n c L) (h2 : DocAt w B n2 c2 M) {b : Bool} (hb : decide (clsOf L = clsOf M) = b) :
    Calls Tryz.prog 19 #[.slice A n c, .slice B n2 c2] w fun e w' => e = .returned (.bool b) ∧ Below w.heap.size w w' := by
  have h := same18_any A B n n2 c c2 L M w h1.len h2.len h1.rd h2.rd (by have := h1.b; omega) (by have := h2.b; omega) (fun x hx => by have := (h1.vr x hx).1; omega) (fun x hx => by have := (h2.vr x hx).1; omega)
  rw [hb] at h
  exact h.mono fun e w' ⟨he, d, hd⟩ => ⟨he, by subst hd; exact ext_drew w d⟩
/-- cells of the call's own, at hand, that may be written over -/
def NewWr (o : List Cl) (w : World) (e : Ending) (w' : World) : Prop :=
  ∃ A c L, e = .returned (.slice A L.length c) ∧ clsOf L = o ∧ WrC w' w.heap.size A L.length c L ∧ DocAt w' A L.length c L ∧ Below w.heap.size w w'
theorem NewCls.wr {o : List Cl} {w w' : World} {e : Ending} (h : NewCls o w e w') (hv : ∀ x ∈ o, x.s.length ≤ 1000000 ∧ okVr x.s) (hb : o.length ≤ 20000) : NewWr o w e w' := by
  obtain ⟨A, c, L, he, hL, ho, hp, y⟩ := h
  exact ⟨A, c, L, he, hL, WrC.of ho hp, DocAt.made ho hp (by rw [hL]; exact hv) (by rw [← clsOf_len, hL]; exact hb), y⟩
/-- how a cell lies -/
theorem WrC.cells {w : World} {base : Nat} {ad : Addr} {n c : Nat} {l : List ClS} (h : WrC w base (some ad) n c l) {i : Nat} (hi : i < n) {x : ClS} (hx : l[i]? = some x) : CellsAt w (ad.add (i * 2)) (ClS.enc x) := by
  obtain ⟨ad', x', e1, e2, e3⟩ := h.el hi
  injection e1 with e1
  subst e1
  rw [hx] at e2
  injection e2 with e2
  subst e2
  exact e3
theorem WrO.cells {w : World} {base : Nat} {ad : Addr} {n c : Nat} {x : List OpS} (h : WrO w base (some ad) n c x) {i : Nat} (hi : i < n) {z : OpS} (hz : x[i]? = some z) : CellsAt w (ad.add (i * 5)) (OpS.enc z) := by
  obtain ⟨ad', z', e1, e2, e3⟩ := h.el hi
  injection e1 with e1
  subst e1
  rw [hz] at e2
  injection e2 with e2
  subst e2
  exact e3
end Go.Proofs.YtfnkjcodcoehcaaGreatDoor
