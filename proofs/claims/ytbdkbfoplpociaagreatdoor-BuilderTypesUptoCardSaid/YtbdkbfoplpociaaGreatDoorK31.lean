/- Merged texts: Same15, UMade, OpsCap, Same15D, MkBox, ComLaw. -/
import Derived.Deep.RegionHeld3
import Derived.Test.YtbdkbfoplpociaaGreatDoorK20
import Derived.Test.YtbdkbfoplpociaaGreatDoorK3
import Derived.Test.YtbdkbfoplpociaaGreatDoorK2
import Derived.Test.YtbdkbfoplpociaaGreatDoorK30
import Derived.Test.YtbdkbfoplpociaaGreatDoorK29
import Derived.Test.YtbdkbfoplpociaaGreatDoorK21
import Derived.Test.YtbdkbfoplpociaaGreatDoorK25
import Derived.Test.YtbdkbfoplpociaaGreatDoorK24
namespace Go.Proofs.YtbdkbfoplpociaaGreatDoor
open Go.RowKit
set_option linter.unusedVariables false
set_option linter.unusedSimpArgs false

theorem abs_world {P F : World → Prop} {v : World} (h : F v) (k : ∀ v, F v → P v) : P v := k v h
set_option maxRecDepth 100000 in
set_option maxHeartbeats 3200000 in
theorem same15_any (A B : Option Addr) (n m c d : Nat) (l k : List OpS) (w : World) (hn : n = l.length) (hm : m = k.length) (h1 : RdOp w w.heap.size A l) (h2 : RdOp w w.heap.size B k) (hb : n ≤ 100000000) (hb2 : m ≤ 100000000)
    (hs1 : ∀ x ∈ l, x.o.r.length ≤ 100000000 ∧ x.o.s.length ≤ 100000000 ∧ x.o.p.length ≤ 100000000) (hs2 : ∀ x ∈ k, x.o.r.length ≤ 100000000 ∧ x.o.s.length ≤ 100000000 ∧ x.o.p.length ≤ 100000000) :
    Calls Tryz.prog 26 #[.slice A n c, .slice B m d] w fun e w' => e = .returned (.bool (decide (osOf l = osOf k))) ∧ Below w.heap.size w w' := by
  have N := Lib.hid hn
  have M := Lib.hid hm
  have H1 := Lib.hid h1
  have H2 := Lib.hid h2
  have S1 := Lib.hid hs1
  have S2 := Lib.hid hs2
  generalize hR : decide (osOf l = osOf k) = R
  have HR := Lib.hid hR
  clear hn hR hm h1 h2 hs1 hs2
  have HL : Hid (∀ x : List OpS, (osOf x).length = x.length) := Lib.hid (fun x => by unfold osOf; simp)
  by_cases hnm : (n : Int) = m
  · have hnm' : n = m := by omega
    subst hnm'
    clear hnm
    have hne : ((n : Int) != n) = false := by simp
    go_enter Tryz.func26, Tryz.ntmps26
    go_wp2_with (fail)
    go_loopg [5] n (fun g iv wr => ∃ i : Nat, i ≤ n ∧ g = n - i ∧ iv = .int .i64 (i : Int) ∧ Below w.heap.size w wr ∧ Hid (decide (osOf (l.drop i) = osOf (k.drop i)) = R))
    case atStart => exact ⟨0, by omega, rfl, rfl, Below.refl _ _, Lib.hid (by rw [List.drop_zero, List.drop_zero]; exact HR.out)⟩
    case round =>
      obtain ⟨i, hi, hg, rfl, y, HI⟩ := hrel
      have HG := Lib.hid hg
      clear hg HR
      by_cases hlt : i < n
      · have hl1 : i < l.length := by have := N.out; omega
        have hl2 : i < k.length := by have := M.out; omega
        obtain ⟨ad, x, rfl, had1, hd1, hx1, hc1⟩ := (H1.out.ext y).1.el hl1
        obtain ⟨ad2, x', rfl, had2, hd2, hx2, hc2⟩ := (H2.out.ext y).1.el hl2
        have hm1 := List.mem_of_getElem? hx1
        have hm2 := List.mem_of_getElem? hx2
        have p1 := Lib.hid (H1.out.2 x hm1)
        have p2 := Lib.hid (H2.out.2 x' hm2)
        have b1 := Lib.hid (S1.out x hm1)
        have b2 := Lib.hid (S2.out x' hm2)
        have HI' : Hid (decide (x.o :: osOf (l.drop (i + 1)) = x'.o :: osOf (k.drop (i + 1))) = R) := Lib.hid (by rw [← HI.out, hd1, hd2]; rfl)
        clear HI hd1 hd2 hx1 hx2 hm1 hm2
        obtain ⟨⟨k1, n1, r1, s1, q1⟩, Ar1, cr1, As1, cs1, Ap1, cp1⟩ := x
        obtain ⟨⟨k2, n2, r2, s2, q2'⟩, Ar2, cr2, As2, cs2, Ap2, cp2⟩ := x'
        obtain ⟨z0, z1, z2, z3, z4⟩ := op_cells hc1
        obtain ⟨u0, u1, u2, u3, u4⟩ := op_cells hc2
        have hlt' : (i : Int) < (n : Int) := by omega
        have v1 : wr.heap.size ≠ (ad.add (i * 5)).block := by rw [add_block]; omega
        have v2 : wr.heap.size ≠ (ad2.add (i * 5)).block := by rw [add_block]; omega
        have v3 : wr.heap.size + 1 ≠ (ad.add (i * 5)).block := by rw [add_block]; omega
        have v4 : wr.heap.size + 1 ≠ (ad2.add (i * 5)).block := by rw [add_block]; omega
        clear hc1 hc2 hl1 hl2 had2 had1
        obtain ⟨sz, hsz⟩ : ∃ z, wr.heap.size = z := ⟨_, rfl⟩
        go_wp2_with (fail)
        go_region_held3 (fun w' => w'.cell? (ad.add (i * 5)) = some (.int .u8 k1) ∧ w'.cell? { block := (ad.add (i * 5)).block, off := (ad.add (i * 5)).off + 1 } = some (.int .i64 n1) ∧ w'.cell? { block := (ad.add (i * 5)).block, off := (ad.add (i * 5)).off + 2 } = some (.slice Ar1 r1.length cr1) ∧ w'.cell? { block := (ad.add (i * 5)).block, off := (ad.add (i * 5)).off + 3 } = some (.slice As1 s1.length cs1) ∧ w'.cell? { block := (ad.add (i * 5)).block, off := (ad.add (i * 5)).off + 4 } = some (.slice Ap1 q1.length cp1) ∧ w'.cell? (ad2.add (i * 5)) = some (.int .u8 k2) ∧ w'.cell? { block := (ad2.add (i * 5)).block, off := (ad2.add (i * 5)).off + 1 } = some (.int .i64 n2) ∧ w'.cell? { block := (ad2.add (i * 5)).block, off := (ad2.add (i * 5)).off + 2 } = some (.slice Ar2 r2.length cr2) ∧ w'.cell? { block := (ad2.add (i * 5)).block, off := (ad2.add (i * 5)).off + 3 } = some (.slice As2 s2.length cs2) ∧ w'.cell? { block := (ad2.add (i * 5)).block, off := (ad2.add (i * 5)).off + 4 } = some (.slice Ap2 q2'.length cp2))
          (go_keep) (fail)
        · have ya := ext_alloc wr (.cells #[.int .u8 k1, .int .i64 n1, .slice Ar1 r1.length cr1, .slice As1 s1.length cs1, .slice Ap1 q1.length cp1] 40)
          have yb := ext_alloc (wr.alloc (.cells #[.int .u8 k1, .int .i64 n1, .slice Ar1 r1.length cr1, .slice As1 s1.length cs1, .slice Ap1 q1.length cp1] 40)) (.cells #[.int .u8 k2, .int .i64 n2, .slice Ar2 r2.length cr2, .slice As2 s2.length cs2, .slice Ap2 q2'.length cp2] 40)
          have ga := (yb.block wr.heap.size (by simp)).trans (heap_alloc_new wr (.cells #[.int .u8 k1, .int .i64 n1, .slice Ar1 r1.length cr1, .slice As1 s1.length cs1, .slice Ap1 q1.length cp1] 40))
          have gb := heap_alloc_new (wr.alloc (.cells #[.int .u8 k1, .int .i64 n1, .slice Ar1 r1.length cr1, .slice As1 s1.length cs1, .slice Ap1 q1.length cp1] 40)) (.cells #[.int .u8 k2, .int .i64 n2, .slice Ar2 r2.length cr2, .slice As2 s2.length cs2, .slice Ap2 q2'.length cp2] 40)
          rw [World.size_alloc] at gb
          rw [hsz] at ga gb
          refine abs_world (F := fun v => Below w.heap.size w v ∧ v.heap[sz]? = some (.cells #[.int .u8 k1, .int .i64 n1, .slice Ar1 r1.length cr1, .slice As1 s1.length cs1, .slice Ap1 q1.length cp1] 40 (0, 0)) ∧ v.heap[sz + 1]? = some (.cells #[.int .u8 k2, .int .i64 n2, .slice Ar2 r2.length cr2, .slice As2 s2.length cs2, .slice Ap2 q2'.length cp2] 40 (0, 0))) ⟨(ext_trans y (ext_trans ya yb)).drew, ga, gb⟩ ?_
          clear ya yb ga gb hsz v1 v2 v3 v4
          obtain ⟨sz1, hs1⟩ : ∃ z, sz + 1 = z := ⟨_, rfl⟩
          rw [hs1]
          clear hs1
          intro v
          rintro ⟨yv, g6, g7⟩
          obtain ⟨c0, c1, c2, c3, c4⟩ := box_at g6
          obtain ⟨e0, e1, e2, e3, e4⟩ := box_at g7
          have YV := Lib.hid yv
          clear g6 g7
          by_cases hk : k1 = k2
          · subst hk
            have hkk : (k1 != k1) = false := by simp
            by_cases hn : n1 = n2
            · subst hn
              have hnn : (n1 != n1) = false := by simp
              go_wp2_with (go_at_call 78; refine Hid.out ?_)
              refine Lib.hid ?_
              refine (refSame_any Ar1 Ar2 r1.length r2.length cr1 cr2 r1 r2 v rfl rfl (p1.out.1.ext yv) (p2.out.1.ext yv) (by have := b1.out.1; omega) (by have := b2.out.1; omega)).mono ?_
              by_cases hr : r1 = r2
              · subst hr
                rw [decide_eq_true rfl]
                rintro e v2 ⟨rfl, q2, rfl⟩
                go_wp2_with (go_at_call 45; refine Hid.out ?_)
                refine Lib.hid ?_
                refine (sameA_any As1 As2 s1.length s2.length cs1 cs2 s1 s2 _ rfl rfl ((p1.out.2.1.ext yv).drewN _) ((p2.out.2.1.ext yv).drewN _) (by have := b1.out.2.1; omega) (by have := b2.out.2.1; omega)).mono ?_
                by_cases hs : s1 = s2
                · subst hs
                  rw [decide_eq_true rfl]
                  rintro e v3 ⟨rfl, q3, rfl⟩
                  go_wp2_with (go_at_call 106; refine Hid.out ?_)
                  refine Lib.hid ?_
                  refine (sameR6_any Ap1 Ap2 q1.length q2'.length cp1 cp2 q1 q2' _ rfl rfl ((p1.out.2.2.ext yv).drewN _) ((p2.out.2.2.ext yv).drewN _) (by have := b1.out.2.2; omega) (by have := b2.out.2.2; omega)).mono ?_
                  by_cases hp : q1 = q2'
                  · subst hp
                    rw [decide_eq_true rfl]
                    rintro e v4 ⟨rfl, q4, rfl⟩
                    have hw2 : IntKind.i64.wrap ((i:Int) + 1) = (i : Int) + 1 := IntWalk.i64_in _ (by omega)
                    go_wp2_with (fail)
                    go_roundg (n - (i + 1))
                    case measure => have := HG.out; omega
                    case rel => exact ⟨i + 1, by omega, rfl, by go_num, below_drewN YV.out _, Lib.hid (by rw [← HI'.out]; simp only [List.cons.injEq, true_and])⟩
                  · rw [decide_eq_false hp]
                    rintro e v4 ⟨rfl, q4, rfl⟩
                    have HP := Lib.hid hp
                    clear hp
                    go_wp2_with (fail)
                    go_ret
                    exact ⟨ret_bool (by rw [← HI'.out]; exact (decide_eq_false fun e => HP.out (Opd.mk.inj (List.cons.inj e).1).2.2.2.2).symm), below_drewN YV.out _⟩
                · rw [decide_eq_false hs]
                  rintro e v3 ⟨rfl, q3, rfl⟩
                  have HP := Lib.hid hs
                  clear hs
                  go_wp2_with (fail)
                  go_ret
                  exact ⟨ret_bool (by rw [← HI'.out]; exact (decide_eq_false fun e => HP.out (Opd.mk.inj (List.cons.inj e).1).2.2.2.1).symm), below_drewN YV.out _⟩
              · rw [decide_eq_false hr]
                rintro e v2 ⟨rfl, q2, rfl⟩
                have HP := Lib.hid hr
                clear hr
                go_wp2_with (fail)
                go_ret
                exact ⟨ret_bool (by rw [← HI'.out]; exact (decide_eq_false fun e => HP.out (Opd.mk.inj (List.cons.inj e).1).2.2.1).symm), below_drewN YV.out _⟩
            · have hnn : (n1 != n2) = true := by simp [hn]
              have HP := Lib.hid hn
              clear hn
              go_wp2_with (fail)
              go_ret
              exact ⟨ret_bool (by rw [← HI'.out]; exact (decide_eq_false fun e => HP.out (Opd.mk.inj (List.cons.inj e).1).2.1).symm), YV.out⟩
          · have hkk : (k1 != k2) = true := by simp [hk]
            have HP := Lib.hid hk
            clear hk
            go_wp2_with (fail)
            go_ret
            exact ⟨ret_bool (by rw [← HI'.out]; exact (decide_eq_false fun e => HP.out (Opd.mk.inj (List.cons.inj e).1).1).symm), YV.out⟩
        · have ya := ext_alloc wr (.cells #[.int .u8 k2, .int .i64 n2, .slice Ar2 r2.length cr2, .slice As2 s2.length cs2, .slice Ap2 q2'.length cp2] 40)
          have yb := ext_alloc (wr.alloc (.cells #[.int .u8 k2, .int .i64 n2, .slice Ar2 r2.length cr2, .slice As2 s2.length cs2, .slice Ap2 q2'.length cp2] 40)) (.cells #[.int .u8 k1, .int .i64 n1, .slice Ar1 r1.length cr1, .slice As1 s1.length cs1, .slice Ap1 q1.length cp1] 40)
          have ga := (yb.block wr.heap.size (by simp)).trans (heap_alloc_new wr (.cells #[.int .u8 k2, .int .i64 n2, .slice Ar2 r2.length cr2, .slice As2 s2.length cs2, .slice Ap2 q2'.length cp2] 40))
          have gb := heap_alloc_new (wr.alloc (.cells #[.int .u8 k2, .int .i64 n2, .slice Ar2 r2.length cr2, .slice As2 s2.length cs2, .slice Ap2 q2'.length cp2] 40)) (.cells #[.int .u8 k1, .int .i64 n1, .slice Ar1 r1.length cr1, .slice As1 s1.length cs1, .slice Ap1 q1.length cp1] 40)
          rw [World.size_alloc] at gb
          rw [hsz] at ga gb
          refine abs_world (F := fun v => Below w.heap.size w v ∧ v.heap[sz + 1]? = some (.cells #[.int .u8 k1, .int .i64 n1, .slice Ar1 r1.length cr1, .slice As1 s1.length cs1, .slice Ap1 q1.length cp1] 40 (0, 0)) ∧ v.heap[sz]? = some (.cells #[.int .u8 k2, .int .i64 n2, .slice Ar2 r2.length cr2, .slice As2 s2.length cs2, .slice Ap2 q2'.length cp2] 40 (0, 0))) ⟨(ext_trans y (ext_trans ya yb)).drew, gb, ga⟩ ?_
          clear ya yb ga gb hsz v1 v2 v3 v4
          obtain ⟨sz1, hs1⟩ : ∃ z, sz + 1 = z := ⟨_, rfl⟩
          rw [hs1]
          clear hs1
          intro v
          rintro ⟨yv, g6, g7⟩
          obtain ⟨c0, c1, c2, c3, c4⟩ := box_at g6
          obtain ⟨e0, e1, e2, e3, e4⟩ := box_at g7
          have YV := Lib.hid yv
          clear g6 g7
          by_cases hk : k1 = k2
          · subst hk
            have hkk : (k1 != k1) = false := by simp
            by_cases hn : n1 = n2
            · subst hn
              have hnn : (n1 != n1) = false := by simp
              go_wp2_with (go_at_call 78; refine Hid.out ?_)
              refine Lib.hid ?_
              refine (refSame_any Ar1 Ar2 r1.length r2.length cr1 cr2 r1 r2 v rfl rfl (p1.out.1.ext yv) (p2.out.1.ext yv) (by have := b1.out.1; omega) (by have := b2.out.1; omega)).mono ?_
              by_cases hr : r1 = r2
              · subst hr
                rw [decide_eq_true rfl]
                rintro e v2 ⟨rfl, q2, rfl⟩
                go_wp2_with (go_at_call 45; refine Hid.out ?_)
                refine Lib.hid ?_
                refine (sameA_any As1 As2 s1.length s2.length cs1 cs2 s1 s2 _ rfl rfl ((p1.out.2.1.ext yv).drewN _) ((p2.out.2.1.ext yv).drewN _) (by have := b1.out.2.1; omega) (by have := b2.out.2.1; omega)).mono ?_
                by_cases hs : s1 = s2
                · subst hs
                  rw [decide_eq_true rfl]
                  rintro e v3 ⟨rfl, q3, rfl⟩
                  go_wp2_with (go_at_call 106; refine Hid.out ?_)
                  refine Lib.hid ?_
                  refine (sameR6_any Ap1 Ap2 q1.length q2'.length cp1 cp2 q1 q2' _ rfl rfl ((p1.out.2.2.ext yv).drewN _) ((p2.out.2.2.ext yv).drewN _) (by have := b1.out.2.2; omega) (by have := b2.out.2.2; omega)).mono ?_
                  by_cases hp : q1 = q2'
                  · subst hp
                    rw [decide_eq_true rfl]
                    rintro e v4 ⟨rfl, q4, rfl⟩
                    have hw2 : IntKind.i64.wrap ((i:Int) + 1) = (i : Int) + 1 := IntWalk.i64_in _ (by omega)
                    go_wp2_with (fail)
                    go_roundg (n - (i + 1))
                    case measure => have := HG.out; omega
                    case rel => exact ⟨i + 1, by omega, rfl, by go_num, below_drewN YV.out _, Lib.hid (by rw [← HI'.out]; simp only [List.cons.injEq, true_and])⟩
                  · rw [decide_eq_false hp]
                    rintro e v4 ⟨rfl, q4, rfl⟩
                    have HP := Lib.hid hp
                    clear hp
                    go_wp2_with (fail)
                    go_ret
                    exact ⟨ret_bool (by rw [← HI'.out]; exact (decide_eq_false fun e => HP.out (Opd.mk.inj (List.cons.inj e).1).2.2.2.2).symm), below_drewN YV.out _⟩
                · rw [decide_eq_false hs]
                  rintro e v3 ⟨rfl, q3, rfl⟩
                  have HP := Lib.hid hs
                  clear hs
                  go_wp2_with (fail)
                  go_ret
                  exact ⟨ret_bool (by rw [← HI'.out]; exact (decide_eq_false fun e => HP.out (Opd.mk.inj (List.cons.inj e).1).2.2.2.1).symm), below_drewN YV.out _⟩
              · rw [decide_eq_false hr]
                rintro e v2 ⟨rfl, q2, rfl⟩
                have HP := Lib.hid hr
                clear hr
                go_wp2_with (fail)
                go_ret
                exact ⟨ret_bool (by rw [← HI'.out]; exact (decide_eq_false fun e => HP.out (Opd.mk.inj (List.cons.inj e).1).2.2.1).symm), below_drewN YV.out _⟩
            · have hnn : (n1 != n2) = true := by simp [hn]
              have HP := Lib.hid hn
              clear hn
              go_wp2_with (fail)
              go_ret
              exact ⟨ret_bool (by rw [← HI'.out]; exact (decide_eq_false fun e => HP.out (Opd.mk.inj (List.cons.inj e).1).2.1).symm), YV.out⟩
          · have hkk : (k1 != k2) = true := by simp [hk]
            have HP := Lib.hid hk
            clear hk
            go_wp2_with (fail)
            go_ret
            exact ⟨ret_bool (by rw [← HI'.out]; exact (decide_eq_false fun e => HP.out (Opd.mk.inj (List.cons.inj e).1).1).symm), YV.out⟩
      · have hlt' : ¬ (i : Int) < (n : Int) := by omega
        go_wp2_with (fail)
        go_ret
        exact ⟨ret_bool (by rw [← HI.out, List.drop_eq_nil_of_le (by have := N.out; omega), List.drop_eq_nil_of_le (by have := M.out; omega)]; rfl), y⟩
  · have hne : ((n : Int) != m) = true := by simp [hnm]
    go_enter Tryz.func26, Tryz.ntmps26
    go_wp2_with (fail)
    go_ret
    refine ⟨ret_bool ?_, Below.refl _ _⟩
    rw [← HR.out]
    refine (decide_eq_false fun e => ?_).symm
    have h3 := N.out
    have h4 := M.out
    have h5 := congrArg List.length e
    rw [HL.out, HL.out] at h5
    omega
end Go.Proofs.YtbdkbfoplpociaaGreatDoor
namespace Go.Proofs.YtbdkbfoplpociaaGreatDoor
set_option linter.unusedVariables false
set_option linter.unusedSimpArgs false

/-- the ops of units in their normal form -/
def mkU (us : List Un) : List Opd := enc (nf us)
theorem isOp_one (u : Un) : isOp (op1 u) := by
  cases u with
  | ins r s => exact .inl ⟨rfl, rfl, by simp [op1, opI], rfl⟩
  | del => exact .inr (.inl ⟨rfl, by show (1 : Int) ≤ 1; decide, rfl, rfl, rfl⟩)
  | ret p => exact .inr (.inr ⟨rfl, by show (1 : Int) ≤ 1; decide, rfl, rfl⟩)
theorem unitsO_one (u : Un) : unitsO (op1 u) = [u] := by cases u <;> rfl
theorem into_ok {u : Un} {b : Opd} (hb : isOp b) (h : canMerge (op1 u) b = true) : isOp (into u b) ∧ unitsO (into u b) = u :: unitsO b ∧ ∀ c, canMerge (into u b) c = canMerge b c := by
  obtain ⟨k, n, r, s, p⟩ := b
  rcases isOp_kind hb with hk | hk | hk
  · obtain ⟨e, hr⟩ := opI_of hb hk
    simp only at hk hr e
    subst hk
    rw [e] at h ⊢
    cases u with
    | del => simp [canMerge, op1, opI, opD] at h
    | ret q => simp [canMerge, op1, opI, opR] at h
    | ins r2 s2 =>
      have hs : s2 = s := by simp [canMerge, op1, opI] at h; exact of_decide_eq_true h
      subst hs
      exact ⟨.inl ⟨rfl, rfl, by simp [into, opI], rfl⟩, rfl, fun c => rfl⟩
  · obtain ⟨e, hn⟩ := opD_of hb hk
    simp only at hk hn e
    subst hk
    rw [e] at h ⊢
    cases u with
    | ins r2 s2 => simp [canMerge, op1, opI, opD] at h
    | ret q => simp [canMerge, op1, opD, opR] at h
    | del =>
      refine ⟨.inr (.inl ⟨rfl, by show 1 ≤ n + 1; omega, rfl, rfl, rfl⟩), ?_, fun c => rfl⟩
      show List.replicate (n + 1).toNat Un.del = .del :: List.replicate n.toNat .del
      rw [show (n + 1).toNat = n.toNat + 1 by omega, List.replicate_succ]
  · obtain ⟨e, hn⟩ := opR_of hb hk
    simp only at hk hn e
    subst hk
    rw [e] at h ⊢
    cases u with
    | ins r2 s2 => simp [canMerge, op1, opI, opR] at h
    | del => simp [canMerge, op1, opD, opR] at h
    | ret q =>
      have hq : q = p := by simp [canMerge, op1, opR] at h; exact of_decide_eq_true h
      subst hq
      refine ⟨.inr (.inr ⟨rfl, by show 1 ≤ n + 1; omega, rfl, rfl⟩), ?_, fun c => rfl⟩
      show List.replicate (n + 1).toNat (Un.ret q) = .ret q :: List.replicate n.toNat (.ret q)
      rw [show (n + 1).toNat = n.toNat + 1 by omega, List.replicate_succ]
theorem cons1_ok (u : Un) {x : List Opd} (h : tight x) : tight (cons1 u x) ∧ units (cons1 u x) = u :: units x := by
  cases x with
  | nil => exact ⟨⟨isOp_one u, trivial, trivial⟩, by show units [op1 u] = _; rw [units_one, unitsO_one]; rfl⟩
  | cons b t =>
    obtain ⟨h1, h2, h3⟩ := h
    have ec : cons1 u (b :: t) = if canMerge (op1 u) b = true then into u b :: t else op1 u :: b :: t := rfl
    rw [ec]
    by_cases hm : canMerge (op1 u) b = true
    · rw [if_pos hm]
      obtain ⟨g1, g2, g3⟩ := into_ok h1 hm
      refine ⟨⟨g1, ?_, h3⟩, by rw [units_cons, g2, units_cons]; rfl⟩
      cases t with
      | nil => trivial
      | cons c t => show canMerge (into u b) c = false; rw [g3]; exact h2
    · rw [if_neg hm]
      exact ⟨⟨isOp_one u, by simpa using hm, h1, h2, h3⟩, by rw [units_cons, unitsO_one]; rfl⟩
theorem enc_ok : ∀ us : List Un, tight (enc us) ∧ units (enc us) = us
  | [] => ⟨trivial, rfl⟩
  | u :: us => by
    obtain ⟨h1, h2⟩ := enc_ok us
    obtain ⟨g1, g2⟩ := cons1_ok u h1
    exact ⟨g1, by show units (cons1 u (enc us)) = _; rw [g2, h2]⟩
theorem mkU_ok (us : List Un) : tight (mkU us) ∧ units (mkU us) = nf us := enc_ok (nf us)
theorem told_mkU {m : Mk} {us : List Un} (h : Told m us) : mkOps m = mkU us := tight_ext h.ops.1 (mkU_ok us).1 (by rw [h.ops.2, (mkU_ok us).2])
theorem mkU_isOp {x : List OpS} {us : List Un} (hx : osOf x = mkU us) : ∀ o ∈ x, isOp o.o := fun o ho => tight_isOp (by rw [hx]; exact (mkU_ok us).1 : tight (osOf x)) o.o (by unfold osOf; exact List.mem_map_of_mem ho)
theorem mkU_units {x : List OpS} {us : List Un} (hx : osOf x = mkU us) : units (osOf x) = nf us := by rw [hx]; exact (mkU_ok us).2
theorem mkU_nf (us : List Un) : mkU (nf us) = mkU us := by unfold mkU; rw [nf_again]
theorem made_applyU {l : List Ky} {x : List OpS} {us : List Un} {d : List Cl} {most : Nat} (hx : osOf x = mkU us) (hb : x.length ≤ 1048576) (hmo : most ≤ 4294967296) (hd : mayD l d = 0) (hf : FitU l us d.length most) :
    applyN l x d (most : Int) = 0 ∧ app l (units (osOf x)) d = app l us d := by
  have h2 := mkU_units hx
  refine ⟨zero_applyN hd (units_fits hb hmo (mkU_isOp hx) (by rw [h2]; exact fit_nf hf)), ?_⟩
  rw [h2, app_nf]
end Go.Proofs.YtbdkbfoplpociaaGreatDoor
namespace Go.Proofs.YtbdkbfoplpociaaGreatDoor
open Go.RowKit
set_option linter.unusedVariables false
set_option linter.unusedSimpArgs false

/-- an op's parts have room for what they hold -/
def capO (o : OpS) : Prop := (o.o.r.length ≤ o.cr ∧ o.cr ≤ maxLen) ∧ (o.o.s.length ≤ o.cs ∧ o.cs ≤ maxLen) ∧ (o.o.p.length ≤ o.cp ∧ o.cp ≤ maxLen)
theorem cap_own {α : Type} {enc : α → List Value} {size : Nat} {e : TypeId} {w : World} {B : Nat} {A : Option Addr} {n c : Nat} {l : List α} (h : Ow enc size e w B (.slice A n c) l) : l.length ≤ c ∧ c ≤ maxLen := by
  obtain ⟨A', c', hv, h1, h2⟩ := h.form
  injection hv with _ _ hcc
  subst hcc
  exact ⟨h1, h2⟩
theorem cap_part {w : World} {B g : Nat} {x : OpS} (h : PartN w B g x) : capO x := ⟨cap_own h.1.1, cap_own h.2.1.1, cap_own h.2.2.1⟩
/-- ops at hand with their rooms -/
structure OpsC (w : World) (A : Option Addr) (n c : Nat) (x : List OpS) : Prop where
  at_ : OpsAt w A n x
  cap : n ≤ c
  cm : c ≤ maxLen
  caps : ∀ o ∈ x, capO o
theorem OpsC.ext {w w' : World} {A : Option Addr} {n c : Nat} {x : List OpS} (h : OpsC w A n c x) (y : Below w.heap.size w w') : OpsC w' A n c x := ⟨h.at_.ext y, h.cap, h.cm, h.caps⟩
theorem OpsC.nil (w : World) : OpsC w none 0 0 [] := ⟨⟨⟨Rd.nil, fun z hz => by cases hz⟩, rfl, (fun z hz => by cases hz), by omega⟩, Nat.le_refl _, by unfold maxLen; omega, fun z hz => by cases hz⟩
/-- no error, and ops of the call's own -/
def NewOpOk (o : List Opd) (w : World) (e : Ending) (w' : World) : Prop :=
  ∃ A c x, e = .returned (.tuple #[.slice A x.length c, .int .i64 0]) ∧ osOf x = o ∧ OpsC w' A x.length c x ∧ Below w.heap.size w w'
/-- ops of the call's own -/
def NewOpC (o : List Opd) (w : World) (e : Ending) (w' : World) : Prop :=
  ∃ A c x, e = .returned (.slice A x.length c) ∧ osOf x = o ∧ OpsC w' A x.length c x ∧ Below w.heap.size w w'
/-- what a maker that was told units has made -/
theorem NewOps.opC {m : Mk} {us : List Un} {K S : Nat} {w w' : World} {e : Ending} (h : NewOps (mkOps m) w e w') (ht : Told m us) (hu : ∀ u ∈ us, okUn u) (hB : MkB m K S) (hK : K ≤ 900000) (hS : S ≤ 100000000) : NewOpC (mkU us) w e w' := by
  obtain ⟨A, c, x, he, hx, ho, hp, y⟩ := h
  obtain ⟨h1, h2⟩ := ok_made hx ht hu hB (by omega) hS
  obtain ⟨c1, c2⟩ := cap_own ho
  exact ⟨A, c, x, he, hx.trans (told_mkU ht), ⟨⟨rd_made ho hp, rfl, h1, by omega⟩, c1, c2, fun z hz => by obtain ⟨g, hg⟩ := hp z hz; exact cap_part hg⟩, y⟩
end Go.Proofs.YtbdkbfoplpociaaGreatDoor
namespace Go.Proofs.YtbdkbfoplpociaaGreatDoor
open Go.RowKit
theorem same15D {w : World} {A B : Option Addr} {n c n2 c2 : Nat} {x z : List OpS} (h1 : OpsAt w A n x) (h2 : OpsAt w B n2 z) {b : Bool} (hb : decide (osOf x = osOf z) = b) :
    Calls Tryz.prog 26 #[.slice A n c, .slice B n2 c2] w fun e w' => e = .returned (.bool b) ∧ Below w.heap.size w w' := by
  have h := same15_any A B n n2 c c2 x z w h1.len h2.len h1.rd h2.rd (by have := h1.b; omega) (by have := h2.b; omega) (fun o ho => by obtain ⟨_, _, a, b, c⟩ := h1.ok o ho; omega) (fun o ho => by obtain ⟨_, _, a, b, c⟩ := h2.ok o ho; omega)
  rw [hb] at h
  exact h
end Go.Proofs.YtbdkbfoplpociaaGreatDoor
namespace Go.Proofs.YtbdkbfoplpociaaGreatDoor
open Go.RowKit
set_option linter.unusedVariables false
set_option linter.unusedSimpArgs false

/-- a row of elements that do not fit into a block does not lie in it -/
theorem offF_one {α : Type} {enc : α → List Value} {size B b : Nat} {w : World} {A : Option Addr} {l : List α} {cs : Array Value} {t : TypeId} (h : Rd enc size w B A l) (hb : w.heap[b]? = some (.cells cs t (0, 0)))
    (hbad : ∀ (a : α) (o : Nat), (∀ (j : Nat) (u : Value), (enc a)[j]? = some u → cs[o + j]? = some u) → False) : OffF (fun k => k = b) A l.length := fun ad e hl hk => by
  obtain ⟨ad', e', _, hc⟩ := h hl
  rw [e] at e'; injection e' with e'; subst e'
  refine hbad l[0] ad.off (fun j u hu => ?_)
  have h1 := hc 0 hl j u hu
  rw [Nat.zero_mul, add_zero'] at h1
  unfold World.cell? at h1
  rw [add_block, hk, hb] at h1
  simp only at h1
  have e2 : (ad.add j).off = ad.off + j := by unfold Addr.add; split <;> simp_all
  rw [e2] at h1
  split at h1
  · cases h1
  · exact h1
/-- cells that are no rune, fewer than three -/
structure NoPart (cs : Array Value) : Prop where
  i : ∀ (r : Int) (o : Nat), cs[o]? ≠ some (.int .i32 r)
  s : cs.size < 3
theorem NoPart.one (A : Option Addr) (n c : Nat) : NoPart #[.slice A n c] := ⟨fun r o h => by
  match o with
  | 0 => simp at h
  | o + 1 => simp at h, by simp⟩
theorem NoPart.i32 {cs : Array Value} (h : NoPart cs) (a : Int) (o : Nat) (hh : ∀ (j : Nat) (u : Value), (encI32 a)[j]? = some u → cs[o + j]? = some u) : False := h.i a o (hh 0 _ rfl)
theorem NoPart.big {cs : Array Value} (h : NoPart cs) {l : List Value} (hl : 3 ≤ l.length) (o : Nat) (hh : ∀ (j : Nat) (u : Value), l[j]? = some u → cs[o + j]? = some u) : False := by
  have h1 := hh 2 l[2] (List.getElem?_eq_getElem (by omega))
  have h2 : o + 2 < cs.size := by
    rcases Nat.lt_or_ge (o + 2) cs.size with h3 | h3
    · exact h3
    · rw [Array.getElem?_eq_none h3] at h1; cases h1
  have := h.s
  omega
theorem Mkr.beside {w w' : World} {F : Nat → Prop} {b br : Nat} {m : Mk} {cs : Array Value} {t : TypeId} (h : Mkr w F b m) (hb : w.heap[br]? = some (.cells cs t (0, 0))) (hn : NoPart cs) (hF : ¬ F br)
    (g : Grow w (fun k => k = br) w' (fun k => k = br)) : Mkr w' F b m := by
  obtain ⟨vd, vi, D, I, h1, h2, h3, h4, h5, h6, h7, h8, h9, h10, h11, h12⟩ := h
  have oI : ∀ {A : Option Addr} {l : List Int}, RdI32 w w.heap.size A l → OffF (fun k => k = br) A l.length := fun h => offF_one h hb (fun a o hh => hn.i32 a o hh)
  have oA : ∀ {A : Option Addr} {l : List At}, RdAt w w.heap.size A l → OffF (fun k => k = br) A l.length := fun h => offF_one h hb (fun a o hh => hn.big (l := At.enc a) (by simp [At.enc]) o hh)
  have oC : ∀ {A : Option Addr} {l : List Ch}, RdCh w w.heap.size A l → OffF (fun k => k = br) A l.length := fun h => offF_one h hb (fun a o hh => hn.big (l := Ch.enc a) (by simp [Ch.enc]) o hh)
  have hne : ∀ k, F k → k ≠ br := fun k hk e => hF (e ▸ hk)
  have part : ∀ x, PartF w F x → PartF w' F x := fun x hx => ⟨⟨hx.1.1.grow g (oI hx.1.1), hx.1.2⟩, ⟨hx.2.1.1.grow g (oA hx.2.1.1), hx.2.1.2⟩, ⟨hx.2.2.1.grow g (oC hx.2.2.1), hx.2.2.2⟩⟩
  refine ⟨vd, vi, D, I, (g.block b (h6 b h7) (hne b h7)).trans h1, h2.grow g (fun k hk => hne k (h8 k hk).1), h3.grow g (fun k hk => hne k (h9 k hk).1), h4, h5, fun k hk => Nat.lt_of_lt_of_le (h6 k hk) g.size, h7, h8, h9, fun x hx => part x (h10 x hx), fun x hx => part x (h11 x hx), fun x hx => ?_⟩
  obtain ⟨e1, e2, e3, e4⟩ := h12 x hx
  exact ⟨e1.grow g (fun k hk => hne k (e2 k hk).1), e2, ⟨e3.1.grow g (oA e3.1), e3.2⟩, ⟨e4.1.grow g (oC e4.1), e4.2⟩⟩
end Go.Proofs.YtbdkbfoplpociaaGreatDoor
namespace Go.Proofs.YtbdkbfoplpociaaGreatDoor
set_option linter.unusedVariables false
set_option linter.unusedSimpArgs false

def isDel : Un → Bool
  | .del => true
  | _ => false
/-- both deltas as one -/
def compU (l : List Ky) : List Un → List Un → List Un
  | us, [] => us
  | us, .ins r s :: vs => .ins r s :: compU l us vs
  | us, .del :: vs => us.takeWhile isDel ++ (match us.dropWhile isDel with
    | [] => .del :: compU l [] vs
    | .ins _ _ :: us' => compU l us' vs
    | .del :: us' => compU l us' vs
    | .ret _ :: us' => .del :: compU l us' vs)
  | us, .ret q :: vs => us.takeWhile isDel ++ (match us.dropWhile isDel with
    | [] => .ret (composeP [] q) :: compU l [] vs
    | .ins r s :: us' => .ins r (actC l ⟨r, s⟩ q).s :: compU l us' vs
    | .del :: us' => compU l us' vs
    | .ret p :: us' => .ret (composeP p q) :: compU l us' vs)
section
variable (l : List Ky) (us vs : List Un) (r : Int) (s : List At) (p q : List Ch)
theorem compU_nil : compU l us [] = us := by unfold compU; rfl
theorem compU_ins : compU l us (.ins r s :: vs) = .ins r s :: compU l us vs := by rw [compU]
theorem compU_dd : compU l (.del :: us) (.del :: vs) = .del :: compU l us (.del :: vs) := by rw [compU, compU]; rfl
theorem compU_dr : compU l (.del :: us) (.ret q :: vs) = .del :: compU l us (.ret q :: vs) := by rw [compU, compU]; rfl
theorem compU_nd : compU l [] (.del :: vs) = .del :: compU l [] vs := by rw [compU]; rfl
theorem compU_nr : compU l [] (.ret q :: vs) = .ret (composeP [] q) :: compU l [] vs := by rw [compU]; rfl
theorem compU_id : compU l (.ins r s :: us) (.del :: vs) = compU l us vs := by rw [compU]; rfl
theorem compU_ir : compU l (.ins r s :: us) (.ret q :: vs) = .ins r (actC l ⟨r, s⟩ q).s :: compU l us vs := by rw [compU]; rfl
theorem compU_rd : compU l (.ret p :: us) (.del :: vs) = .del :: compU l us vs := by rw [compU]; rfl
theorem compU_rr : compU l (.ret p :: us) (.ret q :: vs) = .ret (composeP p q) :: compU l us vs := by rw [compU]; rfl
end
theorem comp_gone (l : List Ky) (s : List At) (us vs : List Un) : ∀ (r : List Int), compU l (r.map (fun r => Un.ins r s) ++ us) (List.replicate r.length .del ++ vs) = compU l us vs
  | [] => rfl
  | a :: r => by
    rw [List.length_cons, List.replicate_succ]
    show compU l (.ins a s :: (r.map (fun r => Un.ins r s) ++ us)) (.del :: (List.replicate r.length .del ++ vs)) = _
    rw [compU_id, comp_gone l s us vs r]
end Go.Proofs.YtbdkbfoplpociaaGreatDoor
