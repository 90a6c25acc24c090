/- Merged texts: PatchLaw, PartsLaw, Units, OpUnits, ApplyLaw, ApplyOk, DocKit, SameOs, UMade, LessP, PastLaw, TraLaw, InvLaw. -/
import Derived.Test.YtbdkbfoplpociaaGreatDoorK11
import Derived.Test.YtbdkbfoplpociaaGreatDoorK13
import Derived.Test.YtbdkbfoplpociaaGreatDoorK10
import Derived.Test.YtbdkbfoplpociaaGreatDoorK14
import Derived.Test.YtbdkbfoplpociaaGreatDoorK17
import Derived.Test.YtbdkbfoplpociaaGreatDoorK18
import Derived.Test.YtbdkbfoplpociaaGreatDoorK19
import Derived.Test.YtbdkbfoplpociaaGreatDoorK16
import Derived.Test.YtbdkbfoplpociaaGreatDoorK24
import Derived.Test.YtbdkbfoplpociaaGreatDoorK20
import Derived.Test.YtbdkbfoplpociaaGreatDoorK25
import Derived.Test.YtbdkbfoplpociaaGreatDoorK29
import Derived.Test.YtbdkbfoplpociaaGreatDoorK30
import Derived.Test.YtbdkbfoplpociaaGreatDoorK26
import Derived.Test.YtbdkbfoplpociaaGreatDoorK28
import Derived.Test.YtbdkbfoplpociaaGreatDoorK22
import Derived.Test.YtbdkbfoplpociaaGreatDoorK9
import Derived.Test.YtbdkbfoplpociaaGreatDoorK31
namespace Go.Proofs.YtbdkbfoplpociaaGreatDoor
set_option linter.unusedVariables false
set_option linter.unusedSimpArgs false

section
variable {α : Type} (key : α → Int)
theorem lk_isSome {l : List α} {k : Int} : (lk key l k).isSome = true ↔ ∃ a ∈ l, key a = k := by
  constructor
  · intro h
    obtain ⟨a, ha⟩ := Option.isSome_iff_exists.1 h
    exact ⟨a, lk_mem key ha, lk_key key ha⟩
  · rintro ⟨a, ha, hk⟩
    cases hl : lk key l k with
    | some _ => rfl
    | none =>
      unfold lk at hl
      rw [List.find?_eq_none] at hl
      exact absurd hk (by simpa using hl a ha)
end

section
variable {a b : List At} {p q r : List Ch}
end
end Go.Proofs.YtbdkbfoplpociaaGreatDoor
namespace Go.Proofs.YtbdkbfoplpociaaGreatDoor
set_option linter.unusedVariables false
set_option linter.unusedSimpArgs false

theorem part_srt {l : List Ky} {b : Bool} {p : List Ch} (hp : Srt Ch.key p) : Srt Ch.key (partP l b p) := hp.filter Ch.key _
end Go.Proofs.YtbdkbfoplpociaaGreatDoor
namespace Go.Proofs.YtbdkbfoplpociaaGreatDoor
set_option linter.unusedVariables false
set_option linter.unusedSimpArgs false

/-- what is behind stays -/
theorem app_rest (l : List Ky) (us : List Un) (d : List Cl) : app l us d = app l us (d.take (takesU us)) ++ d.drop (takesU us) := by
  have := app_append l us [] d
  rw [List.append_nil] at this
  exact this
end Go.Proofs.YtbdkbfoplpociaaGreatDoor
namespace Go.Proofs.YtbdkbfoplpociaaGreatDoor
set_option linter.unusedVariables false
set_option linter.unusedSimpArgs false

theorem size_le {x : List OpS} (h : ∀ o ∈ x, isOp o.o) {o : OpS} (ho : o ∈ x) : sizeO o.o ≤ takesU (units (osOf x)) + makesU (units (osOf x)) := by
  induction x with
  | nil => cases ho
  | cons a x ih =>
    have e : units (osOf (a :: x)) = unitsO a.o ++ units (osOf x) := rfl
    rw [e, takesU_append, makesU_append]
    rcases List.mem_cons.1 ho with rfl | hm
    · have hop := h o (by simp)
      obtain ⟨t1, t2⟩ := takes_one hop
      unfold tkI at t1
      unfold mkI at t2
      unfold sizeO at *
      rcases isOp_kind hop with hk | hk | hk
      · rw [if_pos hk] at t2 ⊢; rw [if_neg (by rw [hk]; decide)] at t2; omega
      · rw [if_neg (by rw [hk]; decide)] at t1 ⊢; omega
      · rw [if_neg (by rw [hk]; decide)] at t1 ⊢; omega
    · have := ih (fun z hz => h z (List.mem_cons_of_mem _ hz)) hm; omega
end Go.Proofs.YtbdkbfoplpociaaGreatDoor
namespace Go.Proofs.YtbdkbfoplpociaaGreatDoor
set_option linter.unusedVariables false
set_option linter.unusedSimpArgs false

theorem makesU_ins (r : List Int) (s : List At) : makesU (r.map (fun r => Un.ins r s)) = r.length := by
  induction r with
  | nil => rfl
  | cons a r ih => rw [List.map_cons, makesU_i, ih]; rfl
end Go.Proofs.YtbdkbfoplpociaaGreatDoor
namespace Go.Proofs.YtbdkbfoplpociaaGreatDoor
set_option linter.unusedVariables false
set_option linter.unusedSimpArgs false

theorem makes_small {o : Opd} (h : isOp o) : makesU (unitsO o) ≤ o.r.length + takesU (unitsO o) := by
  rcases isOp_kind h with hk | hk | hk
  · obtain ⟨e, hr⟩ := opI_of h hk
    have hu : unitsO o = o.r.map (fun r => Un.ins r o.s) := by unfold unitsO; rw [if_pos hk]
    rw [hu, makesU_ins]; omega
  · have hu : unitsO o = List.replicate o.n.toNat .del := by unfold unitsO; rw [if_neg (by rw [hk]; decide), if_neg (by rw [hk]; decide)]
    have hm : ∀ n, makesU (List.replicate n Un.del) = 0 := fun n => by
      induction n with
      | zero => rfl
      | succ n ih => rw [List.replicate_succ, makesU_d, ih]
    rw [hu, hm]; omega
  · have hu : unitsO o = List.replicate o.n.toNat (.ret o.p) := by unfold unitsO; rw [if_neg (by rw [hk]; decide), if_pos hk]
    rw [hu, makesU_ret, takesU_ret]; omega
end Go.Proofs.YtbdkbfoplpociaaGreatDoor
namespace Go.Proofs.YtbdkbfoplpociaaGreatDoor
open Go.RowKit
set_option linter.unusedVariables false
set_option linter.unusedSimpArgs false

section
variable {w : World} {A B : Option Addr} {n c n2 c2 : Nat} {L M : List ClS}
theorem applyBad {s : Nat} {l : List Ky} {most : Int} {x : List OpS} (h : DocAt w A n c L) (hx : OpsAt w B n2 x) (hS : Sch w s l) (hT : Lib.Utf8Tabs 1 2 w) {r : Int} (hr : applyN l x (clsOf L) most = r) (hz : r ≠ 0) :
    Calls Tryz.prog 38 #[.pointer (some ⟨s, 0, none⟩), .slice A n c, .slice B n2 c2, .int .i64 most] w (fun e w' => e = .returned (.tuple #[.slice none 0 0, .int .i64 r]) ∧ Below w.heap.size w w') := by
  refine (applyD_any s l A B n c n2 c2 L x most w h.len hx.len h.cap (by have := h.b; omega) (by have := hx.b; omega) h.rd hx.rd hS (fun z hz => ⟨by have := (h.vr z hz).1; omega, (h.vr z hz).2⟩) h.caps hx.ok hT).mono ?_
  rintro e w' ⟨y, ⟨_, rfl⟩ | ⟨h0, _⟩⟩
  · exact ⟨by rw [hr], y⟩
  · exact absurd (hr.symm.trans h0) hz
end
end Go.Proofs.YtbdkbfoplpociaaGreatDoor
namespace Go.Proofs.YtbdkbfoplpociaaGreatDoor
open Go.RowKit
set_option linter.unusedVariables false
set_option linter.unusedSimpArgs false

set_option maxRecDepth 100000 in
set_option maxHeartbeats 400000 in
theorem equalI_any (A B : Option Addr) (n m c d : Nat) (l k : List Int) (w : World) (hn : n = l.length) (hm : m = k.length) (h1 : RdI32 w w.heap.size A l) (h2 : RdI32 w w.heap.size B k) (hb : n ≤ 140737488355328) (hb2 : m ≤ 140737488355328) :
    Calls Tryz.prog 207 #[.slice A n c, .slice B m d] w fun e w' => e = .returned (.bool (decide (l = k))) ∧ Below w.heap.size w w' := by
  have N := Lib.hid hn
  have M := Lib.hid hm
  generalize hR : decide (l = k) = R
  have HR := Lib.hid hR
  clear hn hR hm
  by_cases hnm : (n : Int) = m
  · have hnm' : n = m := by omega
    subst hnm'
    clear hnm
    go_enter Tryz.func207, Tryz.ntmps207
    go_wp2_with (fail)
    go_loopg [13] n (fun g iv wr => ∃ i : Nat, i ≤ n ∧ g = n - i ∧ iv = .int .i64 (i : Int) ∧ (∃ q, wr = w.drewN q) ∧ Hid (decide (l.drop i = k.drop i) = R))
    case atStart => exact ⟨0, by omega, rfl, rfl, ⟨0, rfl⟩, Lib.hid (by rw [List.drop_zero, List.drop_zero]; exact HR.out)⟩
    case round =>
      obtain ⟨i, hi, hg, rfl, ⟨q, rfl⟩, HI⟩ := hrel
      have HG := Lib.hid hg
      clear hg HR
      by_cases hlt : i < n
      · have hl1 : i < l.length := by have := N.out; omega
        have hl2 : i < k.length := by have := M.out; omega
        obtain ⟨ad, x, rfl, _, hd1, _, hc1⟩ := h1.el hl1
        obtain ⟨ad2, y, rfl, _, hd2, _, hc2⟩ := h2.el hl2
        have HI' : Hid (decide (x :: l.drop (i + 1) = y :: k.drop (i + 1)) = R) := Lib.hid (by rw [← HI.out, hd1, hd2])
        have r0 := hc1 0 _ rfl
        rw [add_zero', Nat.mul_one] at r0
        have s0 := hc2 0 _ rfl
        rw [add_zero', Nat.mul_one] at s0
        clear HI hd1 hd2 hc1 hc2
        by_cases hxy : x = y
        · subst hxy
          go_wp2_with (go_quiet (fail))
          go_roundg (n - (i + 1))
          case measure => have := HG.out; omega
          case rel => exact ⟨i + 1, by omega, rfl, by go_num, ⟨_, rfl⟩, Lib.hid (by rw [← HI'.out]; simp only [List.cons.injEq, true_and])⟩
        · have HXY := Lib.hid hxy
          have hne : (x == y) = false := beq_eq_false_iff_ne.2 hxy
          clear hxy
          go_wp2_with (go_quiet (fail))
          go_ret
          exact ⟨ret_bool (by rw [← HI'.out]; exact (decide_eq_false fun e => HXY.out (List.cons.inj e).1).symm), by rw [World.drewN_drewN]; exact ext_drew w _⟩
      · go_wp2_with (fail)
        go_ret
        exact ⟨ret_bool (by rw [← HI.out, List.drop_eq_nil_of_le (by have := N.out; omega), List.drop_eq_nil_of_le (by have := M.out; omega)]; rfl), ext_drew w _⟩
  · have hne : ((n : Int) == m) = false := beq_eq_false_iff_ne.2 hnm
    go_enter Tryz.func207, Tryz.ntmps207
    go_wp2_with (fail)
    go_ret
    refine ⟨ret_bool ?_, Below.refl _ _⟩
    rw [← HR.out]
    refine (decide_eq_false fun e => ?_).symm
    have h3 := N.out
    have h4 := M.out
    rw [e] at h3
    omega

theorem box_op {w : World} {b : Nat} {t : TypeId} {c0 c1 c2 c3 c4 : Value} (h : w.heap[b]? = some (.cells #[c0, c1, c2, c3, c4] t (0, 0))) :
    w.cell? ⟨b, 0, none⟩ = some c0 ∧ w.cell? ⟨b, 1, none⟩ = some c1 ∧ w.cell? ⟨b, 2, none⟩ = some c2 ∧ w.cell? ⟨b, 3, none⟩ = some c3 ∧ w.cell? ⟨b, 4, none⟩ = some c4 := by
  simp [World.cell?, h]

set_option maxRecDepth 100000 in
set_option maxHeartbeats 1600000 in
theorem sameOs1_any (x z : OpS) (w : World) (h1 : OpIn w x) (h2 : OpIn w z) :
    Calls Tryz.prog 206 #[x.val, z.val] w fun e w' => e = .returned (.bool (decide (x.o = z.o))) ∧ Below w.heap.size w w' := by
  obtain ⟨⟨k, nn, r, s, p⟩, Ar, cr, As, cs, Ap, cp⟩ := x
  obtain ⟨⟨k', nn', r', s', p'⟩, Ar', cr', As', cs', Ap', cp'⟩ := z
  have y1 := ext_alloc w (.cells #[.int .u8 k, .int .i64 nn, .slice Ar r.length cr, .slice As s.length cs, .slice Ap p.length cp] 40)
  have y2 := ext_alloc (w.alloc (.cells #[.int .u8 k, .int .i64 nn, .slice Ar r.length cr, .slice As s.length cs, .slice Ap p.length cp] 40)) (.cells #[.int .u8 k', .int .i64 nn', .slice Ar' r'.length cr', .slice As' s'.length cs', .slice Ap' p'.length cp'] 40)
  have yy := ext_trans y1 y2
  have HB1 := Lib.hid ((y2.block w.heap.size (by simp)).trans (heap_alloc_new w (.cells #[.int .u8 k, .int .i64 nn, .slice Ar r.length cr, .slice As s.length cs, .slice Ap p.length cp] 40)))
  have hb2 := heap_alloc_new (w.alloc (.cells #[.int .u8 k, .int .i64 nn, .slice Ar r.length cr, .slice As s.length cs, .slice Ap p.length cp] 40)) (.cells #[.int .u8 k', .int .i64 nn', .slice Ar' r'.length cr', .slice As' s'.length cs', .slice Ap' p'.length cp'] 40)
  rw [World.size_alloc] at hb2
  have HB2 := Lib.hid hb2
  obtain ⟨a0, a1, a2, a3, a4⟩ := box_op HB1.out
  have Q1 := Lib.hid (h1.ext yy)
  have Q2 := Lib.hid (h2.ext yy)
  have YY := Lib.hid yy
  clear y1 y2 h1 h2 hb2 yy
  simp only [OpS.val]
  generalize hR : decide ((⟨k, nn, r, s, p⟩ : Opd) = ⟨k', nn', r', s', p'⟩) = R
  have HR := Lib.hid hR
  clear hR
  by_cases hk : k = k'
  · subst hk
    by_cases hn : nn = nn'
    · subst hn
      cases hr : decide (r = r') with
      | false =>
        have hne : R = false := by rw [← HR.out]; exact decide_eq_false (fun e => absurd (Opd.mk.inj e).2.2.1 (of_decide_eq_false hr))
        subst hne
        have H := Lib.hid hr
        clear hr
        go_enter Tryz.func206, Tryz.ntmps206
        go_wp2_with (go_at_call 207; refine (equalI_any Ar Ar' r.length r'.length cr cr' r r' _ rfl rfl Q1.out.1 Q2.out.1 Q1.out.2.2.2.1 Q2.out.2.2.2.1).mono ?_; rintro e w1 ⟨rfl, y1⟩; rw [H.out])
        go_ret
        exact ⟨rfl, ext_trans YY.out y1⟩
      | true =>
        have er : r = r' := of_decide_eq_true hr
        subst er
        clear hr
        cases hs : decide (s = s') with
        | false =>
          have hne : R = false := by rw [← HR.out]; exact decide_eq_false (fun e => absurd (Opd.mk.inj e).2.2.2.1 (of_decide_eq_false hs))
          subst hne
          have H := Lib.hid hs
          clear hs
          go_enter Tryz.func206, Tryz.ntmps206
          go_wp2_with (go_at_call 207; refine Hid.out ?_)
          refine Lib.hid ?_
          refine (equalI_any Ar Ar' r.length r.length cr cr' r r _ rfl rfl Q1.out.1 Q2.out.1 Q1.out.2.2.2.1 Q2.out.2.2.2.1).mono ?_
          rintro e w1 ⟨rfl, y1⟩
          rw [decide_eq_true (rfl : r = r)]
          have b2 := Lib.hid ((y1.block w.heap.size (lt_of_some HB1.out)).trans HB1.out)
          have b3 := Lib.hid ((y1.block (w.heap.size + 1) (lt_of_some HB2.out)).trans HB2.out)
          obtain ⟨d0, d1, d2, d3, d4⟩ := box_op b2.out
          obtain ⟨f0, f1, f2, f3, f4⟩ := box_op b3.out
          have P1 := Lib.hid (Q1.out.ext y1)
          have P2 := Lib.hid (Q2.out.ext y1)
          have YZ := Lib.hid (ext_trans YY.out y1)
          go_wp2_with (go_at_call 149; refine Hid.out ?_)
          refine Lib.hid ?_
          refine (attrsSame_any As As' s.length s'.length cs cs' s s' _ rfl rfl P1.out.2.1 P2.out.2.1 P1.out.2.2.2.2.1 P2.out.2.2.2.2.1).mono ?_
          rintro e w2 ⟨rfl, q, rfl⟩
          rw [H.out]
          go_wp2_with (fail)
          go_ret
          exact ⟨rfl, below_drewN YZ.out q⟩
        | true =>
          have es : s = s' := of_decide_eq_true hs
          subst es
          clear hs
          have hp : R = decide (p = p') := by
            rw [← HR.out]
            by_cases h : p = p'
            · subst h; simp
            · rw [decide_eq_false h]; exact decide_eq_false (fun e => h (Opd.mk.inj e).2.2.2.2)
          have HP := Lib.hid hp
          clear hp HR
          go_enter Tryz.func206, Tryz.ntmps206
          go_wp2_with (go_at_call 207; refine Hid.out ?_)
          refine Lib.hid ?_
          refine (equalI_any Ar Ar' r.length r.length cr cr' r r _ rfl rfl Q1.out.1 Q2.out.1 Q1.out.2.2.2.1 Q2.out.2.2.2.1).mono ?_
          rintro e w1 ⟨rfl, y1⟩
          rw [decide_eq_true (rfl : r = r)]
          have b2 := Lib.hid ((y1.block w.heap.size (lt_of_some HB1.out)).trans HB1.out)
          have b3 := Lib.hid ((y1.block (w.heap.size + 1) (lt_of_some HB2.out)).trans HB2.out)
          obtain ⟨d0, d1, d2, d3, d4⟩ := box_op b2.out
          obtain ⟨f0, f1, f2, f3, f4⟩ := box_op b3.out
          have P1 := Lib.hid (Q1.out.ext y1)
          have P2 := Lib.hid (Q2.out.ext y1)
          have YZ := Lib.hid (ext_trans YY.out y1)
          go_wp2_with (go_at_call 149; refine Hid.out ?_)
          refine Lib.hid ?_
          refine (attrsSame_any As As' s.length s.length cs cs' s s _ rfl rfl P1.out.2.1 P2.out.2.1 P1.out.2.2.2.2.1 P2.out.2.2.2.2.1).mono ?_
          rintro e w2 ⟨rfl, q, rfl⟩
          rw [decide_eq_true (rfl : s = s)]
          go_wp2_with (go_at_call 189; refine Hid.out ?_)
          refine Lib.hid ?_
          refine (sameC_any Ap Ap' p.length p'.length cp cp' p p' (w1.drewN q) rfl rfl (P1.out.2.2.1.drewN q) (P2.out.2.2.1.drewN q) P1.out.2.2.2.2.2 P2.out.2.2.2.2.2).mono ?_
          rintro e w3 ⟨rfl, q2, rfl⟩
          rw [← HP.out]
          cases R
          all_goals
            go_wp2_with (fail)
            go_ret
            exact ⟨rfl, below_drewN YZ.out (q + q2)⟩
    · have hne : R = false := by rw [← HR.out]; exact decide_eq_false (fun e => hn (Opd.mk.inj e).2.1)
      subst hne
      have hnn : (nn == nn') = false := beq_eq_false_iff_ne.2 hn
      clear hn
      go_enter Tryz.func206, Tryz.ntmps206
      go_wp2_with (fail)
      go_ret
      exact ⟨rfl, YY.out⟩
  · have hne : R = false := by rw [← HR.out]; exact decide_eq_false (fun e => hk (Opd.mk.inj e).1)
    subst hne
    have hkk : (k == k') = false := beq_eq_false_iff_ne.2 hk
    clear hk
    go_enter Tryz.func206, Tryz.ntmps206
    go_wp2_with (fail)
    go_ret
    exact ⟨rfl, YY.out⟩
set_option maxRecDepth 100000 in
set_option maxHeartbeats 800000 in
theorem equalOs_any (A B : Option Addr) (n m c d : Nat) (l k : List OpS) (w : World) (hn : n = l.length) (hm : m = k.length) (h1 : RdOp w w.heap.size A l) (h2 : RdOp w w.heap.size B k) (hb : n ≤ 100000000) (hb2 : m ≤ 100000000)
    (hs1 : ∀ x ∈ l, x.o.r.length ≤ 140737488355328 ∧ x.o.s.length ≤ 140737488355328 ∧ x.o.p.length ≤ 140737488355328) (hs2 : ∀ x ∈ k, x.o.r.length ≤ 140737488355328 ∧ x.o.s.length ≤ 140737488355328 ∧ x.o.p.length ≤ 140737488355328) :
    Calls Tryz.prog 205 #[.slice A n c, .slice B m d, .func (.func 206) #[] #[]] w fun e w' => e = .returned (.bool (decide (osOf l = osOf k))) ∧ Below w.heap.size w w' := by
  have N := Lib.hid hn
  have M := Lib.hid hm
  have H1 := Lib.hid h1
  have H2 := Lib.hid h2
  have S1 := Lib.hid hs1
  have S2 := Lib.hid hs2
  generalize hR : decide (osOf l = osOf k) = R
  have HR := Lib.hid hR
  clear hn hR hm h1 h2 hs1 hs2
  have HL : Hid (∀ x : List OpS, (osOf x).length = x.length) := Lib.hid (fun x => by unfold osOf; simp)
  by_cases hnm : (n : Int) = m
  · have hnm' : n = m := by omega
    subst hnm'
    clear hnm
    go_enter Tryz.func205, Tryz.ntmps205
    go_wp2_with (fail)
    go_loopg [17] n (fun g iv wr => ∃ i : Nat, i ≤ n ∧ g = n - i ∧ iv = .int .i64 (i : Int) ∧ Below w.heap.size w wr ∧ Hid (decide (osOf (l.drop i) = osOf (k.drop i)) = R))
    case atStart => exact ⟨0, by omega, rfl, rfl, Below.refl _ _, Lib.hid (by rw [List.drop_zero, List.drop_zero]; exact HR.out)⟩
    case round =>
      obtain ⟨i, hi, hg, rfl, y, HI⟩ := hrel
      have HG := Lib.hid hg
      clear hg HR
      by_cases hlt : i < n
      · have hl1 : i < l.length := by have := N.out; omega
        have hl2 : i < k.length := by have := M.out; omega
        obtain ⟨ad, x, rfl, _, hd1, hx1, hc1⟩ := (H1.out.ext y).1.el hl1
        obtain ⟨ad2, x', rfl, had2, hd2, hx2, hc2⟩ := (H2.out.ext y).1.el hl2
        have hm1 := List.mem_of_getElem? hx1
        have hm2 := List.mem_of_getElem? hx2
        have p1 := Lib.hid (show OpIn w x from ⟨(H1.out.2 x hm1).1, (H1.out.2 x hm1).2.1, (H1.out.2 x hm1).2.2, S1.out x hm1⟩)
        have p2 := Lib.hid (show OpIn w x' from ⟨(H2.out.2 x' hm2).1, (H2.out.2 x' hm2).2.1, (H2.out.2 x' hm2).2.2, S2.out x' hm2⟩)
        have HI' : Hid (decide (x.o :: osOf (l.drop (i + 1)) = x'.o :: osOf (k.drop (i + 1))) = R) := Lib.hid (by rw [← HI.out, hd1, hd2]; rfl)
        clear HI hd1 hd2 hx1 hx2 hm1 hm2
        obtain ⟨⟨k1, n1, r1, s1, q1⟩, Ar1, cr1, As1, cs1, Ap1, cp1⟩ := x
        obtain ⟨⟨k2, n2, r2, s2, q2⟩, Ar2, cr2, As2, cs2, Ap2, cp2⟩ := x'
        obtain ⟨z0, z1, z2, z3, z4⟩ := op_cells hc1
        have ya := ext_alloc wr (.cells #[.int .u8 k1, .int .i64 n1, .slice Ar1 r1.length cr1, .slice As1 s1.length cs1, .slice Ap1 q1.length cp1] 40)
        obtain ⟨u0, u1, u2, u3, u4⟩ := op_cells (hc2.keep (w' := wr.alloc (.cells #[.int .u8 k1, .int .i64 n1, .slice Ar1 r1.length cr1, .slice As1 s1.length cs1, .slice Ap1 q1.length cp1] 40)) fun q hq => ya.cell (by rw [hq, add_block]; exact had2))
        clear hc1 hc2 hl1 hl2 had2
        have yb := ext_alloc (wr.alloc (.cells #[.int .u8 k1, .int .i64 n1, .slice Ar1 r1.length cr1, .slice As1 s1.length cs1, .slice Ap1 q1.length cp1] 40)) (.cells #[.int .u8 k2, .int .i64 n2, .slice Ar2 r2.length cr2, .slice As2 s2.length cs2, .slice Ap2 q2.length cp2] 40)
        have y3 := Lib.hid (ext_trans y (ext_trans ya yb))
        clear ya yb
        go_wp2_with (go_at_call 206; refine Hid.out ?_)
        refine Lib.hid ?_
        refine (sameOs1_any ⟨⟨k1, n1, r1, s1, q1⟩, Ar1, cr1, As1, cs1, Ap1, cp1⟩ ⟨⟨k2, n2, r2, s2, q2⟩, Ar2, cr2, As2, cs2, Ap2, cp2⟩ _ (p1.out.ext y3.out) (p2.out.ext y3.out)).mono ?_
        rintro e w' ⟨he, y4⟩
        simp only at he
        subst he
        have yy := ext_trans y3.out y4
        have hw2 : IntKind.i64.wrap ((i:Int) + 1) = (i : Int) + 1 := IntWalk.i64_in _ (by omega)
        by_cases hxy : (⟨k1, n1, r1, s1, q1⟩ : Opd) = ⟨k2, n2, r2, s2, q2⟩
        · have HXY := Lib.hid hxy
          rw [decide_eq_true hxy]
          clear hxy
          go_wp2_with (fail)
          go_roundg (n - (i + 1))
          case measure => have := HG.out; omega
          case rel => exact ⟨i + 1, by omega, rfl, by go_num, yy, Lib.hid (by rw [← HI'.out]; simp only [List.cons.injEq, HXY.out, true_and])⟩
        · have HXY := Lib.hid hxy
          rw [decide_eq_false hxy]
          clear hxy
          go_wp2_with (fail)
          go_ret
          exact ⟨ret_bool (by rw [← HI'.out]; exact (decide_eq_false fun e => HXY.out (List.cons.inj e).1).symm), yy⟩
      · go_wp2_with (fail)
        go_ret
        exact ⟨ret_bool (by rw [← HI.out, List.drop_eq_nil_of_le (by have := N.out; omega), List.drop_eq_nil_of_le (by have := M.out; omega)]; rfl), y⟩
  · have hne : ((n : Int) == m) = false := beq_eq_false_iff_ne.2 hnm
    go_enter Tryz.func205, Tryz.ntmps205
    go_wp2_with (fail)
    go_ret
    refine ⟨ret_bool ?_, Below.refl _ _⟩
    rw [← HR.out]
    refine (decide_eq_false fun e => ?_).symm
    have h3 := N.out
    have h4 := M.out
    have h5 := congrArg List.length e
    rw [HL.out, HL.out] at h5
    omega
set_option maxHeartbeats 400000 in
theorem opsSame_any (A B : Option Addr) (n m c d : Nat) (l k : List OpS) (w : World) (hn : n = l.length) (hm : m = k.length) (h1 : RdOp w w.heap.size A l) (h2 : RdOp w w.heap.size B k) (hb : n ≤ 100000000) (hb2 : m ≤ 100000000)
    (hs1 : ∀ x ∈ l, x.o.r.length ≤ 140737488355328 ∧ x.o.s.length ≤ 140737488355328 ∧ x.o.p.length ≤ 140737488355328) (hs2 : ∀ x ∈ k, x.o.r.length ≤ 140737488355328 ∧ x.o.s.length ≤ 140737488355328 ∧ x.o.p.length ≤ 140737488355328) :
    Calls Tryz.prog 151 #[.slice A n c, .slice B m d] w fun e w' => e = .returned (.bool (decide (osOf l = osOf k))) ∧ Below w.heap.size w w' := by
  have H := Lib.hid (equalOs_any A B n m c d l k w hn hm h1 h2 hb hb2 hs1 hs2)
  clear hn hm h1 h2 hs1 hs2
  generalize decide (osOf l = osOf k) = R at *
  go_enter Tryz.func151, Tryz.ntmps151
  go_wp2_with (go_at_call 205; refine Hid.out ?_)
  refine Lib.hid ?_
  refine H.out.mono ?_
  rintro e w' ⟨rfl, y⟩
  go_wp2_with (fail)
  go_ret
  exact ⟨rfl, y⟩

end Go.Proofs.YtbdkbfoplpociaaGreatDoor
namespace Go.Proofs.YtbdkbfoplpociaaGreatDoor
set_option linter.unusedVariables false
set_option linter.unusedSimpArgs false

theorem cn_len (us : List Un) : ∀ (I : List Un) (g : Nat), (cn us I g).length = us.length + I.length + g := by
  induction us with
  | nil => intro I g; simp [cn]
  | cons u us ih =>
    intro I g
    cases u with
    | ins r s => rw [cn, ih]; simp; omega
    | del => rw [cn, ih]; simp; omega
    | ret p => rw [cn, List.length_append, List.length_append, List.length_cons, ih]; simp; omega
theorem nf_len (us : List Un) : (nf us).length ≤ us.length := by
  have h1 : (canon us).length = us.length := by unfold canon; rw [cn_len]; rfl
  obtain ⟨k, hk⟩ := trim_pre (canon us)
  have := congrArg List.length hk
  rw [List.length_append] at this
  show (trim (canon us)).length ≤ _
  omega
theorem unitsO_len {o : Opd} (h : isOp o) : 1 ≤ (unitsO o).length ∧ o.r.length ≤ (unitsO o).length := by
  rcases isOp_kind h with hk | hk | hk
  · obtain ⟨e, hr⟩ := opI_of h hk
    have : (unitsO o).length = o.r.length := by unfold unitsO; rw [if_pos hk, List.length_map]
    have := List.length_pos_iff.2 hr
    omega
  · obtain ⟨e, hn⟩ := opD_of h hk
    have h1 : (unitsO o).length = o.n.toNat := by unfold unitsO; rw [if_neg (by rw [hk]; decide), if_neg (by rw [hk]; decide), List.length_replicate]
    have h2 : o.r = [] := by rw [e]; rfl
    rw [h1, h2]
    refine ⟨by omega, Nat.zero_le _⟩
  · obtain ⟨e, hn⟩ := opR_of h hk
    have h1 : (unitsO o).length = o.n.toNat := by unfold unitsO; rw [if_neg (by rw [hk]; decide), if_pos hk, List.length_replicate]
    have h2 : o.r = [] := by rw [e]; rfl
    rw [h1, h2]
    refine ⟨by omega, Nat.zero_le _⟩
end Go.Proofs.YtbdkbfoplpociaaGreatDoor
namespace Go.Proofs.YtbdkbfoplpociaaGreatDoor
set_option linter.unusedVariables false

/-- has a patch the key? -/
def hasKey (q : List Ch) (k : Int) : Bool := q.any (fun d => d.key == k)
def lessP (p q : List Ch) : List Ch := p.filter (fun c => !hasKey q c.key)
end Go.Proofs.YtbdkbfoplpociaaGreatDoor
namespace Go.Proofs.YtbdkbfoplpociaaGreatDoor
theorem hasKey_lk (p : List Ch) (k : Int) : hasKey p k = (lk Ch.key p k).isSome := by
  cases h : (lk Ch.key p k).isSome with
  | true =>
    obtain ⟨c, hc, hk⟩ := (lk_isSome Ch.key).1 h
    exact List.any_eq_true.2 ⟨c, hc, by simpa using hk⟩
  | false =>
    refine List.any_eq_false.2 fun c hc hk => ?_
    have : (lk Ch.key p k).isSome = true := (lk_isSome Ch.key).2 ⟨c, hc, by simpa using hk⟩
    rw [h] at this; cases this
theorem less_rise {p q : List Ch} (hp : riseC p = true) : riseC (lessP p q) = true := by
  rw [riseC_srt] at *
  exact hp.filter Ch.key _
theorem law_past {a : List At} {p q : List Ch} (ha : riseA a = true) (hp : riseC p = true) (hq : riseC q = true) : applyP (lessP q p) (applyP p a) = applyP p (applyP q a) := by
  have hl := less_rise (q := p) hq
  rw [riseA_srt] at ha
  rw [riseC_srt] at hp hq hl
  obtain ⟨a1, a2, _⟩ := apply_all hp ha
  obtain ⟨b1, b2, _⟩ := apply_all hl a1
  obtain ⟨c1, c2, _⟩ := apply_all hq ha
  obtain ⟨d1, d2, _⟩ := apply_all hp c1
  refine lk_ext At.key b1 d1 fun k => ?_
  rw [b2, a2, d2, c2]
  have e : lk Ch.key (lessP q p) k = (lk Ch.key q k).filter (fun c => !hasKey p c.key) := lk_filter Ch.key hq _ k
  rw [e]
  cases hc : lk Ch.key q k with
  | none => cases lk Ch.key p k <;> rfl
  | some c =>
    have hck := lk_key Ch.key hc
    simp only [Option.filter, hck, hasKey_lk]
    cases hd : lk Ch.key p k with
    | none => simp; rfl
    | some d => simp [lkApply]
end Go.Proofs.YtbdkbfoplpociaaGreatDoor
namespace Go.Proofs.YtbdkbfoplpociaaGreatDoor
set_option linter.unusedVariables false
set_option linter.unusedSimpArgs false

def isIns : Un → Bool
  | .ins _ _ => true
  | _ => false
def pastP (first : Bool) (q p : List Ch) : List Ch := if first = true then lessP q p else q
/-- vs past us -/
def traU (first : Bool) : List Un → List Un → List Un
  | _, [] => []
  | us, .ins r s :: vs => if first = true then List.replicate (us.takeWhile isIns).length (.ret []) ++ .ins r s :: traU first (us.dropWhile isIns) vs else .ins r s :: traU first us vs
  | us, .del :: vs => List.replicate (us.takeWhile isIns).length (.ret []) ++ (match us.dropWhile isIns with
    | [] => .del :: traU first [] vs
    | .ret _ :: us' => .del :: traU first us' vs
    | _ :: us' => traU first us' vs)
  | us, .ret q :: vs => List.replicate (us.takeWhile isIns).length (.ret []) ++ (match us.dropWhile isIns with
    | [] => .ret (pastP first q []) :: traU first [] vs
    | .ret p :: us' => .ret (pastP first q p) :: traU first us' vs
    | _ :: us' => traU first us' vs)
section
variable (f : Bool) (us vs : List Un) (r : Int) (s : List At) (r' : Int) (s' : List At) (p q : List Ch)
theorem traU_nil : traU f us [] = [] := by unfold traU; rfl
theorem traU_ii : traU true (.ins r s :: us) (.ins r' s' :: vs) = .ret [] :: traU true us (.ins r' s' :: vs) := by rw [traU, traU, if_pos rfl, if_pos rfl]; rfl
theorem traU_id : traU f (.ins r s :: us) (.del :: vs) = .ret [] :: traU f us (.del :: vs) := by rw [traU, traU]; rfl
theorem traU_ir : traU f (.ins r s :: us) (.ret q :: vs) = .ret [] :: traU f us (.ret q :: vs) := by rw [traU, traU]; rfl
theorem traU_fi : traU false us (.ins r s :: vs) = .ins r s :: traU false us vs := by rw [traU, if_neg (by decide)]
theorem traU_ni : traU f [] (.ins r s :: vs) = .ins r s :: traU f [] vs := by
  rw [traU]
  cases f with
  | true => rw [if_pos rfl]; rfl
  | false => rw [if_neg (by decide)]
theorem traU_di : traU f (.del :: us) (.ins r s :: vs) = .ins r s :: traU f (.del :: us) vs := by
  rw [traU]
  cases f with
  | true => rw [if_pos rfl]; rfl
  | false => rw [if_neg (by decide)]
theorem traU_ri : traU f (.ret p :: us) (.ins r s :: vs) = .ins r s :: traU f (.ret p :: us) vs := by
  rw [traU]
  cases f with
  | true => rw [if_pos rfl]; rfl
  | false => rw [if_neg (by decide)]
theorem traU_nd : traU f [] (.del :: vs) = .del :: traU f [] vs := by rw [traU]; rfl
theorem traU_nr : traU f [] (.ret q :: vs) = .ret q :: traU f [] vs := by
  rw [traU]
  have : pastP f q [] = q := by unfold pastP; split; exact List.filter_eq_self.2 (fun c _ => rfl); rfl
  show [] ++ .ret (pastP f q []) :: traU f [] vs = _
  rw [this]; rfl
theorem traU_dd : traU f (.del :: us) (.del :: vs) = traU f us vs := by rw [traU]; rfl
theorem traU_dr : traU f (.del :: us) (.ret q :: vs) = traU f us vs := by rw [traU]; rfl
theorem traU_rd : traU f (.ret p :: us) (.del :: vs) = .del :: traU f us vs := by rw [traU]; rfl
theorem traU_rr : traU f (.ret p :: us) (.ret q :: vs) = .ret (pastP f q p) :: traU f us vs := by rw [traU]; rfl
end
/-- the order of the walk when the first one is first -/
theorem tra_ind {P : List Un → List Un → Prop} (nil : ∀ us, P us []) (non : ∀ vs, P [] vs)
    (iv : ∀ r s us v vs, P us (v :: vs) → P (.ins r s :: us) (v :: vs))
    (di : ∀ us r s vs, P (.del :: us) vs → P (.del :: us) (.ins r s :: vs)) (ri : ∀ p us r s vs, P (.ret p :: us) vs → P (.ret p :: us) (.ins r s :: vs))
    (dd : ∀ us vs, P us vs → P (.del :: us) (.del :: vs)) (dr : ∀ us q vs, P us vs → P (.del :: us) (.ret q :: vs))
    (rd : ∀ p us vs, P us vs → P (.ret p :: us) (.del :: vs)) (rr : ∀ p us q vs, P us vs → P (.ret p :: us) (.ret q :: vs)) : ∀ vs us, P us vs := by
  intro vs
  induction vs with
  | nil => exact nil
  | cons v vs ih =>
    intro us
    induction us with
    | nil => exact non _
    | cons u us ihu =>
      cases u with
      | ins r s => exact iv r s us v vs ihu
      | del =>
        cases v with
        | ins r s => exact di us r s vs (ih _)
        | del => exact dd us vs (ih us)
        | ret q => exact dr us q vs (ih us)
      | ret p =>
        cases v with
        | ins r s => exact ri p us r s vs (ih _)
        | del => exact rd p us vs (ih us)
        | ret q => exact rr p us q vs (ih us)
theorem tra_none (f : Bool) : ∀ vs, traU f [] vs = vs
  | [] => traU_nil f []
  | .ins r s :: vs => by rw [traU_ni, tra_none f vs]
  | .del :: vs => by rw [traU_nd, tra_none f vs]
  | .ret q :: vs => by rw [traU_nr, tra_none f vs]
theorem part_less {l : List Ky} {b : Bool} {p q : List Ch} (hp : riseC p = true) (hq : riseC q = true) : partP l b (lessP q p) = lessP (partP l b q) (partP l b p) := by
  unfold partP lessP
  rw [List.filter_filter, List.filter_filter]
  refine List.filter_congr fun c hc => ?_
  cases hk : keepK l b c.key with
  | false => simp
  | true =>
    simp only [Bool.true_and, Bool.and_true]
    congr 1
    unfold hasKey
    rw [List.any_filter]
    congr 1
    funext x
    by_cases hx : x.key = c.key
    · simp [hx, hk]
    · simp [hx]
theorem act_past {l : List Ky} {c : Cl} {p q : List Ch} (hp : mayP l p = 0) (hq : mayP l q = 0) (hs : riseA c.s = true) : actC l (actC l c p) (lessP q p) = actC l (actC l c q) p := by
  have p1 := (mayP_zero hp).2.1
  have q1 := (mayP_zero hq).2.1
  have p2 : riseC (partP l (c.r == 10) p) = true := riseC_srt.2 (part_srt (riseC_srt.1 p1))
  have q2 : riseC (partP l (c.r == 10) q) = true := riseC_srt.2 (part_srt (riseC_srt.1 q1))
  show (⟨c.r, applyP (partP l (c.r == 10) (lessP q p)) (applyP (partP l (c.r == 10) p) c.s)⟩ : Cl) = ⟨c.r, applyP (partP l (c.r == 10) p) (applyP (partP l (c.r == 10) q) c.s)⟩
  rw [part_less p1 q1, law_past hs p2 q2]
theorem tail_m {P : Un → Prop} {u : Un} {us : List Un} (h : ∀ x ∈ u :: us, P x) : ∀ x ∈ us, P x := fun x hx => h x (List.mem_cons_of_mem _ hx)
/-- BOTH WAYS ROUND -/
theorem tra_meet (l : List Ky) : ∀ vs us, ∀ (d : List Cl), takesU us ≤ d.length → takesU vs ≤ d.length → (∀ u ∈ us, mU l u) → (∀ v ∈ vs, mU l v) → (∀ c ∈ d, riseA c.s = true) →
    app l (traU true us vs) (app l us d) = app l (traU false vs us) (app l vs d) := by
  refine tra_ind ?_ ?_ ?_ ?_ ?_ ?_ ?_ ?_ ?_
  · intro us d _ _ _ _ _; rw [traU_nil, tra_none]; rfl
  · intro vs d _ _ _ _ _; rw [traU_nil, tra_none]; rfl
  · intro r s us v vs ih d h1 h2 h3 h4 h5
    rw [takesU_i] at h1
    have e : traU true (.ins r s :: us) (v :: vs) = .ret [] :: traU true us (v :: vs) := by
      cases v with
      | ins r' s' => exact traU_ii us vs r s r' s'
      | del => exact traU_id true us vs r s
      | ret q => exact traU_ir true us vs r s q
    rw [e, traU_fi]
    show actC l ⟨r, s⟩ [] :: app l (traU true us (v :: vs)) (app l us d) = ⟨r, s⟩ :: app l (traU false (v :: vs) us) (app l (v :: vs) d)
    rw [ih d h1 h2 (tail_m h3) h4 h5, actC_nil]
  · intro us r s vs ih d h1 h2 h3 h4 h5
    rw [traU_di, traU_id]
    rw [takesU_i] at h2
    show ⟨r, s⟩ :: app l (traU true (.del :: us) vs) (app l (.del :: us) d) = actC l ⟨r, s⟩ [] :: app l (traU false vs (.del :: us)) (app l vs d)
    rw [ih d h1 h2 h3 (tail_m h4) h5, actC_nil]
  · intro p us r s vs ih d h1 h2 h3 h4 h5
    rw [traU_ri, traU_ir]
    rw [takesU_i] at h2
    show ⟨r, s⟩ :: app l (traU true (.ret p :: us) vs) (app l (.ret p :: us) d) = actC l ⟨r, s⟩ [] :: app l (traU false vs (.ret p :: us)) (app l vs d)
    rw [ih d h1 h2 h3 (tail_m h4) h5, actC_nil]
  · intro us vs ih d h1 h2 h3 h4 h5
    rw [takesU_d] at h1 h2
    rw [traU_dd, traU_dd]
    exact ih (d.drop 1) (by rw [List.length_drop]; omega) (by rw [List.length_drop]; omega) (tail_m h3) (tail_m h4) (fun c hc => h5 c (List.mem_of_mem_drop hc))
  · intro us q vs ih d h1 h2 h3 h4 h5
    rw [takesU_d] at h1
    rw [takesU_r] at h2
    cases d with
    | nil => simp at h1
    | cons c d =>
      rw [traU_dr, traU_rd]
      exact ih d (by simp at h1; omega) (by simp at h2; omega) (tail_m h3) (tail_m h4) (fun x hx => h5 x (List.mem_cons_of_mem _ hx))
  · intro p us vs ih d h1 h2 h3 h4 h5
    rw [takesU_r] at h1
    rw [takesU_d] at h2
    cases d with
    | nil => simp at h1
    | cons c d =>
      rw [traU_rd, traU_dr]
      exact ih d (by simp at h1; omega) (by simp at h2; omega) (tail_m h3) (tail_m h4) (fun x hx => h5 x (List.mem_cons_of_mem _ hx))
  · intro p us q vs ih d h1 h2 h3 h4 h5
    rw [takesU_r] at h1 h2
    cases d with
    | nil => simp at h1
    | cons c d =>
      rw [traU_rr, traU_rr]
      show actC l (actC l c p) (lessP q p) :: app l (traU true us vs) (app l us d) = actC l (actC l c q) p :: app l (traU false vs us) (app l vs d)
      rw [ih d (by simp at h1; omega) (by simp at h2; omega) (tail_m h3) (tail_m h4) (fun x hx => h5 x (List.mem_cons_of_mem _ hx)), act_past (show mayP l p = 0 from h3 (.ret p) (by simp)) (show mayP l q = 0 from h4 (.ret q) (by simp)) (h5 c (by simp))]
end Go.Proofs.YtbdkbfoplpociaaGreatDoor
namespace Go.Proofs.YtbdkbfoplpociaaGreatDoor
set_option linter.unusedVariables false
set_option linter.unusedSimpArgs false

/-- the last cell stays the last one -/
theorem app_pos (l : List Ky) (us : List Un) (d : List Cl) (n a : Nat) (hd : 1 ≤ d.length) (h1 : takesU us ≤ d.length) (h2 : finU n a us = true) (h3 : n = a + d.length) : 1 ≤ (app l us d).length := by
  rcases List.eq_nil_or_concat d with rfl | ⟨t, c, rfl⟩
  · simp at hd
  · rw [List.concat_eq_append] at *
    obtain ⟨t', c', e, _⟩ := app_last l us t c n a (by simpa using h1) h2 (by simpa using h3)
    rw [e]; simp
end Go.Proofs.YtbdkbfoplpociaaGreatDoor
