/- Merged texts: May15, May15D, SliceOs, Shut. -/
import Derived.Test.YtbdkbfoplpociaaGreatDoorK17
import Derived.Test.YtbdkbfoplpociaaGreatDoorK33
import Derived.Test.YtbdkbfoplpociaaGreatDoorK34
import Derived.Test.YtbdkbfoplpociaaGreatDoorK32
import Derived.Test.YtbdkbfoplpociaaGreatDoorK30
import Derived.Test.YtbdkbfoplpociaaGreatDoorK31
import Derived.Test.YtbdkbfoplpociaaGreatDoorK7
import Derived.Test.YtbdkbfoplpociaaGreatDoorCards
import Derived.Test.YtbdkbfoplpociaaGreatDoorTie
import Derived.ProofKit
import Derived.Deep.Slices
import Derived.JoinedCond
import Derived.OpenShut
import Derived.Deep.DeepHandedRow
import Derived.Lib.LaidTab
namespace Go.Proofs.YtbdkbfoplpociaaGreatDoor
open Go.RowKit
set_option linter.unusedVariables false
set_option linter.unusedSimpArgs false

/-- is an op's form right by itself, as the document says it -/
def formR (o : Opd) : Bool := formO o && decide (1 ≤ sizeO o ∧ sizeO o ≤ 536870912)

set_option maxRecDepth 100000 in
set_option maxHeartbeats 1600000 in
theorem form15_any (k n : Int) (Ar As Ap : Option Addr) (r : List Int) (s : List At) (p : List Ch) (cr cs cp : Nat) (w : World) (h : RdI32 w w.heap.size Ar r) (hb : r.length ≤ 140737488355328) :
    Calls Tryz.prog 87 #[.agg #[.int .u8 k, .int .i64 n, .slice Ar r.length cr, .slice As s.length cs, .slice Ap p.length cp]] w fun e w' => e = .returned (.bool (formR ⟨k, n, r, s, p⟩)) ∧ Below w.heap.size w w' := by
  have y0 := ext_alloc w (.cells #[.int .u8 k, .int .i64 n, .slice Ar r.length cr, .slice As s.length cs, .slice Ap p.length cp] 40)
  have HH := Lib.hid (h.ext y0)
  obtain ⟨R, hR⟩ : ∃ X, formR ⟨k, n, r, s, p⟩ = X := ⟨_, rfl⟩
  rw [hR]
  unfold formR formO sizeO at hR
  simp only at hR
  have HR := Lib.hid hR
  obtain ⟨nr, hnr⟩ : ∃ X, r.length = X := ⟨_, rfl⟩
  obtain ⟨ns, hns⟩ : ∃ X, s.length = X := ⟨_, rfl⟩
  obtain ⟨np, hnp⟩ : ∃ X, p.length = X := ⟨_, rfl⟩
  have NR := Lib.hid hnr
  have NS := Lib.hid hns
  have NP := Lib.hid hnp
  rw [hnr, hns, hnp]
  rw [hnr, hns, hnp] at y0 HH
  rw [hnr] at hb
  clear hR hnr hns hnp h
  by_cases k1 : k = 1
  · subst k1
    go_enter Tryz.func87, Tryz.ntmps87
    go_wp2_with (fail)
    all_goals go_ret
    all_goals exact ⟨ret_bool (by rw [← HR.out]; simp only [NR.out, NS.out, NP.out]; first | (simp; done) | (simp; omega) | (simp [*]; done) | (simp [*]; omega)), by exact ext_alloc w _⟩
  have kb1 : (k == 1) = false := beq_eq_false_iff_ne.2 k1
  by_cases k3 : k = 3
  · subst k3
    go_enter Tryz.func87, Tryz.ntmps87
    go_wp2_with (fail)
    all_goals go_ret
    all_goals exact ⟨ret_bool (by rw [← HR.out]; simp only [NR.out, NS.out, NP.out]; first | (simp; done) | (simp; omega) | (simp [*]; done) | (simp [*]; omega)), by exact ext_alloc w _⟩
  have kb3 : (k == 3) = false := beq_eq_false_iff_ne.2 k3
  by_cases k2 : k = 2
  rotate_left
  · have kb2 : (k == 2) = false := beq_eq_false_iff_ne.2 k2
    have e : R = false := by rw [← HR.out, if_neg k1, if_neg k3, if_neg k2]; rfl
    go_enter Tryz.func87, Tryz.ntmps87
    go_wp2_with (fail)
    go_ret
    exact ⟨ret_bool e.symm, y0⟩
  subst k2
  have hbx := heap_alloc_new w (.cells #[.int .u8 2, .int .i64 n, .slice Ar nr cr, .slice As ns cs, .slice Ap np cp] 40)
  go_enter Tryz.func87, Tryz.ntmps87
  go_wp2_with (fail)
  obtain ⟨w1, hw1⟩ : ∃ X, w.alloc (.cells #[.int .u8 2, .int .i64 n, .slice Ar nr cr, .slice As ns cs, .slice Ap np cp] 40) = X := ⟨_, rfl⟩
  rw [hw1] at y0 HH hbx ⊢
  clear hw1
  obtain ⟨q0, q1, q2, q3, q4⟩ := box_at hbx
  clear hbx
  go_loopg [3] nr (fun g iv wr => ∃ m : Nat, m ≤ nr ∧ g = nr - m ∧ iv = .int .i64 (m : Int) ∧ (∃ dr, wr = w1.drewN dr) ∧ Hid (∀ c ∈ r.take m, mayR c = true))
  case atStart => exact ⟨0, by omega, rfl, rfl, ⟨0, rfl⟩, Lib.hid (fun c hc => by simp at hc)⟩
  case round =>
    obtain ⟨m, hm, hg, rfl, ⟨dr, rfl⟩, HI⟩ := hrel
    have HG := Lib.hid hg
    clear hg
    by_cases hlt : m < nr
    · have hl1 : m < r.length := by have := NR.out; omega
      obtain ⟨ad, x, hA, _, _, hx1, hc0⟩ := HH.out.el hl1
      subst hA
      have HX := Lib.hid hx1
      have c0 : w1.cell? (ad.add (m * 1)) = some (.int .i32 x) := by have := hc0 0 _ rfl; rwa [add_zero'] at this
      rw [Nat.mul_one] at c0
      have hw2 : IntKind.i64.wrap ((m:Int) + 1) = (m : Int) + 1 := IntWalk.i64_in _ (by omega)
      obtain ⟨M, hM⟩ : ∃ X, mayR x = X := ⟨_, rfl⟩
      have HM := Lib.hid hM
      clear hc0 hx1 hM
      cases M
      · have e : R = false := by
          have h1 : r.any (fun r => !mayR r) = true := List.any_eq_true.2 ⟨x, List.mem_of_getElem? HX.out, by rw [HM.out]; rfl⟩
          rw [← HR.out]; simp [h1]
        go_wp2_with (go_at_call 155; refine (refMay_any x _).mono ?_; rintro e w2 ⟨rfl, rfl⟩; rw [HM.out])
        go_ret
        exact ⟨ret_bool e.symm, ext_trans y0 (ext_drew _ _)⟩
      · go_wp2_with (go_at_call 155; refine (refMay_any x _).mono ?_; rintro e w2 ⟨rfl, rfl⟩; rw [HM.out])
        go_roundg (nr - (m + 1))
        case measure => have := HG.out; omega
        case rel => exact ⟨m + 1, by omega, rfl, by go_num, ⟨_, rfl⟩, Lib.hid (fun c hc => by
          rw [List.take_add_one, HX.out] at hc
          rcases List.mem_append.1 hc with hc | hc
          · exact HI.out c hc
          · simp at hc; rw [hc]; exact HM.out)⟩
    · have hany : r.any (fun r => !mayR r) = false := by
        rw [Bool.eq_false_iff]
        intro h
        obtain ⟨c, hc, h2⟩ := List.any_eq_true.1 h
        have := HI.out c (by rw [List.take_of_length_le (by have := NR.out; omega)]; exact hc)
        rw [this] at h2; cases h2
      have HA := Lib.hid hany
      clear hany HI
      go_wp2_with (fail)
      all_goals go_ret
      all_goals exact ⟨ret_bool (by rw [← HR.out]; simp only [HA.out, NR.out, NS.out, NP.out, if_true]; first | (simp; done) | (simp; omega) | (simp [*]; done) | (simp [*]; omega)), by first | exact ext_trans y0 (ext_drew _ _) | exact y0⟩
theorem mayS_none (l : List Ky) : mayS l [] = 0 := by simp [mayS, riseA, rise]
theorem mayP_none (l : List Ky) : mayP l [] = 0 := by simp [mayP, riseC, rise]
theorem mayS_vals (l : List Ky) (s : List At) : mayS l s = 0 ∨ mayS l s = 3 ∨ mayS l s = 4 := by
  unfold mayS; split
  · exact .inr (.inl rfl)
  · split
    · split
      · exact .inl rfl
      · exact .inr (.inr rfl)
    · exact .inr (.inl rfl)
theorem mayP_vals (l : List Ky) (s : List Ch) : mayP l s = 0 ∨ mayP l s = 3 ∨ mayP l s = 4 := by
  unfold mayP; split
  · exact .inr (.inl rfl)
  · split
    · split
      · exact .inl rfl
      · exact .inr (.inr rfl)
    · exact .inr (.inl rfl)
/-- an op that makes a delta malformed; one whose keys do not fit -/
def badO (l : List Ky) (o : Opd) : Bool := !formR o || decide (mayS l o.s = 3) || decide (mayP l o.p = 3)
def offO (l : List Ky) (o : Opd) : Bool := decide (mayS l o.s ≠ 0) || decide (mayP l o.p ≠ 0)
theorem form_one {o : Opd} (h : formO o = true) : o.s = [] ∨ o.p = [] := by
  unfold formO at h
  split at h
  · exact .inl (List.length_eq_zero_iff.1 (of_decide_eq_true h).2)
  · split at h
    · exact .inl (List.length_eq_zero_iff.1 (of_decide_eq_true h).1.2)
    · split at h
      · rw [Bool.and_eq_true] at h; exact .inr (List.length_eq_zero_iff.1 (of_decide_eq_true h.1).2)
      · cases h
theorem one_is (l : List Ky) (o : Opd) : oneP l o = if badO l o = true then 3 else if offO l o = true then 4 else 0 := by
  unfold oneP badO offO formR
  by_cases h1 : formO o = true ∧ 1 ≤ sizeO o ∧ sizeO o ≤ 536870912
  · rw [if_pos h1]
    have h2 : (!(formO o && decide (1 ≤ sizeO o ∧ sizeO o ≤ 536870912))) = false := by simp [h1.1, h1.2]
    rw [h2, Bool.false_or]
    rcases form_one h1.1 with h3 | h3
    · rw [h3, mayS_none, if_pos rfl]
      rcases mayP_vals l o.p with h | h | h <;> rw [h] <;> decide
    · rw [h3, mayP_none]
      rcases mayS_vals l o.s with h | h | h <;> rw [h] <;> decide
  · rw [if_neg h1]
    have h2 : (!(formO o && decide (1 ≤ sizeO o ∧ sizeO o ≤ 536870912))) = true := by
      rw [Bool.not_eq_true', Bool.and_eq_false_iff]
      by_cases h3 : formO o = true
      · exact .inr (decide_eq_false (fun h4 => h1 ⟨h3, h4⟩))
      · exact .inl (Bool.eq_false_iff.2 h3)
    rw [h2, Bool.true_or, Bool.true_or, if_pos rfl]
theorem fold_is (l : List Ky) : ∀ (x : List OpS) (a : Int), x.foldl (mayStep l) (false, a) = if x.any (fun o => badO l o.o) = true then (true, 3) else (false, if x.any (fun o => offO l o.o) = true then 4 else a)
  | [], a => by simp
  | o :: x, a => by
    rw [List.foldl_cons]
    have e : mayStep l (false, a) o = if badO l o.o = true then (true, 3) else (false, if offO l o.o = true then 4 else a) := by
      unfold mayStep
      rw [one_is l o.o]
      cases badO l o.o <;> cases offO l o.o <;> simp
    rw [e, List.any_cons, List.any_cons]
    cases hb : badO l o.o
    · cases ho : offO l o.o
      · simpa using fold_is l x a
      · simpa using fold_is l x 4
    · simp [mayStep_true]
def refO (l : List Ky) (x : List OpS) : Int :=
  if x.any (fun o => badO l o.o) = true then 3 else if takesP x ≤ 536870912 ∧ makesP x ≤ 536870912 then (if x.any (fun o => offO l o.o) = true then 4 else 0) else 3
theorem refO_is (l : List Ky) (x : List OpS) : refO l x = mayO l x := by
  unfold refO mayO
  rw [fold_is]
  cases x.any (fun o => badO l o.o) <;> simp
theorem any_take {α : Type} {f : α → Bool} {x : List α} {m : Nat} {o : α} (h : x[m]? = some o) (h1 : (x.take m).any f = false) (h2 : f o = false) : (x.take (m + 1)).any f = false := by
  rw [List.take_add_one, h, List.any_append, h1]; simp [h2]
theorem any_at {α : Type} {f : α → Bool} {x : List α} {m : Nat} {o : α} (h : x[m]? = some o) (h2 : f o = true) : x.any f = true := List.any_eq_true.2 ⟨o, List.mem_of_getElem? h, h2⟩
set_option maxRecDepth 100000 in
set_option maxHeartbeats 3200000 in
theorem may15_any (A B : Option Addr) (n c n2 c2 : Nat) (l : List Ky) (x : List OpS) (w : World) (hn : n = l.length) (h : RdKy w w.heap.size A l) (hb : n ≤ 140737488355328) (hn2 : n2 = x.length) (h2 : RdOp w w.heap.size B x) (hb2 : n2 ≤ 140737488355328)
    (hv : ∀ o ∈ x, okVa o.o.s ∧ okVs o.o.p ∧ o.o.r.length ≤ 140737488355328 ∧ o.o.s.length ≤ 140737488355328 ∧ o.o.p.length ≤ 140737488355328) (hT : Lib.Utf8Tabs 1 2 w) :
    Calls Tryz.prog 22 #[.slice A n c, .slice B n2 c2] w fun e w' => e = .returned (.int .i64 (mayO l x)) ∧ Below w.heap.size w w' := by
  rw [← refO_is]
  have N := Lib.hid hn
  have N2 := Lib.hid hn2
  have HL := Lib.hid h
  have HX := Lib.hid h2
  have HT := Lib.hid hT
  obtain ⟨R, hR⟩ : ∃ X, refO l x = X := ⟨_, rfl⟩
  rw [hR]
  unfold refO at hR
  have HR := Lib.hid hR
  clear hn hn2 hR h h2 hT
  go_enter Tryz.func22, Tryz.ntmps22
  go_wp2_with (fail)
  go_loopg [5] n2 (fun g iv wr => ∃ m : Nat, m ≤ n2 ∧ g = n2 - m ∧ iv = .int .i64 (m : Int) ∧ Below w.heap.size w wr ∧ Hid ((x.take m).any (fun o => badO l o.o) = false))
  case atStart => exact ⟨0, by omega, rfl, rfl, Below.refl _ _, Lib.hid (by simp)⟩
  case round =>
    obtain ⟨m, hm, hg, rfl, y, HI⟩ := hrel
    have HG := Lib.hid hg
    clear hg
    by_cases hlt : m < n2
    · have hl1 : m < x.length := by have := N2.out; omega
      obtain ⟨ad, o, had0, hd1, hx1, hc0⟩ := (HX.out.ext y).1.elIn hl1
      subst had0
      have HM := Lib.hid hx1
      obtain ⟨g1, g2, g3⟩ := (HX.out.ext y).2 o (List.mem_of_getElem? hx1)
      obtain ⟨v1, v2, v3, v4, v5⟩ := hv o (List.mem_of_getElem? hx1)
      obtain ⟨⟨k, nn, r, s, p⟩, Ar, cr, As, cs, Ap, cp⟩ := o
      simp only at g1 g2 g3 v1 v2 v3 v4 v5
      have HC := Lib.hid hc0
      obtain ⟨r0, r1, r2, r3, r4⟩ := op_cells HC.out.2
      have G1 := Lib.hid g1
      have G2 := Lib.hid g2
      have G3 := Lib.hid g3
      have hw2 : IntKind.i64.wrap ((m:Int) + 1) = (m : Int) + 1 := IntWalk.i64_in _ (by omega)
      clear hc0 hd1 hx1 g1 g2 g3
      have BAD : Hid (badO l ⟨k, nn, r, s, p⟩ = true → R = 3) := Lib.hid (fun hb' => by rw [← HR.out, if_pos (any_at HM.out hb')])
      have FB : Hid (badO l ⟨k, nn, r, s, p⟩ = (!formR ⟨k, nn, r, s, p⟩ || decide (mayS l s = 3) || decide (mayP l p = 3))) := Lib.hid rfl
      obtain ⟨F, hF⟩ : ∃ X, formR ⟨k, nn, r, s, p⟩ = X := ⟨_, rfl⟩
      obtain ⟨E1, hE1⟩ : ∃ X, mayS l s = X := ⟨_, rfl⟩
      obtain ⟨E2, hE2⟩ : ∃ X, mayP l p = X := ⟨_, rfl⟩
      have HF := Lib.hid hF
      have HE1 := Lib.hid hE1
      have HE2 := Lib.hid hE2
      clear hF hE1 hE2
      go_wp2_with (go_at_call 87; refine Hid.out ?_)
      refine Lib.hid ?_
      refine (form15_any k nn Ar As Ap r s p cr cs cp _ G1.out v3).mono ?_
      rw [HF.out]
      rintro e w3 ⟨rfl, y3⟩
      have G2 := Lib.hid (G2.out.ext y3)
      clear r0 r1 r2 r3 r4
      have HC := Lib.hid (HC.out.ext y3)
      obtain ⟨r0, r1, r2, r3, r4⟩ := op_cells HC.out.2
      have G3 := Lib.hid (G3.out.ext y3)
      replace y := ext_trans y y3
      clear y3
      cases F
      · have e9 : R = 3 := BAD.out (by rw [FB.out, HF.out]; rfl)
        go_wp2_with (fail)
        go_ret
        exact ⟨ret_int e9.symm, y⟩
      go_wp2_with (go_at_call 88; refine Hid.out ?_)
      refine Lib.hid ?_
      refine (mayR5_any A As n c s.length cs l s _ N.out (HL.out.ext y) hb rfl G2.out v4 v1 (Utf8Tabs_below HT.out y)).mono ?_
      rw [HE1.out]
      rintro e w4 ⟨rfl, y4⟩
      clear r0 r1 r2 r3 r4
      have HC := Lib.hid (HC.out.ext y4)
      obtain ⟨r0, r1, r2, r3, r4⟩ := op_cells HC.out.2
      have G3 := Lib.hid (G3.out.ext y4)
      replace y := ext_trans y y4
      clear y4
      by_cases c1 : E1 = 3
      · have e9 : R = 3 := BAD.out (by rw [FB.out, HE1.out, c1]; simp)
        subst c1
        go_wp2_with (fail)
        go_ret
        exact ⟨ret_int e9.symm, y⟩
      have c1b : (E1 == 3) = false := beq_eq_false_iff_ne.2 c1
      go_wp2_with (go_at_call 89; refine Hid.out ?_)
      refine Lib.hid ?_
      refine (mayR6_any A Ap n c p.length cp l p _ N.out (HL.out.ext y) hb rfl G3.out v5 v2 (Utf8Tabs_below HT.out y)).mono ?_
      rw [HE2.out]
      rintro e w5 ⟨rfl, y5⟩
      replace y := ext_trans y y5
      clear y5
      by_cases c2' : E2 = 3
      · have e9 : R = 3 := BAD.out (by rw [FB.out, HE2.out, c2']; simp)
        subst c2'
        go_wp2_with (fail)
        go_ret
        exact ⟨ret_int e9.symm, y⟩
      have c2b : (E2 == 3) = false := beq_eq_false_iff_ne.2 c2'
      have GOOD : Hid (badO l ⟨k, nn, r, s, p⟩ = false) := Lib.hid (by rw [FB.out, HF.out, HE1.out, HE2.out]; simp [c1, c2'])
      clear c1 c2'
      go_wp2_with (fail)
      go_roundg (n2 - (m + 1))
      case measure => have := HG.out; omega
      case rel => exact ⟨m + 1, by omega, rfl, by go_num, y, Lib.hid (any_take HM.out HI.out GOOD.out)⟩
    · have NB : Hid (x.any (fun o => badO l o.o) = false) := Lib.hid (by have := HI.out; rwa [List.take_of_length_le (by have := N2.out; omega)] at this)
      have HR2 : Hid ((if takesP x ≤ 536870912 ∧ makesP x ≤ 536870912 then (if x.any (fun o => offO l o.o) = true then 4 else 0) else 3) = R) := Lib.hid (by rw [← HR.out, NB.out]; rfl)
      clear HI HG
      go_wp2_with (go_at_call 28; refine Hid.out ?_)
      refine Lib.hid ?_
      refine (takes15_any B n2 c2 x _ N2.out (HX.out.ext y).1 hb2).mono ?_
      rintro e w3 ⟨rfl, dr, hd⟩
      replace y := ext_trans y (drew_ext hd)
      clear hd
      generalize takesP x = T at HR2 ⊢
      by_cases t1 : 536870912 < T
      · go_wp2_with (fail)
        go_ret
        exact ⟨ret_int (by rw [← HR2.out, if_neg (by omega)]), y⟩
      go_wp2_with (go_at_call 29; refine Hid.out ?_)
      refine Lib.hid ?_
      refine (makes15_any B n2 c2 x _ N2.out (HX.out.ext y).1 hb2).mono ?_
      rintro e w4 ⟨rfl, y4⟩
      replace y := ext_trans y y4
      clear y4
      generalize makesP x = U at HR2 ⊢
      by_cases u1 : 536870912 < U
      · go_wp2_with (fail)
        go_ret
        exact ⟨ret_int (by rw [← HR2.out, if_neg (by omega)]), y⟩
      have HR3 : Hid ((if x.any (fun o => offO l o.o) = true then (4 : Int) else 0) = R) := Lib.hid ((if_pos ⟨by omega, by omega⟩).symm.trans HR2.out)
      clear HR2 hlt hm
      go_wp2_with (fail)
      go_loopg [6] n2 (fun g iv wq => ∃ m : Nat, m ≤ n2 ∧ g = n2 - m ∧ iv = .int .i64 (m : Int) ∧ Below w.heap.size w wq ∧ Hid ((x.take m).any (fun o => offO l o.o) = false))
      case atStart => exact ⟨0, by omega, rfl, rfl, y, Lib.hid (by simp)⟩
      case round =>
        clear y
        obtain ⟨m, hm, hg, rfl, y, HI⟩ := hrel
        have HG := Lib.hid hg
        clear hg
        by_cases hlt : m < n2
        · have hl1 : m < x.length := by have := N2.out; omega
          obtain ⟨ad, o, had0, hd1, hx1, hc0⟩ := (HX.out.ext y).1.elIn hl1
          subst had0
          have HM := Lib.hid hx1
          obtain ⟨g1, g2, g3⟩ := (HX.out.ext y).2 o (List.mem_of_getElem? hx1)
          obtain ⟨v1, v2, v3, v4, v5⟩ := hv o (List.mem_of_getElem? hx1)
          obtain ⟨⟨k, nn, r, s, p⟩, Ar, cr, As, cs, Ap, cp⟩ := o
          simp only at g1 g2 g3 v1 v2 v3 v4 v5
          have HC := Lib.hid hc0
          obtain ⟨r0, r1, r2, r3, r4⟩ := op_cells HC.out.2
          have G1 := Lib.hid g1
          have G2 := Lib.hid g2
          have G3 := Lib.hid g3
          have hw2 : IntKind.i64.wrap ((m:Int) + 1) = (m : Int) + 1 := IntWalk.i64_in _ (by omega)
          clear hc0 hd1 hx1 g1 g2 g3
          have OFF : Hid (offO l ⟨k, nn, r, s, p⟩ = true → R = 4) := Lib.hid (fun hb' => by rw [← HR3.out, if_pos (any_at HM.out hb')])
          have FB : Hid (offO l ⟨k, nn, r, s, p⟩ = (decide (mayS l s ≠ 0) || decide (mayP l p ≠ 0))) := Lib.hid rfl
          obtain ⟨E1, hE1⟩ : ∃ X, mayS l s = X := ⟨_, rfl⟩
          obtain ⟨E2, hE2⟩ : ∃ X, mayP l p = X := ⟨_, rfl⟩
          have HE1 := Lib.hid hE1
          have HE2 := Lib.hid hE2
          clear hE1 hE2
          go_wp2_with (go_at_call 88; refine Hid.out ?_)
          refine Lib.hid ?_
          refine (mayR5_any A As n c s.length cs l s _ N.out (HL.out.ext y) hb rfl G2.out v4 v1 (Utf8Tabs_below HT.out y)).mono ?_
          rw [HE1.out]
          rintro e w4 ⟨rfl, y4⟩
          clear r0 r1 r2 r3 r4
          have HC := Lib.hid (HC.out.ext y4)
          obtain ⟨r0, r1, r2, r3, r4⟩ := op_cells HC.out.2
          have G3 := Lib.hid (G3.out.ext y4)
          replace y := ext_trans y y4
          clear y4
          by_cases c1 : E1 = 0
          rotate_left
          · have e9 : R = 4 := OFF.out (by rw [FB.out, HE1.out]; simp [c1])
            have c1b : (E1 == 0) = false := beq_eq_false_iff_ne.2 c1
            have c1n : (E1 != 0) = true := by rw [bne, c1b]; rfl
            clear c1
            go_wp2_with (fail)
            go_ret
            exact ⟨ret_int e9.symm, y⟩
          subst c1
          go_wp2_with (go_at_call 89; refine Hid.out ?_)
          refine Lib.hid ?_
          refine (mayR6_any A Ap n c p.length cp l p _ N.out (HL.out.ext y) hb rfl G3.out v5 v2 (Utf8Tabs_below HT.out y)).mono ?_
          rw [HE2.out]
          rintro e w5 ⟨rfl, y5⟩
          replace y := ext_trans y y5
          clear y5
          by_cases c2' : E2 = 0
          rotate_left
          · have e9 : R = 4 := OFF.out (by rw [FB.out, HE2.out]; simp [c2'])
            have c2b : (E2 == 0) = false := beq_eq_false_iff_ne.2 c2'
            have c2n : (E2 != 0) = true := by rw [bne, c2b]; rfl
            clear c2'
            go_wp2_with (fail)
            go_ret
            exact ⟨ret_int e9.symm, y⟩
          subst c2'
          have GOOD : Hid (offO l ⟨k, nn, r, s, p⟩ = false) := Lib.hid (by rw [FB.out, HE1.out, HE2.out]; rfl)
          go_wp2_with (fail)
          go_roundg (n2 - (m + 1))
          case measure => have := HG.out; omega
          case rel => exact ⟨m + 1, by omega, rfl, by go_num, y, Lib.hid (any_take HM.out HI.out GOOD.out)⟩
        · have e9 : R = 0 := by
            have := HI.out
            rw [List.take_of_length_le (by have := N2.out; omega)] at this
            rw [← HR3.out, this]; rfl
          go_wp2_with (fail)
          go_ret
          exact ⟨ret_int e9.symm, y⟩
end Go.Proofs.YtbdkbfoplpociaaGreatDoor
namespace Go.Proofs.YtbdkbfoplpociaaGreatDoor
open Go.RowKit
set_option linter.unusedVariables false
set_option linter.unusedSimpArgs false

theorem sum_one {α : Type} (f : α → Nat) : ∀ {l : List α} {a : α}, a ∈ l → f a ≤ (l.map f).sum
  | b :: l, a, h => by
    rw [List.map_cons, List.sum_cons]
    rcases List.mem_cons.1 h with rfl | h
    · omega
    · have := sum_one f h; omega
theorem okVa_of {s : List At} (h : okVr s) (hz : szA s ≤ 100000000) : okVa s := fun c hc => ⟨h c hc, by have := sum_one (fun a : At => a.v.s.size) hc; have h2 : c.v.s.size ≤ (s.map (fun a : At => a.v.s.size)).sum := this; unfold szA at hz; omega⟩
theorem mayKeysD {A B : Option Addr} {n c n2 c2 : Nat} {l : List Ky} {x : List OpS} {w : World} (hn : n = l.length) (h : RdKy w w.heap.size A l) (hb : n ≤ 1048576) (O : OpsAt w B n2 x) (hz : szX x ≤ 5000)
    (hT : Lib.Utf8Tabs 1 2 w) {R : Int} (hR : mayO l x = R) :
    Calls Tryz.prog 22 #[.slice A n c, .slice B n2 c2] w fun e w' => e = .returned (.int .i64 R) ∧ Below w.heap.size w w' := by
  have h1 := may15_any A B n c n2 c2 l x w hn h (by omega) O.len O.rd (by have := O.b; omega) (fun o ho => by
    have h1 := szX_mem ho
    unfold szO at h1
    obtain ⟨a, b, _⟩ := O.ok o ho
    exact ⟨okVa_of a (by omega), b, by omega, by omega, by omega⟩) hT
  rw [hR] at h1
  exact h1
end Go.Proofs.YtbdkbfoplpociaaGreatDoor
namespace Go.Proofs.YtbdkbfoplpociaaGreatDoor
open Go.RowKit
set_option linter.unusedVariables false
set_option linter.unusedSimpArgs false

section
variable {w : World} {A : Option Addr} {n c k : Nat} {x : List OpS}
theorem OpsC.drop (h : OpsC w A n c x) (hk : k ≤ n) : OpsC w (advS A c k 5) (n - k) (c - k) (x.drop k) := by
  have hl := h.at_.len
  have hc := h.cap
  have h2 := h.at_.rd.1.advS (k := k) (c := c) (by omega) (by omega)
  exact ⟨⟨⟨h2, fun z hz => h.at_.rd.2 z (List.mem_of_mem_drop hz)⟩, by rw [List.length_drop]; omega, fun z hz => h.at_.ok z (List.mem_of_mem_drop hz), by have := h.at_.b; omega⟩, by omega, by have := h.cm; omega, fun z hz => h.caps z (List.mem_of_mem_drop hz)⟩
theorem OpsC.take (h : OpsC w A n c x) (hk : k ≤ n) : OpsC w A k c (x.take k) := by
  have hl := h.at_.len
  have hc := h.cap
  exact ⟨⟨⟨h.at_.rd.1.take k, fun z hz => h.at_.rd.2 z (List.mem_of_mem_take hz)⟩, by rw [List.length_take]; omega, fun z hz => h.at_.ok z (List.mem_of_mem_take hz), by have := h.at_.b; omega⟩, by omega, h.cm, fun z hz => h.caps z (List.mem_of_mem_take hz)⟩
theorem cap_zeroR {n : Int} : capO (⟨opR n [], none, 0, none, 0, none, 0⟩ : OpS) := by unfold capO maxLen; simp [opR]
theorem OpsC.first {o : OpS} {t : List OpS} (h : OpsC w A n c (o :: t)) : ∃ ad, A = some ad ∧ ad.block < w.heap.size ∧ CellsAt w ad o.enc := by
  obtain ⟨ad, e, hb, hc⟩ := h.at_.rd.1.at_ (i := 0) (by simp)
  rw [Nat.zero_mul, add_zero'] at hc
  exact ⟨ad, e, hb, hc⟩
/-- an op set ahead of others, in a row of the call's own -/
theorem OpsC.cons {w w' : World} {B : Nat} {A A' : Option Addr} {n c c' k : Nat} {o : OpS} {x : List OpS} (h : OpsC w A n c x) (y : Below w.heap.size w w') (ho : OwOs w' B (.slice A' (o :: x).length c') (o :: x)) (hk : k = n + 1) (hp : RdI32 w' w'.heap.size o.Ar o.o.r ∧ RdAt w' w'.heap.size o.As o.o.s ∧ RdCh w' w'.heap.size o.Ap o.o.p) (hok : okOp o.o) (hc : capO o) (hb : n ≤ 900000) : OpsC w' A' k c' (o :: x) := by
  obtain ⟨c1, c2⟩ := cap_own ho
  have hl := h.at_.len
  have e : (o :: x).length = k := by rw [List.length_cons, hk, hl]
  refine ⟨⟨⟨ho.rd OpS.enc_len, fun z hz => ?_⟩, e.symm, fun z hz => ?_, by omega⟩, by omega, c2, fun z hz => ?_⟩
  · rcases List.mem_cons.1 hz with rfl | hz
    · exact hp
    · exact (h.at_.rd.ext y).2 z hz
  · rcases List.mem_cons.1 hz with rfl | hz
    · exact hok
    · exact h.at_.ok z hz
  · rcases List.mem_cons.1 hz with rfl | hz
    · exact hc
    · exact h.caps z hz
end
end Go.Proofs.YtbdkbfoplpociaaGreatDoor
namespace Go.Proofs.YtbdkbfoplpociaaGreatDoor
open Go.ChangeShapes Go.WideShapes Go.ChangeAt Go.RowKit Go.Deep
set_option linter.unusedVariables false
set_option linter.constructorNameAsVariable false
set_option maxRecDepth 20000

theorem Tryz.own : ownKnob Tryz.prog.godebug = none := by kernel_rfl
theorem Tryz.laidOut : laidOutB Tryz.prog = true := by kernel_rfl
theorem Tryz.undBool : Tryz.prog.underlying 4 = some .bool := by kernel_rfl
theorem Tryz.uI32 : Tryz.prog.underlying 21 = some (.int .i32) := by kernel_rfl
theorem Tryz.clU8 : Tryz.prog.cellsOf 5 = 1 := by kernel_rfl
theorem Tryz.clI32 : Tryz.prog.cellsOf 21 = 1 := by kernel_rfl
theorem Tryz.uTab : Tryz.prog.underlying 284 = some (.array 256 5) := by kernel_rfl
theorem Tryz.clTab : Tryz.prog.cellsOf 284 = 256 := by kernel_rfl
theorem Tryz.uAcc : Tryz.prog.underlying 287 = some (.array 16 286) := by kernel_rfl
theorem Tryz.uAccR : Tryz.prog.underlying 286 = some (.struct (Tryz.prog.fieldsOf 286)) := by kernel_rfl
theorem Tryz.clAccR : Tryz.prog.cellsOf 286 = 2 := by kernel_rfl
theorem Tryz.fdAccR : (Tryz.prog.fieldsOf 286).toList.map (fun f => (f.type, f.offset)) = [(5, 0), (5, 1)] := by kernel_rfl
theorem Tryz.gFirst : Tryz.prog.globalNamed "unicode/utf8.first" = some 1 := by kernel_rfl
theorem Tryz.gAcc : Tryz.prog.globalNamed "unicode/utf8.acceptRanges" = some 2 := by kernel_rfl
theorem Tryz.gtFirst : (Tryz.prog.globals[1]?).map (·.type) = some 284 := by kernel_rfl
theorem Tryz.gtAcc : (Tryz.prog.globals[2]?).map (·.type) = some 287 := by kernel_rfl

/-- the list that the rows bear -/
def laidRows : List (String × DataW Unit) := [("unicode/utf8.acceptRanges", Rows.laid_unicode_utf8_acceptRanges), ("unicode/utf8.first", Rows.laid_unicode_utf8_first)]
set_option maxRecDepth 100000 in
theorem firstEq : Rows.laid_unicode_utf8_first = Lib.firstData := by kernel_rfl
theorem accEq : (Rows.laid_unicode_utf8_acceptRanges : DataW Unit) = Lib.acceptData := by kernel_rfl
theorem field2 {fs : Array Field} {l : List (TypeId × Nat)} (h : fs.toList.map (fun f => (f.type, f.offset)) = l) {i : Nat} {f : Field} (hf : fs[i]? = some f) : l[i]? = some (f.type, f.offset) := by
  rw [← h, List.getElem?_map, Array.getElem?_toList, hf]
  rfl
theorem tabs {W : World} (h : laidMetH Tryz.prog laidRows W) : Lib.Utf8Tabs 1 2 W := by
  have h' : laidMet Tryz.prog laidRows W := by
    unfold laidMetH at h
    rw [show (laidRows.filter fun x => x.2.handleName?.isSome) = [] from by kernel_rfl] at h
    exact h
  have r1 := Lib.laidMet.reads h' (n := "unicode/utf8.first") (d := Rows.laid_unicode_utf8_first) (by simp [laidRows])
  have r2 := Lib.laidMet.reads h' (n := "unicode/utf8.acceptRanges") (d := Rows.laid_unicode_utf8_acceptRanges) (by simp [laidRows])
  rw [firstEq] at r1
  rw [accEq] at r2
  refine ⟨fun c hc => ?_, fun i hi => ?_⟩
  · obtain ⟨g, t, cs, fuel, p, hg, hty, hvar, hd⟩ := r1
    obtain rfl := Option.some.inj (Tryz.gFirst.symm.trans hg)
    obtain rfl := Option.some.inj (Tryz.gtFirst.symm.trans hty)
    have hcs := Lib.cells_of_tab Tryz.uTab Tryz.uU8 Tryz.clU8 Tryz.clTab hd
    rw [World.var?_cell hg hvar c, ← Array.getElem?_toList, hcs]
    simp [Lib.firstTab, hc]
  · obtain ⟨g, t, cs, fuel, p, hg, hty, hvar, hd⟩ := r2
    obtain rfl := Option.some.inj (Tryz.gAcc.symm.trans hg)
    obtain rfl := Option.some.inj (Tryz.gtAcc.symm.trans hty)
    obtain ⟨fuel', d, q, hdi, he⟩ := Lib.array_elem Tryz.uAcc hd i hi
    simp only [List.getElem?_map, List.getElem?_range hi, Option.map_some, Option.some.injEq] at hdi
    subst hdi
    rw [Tryz.clAccR] at he
    have hcs := Lib.ints_of_struct Tryz.uAccR (fun j f hj => by
      have h2 := field2 Tryz.fdAccR hj
      match j, h2 with
      | 0, h2 => injection h2 with h2; injection h2 with h2 h3; rw [← h2, ← h3]; exact ⟨Tryz.uU8, rfl, Tryz.clU8⟩
      | 1, h2 => injection h2 with h2; injection h2 with h2 h3; rw [← h2, ← h3]; exact ⟨Tryz.uU8, rfl, Tryz.clU8⟩
      | j + 2, h2 => simp at h2) (by rw [Tryz.clAccR]; kernel_rfl) he
    have e0 := congrArg (·[0]?) hcs
    have e1 := congrArg (·[1]?) hcs
    simp only [List.getElem?_take, List.getElem?_drop] at e0 e1
    constructor
    · rw [World.var?_cell hg hvar (2 * i), ← Array.getElem?_toList]
      simpa [Nat.mul_comm] using e0
    · rw [World.var?_cell hg hvar (2 * i + 1), ← Array.getElem?_toList]
      simpa [Nat.mul_comm] using e1

def relay (cs : Array Value) : Obj → Obj
  | .cells _ t frozen => .cells cs t frozen
  | o => o
/-- A world for the witness: the settled one, both tables as their initialisers lay them. -/
noncomputable def laidWorld (os : Os) : World :=
  { World.holding Tryz.prog os ⟨#[], #[], []⟩ with heap := ((World.holding Tryz.prog os ⟨#[], #[], []⟩).heap.modify 1 (relay (Lib.firstTab.map (Value.int .u8)).toArray)).modify 2 (relay ((List.range 16).flatMap fun i => [Value.int .u8 (Lib.accLo i), Value.int .u8 (Lib.accHi i)]).toArray) }

section
variable {H : Type} {enc : TypeId × Value → H} {P : Program} {W W' : World}
theorem trodAll_later (hl : laidOutB P = true) (hb : Below W.heap.size W W') : ∀ (ts : List TypeId) (vs : List Value) (ds : List (DataW H)) (ps : List MemPlace), (∀ t ∈ ts, P.readableRec t = true ∧ t < P.types.size) →
    DataW.TrodAll enc P W 0 (fun _ => true) true ts vs ds ps → (∀ x ∈ ps, x.block < W.heap.size) → DataW.TrodAll enc P W' 0 (fun b => decide (b < W.heap.size)) true ts vs ds ps
  | [], vs, ds, ps, _, h, _ => by
    obtain ⟨rfl, rfl, rfl⟩ := trodAll_nil h
    exact trodAll_mk0
  | t :: ts, vs, ds, ps, ht, h, hp => by
    obtain ⟨v, vs', d, ds', p, q, rfl, rfl, rfl, h0, r⟩ := trodAll_cons h
    have h1 := ht t (by simp)
    exact trodAll_cons_mk (Below.trod hl h1.1 h1.2 h0 hb (fun x hx => hp x (List.mem_append_left _ hx)))
      (trodAll_later hl hb ts vs' ds' q (fun u hu => ht u (List.mem_cons_of_mem _ hu)) r (fun x hx => hp x (List.mem_append_right _ hx)))

theorem post_law {f : Func} {s : ChangeSpec} {args : Array Value} {ds gs : List (DataW H)} {before : List MemPlace} {tb : TypeId}
    (hW : DataW.Whole enc P f.params.toList s.vars false W args.toList ds gs before) (hv : s.vars = []) (hr : f.resultTypes = #[tb]) (hu : P.underlying tb = some .bool)
    (hspec : s.fn H ds = { results := [.lit (.bool true)], args := ds }) (hl : laidOutB P = true) (hrr : f.params.toList.all (fun t => P.readableRec t && decide (t < P.types.size)) = true) (hb : Below W.heap.size W W') :
    s.post enc P f false true false false W args (.bool true) W' := by
  have hW0 := hW
  obtain ⟨p, q, hA, hV, rfl, _, _⟩ := hW
  rw [hv] at hV
  obtain ⟨rfl, rfl⟩ := trodVars_none hV
  have hlt : ∀ x ∈ p ++ [], x.block < W.heap.size := fun x hx => hW0.lt x hx
  rw [List.append_nil] at hlt
  refine ⟨ds, [], p ++ [], [], p, [], hW0, ?_, ?_, ?_, World.keptBut_mono (fun x hx => ⟨by simpa using hx, by simpa using hx⟩) (hb.frame (· ∈ p)), fun h => by cases h⟩
  · rw [hr, List.append_nil, hspec]
    exact trodAll_mk1 (shut_bool hu true)
  · rw [List.append_nil, hspec]
    exact trodAll_later hl hb _ _ _ _ (fun t ht => by have := List.all_eq_true.1 hrr t ht; simpa using this) hA hlt
  · rw [hv, List.append_nil, hspec]
    rfl
end

/-- a slice as a list, whatever the reader of one element -/
theorem open_list {α : Type} {enc' : α → List Value} {size : Nat} {H : Type} {enc : TypeId × Value → H} {W : World} {base : Nat} {spare : Nat → Bool} {held : Bool} {t e : TypeId} {v : Value} {d : DataW H} {ps : List MemPlace} {r : Reach} {b0 : Nat}
    (ht : Tryz.prog.underlying t = some (.slice e)) (hC : Tryz.prog.cellsOf e = size) (hz : ∀ a, (enc' a).length = size) (hpos : 0 < size)
    (hread : ∀ {fuel : Nat} {cs : List Value} {x : DataW H × List MemPlace}, DataW.trod enc Tryz.prog W base spare held fuel e cs = some x → ∃ a : α, cs = enc' a)
    (hv : Value.okWide Tryz.prog W r b0 t v) (h : DataW.Trod enc Tryz.prog W base spare held t v d ps) :
    ∃ (A : Option Addr) (n c : Nat) (l : List α), v = .slice A n c ∧ n = l.length ∧ n ≤ c ∧ c ≤ maxLen ∧ Rd enc' size W W.heap.size A l ∧ ((d = .nil ∧ n = 0) ∨ ∃ es sp, d = .slice es sp ∧ es.length = n) := by
  obtain ⟨a0, len, cap, rfl⟩ := okWide_slice ht hv
  obtain ⟨fuel, hf⟩ := h
  rcases open_slice ht hf with ⟨hcs, hx⟩ | ⟨a, len', cap', m, k, D, Pl, hcs, _, hl, hm, hmm, hx, hi⟩
  · simp [Value.cells] at hcs
    obtain ⟨rfl, rfl, rfl⟩ := hcs
    refine ⟨none, 0, 0, [], rfl, rfl, Nat.le_refl _, Nat.zero_le _, Rd.nil, .inl ⟨?_, rfl⟩⟩
    have := congrArg Prod.fst hx
    simpa using this
  · simp [Value.cells] at hcs
    obtain ⟨rfl, rfl, rfl⟩ := hcs
    have hlm : len ≤ m := by rw [hmm]; split <;> omega
    have hall : ∀ i, i < len → ∃ y : α, CellsAt W (a.add (i * size)) (enc' y) := by
      intro i hil
      obtain ⟨cs', hc, htr⟩ := hi i (by omega)
      obtain ⟨y, rfl⟩ := hread htr
      refine ⟨y, fun j u hu => ?_⟩
      rw [hC] at hc
      obtain ⟨_, hcl, hat⟩ := World.cells?_some hc
      have hj : j < size := by rw [← hz y]; exact (List.getElem?_eq_some_iff.1 hu).1
      rw [hat j hj]; exact hu
    have hl : ∀ k, k ≤ len → ∃ l : List α, l.length = k ∧ ∀ i (h : i < l.length), CellsAt W (a.add (i * size)) (enc' l[i]) := by
      intro k
      induction k with
      | zero => intro _; exact ⟨[], rfl, fun i h => by simp at h⟩
      | succ k ih =>
        intro hk
        obtain ⟨l, hll, hlc⟩ := ih (by omega)
        obtain ⟨y, hy⟩ := hall k (by omega)
        refine ⟨l ++ [y], by simp [hll], fun i h => ?_⟩
        rw [List.getElem_append]
        split
        · exact hlc i _
        · have hik : i = k := by simp at h; omega
          subst hik
          simpa [hll] using hy
    obtain ⟨l, hll, hlc⟩ := hl len (Nat.le_refl _)
    refine ⟨some a, len, cap, l, rfl, hll.symm, by assumption, by assumption, fun hpl => ⟨a, rfl, ?_, hlc⟩, .inr ⟨_, _, congrArg Prod.fst hx, by simp⟩⟩
    have hc0 := hlc 0 hpl
    have hlen0 : 0 < (enc' l[0]).length := by rw [hz]; exact hpos
    have hcell := hc0 0 _ (List.getElem?_eq_getElem hlen0)
    rw [add_zero', Nat.zero_mul, add_zero'] at hcell
    unfold World.cell? at hcell
    cases hb : W.heap[a.block]? with
    | none => rw [hb] at hcell; simp at hcell
    | some o => exact blk_lt hb

section
variable {H : Type} {enc : TypeId × Value → H} {w : World} {base : Nat} {spare : Nat → Bool} {held : Bool} {fuel : Nat} {cs : List Value} {x : DataW H × List MemPlace}
theorem read_i32 (h : DataW.trod enc Tryz.prog w base spare held fuel 21 cs = some x) : ∃ u : Int, cs = encI32 u := by
  obtain ⟨z, hz, _, hw⟩ := DataW.trod_int Tryz.uI32 h
  exact ⟨z, hz⟩
end
end Go.Proofs.YtbdkbfoplpociaaGreatDoor
