/- Merged texts: OpLaw, OpUnits, CellsMay, StayLaw, ApplyLaw, OpTypes, SliceCl. -/
import Derived.Test.YtfnkjcodcoehcaaGreatDoorS15
import Derived.Test.YtfnkjcodcoehcaaGreatDoorS13
import Derived.Test.YtfnkjcodcoehcaaGreatDoorS14
import Derived.Test.YtfnkjcodcoehcaaGreatDoorS10
import Derived.Test.YtfnkjcodcoehcaaGreatDoorS12
import Derived.Test.YtfnkjcodcoehcaaGreatDoorS11
import Derived.Lib.Overlaps
import Derived.IntWalk
import Derived.Test.YtfnkjcodcoehcaaGreatDoorS7
namespace Go.Proofs.YtfnkjcodcoehcaaGreatDoor
open Go.RowKit
set_option linter.unusedVariables false
set_option linter.unusedSimpArgs false

def goodO (l : List Ky) (x : List OpS) : Prop := ∀ o ∈ x, oneP l o.o = 0
theorem goodO.tail {l : List Ky} {o : OpS} {x : List OpS} (h : goodO l (o :: x)) : goodO l x := fun z hz => h z (List.mem_cons_of_mem _ hz)
theorem fold_one {l : List Ky} : ∀ (x : List OpS) (a : Int), (x.foldl (mayStep l) (false, a)).1 = false → (x.foldl (mayStep l) (false, a)).2 = 0 → a = 0 ∧ goodO l x
  | [], a, _, h => ⟨h, fun z hz => by cases hz⟩
  | o :: x, a, h1, h2 => by
    rw [List.foldl_cons] at h1 h2
    unfold mayStep at h1 h2
    simp only [Bool.false_eq_true, if_false] at h1 h2
    by_cases h3 : oneP l o.o = 3
    · rw [if_pos h3] at h1
      have := mayStep_true l 3 x
      unfold mayStep at this
      rw [this] at h1; cases h1
    · rw [if_neg h3] at h1 h2
      obtain ⟨h4, h5⟩ := fold_one x _ h1 h2
      by_cases h0 : oneP l o.o = 0
      · rw [if_pos h0] at h4
        refine ⟨h4, fun z hz => ?_⟩
        rcases List.mem_cons.1 hz with rfl | hz
        · exact h0
        · exact h5 z hz
      · rw [if_neg h0] at h4; exact absurd h4 h0
theorem mayO_zero {l : List Ky} {x : List OpS} (h : mayO l x = 0) : goodO l x ∧ takesP x ≤ 536870912 ∧ makesP x ≤ 536870912 := by
  unfold mayO at h
  cases h1 : (x.foldl (mayStep l) (false, 0)).1 with
  | true => rw [h1] at h; simp at h
  | false =>
    rw [h1] at h
    simp only [Bool.false_eq_true, if_false] at h
    by_cases h2 : takesP x ≤ 536870912 ∧ makesP x ≤ 536870912
    · rw [if_pos h2] at h; exact ⟨(fold_one x 0 h1 h).2, h2⟩
    · rw [if_neg h2] at h; cases h
def tkI (o : Opd) : Int := if o.k = 2 then 0 else o.n
def mkI (o : Opd) : Int := if o.k = 3 then 0 else sizeO o
def sumT : List OpS → Int
  | [] => 0
  | o :: x => tkI o.o + sumT x
def sumM : List OpS → Int
  | [] => 0
  | o :: x => mkI o.o + sumM x
theorem one_facts {l : List Ky} {o : Opd} (h : oneP l o = 0) : formO o = true ∧ 1 ≤ sizeO o ∧ sizeO o ≤ 536870912 ∧ mayS l o.s = 0 ∧ mayP l o.p = 0 := by
  unfold oneP at h
  by_cases h1 : formO o = true ∧ 1 ≤ sizeO o ∧ sizeO o ≤ 536870912
  · rw [if_pos h1] at h
    by_cases h2 : mayS l o.s = 0
    · rw [if_pos h2] at h; exact ⟨h1.1, h1.2.1, h1.2.2, h2, h⟩
    · rw [if_neg h2] at h; exact absurd h h2
  · rw [if_neg h1] at h; cases h
theorem form_kinds {o : Opd} (h : formO o = true) : o.k = 1 ∨ o.k = 2 ∨ o.k = 3 := by
  unfold formO at h
  by_cases h1 : o.k = 1
  · exact .inl h1
  rw [if_neg h1] at h
  by_cases h3 : o.k = 3
  · exact .inr (.inr h3)
  rw [if_neg h3] at h
  by_cases h2 : o.k = 2
  · exact .inr (.inl h2)
  rw [if_neg h2] at h; cases h
theorem one_ks {l : List Ky} {o : Opd} (h : oneP l o = 0) : (o.k = 2 ∧ tkI o = 0 ∧ 1 ≤ mkI o ∧ mkI o ≤ 536870912) ∨ (o.k = 3 ∧ tkI o = o.n ∧ 1 ≤ o.n ∧ o.n ≤ 536870912 ∧ mkI o = 0) ∨ (o.k = 1 ∧ tkI o = o.n ∧ 1 ≤ o.n ∧ o.n ≤ 536870912 ∧ mkI o = o.n) := by
  obtain ⟨f, h1, h2, _, _⟩ := one_facts h
  unfold tkI mkI
  unfold sizeO at *
  rcases form_kinds f with hk | hk | hk <;> rw [hk] at h1 h2 ⊢ <;> simp at h1 h2 ⊢ <;> omega
theorem fold_t {l : List Ky} : ∀ (x : List OpS) (a : Int), goodO l x → 0 ≤ a → a + 536870912 * (x.length : Int) ≤ 4611686018427387904 → x.foldl takeStep a = a + sumT x
  | [], a, _, _, _ => by simp [sumT]
  | o :: x, a, h, h0, hb => by
    have hk := one_ks (h o (by simp))
    simp only [List.length_cons] at hb
    push_cast at hb
    have e : takeStep a o = a + tkI o.o := by
      unfold takeStep
      by_cases h2 : o.o.k = 2
      · rw [if_pos h2]; unfold tkI; rw [if_pos h2]; omega
      · rw [if_neg h2]; unfold tkI; rw [if_neg h2]; exact IntWalk.i64_in _ (by omega)
    rw [List.foldl_cons, e, fold_t x _ h.tail (by omega) (by omega)]
    simp only [sumT]; omega
theorem fold_m {l : List Ky} : ∀ (x : List OpS) (a : Int), goodO l x → 0 ≤ a → a + 536870912 * (x.length : Int) ≤ 4611686018427387904 → x.foldl makeStep a = a + sumM x
  | [], a, _, _, _ => by simp [sumM]
  | o :: x, a, h, h0, hb => by
    have hk := one_ks (h o (by simp))
    have hs := (one_facts (h o (by simp))).2
    simp only [List.length_cons] at hb
    push_cast at hb
    have e : makeStep a o = a + mkI o.o := by
      unfold makeStep
      by_cases h2 : o.o.k = 3
      · rw [if_pos h2]; unfold mkI; rw [if_pos h2]; omega
      · rw [if_neg h2]; unfold mkI; rw [if_neg h2]; exact IntWalk.i64_in _ (by omega)
    rw [List.foldl_cons, e, fold_m x _ h.tail (by omega) (by omega)]
    simp only [sumM]; omega
theorem takes_sum {l : List Ky} {x : List OpS} (h : goodO l x) (hb : x.length ≤ 1048576) : takesP x = sumT x := by
  unfold takesP; rw [fold_t x 0 h (by omega) (by omega)]; omega
theorem makes_sum {l : List Ky} {x : List OpS} (h : goodO l x) (hb : x.length ≤ 1048576) : makesP x = sumM x := by
  unfold makesP; rw [fold_m x 0 h (by omega) (by omega)]; omega

end Go.Proofs.YtfnkjcodcoehcaaGreatDoor
namespace Go.Proofs.YtfnkjcodcoehcaaGreatDoor
set_option linter.unusedVariables false
set_option linter.unusedSimpArgs false

/-- may a cell be, and has it its kind of attributes? -/
def okCl (l : List Ky) (c : Cl) : Prop := mayR c.r = true ∧ mayS l c.s = 0 ∧ partS l (!(c.r == 10)) c.s = []
/-- may a unit be, and is it in its place? -/
def vU (l : List Ky) : Un → Prop
  | .ins r s => okCl l ⟨r, s⟩
  | .del => True
  | .ret p => mayP l p = 0
/-- without the place -/
def mU (l : List Ky) : Un → Prop
  | .ins r s => mayR r = true ∧ mayS l s = 0
  | .del => True
  | .ret p => mayP l p = 0
/-- does the last of n cells stay the last one, from cell a on? -/
def finU (n : Nat) : Nat → List Un → Bool
  | _, [] => true
  | a, .ins _ _ :: us => decide (a ≠ n) && finU n a us
  | a, .del :: us => decide (a + 1 ≠ n) && finU n (a + 1) us
  | a, .ret _ :: us => finU n (a + 1) us
theorem isOp_of {l : List Ky} {o : Opd} (h : oneP l o = 0) : isOp o := by
  obtain ⟨h1, h2, h3, h4, h5⟩ := one_facts h
  obtain ⟨k, n, r, s, p⟩ := o
  unfold formO at h1
  unfold sizeO at h2
  simp only at h1 h2
  by_cases k1 : k = 1
  · subst k1
    rw [if_pos rfl] at h1
    have := of_decide_eq_true h1
    rw [if_neg (by decide)] at h2
    exact .inr (.inr ⟨rfl, h2, List.eq_nil_of_length_eq_zero this.1, List.eq_nil_of_length_eq_zero this.2⟩)
  · rw [if_neg k1] at h1
    by_cases k3 : k = 3
    · subst k3
      rw [if_pos rfl] at h1
      have := of_decide_eq_true h1
      rw [if_neg (by decide)] at h2
      exact .inr (.inl ⟨rfl, h2, List.eq_nil_of_length_eq_zero this.1.1, List.eq_nil_of_length_eq_zero this.1.2, List.eq_nil_of_length_eq_zero this.2⟩)
    · rw [if_neg k3] at h1
      by_cases k2 : k = 2
      · subst k2
        rw [if_pos rfl] at h1 h2
        have := of_decide_eq_true (Bool.and_eq_true_iff.1 h1).1
        exact .inl ⟨rfl, this.1, by intro e; simp only at e; subst e; simp at h2, List.eq_nil_of_length_eq_zero this.2⟩
      · rw [if_neg k2] at h1; cases h1
theorem runes_of {l : List Ky} {o : Opd} (h : oneP l o = 0) (hk : o.k = 2) : ∀ r ∈ o.r, mayR r = true := by
  obtain ⟨h1, _⟩ := one_facts h
  unfold formO at h1
  rw [if_neg (by rw [hk]; decide), if_neg (by rw [hk]; decide), if_pos hk] at h1
  have := (Bool.and_eq_true_iff.1 h1).2
  intro r hr
  rw [Bool.not_eq_true', List.any_eq_false] at this
  simpa using this r hr
/-- an op that may be, of its units -/
theorem one_iff {l : List Ky} {o : Opd} : oneP l o = 0 ↔ isOp o ∧ sizeO o ≤ 536870912 ∧ ∀ u ∈ unitsO o, mU l u := by
  constructor
  · intro h
    obtain ⟨h1, h2, h3, h4, h5⟩ := one_facts h
    refine ⟨isOp_of h, h3, fun u hu => ?_⟩
    rcases isOp_kind (isOp_of h) with hk | hk | hk
    · unfold unitsO at hu
      rw [if_pos hk] at hu
      obtain ⟨r, hr, rfl⟩ := List.mem_map.1 hu
      exact ⟨runes_of h hk r hr, h4⟩
    · unfold unitsO at hu
      rw [if_neg (by rw [hk]; decide), if_neg (by rw [hk]; decide)] at hu
      rw [(List.mem_replicate.1 hu).2]; trivial
    · unfold unitsO at hu
      rw [if_neg (by rw [hk]; decide), if_pos hk] at hu
      rw [(List.mem_replicate.1 hu).2]; exact h5
  · rintro ⟨h1, h2, h3⟩
    have m0 : mayS l [] = 0 := by simp [mayS, riseA, rise]
    have p0 : mayP l [] = 0 := by simp [mayP, riseC, rise]
    rcases isOp_kind h1 with hk | hk | hk
    · obtain ⟨e, hr⟩ := opI_of h1 hk
      obtain ⟨k, n, r, s, p⟩ := o
      rw [e] at h2 h3 ⊢
      simp only at hr
      have hu : ∀ x ∈ r, mayR x = true ∧ mayS l s = 0 := fun x hx => h3 (.ins x s) (by rw [unitsO_I]; exact List.mem_map.2 ⟨x, hx, rfl⟩)
      obtain ⟨x, hx⟩ := List.exists_mem_of_ne_nil r hr
      have hform : formO (opI r s) = true := by
        have hany : r.any (fun r => !mayR r) = false := List.any_eq_false.2 (fun y hy => by simp [(hu y hy).1])
        show (if (2 : Int) = 1 then _ else if (2 : Int) = 3 then _ else if (2 : Int) = 2 then (decide ((0 : Int) = 0 ∧ ([] : List Ch).length = 0) && !r.any (fun r => !mayR r)) else false) = true
        rw [if_neg (by decide), if_neg (by decide), if_pos rfl, hany]
        rfl
      have hsz : 1 ≤ sizeO (opI r s) := by
        show 1 ≤ (if (2 : Int) = 2 then (r.length : Int) else 0)
        rw [if_pos rfl]
        have : r.length ≠ 0 := fun h0 => hr (List.eq_nil_of_length_eq_zero h0)
        omega
      unfold oneP
      rw [if_pos ⟨hform, hsz, h2⟩, if_pos (show mayS l (opI r s).s = 0 from (hu x hx).2)]
      exact p0
    · obtain ⟨e, hn⟩ := opD_of h1 hk
      obtain ⟨k, n, r, s, p⟩ := o
      simp only at hn
      rw [e] at h2 ⊢
      unfold oneP
      rw [if_pos ⟨by simp [formO, opD], by unfold sizeO opD; simp only; rw [if_neg (by decide)]; exact hn, h2⟩, if_pos (show mayS l (opD n).s = 0 from m0)]
      exact p0
    · obtain ⟨e, hn⟩ := opR_of h1 hk
      obtain ⟨k, n, r, s, p⟩ := o
      simp only at hn
      rw [e] at h2 h3 ⊢
      have hp : mayP l p = 0 := h3 (.ret p) (by
        rw [unitsO_R]
        simp only at hn ⊢
        exact List.mem_replicate.2 ⟨by omega, rfl⟩)
      unfold oneP
      rw [if_pos ⟨by simp [formO, opR], by unfold sizeO opR; simp only; rw [if_neg (by decide)]; exact hn, h2⟩, if_pos (show mayS l (opR n p).s = 0 from m0)]
      exact hp
theorem takes_one {o : Opd} (h : isOp o) : (takesU (unitsO o) : Int) = tkI o ∧ (makesU (unitsO o) : Int) = mkI o := by
  have hi : ∀ (r : List Int) (s : List At), takesU (r.map (fun r => Un.ins r s)) = 0 ∧ makesU (r.map (fun r => Un.ins r s)) = r.length := by
    intro r s
    induction r with
    | nil => exact ⟨rfl, rfl⟩
    | cons a r ih => exact ⟨ih.1, by show makesU _ + 1 = _; rw [ih.2]; rfl⟩
  have hr : ∀ (k : Nat) (p : List Ch), takesU (List.replicate k (.ret p)) = k ∧ makesU (List.replicate k (.ret p)) = k := by
    intro k p
    induction k with
    | zero => exact ⟨rfl, rfl⟩
    | succ k ih => rw [List.replicate_succ]; exact ⟨by rw [takesU_r, ih.1], by rw [makesU_r, ih.2]⟩
  rcases isOp_kind h with hk | hk | hk
  · obtain ⟨e, hr⟩ := opI_of h hk
    rw [e, unitsO_I]
    exact ⟨by rw [(hi _ _).1]; rfl, by rw [(hi _ _).2]; rfl⟩
  · obtain ⟨e, hn⟩ := opD_of h hk
    rw [e, unitsO_D, takesU_del, makesU_del]
    exact ⟨by show ((o.n.toNat : Nat) : Int) = o.n; omega, rfl⟩
  · obtain ⟨e, hn⟩ := opR_of h hk
    rw [e, unitsO_R, (hr _ _).1, (hr _ _).2]
    exact ⟨by show ((o.n.toNat : Nat) : Int) = o.n; omega, by show ((o.n.toNat : Nat) : Int) = o.n; omega⟩
theorem sums_units : ∀ (x : List OpS), (∀ o ∈ x, isOp o.o) → (takesU (units (osOf x)) : Int) = sumT x ∧ (makesU (units (osOf x)) : Int) = sumM x
  | [], _ => ⟨rfl, rfl⟩
  | o :: x, h => by
    obtain ⟨h1, h2⟩ := sums_units x (fun z hz => h z (List.mem_cons_of_mem _ hz))
    obtain ⟨g1, g2⟩ := takes_one (h o (by simp))
    show ((takesU (units (o.o :: osOf x)) : Nat) : Int) = tkI o.o + sumT x ∧ ((makesU (units (o.o :: osOf x)) : Nat) : Int) = mkI o.o + sumM x
    rw [units_cons, takesU_append, makesU_append]
    omega
theorem good_isOp {l : List Ky} {x : List OpS} (h : goodO l x) : ∀ o ∈ x, isOp o.o := fun o ho => isOp_of (h o ho)
theorem units_mem {x : List OpS} {u : Un} : u ∈ units (osOf x) ↔ ∃ o ∈ x, u ∈ unitsO o.o := by
  unfold units osOf
  rw [List.mem_flatMap]
  constructor
  · rintro ⟨a, ha, hu⟩; obtain ⟨o, ho, rfl⟩ := List.mem_map.1 ha; exact ⟨o, ho, hu⟩
  · rintro ⟨o, ho, hu⟩; exact ⟨o.o, List.mem_map.2 ⟨o, ho, rfl⟩, hu⟩
theorem good_mU {l : List Ky} {x : List OpS} (h : goodO l x) : ∀ u ∈ units (osOf x), mU l u := fun u hu => by
  obtain ⟨o, ho, hu⟩ := units_mem.1 hu
  exact (one_iff.1 (h o ho)).2.2 u hu
/-- fits, told by units -/
structure FitU (l : List Ky) (us : List Un) (n most : Nat) : Prop where
  v : ∀ u ∈ us, vU l u
  t : takesU us ≤ n
  n1 : 1 ≤ n
  nm : n ≤ most
  f : finU n 0 us = true
  m : n + makesU us ≤ most + takesU us
  tb : takesU us ≤ 536870912
  mb : makesU us ≤ 536870912
theorem op_le {x : List OpS} (h : ∀ o ∈ x, isOp o.o) {o : OpS} (ho : o ∈ x) (ht : takesU (units (osOf x)) ≤ 536870912) (hm : makesU (units (osOf x)) ≤ 536870912) : sizeO o.o ≤ 536870912 := by
  induction x with
  | nil => cases ho
  | cons a x ih =>
    have e : units (osOf (a :: x)) = unitsO a.o ++ units (osOf x) := rfl
    rw [e, takesU_append] at ht
    rw [e, makesU_append] at hm
    rcases List.mem_cons.1 ho with rfl | hmem
    · have hop := h o (by simp)
      obtain ⟨t1, t2⟩ := takes_one hop
      unfold tkI at t1
      unfold mkI at t2
      rcases isOp_kind hop with hk | hk | hk
      · rw [if_neg (by rw [hk]; decide)] at t2; omega
      · rw [if_neg (by rw [hk]; decide)] at t1
        have : sizeO o.o = o.o.n := by unfold sizeO; rw [if_neg (by rw [hk]; decide)]
        omega
      · rw [if_neg (by rw [hk]; decide)] at t1
        have : sizeO o.o = o.o.n := by unfold sizeO; rw [if_neg (by rw [hk]; decide)]
        omega
    · exact ih (fun z hz => h z (List.mem_cons_of_mem _ hz)) hmem (by omega) (by omega)
/-- ops whose units may be -/
theorem units_good {l : List Ky} {x : List OpS} (h : ∀ o ∈ x, isOp o.o) (hu : ∀ u ∈ units (osOf x), mU l u) (ht : takesU (units (osOf x)) ≤ 536870912) (hm : makesU (units (osOf x)) ≤ 536870912) : goodO l x := fun o ho =>
  one_iff.2 ⟨h o ho, op_le h ho ht hm, fun u hu2 => hu u (units_mem.2 ⟨o, ho, hu2⟩)⟩
end Go.Proofs.YtfnkjcodcoehcaaGreatDoor
namespace Go.Proofs.YtfnkjcodcoehcaaGreatDoor
open Go.RowKit
set_option linter.unusedVariables false
set_option linter.unusedSimpArgs false

def badR (l : List Ky) (c : Cl) : Bool := !mayR c.r || decide (mayS l c.s = 3)
def badK (l : List Ky) (c : Cl) : Bool := !decide (mayS l c.s = 0)
def badP (l : List Ky) (c : Cl) : Bool := decide (0 < (partS l (!(c.r == 10)) c.s).length)
/-- may cells be a document? -/
def mayD (l : List Ky) (d : List Cl) : Int :=
  if d.length < 1 ∨ 536870912 < d.length then 3 else if d.any (badR l) = true then 3 else if d.any (badK l) = true then 4
  else if (d.getLast?.map (fun c => decide (c.r = 10))) ≠ some true then 6 else if d.any (badP l) = true then 7 else 0
def clsOf (x : List ClS) : List Cl := x.map (·.c)
/-- a cell that a closure of May is asked of -/
structure ClIn (w : World) (b1 s : Nat) (l : List Ky) (x : ClS) : Prop where
  hS : Sch w s l
  h1 : w.heap[b1]? = some (.cells #[.pointer (some ⟨s, 0, none⟩)] 26 (0, 0))
  rp : RdAt w w.heap.size x.As x.c.s
  hb : x.c.s.length ≤ 100000000
  hv : okVr x.c.s
  hT : Lib.Utf8Tabs 1 2 w
theorem ClIn.ext {w w' : World} {b1 s : Nat} {l : List Ky} {x : ClS} (h : ClIn w b1 s l x) (y : Below w.heap.size w w') : ClIn w' b1 s l x :=
  ⟨h.hS.ext y, (y.block b1 (lt_of_some h.h1)).trans h.h1, h.rp.ext y, h.hb, h.hv, Utf8Tabs_below h.hT y⟩

end Go.Proofs.YtfnkjcodcoehcaaGreatDoor
namespace Go.Proofs.YtfnkjcodcoehcaaGreatDoor
set_option linter.unusedVariables false
set_option linter.unusedSimpArgs false

theorem keys_lenC {l : List Ky} {p : List Ch} (hp : riseC p = true) (h : ∀ c ∈ p, thereC l c = true) : p.length ≤ l.length := by
  have h1 := riseC_srt.1 hp
  have h2 : (p.map (·.key)).Pairwise (· < ·) := List.pairwise_map.2 h1
  have h3 := keys_len (l := l) h2 (fun k hk => by
    obtain ⟨c, hc, rfl⟩ := List.mem_map.1 hk
    have := h c hc
    unfold thereC at this
    exact (Bool.and_eq_true_iff.1 this).1)
  simpa using h3
/-- a patch whose keys rise, whose changes each may be -/
theorem stayC {l : List Ky} (hl : l.length ≤ 64) {p : List Ch} (hs : Srt Ch.key p) (h : ∀ c ∈ p, okC c = true ∧ thereC l c = true) : mayP l p = 0 :=
  mayP_of (by have := keys_lenC (l := l) (riseC_srt.2 hs) (fun c hc => (h c hc).2); omega) (riseC_srt.2 hs) (fun c hc => (h c hc).1) (fun c hc => (h c hc).2)
section
variable {l : List Ky} {a b : List At} {p q : List Ch}
theorem mem_comp (p1 : riseC p = true) (q1 : riseC q = true) {c : Ch} (hc : c ∈ composeP p q) : c ∈ p ∨ c ∈ q := by
  obtain ⟨d1, d2, _⟩ := compose_all (riseC_srt.1 q1) (riseC_srt.1 p1)
  have h1 := lk_of_mem Ch.key d1 hc
  rw [d2] at h1
  cases hy : lk Ch.key q c.key with
  | some y =>
    rw [hy] at h1
    have hm := lk_mem Ch.key hy
    simp at h1
    rw [← h1]
    exact .inr hm
  | none =>
    rw [hy] at h1
    have h1 : lk Ch.key p c.key = some c := by simpa using h1
    exact .inl (lk_mem Ch.key h1)
theorem stay_comp (hl : l.length ≤ 64) (hp : mayP l p = 0) (hq : mayP l q = 0) : mayP l (composeP p q) = 0 := by
  obtain ⟨_, p1, p2, p3⟩ := mayP_zero hp
  obtain ⟨_, q1, q2, q3⟩ := mayP_zero hq
  obtain ⟨d1, _⟩ := compose_all (riseC_srt.1 q1) (riseC_srt.1 p1)
  refine stayC hl d1 fun c hc => ?_
  rcases mem_comp p1 q1 hc with hm | hm
  · exact ⟨List.all_eq_true.1 p2 c hm, List.all_eq_true.1 p3 c hm⟩
  · exact ⟨List.all_eq_true.1 q2 c hm, List.all_eq_true.1 q3 c hm⟩
theorem vs_comp (p1 : riseC p = true) (q1 : riseC q = true) (vp : okVs p) (vq : okVs q) : okVs (composeP p q) := fun c hc => by
  rcases mem_comp p1 q1 hc with hm | hm
  · exact vp c hm
  · exact vq c hm
theorem vs_filter (f : Ch → Bool) (vp : okVs p) : okVs (p.filter f) := fun c hc => vp c (List.mem_filter.1 hc).1
theorem stay_filter (f : Ch → Bool) (hp : mayP l p = 0) : mayP l (p.filter f) = 0 := by
  obtain ⟨p0, p1, p2, p3⟩ := mayP_zero hp
  refine mayP_of (by have := List.length_filter_le f p; omega) (riseC_srt.2 ((riseC_srt.1 p1).filter Ch.key f)) (fun c hc => ?_) (fun c hc => ?_)
  · exact List.all_eq_true.1 p2 c (List.mem_filter.1 hc).1
  · exact List.all_eq_true.1 p3 c (List.mem_filter.1 hc).1
theorem stay_apply (hl : l.length ≤ 64) (ha : mayS l a = 0) (hp : mayP l p = 0) : mayS l (applyP p a) = 0 := by
  obtain ⟨_, a1, a2, a3⟩ := mayS_zero ha
  obtain ⟨_, p1, p2, p3⟩ := mayP_zero hp
  obtain ⟨d1, d2, _⟩ := apply_all (riseC_srt.1 p1) (riseA_srt.1 a1)
  refine stayA hl d1 fun c hc => ?_
  have h1 := lk_of_mem At.key d1 hc
  rw [d2] at h1
  cases hy : lk Ch.key p c.key with
  | none =>
    rw [hy] at h1
    have h1 : lk At.key a c.key = some c := h1
    have hm := lk_mem At.key h1
    exact ⟨a2 c hm, a3 c hm⟩
  | some y =>
    have hm := lk_mem Ch.key hy
    rw [hy] at h1
    simp only [lkApply] at h1
    by_cases hg : y.gone = true
    · rw [if_pos hg] at h1; cases h1
    · rw [if_neg hg] at h1
      simp only [Option.some.injEq] at h1
      have hok := List.all_eq_true.1 p2 y hm
      have hth := List.all_eq_true.1 p3 y hm
      have hg' : y.gone = false := by simpa using hg
      unfold okC at hok
      rw [if_neg hg] at hok
      unfold thereC at hth
      rw [hg', Bool.false_or] at hth
      rw [← h1]
      exact ⟨hok, (Bool.and_eq_true_iff.1 hth).2⟩
end
end Go.Proofs.YtfnkjcodcoehcaaGreatDoor
namespace Go.Proofs.YtfnkjcodcoehcaaGreatDoor
set_option linter.unusedVariables false
set_option linter.unusedSimpArgs false

theorem takesU_ret (n : Nat) (p : List Ch) : takesU (List.replicate n (.ret p)) = n := by
  induction n with
  | zero => rfl
  | succ n ih => rw [List.replicate_succ, takesU_r, ih]
theorem makesU_ret (n : Nat) (p : List Ch) : makesU (List.replicate n (.ret p)) = n := by
  induction n with
  | zero => rfl
  | succ n ih => rw [List.replicate_succ, makesU_r, ih]
theorem keep_not {l : List Ky} {b : Bool} {id : Int} (h : keepK l b id = true) (h' : keepK l (!b) id = true) : False := by
  unfold keepK at h h'
  cases hq : findK l id with
  | none => rw [hq] at h; cases h
  | some k => rw [hq] at h h'; cases b <;> cases hk : k.block <;> simp [hk] at h h'
/-- a cell that may be stays one with a patch on it -/
theorem okCl_act {l : List Ky} {c : Cl} {p : List Ch} (hl : l.length ≤ 64) (hc : okCl l c) (hp : mayP l p = 0) : okCl l (actC l c p) := by
  obtain ⟨h1, h2, h3⟩ := hc
  have hp2 : mayP l (partP l (c.r == 10) p) = 0 := stay_filter _ hp
  refine ⟨h1, stay_apply hl h2 hp2, ?_⟩
  obtain ⟨_, s1, s2, s3⟩ := mayS_zero h2
  obtain ⟨_, p1, p2, p3⟩ := mayP_zero hp2
  obtain ⟨a1, a2, _⟩ := apply_all (riseC_srt.1 p1) (riseA_srt.1 s1)
  show partS l (!(c.r == 10)) (applyP (partP l (c.r == 10) p) c.s) = []
  generalize (c.r == 10) = b at *
  unfold partS
  refine List.filter_eq_nil_iff.2 fun x hx hk => ?_
  have e := lk_of_mem At.key a1 hx
  rw [a2] at e
  cases hq : lk Ch.key (partP l b p) x.key with
  | none =>
    rw [hq] at e
    have e : lk At.key c.s x.key = some x := e
    have hm : x ∈ partS l (!b) c.s := List.mem_filter.2 ⟨lk_mem At.key e, hk⟩
    rw [h3] at hm; cases hm
  | some y =>
    have hy := lk_mem Ch.key hq
    have hyk : y.key = x.key := lk_key Ch.key hq
    have := (List.mem_filter.1 hy).2
    simp only [hyk] at this
    exact keep_not this hk
theorem app_ok {l : List Ky} (hl : l.length ≤ 64) : ∀ (us : List Un) (d : List Cl), (∀ u ∈ us, vU l u) → (∀ c ∈ d, okCl l c) → ∀ c ∈ app l us d, okCl l c
  | [], d, _, hd => hd
  | .ins r s :: us, d, hu, hd => by
    intro c hc
    rcases List.mem_cons.1 hc with rfl | hc
    · exact hu (.ins r s) (by simp)
    · exact app_ok hl us d (fun u h => hu u (List.mem_cons_of_mem _ h)) hd c hc
  | .del :: us, d, hu, hd => app_ok hl us (d.drop 1) (fun u h => hu u (List.mem_cons_of_mem _ h)) (fun c hc => hd c (List.mem_of_mem_drop hc))
  | .ret p :: us, d, hu, hd => by
    intro c hc
    rcases List.mem_append.1 hc with hc | hc
    · obtain ⟨x, hx, rfl⟩ := List.mem_map.1 hc
      exact okCl_act hl (hd x (List.mem_of_mem_take hx)) (hu (.ret p) (by simp))
    · exact app_ok hl us (d.drop 1) (fun u h => hu u (List.mem_cons_of_mem _ h)) (fun c hc => hd c (List.mem_of_mem_drop hc)) c hc

theorem mayD_iff {l : List Ky} {d : List Cl} : mayD l d = 0 ↔ d.length ≤ 536870912 ∧ (∀ c ∈ d, okCl l c) ∧ ∃ t c, d = t ++ [c] ∧ c.r = 10 := by
  constructor
  · intro h
    unfold mayD at h
    split at h
    · cases h
    rename_i h0
    split at h
    · cases h
    rename_i h1
    split at h
    · cases h
    rename_i h2
    split at h
    · cases h
    rename_i h3
    split at h
    · cases h
    rename_i h4
    refine ⟨by omega, fun c hc => ?_, ?_⟩
    · have g1 := List.any_eq_false.1 (Bool.eq_false_iff.2 h1) c hc
      have g2 := List.any_eq_false.1 (Bool.eq_false_iff.2 h2) c hc
      have g4 := List.any_eq_false.1 (Bool.eq_false_iff.2 h4) c hc
      unfold badR at g1
      unfold badK at g2
      unfold badP at g4
      simp at g1 g2 g4
      exact ⟨g1.1, g2, g4⟩
    · rcases List.eq_nil_or_concat d with h0 | ⟨t, c, h0⟩
      · subst h0; simp at h3
      · rw [List.concat_eq_append] at h0
        subst h0
        exact ⟨t, c, rfl, by simpa using h3⟩
  · rintro ⟨h0, h1, t, c, rfl, h3⟩
    have g1 : (t ++ [c]).any (badR l) = false := List.any_eq_false.2 fun x hx => by
      obtain ⟨a, b, _⟩ := h1 x hx
      unfold badR
      rw [a, b]; decide
    have g2 : (t ++ [c]).any (badK l) = false := List.any_eq_false.2 fun x hx => by
      obtain ⟨a, b, _⟩ := h1 x hx
      unfold badK
      rw [b]; decide
    have g4 : (t ++ [c]).any (badP l) = false := List.any_eq_false.2 fun x hx => by
      obtain ⟨a, b, e⟩ := h1 x hx
      unfold badP
      rw [e]; simp
    unfold mayD
    rw [if_neg (by simp at h0 ⊢; omega), g1, g2, g4, if_neg (by decide), if_neg (by decide), if_neg (by simp [h3]), if_neg (by decide)]
theorem finU_end {n : Nat} : ∀ {us : List Un}, finU n n us = true → takesU us = 0 → us = []
  | [], _, _ => rfl
  | .ins r s :: us, h, _ => by simp [finU] at h
  | .del :: us, _, h => by rw [takesU_d] at h; omega
  | .ret p :: us, _, h => by rw [takesU_r] at h; omega
/-- the last cell's rune stays -/
theorem app_last (l : List Ky) : ∀ (us : List Un) (t : List Cl) (c : Cl) (n a : Nat), takesU us ≤ t.length + 1 → finU n a us = true → n = a + (t.length + 1) → ∃ t' c', app l us (t ++ [c]) = t' ++ [c'] ∧ c'.r = c.r
  | [], t, c, n, a, _, _, _ => ⟨t, c, rfl, rfl⟩
  | .ins r s :: us, t, c, n, a, h1, h2, h3 => by
    simp only [finU, Bool.and_eq_true] at h2
    obtain ⟨t', c', e, hr⟩ := app_last l us t c n a (by rw [takesU_i] at h1; exact h1) h2.2 h3
    exact ⟨⟨r, s⟩ :: t', c', by show _ :: app l us _ = _; rw [e]; rfl, hr⟩
  | .del :: us, t, c, n, a, h1, h2, h3 => by
    simp only [finU, Bool.and_eq_true, decide_eq_true_eq] at h2
    rw [takesU_d] at h1
    cases t with
    | nil => simp at h3; omega
    | cons x t =>
      obtain ⟨t', c', e, hr⟩ := app_last l us t c n (a + 1) (by simp at h1; omega) h2.2 (by simp at h3; omega)
      exact ⟨t', c', e, hr⟩
  | .ret p :: us, t, c, n, a, h1, h2, h3 => by
    simp only [finU] at h2
    rw [takesU_r] at h1
    cases t with
    | nil =>
      have e0 : us = [] := finU_end (n := n) (by rw [show a + 1 = n by simp at h3; omega] at h2; exact h2) (by simp at h1; omega)
      subst e0
      exact ⟨[], actC l c p, rfl, rfl⟩
    | cons x t =>
      obtain ⟨t', c', e, hr⟩ := app_last l us t c n (a + 1) (by simp at h1; omega) h2 (by simp at h3; omega)
      exact ⟨actC l x p :: t', c', by show [actC l x p] ++ app l us (t ++ [c]) = _; rw [e]; rfl, hr⟩
/-- what a delta that fits makes of a document that may be is one -/
theorem app_mayD {l : List Ky} {us : List Un} {d : List Cl} {most : Nat} (hl : l.length ≤ 64) (hd : mayD l d = 0) (hf : FitU l us d.length most) (hb : d.length + makesU us ≤ 536870912 + takesU us) : mayD l (app l us d) = 0 := by
  obtain ⟨h0, h1, t, c, rfl, h3⟩ := mayD_iff.1 hd
  obtain ⟨t', c', e, hr⟩ := app_last l us t c (t ++ [c]).length 0 (by have := hf.t; simpa using this) hf.f (by simp)
  have hlen := app_len l us (t ++ [c]) hf.t
  exact mayD_iff.2 ⟨by omega, app_ok hl us _ hf.v h1, t', c', e, hr.trans h3⟩
end Go.Proofs.YtfnkjcodcoehcaaGreatDoor
namespace Go.Proofs.YtfnkjcodcoehcaaGreatDoor
open Go.RowKit
set_option linter.unusedVariables false
set_option linter.unusedSimpArgs false

theorem OpS.enc_one (x : OpS) : ∀ u ∈ x.enc, u.oneCell' = true := by intro u hu; simp [OpS.enc] at hu; rcases hu with rfl | rfl | rfl | rfl | rfl <;> rfl
abbrev OwOs := @Ow OpS OpS.enc 5 50
theorem Tryz.infoOp : (Tryz.prog.info? 50).map (fun i => (i.zero, i.size, i.bytes)) = some (some (.agg #[.int .u8 0, .int .i64 0, .slice none 0 0, .slice none 0 0, .slice none 0 0]), 5, 88) := by kernel_rfl
theorem Tryz.slOp : Tryz.prog.underlying 44 = some (.slice 50) := by kernel_rfl
abbrev OwCs := @Ow ClS ClS.enc 2 38
section
variable {ops : Array Oper} {rest : List Oper} {o : Oper} {a : Act} {Q : Exit → Act → World → Prop} {w : World} {base : Nat} {v : Value} {K : Act → World → Prop} {E : Prop}
theorem app_os {l m : List OpS} (hgd : o.guard = none) (s x : Operand)
    (ho : o.op = .call { callee := .builtin .append, args := #[s, x], argTypes := #[44, 44] })
    (hsv : a.eval s = v) (hown : OwOs w base v l) (B : Nat) (A : Option Addr) (c n : Nat) (hx : a.eval x = .slice A n c) (hn : n = m.length) (hr : RdOs w B A m)
    (hb : l.length + m.length ≤ 1000000000000) (hbase : base ≤ w.heap.size)
    (h : ∀ v' w', OwOs w' base v' (l ++ m) → w.grownBy w' (wb v) → (v' = v ∧ w' = w ∨ wb v' = wb v ∨ wb v' = some w.heap.size) → wpList Tryz.prog ops Q rest (a.put o.dst v') w') : wpList Tryz.prog ops Q (o :: rest) a w := by
  obtain ⟨i0, hi0, hz0, hz1, hz2⟩ := info_parts Tryz.infoOp
  exact wpList_app hgd s x _ ho i0 _ 88 Tryz.slOp hi0 hz0 hz1 hz2 rfl (by omega) OpS.enc_len OpS.enc_one hsv hown B A c n hx hn hr (by simp only [maxLen]; omega) (by omega) hbase h
/-- the same at a step of a region that draws -/
theorem step_os {l m : List OpS} (hgd : o.guard = none) (s x : Operand)
    (ho : o.op = .call { callee := .builtin .append, args := #[s, x], argTypes := #[44, 44] })
    (hsv : a.eval s = v) (hown : OwOs w base v l) (B : Nat) (A : Option Addr) (c n : Nat) (hx : a.eval x = .slice A n c) (hn : n = m.length) (hr : RdOs w B A m)
    (hb : l.length + m.length ≤ 1000000000000) (hbase : base ≤ w.heap.size)
    (h : ∀ v' w', OwOs w' base v' (l ++ m) → w.grownBy w' (wb v) → (v' = v ∧ w' = w ∨ wb v' = wb v ∨ wb v' = some w.heap.size) → K (a.put o.dst v') w') :
    if Region.wanted o (yielded ops a.tmps) = true then Oper.wp Tryz.prog o a w K Q else E := by
  have hw : Region.wanted o (yielded ops a.tmps) = true := by simp [Region.wanted, hgd]
  rw [if_pos hw]
  obtain ⟨i0, hi0, hz0, hz1, hz2⟩ := info_parts Tryz.infoOp
  exact wp_app s x _ ho i0 _ 88 Tryz.slOp hi0 hz0 hz1 hz2 rfl (by omega) OpS.enc_len OpS.enc_one hsv hown B A c n hx hn hr (by simp only [maxLen]; omega) (by omega) hbase h
theorem step_i32 {l m : List Int} (hgd : o.guard = none) (s x : Operand)
    (ho : o.op = .call { callee := .builtin .append, args := #[s, x], argTypes := #[47, 47] })
    (hsv : a.eval s = v) (hown : OwI32 w base v l) (B : Nat) (A : Option Addr) (c n : Nat) (hx : a.eval x = .slice A n c) (hn : n = m.length) (hr : RdI32 w B A m)
    (hb : l.length + m.length ≤ 1000000000000) (hbase : base ≤ w.heap.size)
    (h : ∀ v' w', OwI32 w' base v' (l ++ m) → w.grownBy w' (wb v) → (v' = v ∧ w' = w ∨ wb v' = wb v ∨ wb v' = some w.heap.size) → K (a.put o.dst v') w') :
    if Region.wanted o (yielded ops a.tmps) = true then Oper.wp Tryz.prog o a w K Q else E := by
  have hw : Region.wanted o (yielded ops a.tmps) = true := by simp [Region.wanted, hgd]
  rw [if_pos hw]
  obtain ⟨i0, hi0, hz0, hz1, hz2⟩ := info_parts Tryz.infoI32
  exact wp_app s x _ ho i0 _ 4 Tryz.slI32 hi0 hz0 hz1 hz2 rfl (by omega) encI32_len encI32_one hsv hown B A c n hx hn hr (by simp only [maxLen]; omega) (by omega) hbase h
end
def NewOs (r : List OpS) (w : World) (e : Ending) (w' : World) : Prop :=
  ∃ A c, e = .returned (.slice A r.length c) ∧ OwOs w' w.heap.size (.slice A r.length c) r ∧ Below w.heap.size w w'
def NewI32 (r : List Int) (w : World) (e : Ending) (w' : World) : Prop :=
  ∃ A c, e = .returned (.slice A r.length c) ∧ OwI32 w' w.heap.size (.slice A r.length c) r ∧ Below w.heap.size w w'
set_option maxRecDepth 100000 in
set_option maxHeartbeats 400000 in
theorem cloneOs_any (A : Option Addr) (n c : Nat) (l : List OpS) (w : World) (hn : n = l.length) (h : RdOs w w.heap.size A l) (hb : n ≤ 100000000) :
    Calls Tryz.prog 205 #[.slice A n c] w (NewOs l w) := by
  cases A with
  | none =>
    have hl : l = [] := by
      cases l with
      | nil => rfl
      | cons a l => obtain ⟨ad, e, _⟩ := h (by simp); cases e
    subst hl
    have hn0 : n = 0 := by simpa using hn
    subst hn0
    clear hn
    have hq := fun (w : World) => Lib.run_eql_slice_nil (P := Tryz.prog) w 44 50 none 0 c 0 0 Tryz.slOp
    go_enter Tryz.func205, Tryz.ntmps205
    go_wp2_with (fail)
    go_ret
    exact ⟨none, 0, rfl, Ow.nil _ _, Below.refl _ _⟩
  | some ad =>
    have N := Lib.hid hn
    clear hn
    have hq := fun (w : World) => Lib.run_eql_slice_nil (P := Tryz.prog) w 44 50 (some ad) n c 0 0 Tryz.slOp
    go_enter Tryz.func205, Tryz.ntmps205
    go_wp2_with (first
      | (at_builtin; refine app_os (m := l) rfl (.tmp 5) (.tmp 6) rfl rfl (by exact Ow.empty _ w.heap.size _) _ _ _ _ rfl N.out (by exact h.ext (ext_alloc w _)) (by have := N.out; simp only [List.length_nil]; omega) (by simp) ?_; intro v' w' hown' hgr hv'))
    rw [List.nil_append] at hown'
    obtain ⟨A', c', rfl, _, _⟩ := hown'.form
    go_ret
    exact ⟨A', c', rfl, hown', (ext_alloc w _).grown hgr (by simp) (fun k hk => by cases hk)⟩

set_option maxRecDepth 100000 in
set_option maxHeartbeats 400000 in
theorem cloneI32_any (A : Option Addr) (n c : Nat) (l : List Int) (w : World) (hn : n = l.length) (h : RdI32 w w.heap.size A l) (hb : n ≤ 100000000) :
    Calls Tryz.prog 155 #[.slice A n c] w (NewI32 l w) := by
  cases A with
  | none =>
    have hl : l = [] := by
      cases l with
      | nil => rfl
      | cons a l => obtain ⟨ad, e, _⟩ := h (by simp); cases e
    subst hl
    have hn0 : n = 0 := by simpa using hn
    subst hn0
    clear hn
    have hq := fun (w : World) => Lib.run_eql_slice_nil (P := Tryz.prog) w 47 21 none 0 c 0 0 Tryz.slI32
    go_enter Tryz.func155, Tryz.ntmps155
    go_wp2_with (fail)
    go_ret
    exact ⟨none, 0, rfl, Ow.nil _ _, Below.refl _ _⟩
  | some ad =>
    have N := Lib.hid hn
    clear hn
    have hq := fun (w : World) => Lib.run_eql_slice_nil (P := Tryz.prog) w 47 21 (some ad) n c 0 0 Tryz.slI32
    go_enter Tryz.func155, Tryz.ntmps155
    go_wp2_with (first
      | (at_builtin; refine app_i32 (m := l) rfl (.tmp 5) (.tmp 6) rfl rfl (by exact Ow.empty _ w.heap.size _) _ _ _ _ rfl N.out (by exact h.ext (ext_alloc w _)) (by have := N.out; simp only [List.length_nil]; omega) (by simp) ?_; intro v' w' hown' hgr hv'))
    rw [List.nil_append] at hown'
    obtain ⟨A', c', rfl, _, _⟩ := hown'.form
    go_ret
    exact ⟨A', c', rfl, hown', (ext_alloc w _).grown hgr (by simp) (fun k hk => by cases hk)⟩

end Go.Proofs.YtfnkjcodcoehcaaGreatDoor
namespace Go.Proofs.YtfnkjcodcoehcaaGreatDoor
open Go.RowKit
set_option linter.unusedVariables false
set_option linter.unusedSimpArgs false

theorem w64_in (n : Int) (h : -9223372036854775808 ≤ n ∧ n ≤ 9223372036854775807) : wrap64 n = n := by rw [← IntWalk.i64_left, IntWalk.i64_in _ h]
theorem Tryz.szCl : (Tryz.prog.info? 38).map (·.size) = some 2 := by kernel_rfl
theorem RdCl.take {w : World} {B : Nat} {A : Option Addr} {l : List ClS} (h : RdCl w B A l) (k : Nat) : RdCl w B A (l.take k) := ⟨h.1.take k, fun x hx => h.2 x (List.mem_of_mem_take hx)⟩
theorem RdCl.from {w : World} {B k c : Nat} {A A' : Option Addr} {l : List ClS} (h : RdCl w B A l) (hA : advS A c k 2 = A') (hk : k ≤ l.length) (hc : l.length ≤ c) : RdCl w B A' (l.drop k) := ⟨hA ▸ h.1.advS hk hc, fun x hx => h.2 x (List.mem_of_mem_drop hx)⟩
theorem clsOf_len (l : List ClS) : (clsOf l).length = l.length := by unfold clsOf; simp
end Go.Proofs.YtfnkjcodcoehcaaGreatDoor
