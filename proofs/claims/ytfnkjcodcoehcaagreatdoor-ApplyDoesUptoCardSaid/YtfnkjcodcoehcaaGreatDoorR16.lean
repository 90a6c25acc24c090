/- Merged texts: OpUnits. -/
import Derived.Test.YtfnkjcodcoehcaaGreatDoorR12
import Derived.Test.YtfnkjcodcoehcaaGreatDoorR15
namespace Go.Proofs.YtfnkjcodcoehcaaGreatDoor
set_option linter.unusedVariables false
set_option linter.unusedSimpArgs false

/-- may a cell be, and has it its kind of attributes? -/
def okCl (l : List Ky) (c : Cl) : Prop := mayR c.r = true ∧ mayS l c.s = 0 ∧ partS l (!(c.r == 10)) c.s = []
/-- may a unit be, and is it in its place? -/
def vU (l : List Ky) : Un → Prop
  | .ins r s => okCl l ⟨r, s⟩
  | .del => True
  | .ret p => mayP l p = 0
/-- without the place -/
def mU (l : List Ky) : Un → Prop
  | .ins r s => mayR r = true ∧ mayS l s = 0
  | .del => True
  | .ret p => mayP l p = 0
/-- does the last of n cells stay the last one, from cell a on? -/
def finU (n : Nat) : Nat → List Un → Bool
  | _, [] => true
  | a, .ins _ _ :: us => decide (a ≠ n) && finU n a us
  | a, .del :: us => decide (a + 1 ≠ n) && finU n (a + 1) us
  | a, .ret _ :: us => finU n (a + 1) us
theorem finU_append (n : Nat) : ∀ (us vs : List Un) (a : Nat), finU n a (us ++ vs) = (finU n a us && finU n (a + takesU us) vs)
  | [], vs, a => by simp [finU, takesU]
  | .ins r s :: us, vs, a => by show (decide (a ≠ n) && finU n a (us ++ vs)) = _; rw [finU_append n us vs a, takesU_i, finU, Bool.and_assoc]
  | .del :: us, vs, a => by
    show (decide (a + 1 ≠ n) && finU n (a + 1) (us ++ vs)) = _
    rw [finU_append n us vs (a + 1), takesU_d, finU, Bool.and_assoc]
    congr 3; omega
  | .ret p :: us, vs, a => by
    show finU n (a + 1) (us ++ vs) = _
    rw [finU_append n us vs (a + 1), takesU_r, finU]
    congr 2; omega

theorem isOp_of {l : List Ky} {o : Opd} (h : oneP l o = 0) : isOp o := by
  obtain ⟨h1, h2, h3, h4, h5⟩ := one_facts h
  obtain ⟨k, n, r, s, p⟩ := o
  unfold formO at h1
  unfold sizeO at h2
  simp only at h1 h2
  by_cases k1 : k = 1
  · subst k1
    rw [if_pos rfl] at h1
    have := of_decide_eq_true h1
    rw [if_neg (by decide)] at h2
    exact .inr (.inr ⟨rfl, h2, List.eq_nil_of_length_eq_zero this.1, List.eq_nil_of_length_eq_zero this.2⟩)
  · rw [if_neg k1] at h1
    by_cases k3 : k = 3
    · subst k3
      rw [if_pos rfl] at h1
      have := of_decide_eq_true h1
      rw [if_neg (by decide)] at h2
      exact .inr (.inl ⟨rfl, h2, List.eq_nil_of_length_eq_zero this.1.1, List.eq_nil_of_length_eq_zero this.1.2, List.eq_nil_of_length_eq_zero this.2⟩)
    · rw [if_neg k3] at h1
      by_cases k2 : k = 2
      · subst k2
        rw [if_pos rfl] at h1 h2
        have := of_decide_eq_true (Bool.and_eq_true_iff.1 h1).1
        exact .inl ⟨rfl, this.1, by intro e; simp only at e; subst e; simp at h2, List.eq_nil_of_length_eq_zero this.2⟩
      · rw [if_neg k2] at h1; cases h1
theorem runes_of {l : List Ky} {o : Opd} (h : oneP l o = 0) (hk : o.k = 2) : ∀ r ∈ o.r, mayR r = true := by
  obtain ⟨h1, _⟩ := one_facts h
  unfold formO at h1
  rw [if_neg (by rw [hk]; decide), if_neg (by rw [hk]; decide), if_pos hk] at h1
  have := (Bool.and_eq_true_iff.1 h1).2
  intro r hr
  rw [Bool.not_eq_true', List.any_eq_false] at this
  simpa using this r hr
/-- an op that may be, of its units -/
theorem one_iff {l : List Ky} {o : Opd} : oneP l o = 0 ↔ isOp o ∧ sizeO o ≤ 536870912 ∧ ∀ u ∈ unitsO o, mU l u := by
  constructor
  · intro h
    obtain ⟨h1, h2, h3, h4, h5⟩ := one_facts h
    refine ⟨isOp_of h, h3, fun u hu => ?_⟩
    rcases isOp_kind (isOp_of h) with hk | hk | hk
    · unfold unitsO at hu
      rw [if_pos hk] at hu
      obtain ⟨r, hr, rfl⟩ := List.mem_map.1 hu
      exact ⟨runes_of h hk r hr, h4⟩
    · unfold unitsO at hu
      rw [if_neg (by rw [hk]; decide), if_neg (by rw [hk]; decide)] at hu
      rw [(List.mem_replicate.1 hu).2]; trivial
    · unfold unitsO at hu
      rw [if_neg (by rw [hk]; decide), if_pos hk] at hu
      rw [(List.mem_replicate.1 hu).2]; exact h5
  · rintro ⟨h1, h2, h3⟩
    have m0 : mayS l [] = 0 := by simp [mayS, riseA, rise]
    have p0 : mayP l [] = 0 := by simp [mayP, riseC, rise]
    rcases isOp_kind h1 with hk | hk | hk
    · obtain ⟨e, hr⟩ := opI_of h1 hk
      obtain ⟨k, n, r, s, p⟩ := o
      rw [e] at h2 h3 ⊢
      simp only at hr
      have hu : ∀ x ∈ r, mayR x = true ∧ mayS l s = 0 := fun x hx => h3 (.ins x s) (by rw [unitsO_I]; exact List.mem_map.2 ⟨x, hx, rfl⟩)
      obtain ⟨x, hx⟩ := List.exists_mem_of_ne_nil r hr
      have hform : formO (opI r s) = true := by
        have hany : r.any (fun r => !mayR r) = false := List.any_eq_false.2 (fun y hy => by simp [(hu y hy).1])
        show (if (2 : Int) = 1 then _ else if (2 : Int) = 3 then _ else if (2 : Int) = 2 then (decide ((0 : Int) = 0 ∧ ([] : List Ch).length = 0) && !r.any (fun r => !mayR r)) else false) = true
        rw [if_neg (by decide), if_neg (by decide), if_pos rfl, hany]
        rfl
      have hsz : 1 ≤ sizeO (opI r s) := by
        show 1 ≤ (if (2 : Int) = 2 then (r.length : Int) else 0)
        rw [if_pos rfl]
        have : r.length ≠ 0 := fun h0 => hr (List.eq_nil_of_length_eq_zero h0)
        omega
      unfold oneP
      rw [if_pos ⟨hform, hsz, h2⟩, if_pos (show mayS l (opI r s).s = 0 from (hu x hx).2)]
      exact p0
    · obtain ⟨e, hn⟩ := opD_of h1 hk
      obtain ⟨k, n, r, s, p⟩ := o
      simp only at hn
      rw [e] at h2 ⊢
      unfold oneP
      rw [if_pos ⟨by simp [formO, opD], by unfold sizeO opD; simp only; rw [if_neg (by decide)]; exact hn, h2⟩, if_pos (show mayS l (opD n).s = 0 from m0)]
      exact p0
    · obtain ⟨e, hn⟩ := opR_of h1 hk
      obtain ⟨k, n, r, s, p⟩ := o
      simp only at hn
      rw [e] at h2 h3 ⊢
      have hp : mayP l p = 0 := h3 (.ret p) (by
        rw [unitsO_R]
        simp only at hn ⊢
        exact List.mem_replicate.2 ⟨by omega, rfl⟩)
      unfold oneP
      rw [if_pos ⟨by simp [formO, opR], by unfold sizeO opR; simp only; rw [if_neg (by decide)]; exact hn, h2⟩, if_pos (show mayS l (opR n p).s = 0 from m0)]
      exact hp
theorem takes_one {o : Opd} (h : isOp o) : (takesU (unitsO o) : Int) = tkI o ∧ (makesU (unitsO o) : Int) = mkI o := by
  have hi : ∀ (r : List Int) (s : List At), takesU (r.map (fun r => Un.ins r s)) = 0 ∧ makesU (r.map (fun r => Un.ins r s)) = r.length := by
    intro r s
    induction r with
    | nil => exact ⟨rfl, rfl⟩
    | cons a r ih => exact ⟨ih.1, by show makesU _ + 1 = _; rw [ih.2]; rfl⟩
  have hr : ∀ (k : Nat) (p : List Ch), takesU (List.replicate k (.ret p)) = k ∧ makesU (List.replicate k (.ret p)) = k := by
    intro k p
    induction k with
    | zero => exact ⟨rfl, rfl⟩
    | succ k ih => rw [List.replicate_succ]; exact ⟨by rw [takesU_r, ih.1], by rw [makesU_r, ih.2]⟩
  rcases isOp_kind h with hk | hk | hk
  · obtain ⟨e, hr⟩ := opI_of h hk
    rw [e, unitsO_I]
    exact ⟨by rw [(hi _ _).1]; rfl, by rw [(hi _ _).2]; rfl⟩
  · obtain ⟨e, hn⟩ := opD_of h hk
    rw [e, unitsO_D, takesU_del, makesU_del]
    exact ⟨by show ((o.n.toNat : Nat) : Int) = o.n; omega, rfl⟩
  · obtain ⟨e, hn⟩ := opR_of h hk
    rw [e, unitsO_R, (hr _ _).1, (hr _ _).2]
    exact ⟨by show ((o.n.toNat : Nat) : Int) = o.n; omega, by show ((o.n.toNat : Nat) : Int) = o.n; omega⟩
theorem sums_units : ∀ (x : List OpS), (∀ o ∈ x, isOp o.o) → (takesU (units (osOf x)) : Int) = sumT x ∧ (makesU (units (osOf x)) : Int) = sumM x
  | [], _ => ⟨rfl, rfl⟩
  | o :: x, h => by
    obtain ⟨h1, h2⟩ := sums_units x (fun z hz => h z (List.mem_cons_of_mem _ hz))
    obtain ⟨g1, g2⟩ := takes_one (h o (by simp))
    show ((takesU (units (o.o :: osOf x)) : Nat) : Int) = tkI o.o + sumT x ∧ ((makesU (units (o.o :: osOf x)) : Nat) : Int) = mkI o.o + sumM x
    rw [units_cons, takesU_append, makesU_append]
    omega
theorem good_isOp {l : List Ky} {x : List OpS} (h : goodO l x) : ∀ o ∈ x, isOp o.o := fun o ho => isOp_of (h o ho)
theorem units_mem {x : List OpS} {u : Un} : u ∈ units (osOf x) ↔ ∃ o ∈ x, u ∈ unitsO o.o := by
  unfold units osOf
  rw [List.mem_flatMap]
  constructor
  · rintro ⟨a, ha, hu⟩; obtain ⟨o, ho, rfl⟩ := List.mem_map.1 ha; exact ⟨o, ho, hu⟩
  · rintro ⟨o, ho, hu⟩; exact ⟨o.o, List.mem_map.2 ⟨o, ho, rfl⟩, hu⟩
theorem good_mU {l : List Ky} {x : List OpS} (h : goodO l x) : ∀ u ∈ units (osOf x), mU l u := fun u hu => by
  obtain ⟨o, ho, hu⟩ := units_mem.1 hu
  exact (one_iff.1 (h o ho)).2.2 u hu
/-- the last cell, op by op and unit by unit -/
theorem finU_reps (n k : Nat) (p : List Ch) : ∀ a, finU n a (List.replicate k (.ret p)) = true := by
  induction k with
  | zero => intro a; rfl
  | succ k ih => intro a; rw [List.replicate_succ, finU]; exact ih _
theorem finU_dels (n : Nat) : ∀ (k a : Nat), a + (k + 1) ≤ n → (finU n a (List.replicate (k + 1) .del) = decide (a + (k + 1) ≠ n)) := by
  intro k
  induction k with
  | zero => intro a _; simp [finU]
  | succ k ih =>
    intro a h
    rw [List.replicate_succ]
    show (decide (a + 1 ≠ n) && finU n (a + 1) (List.replicate (k + 1) .del)) = _
    rw [ih (a + 1) (by omega)]
    have h1 : decide (a + 1 ≠ n) = true := decide_eq_true (by omega)
    rw [h1, Bool.true_and, show a + 1 + (k + 1) = a + (k + 1 + 1) by omega]
theorem finU_inss (n : Nat) (r : List Int) (s : List At) : ∀ a, r ≠ [] → finU n a (r.map (fun r => Un.ins r s)) = decide (a ≠ n) := by
  intro a h
  induction r with
  | nil => exact absurd rfl h
  | cons b r ih =>
    show (decide (a ≠ n) && finU n a (r.map _)) = _
    cases r with
    | nil => simp [finU]
    | cons c r => rw [ih (by simp)]; simp
theorem finR_units {l : List Ky} (n : Nat) : ∀ (x : List OpS) (a : Nat), goodO l x → (a : Int) + sumT x ≤ n → finR n a x = finU n a (units (osOf x))
  | [], a, _, _ => rfl
  | o :: x, a, h, hb => by
    have ho := isOp_of (h o (by simp))
    have ht := h.tail
    obtain ⟨s1, _⟩ := sums_units x (good_isOp ht)
    obtain ⟨t1, t2⟩ := takes_one ho
    simp only [sumT] at hb
    have e : units (osOf (o :: x)) = unitsO o.o ++ units (osOf x) := rfl
    rw [e, finU_append]
    unfold finR
    rcases isOp_kind ho with hk | hk | hk
    · obtain ⟨eo, hr⟩ := opI_of ho hk
      have hz : tkI o.o = 0 := by unfold tkI; rw [if_pos hk]
      rw [if_pos hk]
      have hu : finU n a (unitsO o.o) = decide (a ≠ n) := by rw [eo, unitsO_I]; exact finU_inss n _ _ a hr
      have hta : takesU (unitsO o.o) = 0 := by omega
      rw [hu, hta, Nat.add_zero, finR_units n x a ht (by omega)]
      congr 2
      exact propext ⟨fun e h => e (by omega), fun e h => e (by omega)⟩
    · obtain ⟨eo, hn⟩ := opD_of ho hk
      have hz : tkI o.o = o.o.n := by unfold tkI; rw [if_neg (by rw [hk]; decide)]
      rw [if_neg (by rw [hk]; decide)]
      have hta : (takesU (unitsO o.o) : Int) = o.o.n := by rw [t1, hz]
      obtain ⟨k, hk2⟩ : ∃ k : Nat, o.o.n.toNat = k + 1 := ⟨o.o.n.toNat - 1, by omega⟩
      have hu : finU n a (unitsO o.o) = decide (a + (k + 1) ≠ n) := by rw [eo, unitsO_D, hk2]; exact finU_dels n k a (by omega)
      rw [hu]
      by_cases hl : o.o.k = 3 ∧ (a : Int) + o.o.n = n
      · rw [if_pos hl]
        have : decide (a + (k + 1) ≠ n) = false := decide_eq_false (by omega)
        rw [this]; rfl
      · rw [if_neg hl]
        have hne : ¬ (a : Int) + o.o.n = n := fun e => hl ⟨hk, e⟩
        have : decide (a + (k + 1) ≠ n) = true := decide_eq_true (by omega)
        rw [this, Bool.true_and]
        have e2 : (a : Int) + o.o.n = ((a + takesU (unitsO o.o) : Nat) : Int) := by omega
        rw [e2, finR_units n x _ ht (by omega)]
    · obtain ⟨eo, hn⟩ := opR_of ho hk
      have hz : tkI o.o = o.o.n := by unfold tkI; rw [if_neg (by rw [hk]; decide)]
      rw [if_neg (by rw [hk]; decide), if_neg (by rw [hk]; rintro ⟨h1, _⟩; exact absurd h1 (by decide))]
      have hta : (takesU (unitsO o.o) : Int) = o.o.n := by rw [t1, hz]
      have hu : finU n a (unitsO o.o) = true := by rw [eo, unitsO_R]; exact finU_reps n _ _ a
      rw [hu, Bool.true_and]
      have e2 : (a : Int) + o.o.n = ((a + takesU (unitsO o.o) : Nat) : Int) := by omega
      rw [e2, finR_units n x _ ht (by omega)]

theorem nlR_all {r : List Int} : nlR r = r.length ↔ ∀ x ∈ r, x = 10 := by
  unfold nlR
  rw [List.countP_eq_length]
  simp
theorem nlR_none {r : List Int} : nlR r = 0 ↔ ∀ x ∈ r, ¬ x = 10 := by
  unfold nlR
  rw [List.countP_eq_zero]
  simp
/-- an op in its place, of its units -/
theorem place_iff {l : List Ky} {o : Opd} (h : oneP l o = 0) : placeO l o = true ↔ ∀ u ∈ unitsO o, vU l u := by
  obtain ⟨g1, g2, g3⟩ := one_iff.1 h
  have hop := isOp_of h
  rcases isOp_kind hop with hk | hk | hk
  · obtain ⟨e, hr⟩ := opI_of hop hk
    have hm : mayS l o.s = 0 := (one_facts h).2.2.2.1
    have hu : (∀ u ∈ unitsO o, vU l u) ↔ ∀ r ∈ o.r, partS l (!(r == 10)) o.s = [] := by
      unfold unitsO
      rw [if_pos hk]
      constructor
      · intro hh r hr; exact (hh _ (List.mem_map.2 ⟨r, hr, rfl⟩)).2.2
      · intro hh u hu
        obtain ⟨r, hr, rfl⟩ := List.mem_map.1 hu
        exact ⟨runes_of h hk r hr, hm, hh r hr⟩
    rw [hu]
    have hl := partS_len (mayS_zero hm).2.2.2
    unfold placeO
    by_cases hs : 0 < o.s.length
    · rw [if_pos ⟨hk, hs⟩]
      have hne : 0 < o.r.length := List.length_pos_iff.2 hr
      have hle : nlR o.r ≤ o.r.length := by unfold nlR; exact List.countP_le_length
      constructor
      · intro hh r hrm
        simp only [Bool.not_eq_true', Bool.and_eq_false_iff, Bool.or_eq_false_iff, decide_eq_false_iff_not] at hh
        rcases hh with ⟨h1, h2⟩ | ⟨h1, h2⟩
        · have h3 := nlR_none.1 (by omega : nlR o.r = 0) r hrm
          have hb : (r == 10) = false := beq_eq_false_iff_ne.2 h3
          rw [hb]
          exact List.eq_nil_of_length_eq_zero (by show (partS l true o.s).length = 0; omega)
        · have h3 := nlR_all.1 (by omega : nlR o.r = o.r.length) r hrm
          have hb : (r == 10) = true := beq_iff_eq.2 h3
          rw [hb]
          exact List.eq_nil_of_length_eq_zero (by show (partS l false o.s).length = 0; omega)
      · intro hh
        simp only [Bool.not_eq_true', Bool.and_eq_false_iff, Bool.or_eq_false_iff, decide_eq_false_iff_not]
        by_cases h0 : (partS l true o.s).length = 0
        · refine .inl ⟨by omega, ?_⟩
          have : nlR o.r = 0 := nlR_none.2 (fun r hr h10 => by
            have := hh r hr
            rw [beq_iff_eq.2 h10] at this
            have h5 : (partS l false o.s).length = 0 := by show (partS l (!true) o.s).length = 0; rw [this]; rfl
            omega)
          omega
        · refine .inr ?_
          have hall : ∀ r ∈ o.r, r = 10 := fun r hr => by
            rcases Decidable.em (r = 10) with h10 | h10
            · exact h10
            · exfalso
              have := hh r hr
              rw [beq_eq_false_iff_ne.2 h10] at this
              exact h0 (by show (partS l (!false) o.s).length = 0; rw [this]; rfl)
          have h7 := nlR_all.2 hall
          obtain ⟨r, hr2⟩ := List.exists_mem_of_ne_nil o.r hr
          have := hh r hr2
          rw [beq_iff_eq.2 (hall r hr2)] at this
          have h5 : (partS l false o.s).length = 0 := by show (partS l (!true) o.s).length = 0; rw [this]; rfl
          constructor <;> omega
    · rw [if_neg (by rintro ⟨_, h⟩; exact hs h)]
      have : o.s = [] := List.eq_nil_of_length_eq_zero (by omega)
      rw [this]
      simp [partS]
  · have : placeO l o = true := by unfold placeO; rw [if_neg (by rintro ⟨h, _⟩; rw [hk] at h; exact absurd h (by decide))]
    simp only [this, true_iff]
    intro u hu
    unfold unitsO at hu
    rw [if_neg (by rw [hk]; decide), if_neg (by rw [hk]; decide)] at hu
    rw [(List.mem_replicate.1 hu).2]; trivial
  · have : placeO l o = true := by unfold placeO; rw [if_neg (by rintro ⟨h, _⟩; rw [hk] at h; exact absurd h (by decide))]
    simp only [this, true_iff]
    intro u hu
    have := g3 u hu
    unfold unitsO at hu
    rw [if_neg (by rw [hk]; decide), if_pos hk] at hu
    rw [(List.mem_replicate.1 hu).2] at this ⊢; exact this
/-- fits, told by units -/
structure FitU (l : List Ky) (us : List Un) (n most : Nat) : Prop where
  v : ∀ u ∈ us, vU l u
  t : takesU us ≤ n
  n1 : 1 ≤ n
  nm : n ≤ most
  f : finU n 0 us = true
  m : n + makesU us ≤ most + takesU us
  tb : takesU us ≤ 536870912
  mb : makesU us ≤ 536870912
/-- a delta that fits -/
theorem fits_units {l : List Ky} {x : List OpS} {n most : Nat} (hb : x.length ≤ 1048576) (hm : most ≤ 4294967296) (h : fitsO l x n most = 0) : goodO l x ∧ FitU l (units (osOf x)) n most := by
  obtain ⟨h1, h2, h3, h4, h5, h6, h7⟩ := fits_zero h
  obtain ⟨g1, g2, g3⟩ := mayO_zero h1
  obtain ⟨s1, s2⟩ := sums_units x (good_isOp g1)
  have ht := takes_sum g1 hb
  have hmk := makes_sum g1 hb
  have hl := longO_is (n := n) g1 hb (by omega) (by omega) g2 g3
  rw [hl] at h7
  rw [final_r n g1 hb] at h5
  have hf := finR_units n x 0 g1 (by simp; omega)
  refine ⟨g1, fun u hu => ?_, by omega, by omega, by omega, by rw [← hf]; exact h5, by omega, by omega, by omega⟩
  obtain ⟨o, ho, hu⟩ := units_mem.1 hu
  unfold placeP at h6
  exact (place_iff (g1 o ho)).1 (List.all_eq_true.1 h6 o ho) u hu
end Go.Proofs.YtfnkjcodcoehcaaGreatDoor
