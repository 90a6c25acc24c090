/- Merged texts: MkFn, Foot, Mkr, MkGap, OwSet, Find, With. -/
import Derived.Test.YtipoeidmblnbbaaDoorPk7
import Derived.Test.YtipoeidmblnbbaaDoorPk1
import Derived.Deep.RegionHeld3
import Derived.IntWalk
import Derived.Test.YtipoeidmblnbbaaDoorPk2
import Derived.Test.YtipoeidmblnbbaaDoorPk6
/- The maker of normal forms as plain functions, and what it makes of the units that it is told. -/
namespace Go.Proofs.YtipoeidmblnbbaaDoor
set_option linter.unusedVariables false
set_option linter.unusedSimpArgs false

structure Mk where
  done : List Opd
  ins : List Opd
  gone : Int
def Mk.new : Mk := ⟨[], [], 0⟩
def mkGap (m : Mk) : List Opd := m.ins ++ (if 0 < m.gone then [opD m.gone] else [])
/-- a retain set behind ops -/
def addR (d : List Opd) (n : Int) (p : List Ch) : List Opd :=
  match d.getLast? with
  | some o => if o.k = 1 ∧ o.p = p then d.dropLast ++ [{ o with n := IntKind.i64.wrap (o.n + n) }] else d ++ [opR n p]
  | none => d ++ [opR n p]
def mkRetain (m : Mk) (n : Int) (p : List Ch) : Mk := if n < 1 then m else ⟨addR (m.done ++ mkGap m) n p, [], 0⟩
/-- an insert set behind inserts -/
def addI (d : List Opd) (l : List Int) (s : List At) : List Opd :=
  match d.getLast? with
  | some o => if o.s = s then d.dropLast ++ [{ o with r := o.r ++ l }] else d ++ [opI l s]
  | none => d ++ [opI l s]
def mkInsert (m : Mk) (l : List Int) (s : List At) : Mk := if l = [] then m else { m with ins := addI m.ins l s }
def mkDelete (m : Mk) (n : Int) : Mk := { m with gone := IntKind.i64.wrap (m.gone + (if n < 0 then 0 else n)) }
/-- without a last retain that has no patch -/
def cutR (d : List Opd) : List Opd :=
  match d.getLast? with
  | some o => if o.k = 1 ∧ o.p = [] then d.dropLast else d
  | none => d
def mkOps (m : Mk) : List Opd := cutR (m.done ++ mkGap m)

/-- units without the last ones that retain without a patch -/
def trim : List Un → List Un
  | [] => []
  | u :: us => match trim us with
    | [] => if u = .ret [] then [] else [u]
    | v :: vs => u :: v :: vs
theorem trim_nil_iff {us : List Un} : trim us = [] ↔ ∀ u ∈ us, u = .ret [] := by
  induction us with
  | nil => simp [trim]
  | cons u us ih =>
    unfold trim
    cases ht : trim us with
    | nil =>
      have h1 := ih.1 ht
      simp only
      by_cases hu : u = .ret []
      · rw [if_pos hu]; simp only [true_iff]; intro v hv; rcases List.mem_cons.1 hv with rfl | hv; exact hu; exact h1 v hv
      · rw [if_neg hu]; simp only [reduceCtorEq, false_iff]; intro h; exact hu (h u (by simp))
    | cons v vs =>
      simp only [reduceCtorEq, false_iff]
      intro h
      have := ih.2 (fun w hw => h w (List.mem_cons_of_mem _ hw))
      rw [ht] at this; cases this
theorem trim_cons_ne {u : Un} {us : List Un} (h : trim us ≠ [] ∨ u ≠ .ret []) : trim (u :: us) = u :: trim us := by
  rw [trim]
  cases ht : trim us with
  | nil =>
    rcases h with h | h
    · exact absurd ht h
    · simp only; rw [if_neg h]
  | cons v vs => rfl
theorem trim_snoc_ne {us : List Un} {u : Un} (h : u ≠ .ret []) : trim (us ++ [u]) = us ++ [u] := by
  induction us with
  | nil => show trim [u] = [u]; rw [trim_cons_ne (.inr h)]; rfl
  | cons a us ih => show trim (a :: (us ++ [u])) = _; rw [trim_cons_ne (.inl (by rw [ih]; simp)), ih]; rfl
theorem trim_snoc {us : List Un} : trim (us ++ [.ret []]) = trim us := by
  induction us with
  | nil => rfl
  | cons a us ih => show trim (a :: (us ++ [.ret []])) = _; rw [trim, ih]; rfl
theorem trim_reps {us : List Un} (n : Nat) : trim (us ++ List.replicate n (.ret [])) = trim us := by
  induction n with
  | zero => simp
  | succ n ih => rw [List.replicate_succ', ← List.append_assoc, trim_snoc, ih]
theorem trim_last {us : List Un} (h : ∀ u, us.getLast? = some u → u ≠ .ret []) : trim us = us := by
  rcases List.eq_nil_or_concat us with rfl | ⟨t, u, rfl⟩
  · rfl
  · rw [List.concat_eq_append] at h ⊢
    exact trim_snoc_ne (h u (by simp))

theorem tight_append {x y : List Opd} (hx : tight x) (hy : tight y) (h : ∀ a b t, x.getLast? = some a → y = b :: t → canMerge a b = false) : tight (x ++ y) := by
  induction x with
  | nil => exact hy
  | cons a x ih =>
    obtain ⟨h1, h2, h3⟩ := hx
    refine ⟨h1, ?_, ih h3 (fun c b t hc hb => h c b t ?_ hb)⟩
    · cases x with
      | nil =>
        cases y with
        | nil => trivial
        | cons b t => exact h a b t rfl rfl
      | cons c x => exact h2
    · cases x with
      | nil => cases hc
      | cons d x => simpa using hc
theorem tight_front {x y : List Opd} (h : tight (x ++ y)) : tight x := by
  induction x with
  | nil => trivial
  | cons a x ih =>
    obtain ⟨h1, h2, h3⟩ := h
    refine ⟨h1, ?_, ih h3⟩
    cases x with
    | nil => trivial
    | cons b x => exact h2
theorem tight_mem {x : List Opd} (h : tight x) : ∀ o ∈ x, isOp o := by
  induction x with
  | nil => intro o ho; cases ho
  | cons a x ih =>
    intro o ho
    rcases List.mem_cons.1 ho with rfl | ho
    · exact h.1
    · exact ih h.2.2 o ho
theorem tight_lastIs {x : List Opd} {a b : Opd} (h : tight (x ++ [a])) (hb : isOp b) (hm : ∀ c, canMerge c a = false → canMerge c b = false) : tight (x ++ [b]) := by
  refine tight_append (tight_front h) ⟨hb, trivial, trivial⟩ (fun c d t hc hd => ?_)
  injection hd with hd _
  subst hd
  refine hm c ?_
  clear hm hb
  induction x with
  | nil => cases hc
  | cons e x ih =>
    obtain ⟨h1, h2, h3⟩ := h
    cases x with
    | nil => simp at hc; subst hc; exact h2
    | cons f x => exact ih h3 (by simpa using hc)
theorem last_split {x : List Opd} {o : Opd} (h : x.getLast? = some o) : x = x.dropLast ++ [o] := by
  rcases List.eq_nil_or_concat x with rfl | ⟨t, u, rfl⟩
  · cases h
  · rw [List.concat_eq_append] at h ⊢
    simp at h
    subst h
    simp
theorem merge_ret {a : Opd} {n m : Int} {p : List Ch} : canMerge a (opR n p) = canMerge a (opR m p) := rfl
theorem isOp_opR {n : Int} {p : List Ch} (h : 1 ≤ n) : isOp (opR n p) := .inr (.inr ⟨rfl, h, rfl, rfl⟩)
theorem isOp_opD {n : Int} (h : 1 ≤ n) : isOp (opD n) := .inr (.inl ⟨rfl, h, rfl, rfl, rfl⟩)
theorem isOp_opI {l : List Int} {s : List At} (h : l ≠ []) : isOp (opI l s) := .inl ⟨rfl, rfl, h, rfl⟩
theorem unitsO_R (n : Int) (p : List Ch) : unitsO (opR n p) = List.replicate n.toNat (.ret p) := rfl
theorem unitsO_D (n : Int) : unitsO (opD n) = List.replicate n.toNat .del := rfl
theorem unitsO_I (l : List Int) (s : List At) : unitsO (opI l s) = l.map (fun r => Un.ins r s) := rfl
theorem units_one (o : Opd) : units [o] = unitsO o := by simp [units]
theorem units_len_ge {x : List Opd} (h : tight x) {o : Opd} (ho : o ∈ x) (hk : o.k ≠ 2) : o.n ≤ (units x).length := by
  induction x with
  | nil => cases ho
  | cons a x ih =>
    rw [units_cons, List.length_append]
    rcases List.mem_cons.1 ho with rfl | hm
    · have : (unitsO o).length = o.n.toNat := by
        unfold unitsO
        rw [if_neg hk]
        split <;> simp
      have := h.1
      rcases this with h1 | h1 | h1 <;> omega
    · have := ih h.2.2 hm; omega

/-- a retain set behind tight ops -/
theorem addR_ok {d : List Opd} {n : Int} {p : List Ch} (hd : tight d) (hn : 1 ≤ n) (hb : (units d).length + n ≤ 4611686018427387904) :
    tight (addR d n p) ∧ units (addR d n p) = units d ++ List.replicate n.toNat (.ret p) ∧ (∃ o, (addR d n p).getLast? = some o ∧ o.k = 1) := by
  unfold addR
  cases hl : d.getLast? with
  | none =>
    have : d = [] := by simpa using hl
    subst this
    refine ⟨⟨isOp_opR hn, trivial, trivial⟩, ?_, opR n p, rfl, rfl⟩
    simp [units_one, units_nil, unitsO_R]
  | some o =>
    have e := last_split hl
    have hmem : o ∈ d := by rw [e]; simp
    have hop := tight_mem hd o hmem
    simp only
    by_cases hc : o.k = 1 ∧ o.p = p
    · rw [if_pos hc]
      obtain ⟨e1, h1⟩ := opR_of hop hc.1
      have hge := units_len_ge hd hmem (by rw [hc.1]; decide)
      have hw : IntKind.i64.wrap (o.n + n) = o.n + n := IntWalk.i64_in _ (by omega)
      have e2 : ({ o with n := IntKind.i64.wrap (o.n + n) } : Opd) = opR (o.n + n) p := by rw [hw, e1, hc.2]; rfl
      rw [e2]
      rw [e1, hc.2] at e
      refine ⟨tight_lastIs (a := opR o.n p) (by rw [← e]; exact hd) (isOp_opR (by omega)) (fun c h => h), ?_, opR (o.n + n) p, by simp, rfl⟩
      rw [units_append, units_one, unitsO_R]
      have : units d = units d.dropLast ++ List.replicate o.n.toNat (.ret p) := by
        conv => lhs; rw [e]
        rw [units_append, units_one, unitsO_R]
      rw [this, List.append_assoc, List.replicate_append_replicate]
      congr 2
      omega
    · rw [if_neg hc]
      refine ⟨tight_append hd ⟨isOp_opR hn, trivial, trivial⟩ (fun a b t ha hb => ?_), by rw [units_append, units_one, unitsO_R], opR n p, by simp, rfl⟩
      injection hb with hb _
      subst hb
      rw [hl] at ha; injection ha with ha; subst ha
      cases hm : canMerge o (opR n p) with
      | false => rfl
      | true =>
        exfalso
        refine hc ?_
        simp [canMerge, opR] at hm
        exact ⟨hm.1, of_decide_eq_true hm.2⟩
/-- an insert set behind tight inserts -/
theorem addI_ok {d : List Opd} {l : List Int} {s : List At} (hd : tight d) (h2 : ∀ o ∈ d, o.k = 2) (hl : l ≠ []) :
    tight (addI d l s) ∧ (∀ o ∈ addI d l s, o.k = 2) ∧ units (addI d l s) = units d ++ l.map (fun r => Un.ins r s) := by
  unfold addI
  cases hg : d.getLast? with
  | none =>
    have : d = [] := by simpa using hg
    subst this
    exact ⟨⟨isOp_opI hl, trivial, trivial⟩, by intro o ho; simp at ho; subst ho; rfl, by simp [units_one, units_nil, unitsO_I]⟩
  | some o =>
    have e := last_split hg
    have hmem : o ∈ d := by rw [e]; simp
    have hop := tight_mem hd o hmem
    have hk := h2 o hmem
    obtain ⟨e1, h1⟩ := opI_of hop hk
    simp only
    by_cases hc : o.s = s
    · rw [if_pos hc]
      have e2 : ({ o with r := o.r ++ l } : Opd) = opI (o.r ++ l) s := by rw [e1, hc]; rfl
      rw [e2]
      rw [e1, hc] at e
      refine ⟨tight_lastIs (a := opI o.r s) (by rw [← e]; exact hd) (isOp_opI (by simp [hl])) (fun c h => h), fun x hx => ?_, ?_⟩
      · rcases List.mem_append.1 hx with hx | hx
        · exact h2 x ((List.dropLast_sublist _).subset hx)
        · simp at hx; subst hx; rfl
      · rw [units_append, units_one, unitsO_I]
        have : units d = units d.dropLast ++ o.r.map (fun r => Un.ins r s) := by
          conv => lhs; rw [e]
          rw [units_append, units_one, unitsO_I]
        rw [this, List.append_assoc, List.map_append]
    · rw [if_neg hc]
      refine ⟨tight_append hd ⟨isOp_opI hl, trivial, trivial⟩ (fun a b t ha hb => ?_), fun x hx => ?_, by rw [units_append, units_one, unitsO_I]⟩
      · injection hb with hb _
        subst hb
        rw [hg] at ha; injection ha with ha; subst ha
        cases hm : canMerge o (opI l s) with
        | false => rfl
        | true =>
          exfalso
          refine hc ?_
          simp [canMerge, opI] at hm
          exact of_decide_eq_true hm.2
      · rcases List.mem_append.1 hx with hx | hx
        · exact h2 x hx
        · simp at hx; subst hx; rfl

/-- what a maker is at: the units up to the last retain, the inserts told since, and how many cells deleted -/
structure MkAt (m : Mk) (K : List Un) (I : List Un) (g : Nat) : Prop where
  d1 : tight m.done
  d2 : units m.done = K
  d3 : ∀ o, m.done.getLast? = some o → o.k = 1
  i1 : tight m.ins
  i2 : units m.ins = I
  i3 : ∀ o ∈ m.ins, o.k = 2
  g1 : m.gone = g
theorem MkAt.new : MkAt Mk.new [] [] 0 := ⟨trivial, rfl, (by intro o h; cases h), trivial, rfl, (by intro o h; cases h), rfl⟩
theorem merge_kinds {a b : Opd} (h : a.k ≠ b.k) : canMerge a b = false := by
  cases hm : canMerge a b with
  | false => rfl
  | true =>
    exfalso; apply h
    simp [canMerge] at hm
    rcases hm with (⟨⟨h1, h2⟩, _⟩ | ⟨h1, h2⟩) | ⟨⟨h1, h2⟩, _⟩ <;> rw [h1, h2]
theorem MkAt.all {m : Mk} {K I : List Un} {g : Nat} (h : MkAt m K I g) : tight (m.done ++ mkGap m) ∧ units (m.done ++ mkGap m) = K ++ I ++ List.replicate g .del := by
  have hgap : tight (mkGap m) ∧ units (mkGap m) = I ++ List.replicate g .del ∧ ∀ b t, mkGap m = b :: t → b.k ≠ 1 := by
    unfold mkGap
    by_cases hg : 0 < m.gone
    · rw [if_pos hg]
      refine ⟨tight_append h.i1 ⟨isOp_opD (by omega), trivial, trivial⟩ (fun a b t ha hb => ?_), ?_, fun b t hb => ?_⟩
      · injection hb with hb _; subst hb
        exact merge_kinds (by rw [h.i3 a (List.mem_of_getLast? ha)]; exact (show (2 : Int) ≠ 3 by decide))
      · rw [units_append, units_one, unitsO_D, h.i2, h.g1]; simp
      · cases hi : m.ins with
        | nil => rw [hi] at hb; injection hb with hb _; subst hb; exact (show (3 : Int) ≠ 1 by decide)
        | cons c x =>
          rw [hi] at hb; injection hb with hb _; subst hb
          rw [h.i3 c (by rw [hi]; simp)]; decide
    · rw [if_neg hg]
      have hg0 : g = 0 := by have := h.g1; omega
      subst hg0
      refine ⟨by rw [List.append_nil]; exact h.i1, by rw [List.append_nil, h.i2]; simp, fun b t hb => ?_⟩
      rw [List.append_nil] at hb
      rw [h.i3 b (by rw [hb]; simp)]; decide
  obtain ⟨h1, h2, h3⟩ := hgap
  refine ⟨tight_append h.d1 h1 (fun a b t ha hb => merge_kinds (by rw [h.d3 a ha]; exact fun e => h3 b t hb e.symm)), by rw [units_append, h.d2, h2, List.append_assoc]⟩
theorem MkAt.retain {m : Mk} {K I : List Un} {g : Nat} (h : MkAt m K I g) {n : Int} {p : List Ch} (hn : 1 ≤ n) (hb : (K.length + I.length + g : Nat) + n ≤ 4611686018427387904) :
    MkAt (mkRetain m n p) (K ++ I ++ List.replicate g .del ++ List.replicate n.toNat (.ret p)) [] 0 := by
  obtain ⟨h1, h2⟩ := h.all
  obtain ⟨g1, g2, o, g3, g4⟩ := addR_ok (p := p) h1 hn (by rw [h2]; simp only [List.length_append, List.length_replicate]; exact hb)
  unfold mkRetain
  rw [if_neg (by omega)]
  refine ⟨g1, by rw [g2, h2], fun x hx => ?_, trivial, rfl, (by intro o ho; cases ho), rfl⟩
  rw [g3] at hx; injection hx with hx; subst hx; exact g4
theorem MkAt.retain0 {m : Mk} {K I : List Un} {g : Nat} (h : MkAt m K I g) {n : Int} {p : List Ch} (hn : n < 1) : MkAt (mkRetain m n p) K I g := by
  unfold mkRetain; rw [if_pos hn]; exact h
theorem MkAt.insert {m : Mk} {K I : List Un} {g : Nat} (h : MkAt m K I g) (l : List Int) (s : List At) :
    MkAt (mkInsert m l s) K (I ++ l.map (fun r => Un.ins r s)) g := by
  unfold mkInsert
  by_cases hl : l = []
  · rw [if_pos hl, hl]; simpa using h
  · rw [if_neg hl]
    obtain ⟨g1, g2, g3⟩ := addI_ok (s := s) h.i1 h.i3 hl
    exact ⟨h.d1, h.d2, h.d3, g1, by rw [g3, h.i2], g2, h.g1⟩
theorem MkAt.delete {m : Mk} {K I : List Un} {g : Nat} (h : MkAt m K I g) {n : Int} (hb : (g : Int) + n ≤ 4611686018427387904) (hg : g ≤ 4611686018427387904) :
    MkAt (mkDelete m n) K I (g + n.toNat) := by
  refine ⟨h.d1, h.d2, h.d3, h.i1, h.i2, h.i3, ?_⟩
  show IntKind.i64.wrap (m.gone + (if n < 0 then 0 else n)) = _
  rw [h.g1]
  have : (if n < 0 then 0 else n) = (n.toNat : Int) := by split <;> omega
  rw [this, IntWalk.i64_in _ (by omega)]
  omega
theorem MkAt.ops {m : Mk} {K I : List Un} {g : Nat} (h : MkAt m K I g) : tight (mkOps m) ∧ units (mkOps m) = trim (K ++ I ++ List.replicate g .del) := by
  obtain ⟨h1, h2⟩ := h.all
  unfold mkOps cutR
  rw [← h2]
  generalize m.done ++ mkGap m = x at *
  cases hl : x.getLast? with
  | none =>
    have : x = [] := by simpa using hl
    subst this
    exact ⟨trivial, rfl⟩
  | some o =>
    have e := last_split hl
    have hop := tight_mem h1 o (by rw [e]; simp)
    simp only
    have hT : tight (x.dropLast ++ [o]) := by rw [← e]; exact h1
    by_cases hc : o.k = 1 ∧ o.p = []
    · rw [if_pos hc]
      obtain ⟨e1, hn⟩ := opR_of hop hc.1
      rw [hc.2] at e1
      refine ⟨tight_front hT, ?_⟩
      have e2 : units x = units x.dropLast ++ List.replicate o.n.toNat (.ret []) := by
        conv => lhs; rw [e, e1]
        rw [units_append, units_one, unitsO_R]
      rw [e2, trim_reps]
      symm
      refine trim_last (fun u hu hr => ?_)
      subst hr
      -- the op ahead would be one with the last
      rcases List.eq_nil_or_concat x.dropLast with h0 | ⟨t, c, h0⟩
      · rw [h0] at hu; cases hu
      · rw [List.concat_eq_append] at h0
        rw [h0] at hu hT
        rw [units_append, units_one] at hu
        have hc1 := tight_mem hT c (by simp)
        have hcm : canMerge c o = false := by
          have : ∀ (t : List Opd), tight (t ++ [c] ++ [o]) → canMerge c o = false := by
            intro t
            induction t with
            | nil => intro h; exact h.2.1
            | cons d t ih => intro h; exact ih h.2.2
          exact this t hT
        rcases isOp_kind hc1 with hk | hk | hk
        · obtain ⟨ec, hr⟩ := opI_of hc1 hk
          rw [ec, unitsO_I] at hu
          rcases List.eq_nil_or_concat c.r with h5 | ⟨q, z, h5⟩
          · exact hr h5
          · rw [h5, List.concat_eq_append, List.map_append] at hu
            simp at hu
        · obtain ⟨ec, hr⟩ := opD_of hc1 hk
          rw [ec, unitsO_D] at hu
          obtain ⟨q, hq⟩ : ∃ q, c.n.toNat = q + 1 := ⟨c.n.toNat - 1, by omega⟩
          rw [hq, List.replicate_succ'] at hu
          simp at hu
        · obtain ⟨ec, hr⟩ := opR_of hc1 hk
          rw [ec, unitsO_R] at hu
          obtain ⟨q, hq⟩ : ∃ q, c.n.toNat = q + 1 := ⟨c.n.toNat - 1, by omega⟩
          rw [hq, List.replicate_succ'] at hu
          simp at hu
          rw [ec, e1, hu] at hcm
          simp [canMerge, opR] at hcm
    · rw [if_neg hc]
      refine ⟨h1, ?_⟩
      symm
      refine trim_last (fun u hu hr => ?_)
      subst hr
      rw [e, units_append, units_one] at hu
      rcases isOp_kind hop with hk | hk | hk
      · obtain ⟨ec, hr⟩ := opI_of hop hk
        rw [ec, unitsO_I] at hu
        rcases List.eq_nil_or_concat o.r with h5 | ⟨q, z, h5⟩
        · exact hr h5
        · rw [h5, List.concat_eq_append, List.map_append] at hu
          simp at hu
      · obtain ⟨ec, hr⟩ := opD_of hop hk
        rw [ec, unitsO_D] at hu
        obtain ⟨q, hq⟩ : ∃ q, o.n.toNat = q + 1 := ⟨o.n.toNat - 1, by omega⟩
        rw [hq, List.replicate_succ'] at hu
        simp at hu
      · obtain ⟨ec, hr⟩ := opR_of hop hk
        rw [ec, unitsO_R] at hu
        obtain ⟨q, hq⟩ : ∃ q, o.n.toNat = q + 1 := ⟨o.n.toNat - 1, by omega⟩
        rw [hq, List.replicate_succ'] at hu
        simp at hu
        exact hc ⟨hk, hu⟩
end Go.Proofs.YtipoeidmblnbbaaDoor
/- Footprints: what may be written, and what stays while it grows. Nothing of the program stands here. -/
namespace Go.Proofs.YtipoeidmblnbbaaDoor
open Go.RowKit
set_option linter.unusedVariables false
set_option linter.unusedSimpArgs false

/-- from w to w' only blocks of F were written, and what may be written then is of F or new -/
structure Grow (w : World) (F : Nat → Prop) (w' : World) (F' : Nat → Prop) : Prop where
  os : w'.os = w.os
  tape : w'.tape = w.tape
  output : w'.output = w.output
  size : w.heap.size ≤ w'.heap.size
  block : ∀ j, j < w.heap.size → ¬ F j → w'.heap[j]? = w.heap[j]?
  foot : ∀ k, F' k → F k ∨ w.heap.size ≤ k
theorem Grow.refl (w : World) (F : Nat → Prop) : Grow w F w F := ⟨rfl, rfl, rfl, Nat.le_refl _, fun _ _ _ => rfl, fun _ h => .inl h⟩
theorem Grow.trans {a b c : World} {F G H : Nat → Prop} (h : Grow a F b G) (h' : Grow b G c H) : Grow a F c H :=
  ⟨h'.os.trans h.os, h'.tape.trans h.tape, h'.output.trans h.output, Nat.le_trans h.size h'.size,
    fun j hj hn => (h'.block j (Nat.lt_of_lt_of_le hj h.size) (fun hg => by rcases h.foot j hg with h1 | h1; exact hn h1; omega)).trans (h.block j hj hn),
    fun k hk => by
      rcases h'.foot k hk with h1 | h1
      · exact h.foot k h1
      · have := h.size; exact .inr (by omega)⟩
theorem Grow.of {w w' : World} {F : Nat → Prop} (y : Below w.heap.size w w') : Grow w F w' F := ⟨y.os, y.tape, y.output, y.size, fun j hj _ => y.block j hj, fun _ h => .inl h⟩
theorem Grow.less {w w' : World} {F G H : Nat → Prop} (h : Grow w F w' G) (hs : ∀ k, H k → G k ∨ w.heap.size ≤ k) : Grow w F w' H :=
  ⟨h.os, h.tape, h.output, h.size, h.block, fun k hk => by rcases hs k hk with h1 | h1; exact h.foot k h1; exact .inr h1⟩
theorem Grow.below {w w' : World} {F G : Nat → Prop} {B : Nat} (h : Grow w F w' G) (hF : ∀ k, F k → B ≤ k) (hB : B ≤ w.heap.size) : Below B w w' :=
  ⟨h.os, h.tape, h.output, h.size, fun j hj => h.block j (by omega) (fun hf => by have := hF j hf; omega)⟩
/-- the footprint stays at or behind a block -/
theorem Grow.low {w w' : World} {F G : Nat → Prop} {B : Nat} (h : Grow w F w' G) (hF : ∀ k, F k → B ≤ k) (hB : B ≤ w.heap.size) : ∀ k, G k → B ≤ k := fun k hk => by
  rcases h.foot k hk with h1 | h1
  · exact hF k h1
  · omega
/-- a block that is there and may not be written may not be written later -/
theorem Grow.out {w w' : World} {F G : Nat → Prop} (h : Grow w F w' G) {k : Nat} (hk : k < w.heap.size) (hn : ¬ F k) : ¬ G k := fun hg => by
  rcases h.foot k hg with h1 | h1
  · exact hn h1
  · omega
/-- the slice at A does not lie where may be written -/
def OffF (F : Nat → Prop) (A : Option Addr) (n : Nat) : Prop := ∀ ad, A = some ad → 0 < n → ¬ F ad.block
section
variable {α : Type} {enc : α → List Value} {size : Nat} {e : TypeId} {w w' : World} {F G : Nat → Prop} {A : Option Addr} {l : List α} {v : Value} {base : Nat}
theorem Rd.grow (h : Rd enc size w w.heap.size A l) (g : Grow w F w' G) (hn : OffF F A l.length) : Rd enc size w' w'.heap.size A l := fun hl => by
  obtain ⟨ad, e, hb, hc⟩ := h hl
  have hne := hn ad e hl
  exact ⟨ad, e, Nat.lt_of_lt_of_le hb g.size, fun i hi => (hc i hi).keep fun q hq => by
    have hqb : q.block = ad.block := by rw [hq, add_block]
    simp only [World.cell?]
    rw [hqb, g.block ad.block hb hne]⟩
theorem OffF.grow (h : OffF F A l.length) (hr : Rd enc size w w.heap.size A l) (g : Grow w F w' G) : OffF G A l.length := fun ad e hl => by
  obtain ⟨ad', e', hb, _⟩ := hr hl
  rw [e] at e'; injection e' with e'; subst e'
  exact g.out hb (h ad e hl)
theorem OffF.zero : OffF F A 0 := fun _ _ h => absurd h (Nat.lt_irrefl _)
theorem OffF.less {H : Nat → Prop} {n : Nat} (h : OffF F A n) (hs : ∀ k, H k → F k) : OffF H A n := fun ad e hl hk => h ad e hl (hs _ hk)
theorem Ow.grow (h : Ow enc size e w base v l) (g : Grow w F w' G) (hn : ∀ k, wb v = some k → ¬ F k) : Ow enc size e w' base v l :=
  h.keep fun k hk => g.block k (h.wb_lt k hk).2 (hn k hk)
/-- what lies below a bound that the footprint keeps to is off it -/
theorem offF_low {B : Nat} {n : Nat} (hF : ∀ k, F k → B ≤ k) (h : ∀ ad, A = some ad → 0 < n → ad.block < B) : OffF F A n := fun ad e hl hk => by
  have := hF _ hk; have := h ad e hl; omega
/-- what reads below B -/
theorem Rd.offF {B : Nat} (h : Rd enc size w B A l) (hF : ∀ k, F k → B ≤ k) : OffF F A l.length := offF_low hF fun ad e hl => by
  obtain ⟨ad', e', hb, _⟩ := h hl
  rw [e] at e'; injection e' with e'; subst e'; exact hb
/-- an own row is off a footprint that its block is not in -/
theorem Ow.offF {n c : Nat} (hs : ∀ a, (enc a).length = size) (h : Ow enc size e w base (.slice A n c) l) (hn : n = l.length) (hF : ∀ k, wb (.slice A n c) = some k → ¬ F k) : OffF F A n := fun ad ea hl hk => by
  subst ea
  have hc := h.form
  obtain ⟨A', c', hv, h1, _⟩ := hc
  injection hv with _ _ hcc
  subst hcc
  cases c with
  | zero => omega
  | succ c => exact hF _ rfl hk
end
/-- the own row's blocks and the write of an element's cell -/
theorem heap_setCell_self {w : World} {b j : Nat} {cs : Array Value} {t : TypeId} (h : w.heap[b]? = some (.cells cs t (0, 0))) (u : Value) : (w.setCell ⟨b, j, none⟩ u).heap[b]? = some (.cells (cs.setIfInBounds j u) t (0, 0)) := by
  have hb := blk_lt h
  have he : w.heap[b] = .cells cs t (0, 0) := by
    have := h
    rw [Array.getElem?_eq_getElem hb] at this
    injection this
  unfold World.setCell
  rw [Array.getElem?_eq_getElem (by simpa using hb), Array.getElem_modify]
  simp [he]
end Go.Proofs.YtipoeidmblnbbaaDoor
/- A maker of normal forms in memory, and the walks of New, Delete and gap. -/
namespace Go.Proofs.YtipoeidmblnbbaaDoor
open Go.RowKit
set_option linter.unusedVariables false
set_option linter.unusedSimpArgs false

/-- the parts of an op read, and lie where is not written -/
def PartF (w : World) (F : Nat → Prop) (x : OpS) : Prop :=
  (RdI32 w w.heap.size x.Ar x.o.r ∧ OffF F x.Ar x.o.r.length) ∧ (RdAt w w.heap.size x.As x.o.s ∧ OffF F x.As x.o.s.length) ∧ (RdCh w w.heap.size x.Ap x.o.p ∧ OffF F x.Ap x.o.p.length)
theorem PartF.grow {w w' : World} {F G : Nat → Prop} {x : OpS} (h : PartF w F x) (g : Grow w F w' G) : PartF w' G x :=
  ⟨⟨h.1.1.grow g h.1.2, h.1.2.grow h.1.1 g⟩, ⟨h.2.1.1.grow g h.2.1.2, h.2.1.2.grow h.2.1.1 g⟩, ⟨h.2.2.1.grow g h.2.2.2, h.2.2.2.grow h.2.2.1 g⟩⟩
theorem PartF.less {w : World} {F G : Nat → Prop} {x : OpS} (h : PartF w F x) (hs : ∀ k, G k → F k) : PartF w G x :=
  ⟨⟨h.1.1, h.1.2.less hs⟩, ⟨h.2.1.1, h.2.1.2.less hs⟩, ⟨h.2.2.1, h.2.2.2.less hs⟩⟩
/-- the runes of the last insert are the maker's own -/
def LastF (w : World) (F : Nat → Prop) (b : Nat) (vd vi : Value) (x : OpS) : Prop :=
  OwI32 w 0 (.slice x.Ar x.o.r.length x.cr) x.o.r ∧ (∀ k, wb (.slice x.Ar x.o.r.length x.cr) = some k → F k ∧ k ≠ b ∧ wb vd ≠ some k ∧ wb vi ≠ some k) ∧
  (RdAt w w.heap.size x.As x.o.s ∧ OffF F x.As x.o.s.length) ∧ (RdCh w w.heap.size x.Ap x.o.p ∧ OffF F x.Ap x.o.p.length)
/-- what the parts of the inserts are -/
def InsF (w : World) (F : Nat → Prop) (b : Nat) (vd vi : Value) (I : List OpS) : Prop :=
  (∀ x ∈ I.dropLast, PartF w F x) ∧ ∀ x, I.getLast? = some x → LastF w F b vd vi x
/-- block b holds a maker m; F: what it may write -/
def Mkr (w : World) (F : Nat → Prop) (b : Nat) (m : Mk) : Prop :=
  ∃ (vd vi : Value) (D I : List OpS), w.heap[b]? = some (.cells #[vd, vi, .int .i64 m.gone] 113 (0, 0)) ∧
    OwOs w 0 vd D ∧ OwOs w 0 vi I ∧ osOf D = m.done ∧ osOf I = m.ins ∧
    (∀ k, F k → k < w.heap.size) ∧ F b ∧ (∀ k, wb vd = some k → F k ∧ k ≠ b ∧ wb vi ≠ some k) ∧ (∀ k, wb vi = some k → F k ∧ k ≠ b) ∧
    (∀ x ∈ D, PartF w F x) ∧ InsF w F b vd vi I
theorem box_3 {w : World} {b : Nat} {t : TypeId} {c0 c1 c2 : Value} (h : w.heap[b]? = some (.cells #[c0, c1, c2] t (0, 0))) : w.cell? ⟨b, 0, none⟩ = some c0 ∧ w.cell? ⟨b, 1, none⟩ = some c1 ∧ w.cell? ⟨b, 2, none⟩ = some c2 := by
  simp [World.cell?, h]
theorem Mkr.lt {w : World} {F : Nat → Prop} {b : Nat} {m : Mk} (h : Mkr w F b m) : ∀ k, F k → k < w.heap.size := by
  obtain ⟨_, _, _, _, _, _, _, _, _, h1, _⟩ := h; exact h1
/-- a maker stays while nothing of it is written -/
theorem Mkr.below {w w' : World} {F : Nat → Prop} {b : Nat} {m : Mk} (h : Mkr w F b m) (y : Below w.heap.size w w') : Mkr w' F b m := by
  obtain ⟨vd, vi, D, I, h1, h2, h3, h4, h5, h6, h7, h8, h9, h10, h11, h12⟩ := h
  have g := Grow.of (F := F) y
  refine ⟨vd, vi, D, I, (y.block b (lt_of_some h1)).trans h1, h2.below y (Nat.le_refl _), h3.below y (Nat.le_refl _), h4, h5, fun k hk => Nat.lt_of_lt_of_le (h6 k hk) y.size, h7, h8, h9, fun x hx => (h10 x hx).grow g, fun x hx => (h11 x hx).grow g, fun x hx => ?_⟩
  obtain ⟨e1, e2, e3, e4⟩ := h12 x hx
  exact ⟨e1.below y (Nat.le_refl _), e2, ⟨e3.1.grow g e3.2, e3.2.grow e3.1 g⟩, ⟨e4.1.grow g e4.2, e4.2.grow e4.1 g⟩⟩

set_option maxHeartbeats 800000 in
theorem mkNew_any (w : World) : Calls Tryd.prog 44 #[] w fun e w' => e = .returned (.pointer (some ⟨w.heap.size, 0, none⟩)) ∧ Mkr w' (fun k => k = w.heap.size) w.heap.size Mk.new ∧ Below w.heap.size w w' := by
  have y := ext_alloc w (.cells #[.slice none 0 0, .slice none 0 0, .int .i64 0] 113)
  have hb := heap_alloc_new w (.cells #[.slice none 0 0, .slice none 0 0, .int .i64 0] 113)
  have HB := Lib.hid hb
  clear hb
  go_enter Tryd.func44, Tryd.ntmps44
  go_wp2_with (fail)
  go_ret
  refine ⟨rfl, ⟨.slice none 0 0, .slice none 0 0, [], [], HB.out, Ow.nil _ _, Ow.nil _ _, rfl, rfl, fun k hk => (by subst hk; simp), rfl, fun k hk => (by cases hk), fun k hk => (by cases hk), fun x hx => (by cases hx), fun x hx => (by cases hx), fun x hx => (by cases hx)⟩, y⟩

theorem setCell_below {w : World} (b j : Nat) (u : Value) {F : Nat → Prop} (hF : F b) (t : TypeId) : Grow w F (w.setCell ⟨b, j, none⟩ u) F :=
  ⟨rfl, rfl, rfl, by simp [World.setCell], fun k _ hk => Below.heap_setCell w ⟨b, j, none⟩ u k (fun e => hk (e ▸ hF)), fun k h => .inl h⟩
/-- what a call on a maker leaves -/
def MkOut (m : Mk) (w : World) (F : Nat → Prop) (b : Nat) (e : Ending) (w' : World) : Prop :=
  e = .returned (.tuple #[]) ∧ ∃ F', Mkr w' F' b m ∧ Grow w F w' F'
theorem owOs_set {w : World} {v : Value} {l : List OpS} (h : OwOs w 0 v l) {b j : Nat} (hp : ∀ k, wb v = some k → k ≠ b) (u : Value) : OwOs (w.setCell ⟨b, j, none⟩ u) 0 v l :=
  h.setCell (p := ⟨b, j, none⟩) (fun e => hp b e rfl) u
theorem Mkr.setGone {w : World} {F : Nat → Prop} {b : Nat} {m : Mk} (h : Mkr w F b m) (g : Int) : Mkr (w.setCell ⟨b, 2, none⟩ (.int .i64 g)) F b { m with gone := g } := by
  obtain ⟨vd, vi, D, I, h1, h2, h3, h4, h5, h6, h7, h8, h9, h10, h11, h12⟩ := h
  have gr := setCell_below (w := w) b 2 (.int .i64 g) h7 0
  refine ⟨vd, vi, D, I, ?_, owOs_set h2 (fun k hk => (h8 k hk).2.1) _, owOs_set h3 (fun k hk => (h9 k hk).2) _, h4, h5, fun k hk => Nat.lt_of_lt_of_le (h6 k hk) gr.size, h7, h8, h9, fun x hx => (h10 x hx).grow gr, fun x hx => (h11 x hx).grow gr, fun x hx => ?_⟩
  · rw [heap_setCell_self h1]; rfl
  · obtain ⟨e1, e2, e3, e4⟩ := h12 x hx
    exact ⟨e1.setCell (p := ⟨b, 2, none⟩) (fun e => (e2 b e).2.1 rfl) _, e2, ⟨e3.1.grow gr e3.2, e3.2.grow e3.1 gr⟩, ⟨e4.1.grow gr e4.2, e4.2.grow e4.1 gr⟩⟩
theorem Mkr.box {w : World} {F : Nat → Prop} {b : Nat} {m : Mk} (h : Mkr w F b m) : ∃ vd vi : Value, w.heap[b]? = some (.cells #[vd, vi, .int .i64 m.gone] 113 (0, 0)) ∧ F b := by
  obtain ⟨vd, vi, _, _, h1, _, _, _, _, _, h7, _⟩ := h
  exact ⟨vd, vi, h1, h7⟩
theorem box_thaw {w : World} {b : Nat} {cs : Array Value} {t : TypeId} (h : w.heap[b]? = some (.cells cs t (0, 0))) (j : Nat) : w.frozen? ⟨b, j, none⟩ = false := by simp [World.frozen?, h]

set_option maxHeartbeats 800000 in
theorem mkDelete_any (b : Nat) (n : Int) (w : World) (F : Nat → Prop) (m : Mk) (h : Mkr w F b m) :
    Calls Tryd.prog 53 #[.pointer (some ⟨b, 0, none⟩), .int .i64 n] w (MkOut (mkDelete m n) w F b) := by
  obtain ⟨vd, vi, h1, h7⟩ := h.box
  obtain ⟨W, hW⟩ : ∃ X, IntKind.i64.wrap (m.gone + (if n < 0 then 0 else n)) = X := ⟨_, rfl⟩
  have hs := h.setGone W
  have hm : ({ m with gone := W } : Mk) = mkDelete m n := by unfold mkDelete; rw [hW]
  rw [hm] at hs
  have gr := setCell_below (w := w) b 2 (.int .i64 W) h7 0
  have HS := Lib.hid hs
  have HW := Lib.hid hW
  obtain ⟨c0, c1, c2⟩ := box_3 h1
  have hf := box_thaw h1 2
  have hlt := lt_of_some h1
  generalize hg : m.gone = g at *
  clear hm hs hW h1 h
  have e : Hid (wrap64 (g + max n 0) = W) := Lib.hid (by
    have e0 : g + max n 0 = g + (if n < 0 then 0 else n) := by split <;> omega
    rw [e0, ← HW.out, IntWalk.i64_left])
  go_enter Tryd.func53, Tryd.ntmps53
  go_wp2_with (fail)
  refine bodyPost_ret (results_none rfl _ _ _) rfl ?_
  rw [e.out]
  exact ⟨rfl, F, HS.out, gr⟩
end Go.Proofs.YtipoeidmblnbbaaDoor
/- The walk of (*normal.Maker).gap. -/
namespace Go.Proofs.YtipoeidmblnbbaaDoor
open Go.RowKit
set_option linter.unusedVariables false
set_option linter.unusedSimpArgs false

def delS (g : Int) : OpS := ⟨opD g, none, 0, none, 0, none, 0⟩
def gapS (I : List OpS) (g : Int) : List OpS := I ++ (if 0 < g then [delS g] else [])
theorem gapS_os (I : List OpS) (g : Int) : osOf (gapS I g) = osOf I ++ (if 0 < g then [opD g] else []) := by
  unfold gapS osOf
  split <;> simp [delS]
theorem gapS_len (I : List OpS) (g : Int) : (gapS I g).length ≤ I.length + 1 := by unfold gapS; split <;> simp

set_option maxRecDepth 100000 in
set_option maxHeartbeats 800000 in
theorem gap_any (b : Nat) (vd : Value) (Ai : Option Addr) (ni ci : Nat) (g : Int) (I : List OpS) (w : World) (h1 : w.heap[b]? = some (.cells #[vd, .slice Ai ni ci, .int .i64 g] 113 (0, 0)))
    (hn : ni = I.length) (hr : RdOs w w.heap.size Ai I) (hb : ni ≤ 10000000) :
    Calls Tryd.prog 71 #[.pointer (some ⟨b, 0, none⟩)] w (NewOs (gapS I g) w) := by
  have N := Lib.hid hn
  have H1 := Lib.hid h1
  obtain ⟨c0, c1, c2⟩ := box_3 h1
  clear hn h1
  go_enter Tryd.func71, Tryd.ntmps71
  go_wp2_with (go_at_call 105; refine Hid.out ?_)
  refine Lib.hid ?_
  refine (cloneOs_any Ai ni ci I w N.out hr (by omega)).mono ?_
  rintro e w1 ⟨A1, k1, rfl, ho, y⟩
  obtain ⟨d0, d1, d2⟩ := box_3 ((y.block b (lt_of_some H1.out)).trans H1.out)
  have HO := Lib.hid ho
  clear ho c0 c1 c2
  by_cases hg : 0 < g
  · have e1 : gapS I g = I ++ [delS g] := by unfold gapS; rw [if_pos hg]
    have E1 := Lib.hid e1
    clear e1
    go_wp2_with (at_builtin; refine app_os (m := [delS g]) rfl (.tmp 14) (.tmp 20) rfl rfl (by exact HO.out.alloc _) _ _ 1 1 rfl rfl (by exact rd_one (enc := OpS.enc) (size := 5) _ _ (delS g) rfl) (by have := N.out; simp only [List.length_singleton]; omega) (by exact Nat.le_trans y.size (le_alloc _ _)) ?_; intro v' w' hown' hgr hv')
    have s1 := below_app (y.alloc y.size _) (by exact Nat.le_trans y.size (le_alloc _ _)) (HO.out.alloc _) (Nat.le_refl _) hgr
    rw [← E1.out] at hown'
    obtain ⟨A', c', rfl, _, _⟩ := hown'.form
    have HOW := Lib.hid hown'
    clear hown'
    go_ret
    exact ⟨A', c', rfl, HOW.out, s1⟩
  · have e1 : gapS I g = I := by unfold gapS; rw [if_neg hg]; simp
    have E1 := Lib.hid e1
    clear e1
    go_wp2_with (fail)
    go_ret
    unfold NewOs
    rw [E1.out]
    exact ⟨A1, k1, rfl, HO.out, y⟩
end Go.Proofs.YtipoeidmblnbbaaDoor
/- A write of one cell of an element of a row of the call's own. Nothing of the program stands here. -/
namespace Go.Proofs.YtipoeidmblnbbaaDoor
open Go.RowKit
set_option linter.unusedVariables false
set_option linter.unusedSimpArgs false

section
variable {α : Type} {enc : α → List Value} {size : Nat} {e : TypeId} {w : World} {base : Nat} {l : List α}
theorem flat_set (hs : ∀ a, (enc a).length = size) : ∀ (l : List α) (i j : Nat) (u : Value) (a' : α) (h : i < l.length), j < size → enc a' = (enc l[i]).set j u → (l.set i a').flatMap enc = (l.flatMap enc).set (i * size + j) u
  | [], i, j, u, a', h, _, _ => absurd h (by simp)
  | a :: l, 0, j, u, a', _, hj, he => by
    simp only [List.set_cons_zero, List.flatMap_cons, Nat.zero_mul, Nat.zero_add]
    rw [he, List.set_append_left _ _ (by rw [hs]; exact hj)]
    rfl
  | a :: l, i + 1, j, u, a', h, hj, he => by
    have ih := flat_set hs l i j u a' (by simpa using h) hj (by simpa using he)
    simp only [List.set_cons_succ, List.flatMap_cons]
    rw [ih, List.set_append_right _ _ (by rw [hs, Nat.add_mul]; omega), hs]
    congr 2
    rw [Nat.add_mul]; omega
theorem Ow.setEl (hs : ∀ a, (enc a).length = size) {g n c i j : Nat} {u : Value} {a' : α} (h : Ow enc size e w base (.slice (some ⟨g, 0, none⟩) n c) l) (hi : i < l.length) (hj : j < size)
    (he : enc a' = (enc l[i]).set j u) : Ow enc size e (w.setCell ⟨g, i * size + j, none⟩ u) base (.slice (some ⟨g, 0, none⟩) n c) (l.set i a') := by
  obtain ⟨g', cur, hA, hn, hbg, hg, hlc, hcm, hcur, htake⟩ := h.row (by omega)
  injection hA with hA
  injection hA with hA _ _
  subst hA
  refine .inr ⟨flat_len hs _, .inr ⟨g, c, cur.setIfInBounds (i * size + j) u, by rw [List.length_set, hn], hbg, heap_setCell_self hg u, by rw [List.length_set]; exact hlc, hcm, by simpa using hcur, ?_⟩⟩
  rw [flat_set hs l i j u a' hi hj he, ← htake]
  simp only [Array.toList_setIfInBounds, List.length_set]
  rw [List.take_set]
end
end Go.Proofs.YtipoeidmblnbbaaDoor
/- The search of a key by halves: cmp.Compare, slices.BinarySearchFunc, attrs.find, attrs.Get. -/
namespace Go.Proofs.YtipoeidmblnbbaaDoor
open Go.RowKit
set_option linter.unusedVariables false
set_option linter.unusedSimpArgs false

theorem rise_head {a : Int} {l : List Int} (h : rise (a :: l) = true) : ∀ b ∈ l, a < b := by
  induction l generalizing a with
  | nil => intro b hb; simp at hb
  | cons c l ih =>
    simp only [rise, Bool.and_eq_true, decide_eq_true_eq] at h
    intro b hb
    rcases List.mem_cons.1 hb with rfl | hb
    · exact h.1
    · have := ih h.2 b hb; omega
theorem rise_tail {a : Int} {l : List Int} (h : rise (a :: l) = true) : rise l = true := by
  cases l with
  | nil => rfl
  | cons c l => simp only [rise, Bool.and_eq_true] at h; exact h.2
theorem rise_lt {l : List At} (h : riseA l = true) : ∀ {x y : Nat} {a b : At}, x < y → l[x]? = some a → l[y]? = some b → a.key < b.key := by
  induction l with
  | nil => intro x y a b _ h1; simp at h1
  | cons c l ih =>
    intro x y a b hxy h1 h2
    have ht : riseA l = true := rise_tail (a := c.key) (l := l.map At.key) h
    cases y with
    | zero => omega
    | succ y =>
      cases x with
      | zero =>
        simp at h1 h2
        subst h1
        exact rise_head (a := c.key) (l := l.map At.key) h _ (List.mem_map.2 ⟨b, List.mem_of_getElem? h2, rfl⟩)
      | succ x => exact ih ht (Nat.lt_of_succ_lt_succ hxy) (by rw [List.getElem?_cons_succ] at h1; exact h1) (by rw [List.getElem?_cons_succ] at h2; exact h2)

def cmpI (a b : Int) : Int := if a < b then -1 else if b < a then 1 else 0

/-- what the halving knows: keys ahead of i are less, those from j on are not -/
def BsInv (l : List At) (key : Int) (i j : Nat) : Prop :=
  i ≤ j ∧ j ≤ l.length ∧ (riseA l = true → (∀ x a, x < i → l[x]? = some a → a.key < key) ∧ ∀ x a, j ≤ x → l[x]? = some a → key ≤ a.key)
def FindOut (l : List At) (key : Int) (i : Nat) (b : Bool) : Prop :=
  i ≤ l.length ∧ (b = true ↔ ∃ a, l[i]? = some a ∧ a.key = key) ∧ (riseA l = true → (∀ x a, x < i → l[x]? = some a → a.key < key) ∧ ∀ x a, i ≤ x → l[x]? = some a → key ≤ a.key)
theorem BsInv.start (l : List At) (key : Int) : BsInv l key 0 l.length :=
  ⟨Nat.zero_le _, Nat.le_refl _, fun _ => ⟨fun x a h => by omega, fun x a h h1 => by rw [List.getElem?_eq_none h] at h1; cases h1⟩⟩
theorem BsInv.up {l : List At} {key : Int} {i j h : Nat} {a : At} (v : BsInv l key i j) (h2 : h < j) (ha : l[h]? = some a) (hk : a.key < key) : BsInv l key (h + 1) j :=
  ⟨h2, v.2.1, fun r => ⟨fun x b hx hb => by
    rcases Nat.lt_or_ge x h with hlt | hge
    · have := rise_lt r hlt hb ha; omega
    · have : x = h := by omega
      subst this
      rw [ha] at hb; injection hb with hb; subst hb; exact hk, (v.2.2 r).2⟩⟩
theorem BsInv.down {l : List At} {key : Int} {i j h : Nat} {a : At} (v : BsInv l key i j) (h1 : i ≤ h) (h2 : h < j) (ha : l[h]? = some a) (hk : ¬ a.key < key) : BsInv l key i h :=
  ⟨h1, by have := v.2.1; omega, fun r => ⟨(v.2.2 r).1, fun x b hx hb => by
    rcases Nat.lt_or_ge h x with hlt | hge
    · have := rise_lt r hlt ha hb; omega
    · have : x = h := by omega
      subst this
      rw [ha] at hb; injection hb with hb; subst hb; omega⟩⟩
theorem BsInv.done {l : List At} {key : Int} {i j : Nat} {b : Bool} (v : BsInv l key i j) (hij : ¬ i < j) (hb : b = true ↔ ∃ a, l[i]? = some a ∧ a.key = key) : FindOut l key i b := by
  obtain ⟨h1, h2, h3⟩ := v
  have : i = j := by omega
  subst this
  exact ⟨h2, hb, h3⟩

set_option maxHeartbeats 400000 in
theorem cmpNaN_any (x : Int) (w : World) : Calls Tryd.prog 60 #[.int .i64 x] w fun e w' => e = .returned (.bool false) ∧ w = w' := by
  go_enter Tryd.func60, Tryd.ntmps60
  go_wp2
  go_ret
  exact ⟨by simp, rfl⟩

set_option maxHeartbeats 400000 in
theorem compare_any (x y : Int) (w : World) : Calls Tryd.prog 28 #[.int .i64 x, .int .i64 y] w fun e w' => e = .returned (.int .i64 (cmpI x y)) ∧ w = w' := by
  have hc : (x < y ∧ cmpI x y = -1) ∨ (¬ x < y ∧ y < x ∧ cmpI x y = 1) ∨ (¬ x < y ∧ ¬ y < x ∧ cmpI x y = 0) := by
    unfold cmpI
    by_cases h1 : x < y
    · simp [h1]
    · by_cases h2 : y < x <;> simp [h1, h2]
  rcases hc with ⟨h1, hc⟩ | ⟨h1, h2, hc⟩ | ⟨h1, h2, hc⟩
  all_goals
    have HC := Lib.hid hc
    clear hc
    go_enter Tryd.func28, Tryd.ntmps28
    go_wp2_with (go_at_call 60; refine (cmpNaN_any _ _).mono ?_; rintro e w' ⟨rfl, rfl⟩)
    go_ret
    exact ⟨ret_int HC.out.symm, rfl⟩

theorem getA_hit {l : List At} (hr : riseA l = true) {i : Nat} {a : At} (h : l[i]? = some a) : getA l a.key = some a.v := by
  unfold getA
  have : l.find? (fun b => decide (b.key = a.key)) = some a := by
    induction l generalizing i with
    | nil => simp at h
    | cons c l ih =>
      cases i with
      | zero => simp at h; subst h; simp
      | succ i =>
        have hlt : c.key < a.key := rise_lt hr (x := 0) (y := i + 1) (by omega) rfl h
        rw [List.find?_cons_of_neg (by simp; omega)]
        exact ih (rise_tail (a := c.key) (l := l.map At.key) hr) (by rw [List.getElem?_cons_succ] at h; exact h)
  rw [this]; rfl
theorem getA_miss {l : List At} {key : Int} (h : ∀ a ∈ l, a.key ≠ key) : getA l key = none := by
  unfold getA
  rw [List.find?_eq_none.2 (by intro a ha; simpa using h a ha)]; rfl

/-- what attrs.Get answers -/
def GetOut (l : List At) (key : Int) (v : V) (b : Bool) : Prop :=
  (b = true → ∃ a ∈ l, a.key = key ∧ a.v = v) ∧ (b = false → v = V.zero) ∧ (riseA l = true → getA l key = if b then some v else none)

end Go.Proofs.YtipoeidmblnbbaaDoor
/- The walk of attrs.With. -/
namespace Go.Proofs.YtipoeidmblnbbaaDoor
open Go.RowKit
set_option linter.unusedVariables false
set_option linter.unusedSimpArgs false

def withP (l : List At) (a : At) : List At := applyP [⟨a.key, false, a.v⟩] l
theorem up_drew {B : Nat} {a b : World} (h : Below B a b) : Below B a b.drew := ⟨h.1, h.2, h.3, h.4, h.5⟩
theorem up_alloc {a b : World} (h : Below a.heap.size a b) (o : Obj) : Below a.heap.size a (b.alloc o) := ext_trans h (ext_alloc b o)
end Go.Proofs.YtipoeidmblnbbaaDoor
