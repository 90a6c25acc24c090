/- Merged texts: MkFn, Canon, Cell, PatchFn, Find. -/
import Derived.Test.YtfnkjcodcoehcaaGreatDoorR8
import Derived.Test.YtfnkjcodcoehcaaGreatDoorR1
import Derived.Test.YtfnkjcodcoehcaaGreatDoorR2
namespace Go.Proofs.YtfnkjcodcoehcaaGreatDoor
set_option linter.unusedVariables false
set_option linter.unusedSimpArgs false

structure Mk where
  done : List Opd
  ins : List Opd
  gone : Int
def Mk.new : Mk := ⟨[], [], 0⟩
def mkGap (m : Mk) : List Opd := m.ins ++ (if 0 < m.gone then [opD m.gone] else [])
/-- a retain set behind ops -/
def addR (d : List Opd) (n : Int) (p : List Ch) : List Opd :=
  match d.getLast? with
  | some o => if o.k = 1 ∧ o.p = p then d.dropLast ++ [{ o with n := IntKind.i64.wrap (o.n + n) }] else d ++ [opR n p]
  | none => d ++ [opR n p]
def mkRetain (m : Mk) (n : Int) (p : List Ch) : Mk := if n < 1 then m else ⟨addR (m.done ++ mkGap m) n p, [], 0⟩
/-- an insert set behind inserts -/
def addI (d : List Opd) (l : List Int) (s : List At) : List Opd :=
  match d.getLast? with
  | some o => if o.s = s then d.dropLast ++ [{ o with r := o.r ++ l }] else d ++ [opI l s]
  | none => d ++ [opI l s]
def mkInsert (m : Mk) (l : List Int) (s : List At) : Mk := if l = [] then m else { m with ins := addI m.ins l s }
def mkDelete (m : Mk) (n : Int) : Mk := { m with gone := IntKind.i64.wrap (m.gone + (if n < 0 then 0 else n)) }
/-- without a last retain that has no patch -/
def cutR (d : List Opd) : List Opd :=
  match d.getLast? with
  | some o => if o.k = 1 ∧ o.p = [] then d.dropLast else d
  | none => d
def mkOps (m : Mk) : List Opd := cutR (m.done ++ mkGap m)

/-- units without the last ones that retain without a patch -/
def trim : List Un → List Un
  | [] => []
  | u :: us => match trim us with
    | [] => if u = .ret [] then [] else [u]
    | v :: vs => u :: v :: vs
theorem trim_cons_ne {u : Un} {us : List Un} (h : trim us ≠ [] ∨ u ≠ .ret []) : trim (u :: us) = u :: trim us := by
  rw [trim]
  cases ht : trim us with
  | nil =>
    rcases h with h | h
    · exact absurd ht h
    · simp only; rw [if_neg h]
  | cons v vs => rfl
theorem trim_snoc_ne {us : List Un} {u : Un} (h : u ≠ .ret []) : trim (us ++ [u]) = us ++ [u] := by
  induction us with
  | nil => show trim [u] = [u]; rw [trim_cons_ne (.inr h)]; rfl
  | cons a us ih => show trim (a :: (us ++ [u])) = _; rw [trim_cons_ne (.inl (by rw [ih]; simp)), ih]; rfl
theorem trim_snoc {us : List Un} : trim (us ++ [.ret []]) = trim us := by
  induction us with
  | nil => rfl
  | cons a us ih => show trim (a :: (us ++ [.ret []])) = _; rw [trim, ih]; rfl
theorem trim_reps {us : List Un} (n : Nat) : trim (us ++ List.replicate n (.ret [])) = trim us := by
  induction n with
  | zero => simp
  | succ n ih => rw [List.replicate_succ', ← List.append_assoc, trim_snoc, ih]
theorem trim_last {us : List Un} (h : ∀ u, us.getLast? = some u → u ≠ .ret []) : trim us = us := by
  rcases List.eq_nil_or_concat us with rfl | ⟨t, u, rfl⟩
  · rfl
  · rw [List.concat_eq_append] at h ⊢
    exact trim_snoc_ne (h u (by simp))

theorem tight_append {x y : List Opd} (hx : tight x) (hy : tight y) (h : ∀ a b t, x.getLast? = some a → y = b :: t → canMerge a b = false) : tight (x ++ y) := by
  induction x with
  | nil => exact hy
  | cons a x ih =>
    obtain ⟨h1, h2, h3⟩ := hx
    refine ⟨h1, ?_, ih h3 (fun c b t hc hb => h c b t ?_ hb)⟩
    · cases x with
      | nil =>
        cases y with
        | nil => trivial
        | cons b t => exact h a b t rfl rfl
      | cons c x => exact h2
    · cases x with
      | nil => cases hc
      | cons d x => simpa using hc
theorem tight_front {x y : List Opd} (h : tight (x ++ y)) : tight x := by
  induction x with
  | nil => trivial
  | cons a x ih =>
    obtain ⟨h1, h2, h3⟩ := h
    refine ⟨h1, ?_, ih h3⟩
    cases x with
    | nil => trivial
    | cons b x => exact h2
theorem tight_mem {x : List Opd} (h : tight x) : ∀ o ∈ x, isOp o := by
  induction x with
  | nil => intro o ho; cases ho
  | cons a x ih =>
    intro o ho
    rcases List.mem_cons.1 ho with rfl | ho
    · exact h.1
    · exact ih h.2.2 o ho
theorem tight_lastIs {x : List Opd} {a b : Opd} (h : tight (x ++ [a])) (hb : isOp b) (hm : ∀ c, canMerge c a = false → canMerge c b = false) : tight (x ++ [b]) := by
  refine tight_append (tight_front h) ⟨hb, trivial, trivial⟩ (fun c d t hc hd => ?_)
  injection hd with hd _
  subst hd
  refine hm c ?_
  clear hm hb
  induction x with
  | nil => cases hc
  | cons e x ih =>
    obtain ⟨h1, h2, h3⟩ := h
    cases x with
    | nil => simp at hc; subst hc; exact h2
    | cons f x => exact ih h3 (by simpa using hc)
theorem last_split {x : List Opd} {o : Opd} (h : x.getLast? = some o) : x = x.dropLast ++ [o] := by
  rcases List.eq_nil_or_concat x with rfl | ⟨t, u, rfl⟩
  · cases h
  · rw [List.concat_eq_append] at h ⊢
    simp at h
    subst h
    simp
theorem isOp_opR {n : Int} {p : List Ch} (h : 1 ≤ n) : isOp (opR n p) := .inr (.inr ⟨rfl, h, rfl, rfl⟩)
theorem isOp_opD {n : Int} (h : 1 ≤ n) : isOp (opD n) := .inr (.inl ⟨rfl, h, rfl, rfl, rfl⟩)
theorem isOp_opI {l : List Int} {s : List At} (h : l ≠ []) : isOp (opI l s) := .inl ⟨rfl, rfl, h, rfl⟩
theorem unitsO_R (n : Int) (p : List Ch) : unitsO (opR n p) = List.replicate n.toNat (.ret p) := rfl
theorem unitsO_D (n : Int) : unitsO (opD n) = List.replicate n.toNat .del := rfl
theorem unitsO_I (l : List Int) (s : List At) : unitsO (opI l s) = l.map (fun r => Un.ins r s) := rfl
theorem units_one (o : Opd) : units [o] = unitsO o := by simp [units]
theorem units_len_ge {x : List Opd} (h : tight x) {o : Opd} (ho : o ∈ x) (hk : o.k ≠ 2) : o.n ≤ (units x).length := by
  induction x with
  | nil => cases ho
  | cons a x ih =>
    rw [units_cons, List.length_append]
    rcases List.mem_cons.1 ho with rfl | hm
    · have : (unitsO o).length = o.n.toNat := by
        unfold unitsO
        rw [if_neg hk]
        split <;> simp
      have := h.1
      rcases this with h1 | h1 | h1 <;> omega
    · have := ih h.2.2 hm; omega

/-- a retain set behind tight ops -/
theorem addR_ok {d : List Opd} {n : Int} {p : List Ch} (hd : tight d) (hn : 1 ≤ n) (hb : (units d).length + n ≤ 4611686018427387904) :
    tight (addR d n p) ∧ units (addR d n p) = units d ++ List.replicate n.toNat (.ret p) ∧ (∃ o, (addR d n p).getLast? = some o ∧ o.k = 1) := by
  unfold addR
  cases hl : d.getLast? with
  | none =>
    have : d = [] := by simpa using hl
    subst this
    refine ⟨⟨isOp_opR hn, trivial, trivial⟩, ?_, opR n p, rfl, rfl⟩
    simp [units_one, units_nil, unitsO_R]
  | some o =>
    have e := last_split hl
    have hmem : o ∈ d := by rw [e]; simp
    have hop := tight_mem hd o hmem
    simp only
    by_cases hc : o.k = 1 ∧ o.p = p
    · rw [if_pos hc]
      obtain ⟨e1, h1⟩ := opR_of hop hc.1
      have hge := units_len_ge hd hmem (by rw [hc.1]; decide)
      have hw : IntKind.i64.wrap (o.n + n) = o.n + n := IntWalk.i64_in _ (by omega)
      have e2 : ({ o with n := IntKind.i64.wrap (o.n + n) } : Opd) = opR (o.n + n) p := by rw [hw, e1, hc.2]; rfl
      rw [e2]
      rw [e1, hc.2] at e
      refine ⟨tight_lastIs (a := opR o.n p) (by rw [← e]; exact hd) (isOp_opR (by omega)) (fun c h => h), ?_, opR (o.n + n) p, by simp, rfl⟩
      rw [units_append, units_one, unitsO_R]
      have : units d = units d.dropLast ++ List.replicate o.n.toNat (.ret p) := by
        conv => lhs; rw [e]
        rw [units_append, units_one, unitsO_R]
      rw [this, List.append_assoc, List.replicate_append_replicate]
      congr 2
      omega
    · rw [if_neg hc]
      refine ⟨tight_append hd ⟨isOp_opR hn, trivial, trivial⟩ (fun a b t ha hb => ?_), by rw [units_append, units_one, unitsO_R], opR n p, by simp, rfl⟩
      injection hb with hb _
      subst hb
      rw [hl] at ha; injection ha with ha; subst ha
      cases hm : canMerge o (opR n p) with
      | false => rfl
      | true =>
        exfalso
        refine hc ?_
        simp [canMerge, opR] at hm
        exact ⟨hm.1, of_decide_eq_true hm.2⟩
/-- an insert set behind tight inserts -/
theorem addI_ok {d : List Opd} {l : List Int} {s : List At} (hd : tight d) (h2 : ∀ o ∈ d, o.k = 2) (hl : l ≠ []) :
    tight (addI d l s) ∧ (∀ o ∈ addI d l s, o.k = 2) ∧ units (addI d l s) = units d ++ l.map (fun r => Un.ins r s) := by
  unfold addI
  cases hg : d.getLast? with
  | none =>
    have : d = [] := by simpa using hg
    subst this
    exact ⟨⟨isOp_opI hl, trivial, trivial⟩, by intro o ho; simp at ho; subst ho; rfl, by simp [units_one, units_nil, unitsO_I]⟩
  | some o =>
    have e := last_split hg
    have hmem : o ∈ d := by rw [e]; simp
    have hop := tight_mem hd o hmem
    have hk := h2 o hmem
    obtain ⟨e1, h1⟩ := opI_of hop hk
    simp only
    by_cases hc : o.s = s
    · rw [if_pos hc]
      have e2 : ({ o with r := o.r ++ l } : Opd) = opI (o.r ++ l) s := by rw [e1, hc]; rfl
      rw [e2]
      rw [e1, hc] at e
      refine ⟨tight_lastIs (a := opI o.r s) (by rw [← e]; exact hd) (isOp_opI (by simp [hl])) (fun c h => h), fun x hx => ?_, ?_⟩
      · rcases List.mem_append.1 hx with hx | hx
        · exact h2 x ((List.dropLast_sublist _).subset hx)
        · simp at hx; subst hx; rfl
      · rw [units_append, units_one, unitsO_I]
        have : units d = units d.dropLast ++ o.r.map (fun r => Un.ins r s) := by
          conv => lhs; rw [e]
          rw [units_append, units_one, unitsO_I]
        rw [this, List.append_assoc, List.map_append]
    · rw [if_neg hc]
      refine ⟨tight_append hd ⟨isOp_opI hl, trivial, trivial⟩ (fun a b t ha hb => ?_), fun x hx => ?_, by rw [units_append, units_one, unitsO_I]⟩
      · injection hb with hb _
        subst hb
        rw [hg] at ha; injection ha with ha; subst ha
        cases hm : canMerge o (opI l s) with
        | false => rfl
        | true =>
          exfalso
          refine hc ?_
          simp [canMerge, opI] at hm
          exact of_decide_eq_true hm.2
      · rcases List.mem_append.1 hx with hx | hx
        · exact h2 x hx
        · simp at hx; subst hx; rfl

/-- what a maker is at: the units up to the last retain, the inserts told since, and how many cells deleted -/
structure MkAt (m : Mk) (K : List Un) (I : List Un) (g : Nat) : Prop where
  d1 : tight m.done
  d2 : units m.done = K
  d3 : ∀ o, m.done.getLast? = some o → o.k = 1
  i1 : tight m.ins
  i2 : units m.ins = I
  i3 : ∀ o ∈ m.ins, o.k = 2
  g1 : m.gone = g
theorem MkAt.new : MkAt Mk.new [] [] 0 := ⟨trivial, rfl, (by intro o h; cases h), trivial, rfl, (by intro o h; cases h), rfl⟩
theorem merge_kinds {a b : Opd} (h : a.k ≠ b.k) : canMerge a b = false := by
  cases hm : canMerge a b with
  | false => rfl
  | true =>
    exfalso; apply h
    simp [canMerge] at hm
    rcases hm with (⟨⟨h1, h2⟩, _⟩ | ⟨h1, h2⟩) | ⟨⟨h1, h2⟩, _⟩ <;> rw [h1, h2]
theorem MkAt.all {m : Mk} {K I : List Un} {g : Nat} (h : MkAt m K I g) : tight (m.done ++ mkGap m) ∧ units (m.done ++ mkGap m) = K ++ I ++ List.replicate g .del := by
  have hgap : tight (mkGap m) ∧ units (mkGap m) = I ++ List.replicate g .del ∧ ∀ b t, mkGap m = b :: t → b.k ≠ 1 := by
    unfold mkGap
    by_cases hg : 0 < m.gone
    · rw [if_pos hg]
      refine ⟨tight_append h.i1 ⟨isOp_opD (by omega), trivial, trivial⟩ (fun a b t ha hb => ?_), ?_, fun b t hb => ?_⟩
      · injection hb with hb _; subst hb
        exact merge_kinds (by rw [h.i3 a (List.mem_of_getLast? ha)]; exact (show (2 : Int) ≠ 3 by decide))
      · rw [units_append, units_one, unitsO_D, h.i2, h.g1]; simp
      · cases hi : m.ins with
        | nil => rw [hi] at hb; injection hb with hb _; subst hb; exact (show (3 : Int) ≠ 1 by decide)
        | cons c x =>
          rw [hi] at hb; injection hb with hb _; subst hb
          rw [h.i3 c (by rw [hi]; simp)]; decide
    · rw [if_neg hg]
      have hg0 : g = 0 := by have := h.g1; omega
      subst hg0
      refine ⟨by rw [List.append_nil]; exact h.i1, by rw [List.append_nil, h.i2]; simp, fun b t hb => ?_⟩
      rw [List.append_nil] at hb
      rw [h.i3 b (by rw [hb]; simp)]; decide
  obtain ⟨h1, h2, h3⟩ := hgap
  refine ⟨tight_append h.d1 h1 (fun a b t ha hb => merge_kinds (by rw [h.d3 a ha]; exact fun e => h3 b t hb e.symm)), by rw [units_append, h.d2, h2, List.append_assoc]⟩
theorem MkAt.retain {m : Mk} {K I : List Un} {g : Nat} (h : MkAt m K I g) {n : Int} {p : List Ch} (hn : 1 ≤ n) (hb : (K.length + I.length + g : Nat) + n ≤ 4611686018427387904) :
    MkAt (mkRetain m n p) (K ++ I ++ List.replicate g .del ++ List.replicate n.toNat (.ret p)) [] 0 := by
  obtain ⟨h1, h2⟩ := h.all
  obtain ⟨g1, g2, o, g3, g4⟩ := addR_ok (p := p) h1 hn (by rw [h2]; simp only [List.length_append, List.length_replicate]; exact hb)
  unfold mkRetain
  rw [if_neg (by omega)]
  refine ⟨g1, by rw [g2, h2], fun x hx => ?_, trivial, rfl, (by intro o ho; cases ho), rfl⟩
  rw [g3] at hx; injection hx with hx; subst hx; exact g4
theorem MkAt.retain0 {m : Mk} {K I : List Un} {g : Nat} (h : MkAt m K I g) {n : Int} {p : List Ch} (hn : n < 1) : MkAt (mkRetain m n p) K I g := by
  unfold mkRetain; rw [if_pos hn]; exact h
theorem MkAt.insert {m : Mk} {K I : List Un} {g : Nat} (h : MkAt m K I g) (l : List Int) (s : List At) :
    MkAt (mkInsert m l s) K (I ++ l.map (fun r => Un.ins r s)) g := by
  unfold mkInsert
  by_cases hl : l = []
  · rw [if_pos hl, hl]; simpa using h
  · rw [if_neg hl]
    obtain ⟨g1, g2, g3⟩ := addI_ok (s := s) h.i1 h.i3 hl
    exact ⟨h.d1, h.d2, h.d3, g1, by rw [g3, h.i2], g2, h.g1⟩
theorem MkAt.delete {m : Mk} {K I : List Un} {g : Nat} (h : MkAt m K I g) {n : Int} (hb : (g : Int) + n ≤ 4611686018427387904) (hg : g ≤ 4611686018427387904) :
    MkAt (mkDelete m n) K I (g + n.toNat) := by
  refine ⟨h.d1, h.d2, h.d3, h.i1, h.i2, h.i3, ?_⟩
  show IntKind.i64.wrap (m.gone + (if n < 0 then 0 else n)) = _
  rw [h.g1]
  have : (if n < 0 then 0 else n) = (n.toNat : Int) := by split <;> omega
  rw [this, IntWalk.i64_in _ (by omega)]
  omega
theorem MkAt.ops {m : Mk} {K I : List Un} {g : Nat} (h : MkAt m K I g) : tight (mkOps m) ∧ units (mkOps m) = trim (K ++ I ++ List.replicate g .del) := by
  obtain ⟨h1, h2⟩ := h.all
  unfold mkOps cutR
  rw [← h2]
  generalize m.done ++ mkGap m = x at *
  cases hl : x.getLast? with
  | none =>
    have : x = [] := by simpa using hl
    subst this
    exact ⟨trivial, rfl⟩
  | some o =>
    have e := last_split hl
    have hop := tight_mem h1 o (by rw [e]; simp)
    simp only
    have hT : tight (x.dropLast ++ [o]) := by rw [← e]; exact h1
    by_cases hc : o.k = 1 ∧ o.p = []
    · rw [if_pos hc]
      obtain ⟨e1, hn⟩ := opR_of hop hc.1
      rw [hc.2] at e1
      refine ⟨tight_front hT, ?_⟩
      have e2 : units x = units x.dropLast ++ List.replicate o.n.toNat (.ret []) := by
        conv => lhs; rw [e, e1]
        rw [units_append, units_one, unitsO_R]
      rw [e2, trim_reps]
      symm
      refine trim_last (fun u hu hr => ?_)
      subst hr
      -- the op ahead would be one with the last
      rcases List.eq_nil_or_concat x.dropLast with h0 | ⟨t, c, h0⟩
      · rw [h0] at hu; cases hu
      · rw [List.concat_eq_append] at h0
        rw [h0] at hu hT
        rw [units_append, units_one] at hu
        have hc1 := tight_mem hT c (by simp)
        have hcm : canMerge c o = false := by
          have : ∀ (t : List Opd), tight (t ++ [c] ++ [o]) → canMerge c o = false := by
            intro t
            induction t with
            | nil => intro h; exact h.2.1
            | cons d t ih => intro h; exact ih h.2.2
          exact this t hT
        rcases isOp_kind hc1 with hk | hk | hk
        · obtain ⟨ec, hr⟩ := opI_of hc1 hk
          rw [ec, unitsO_I] at hu
          rcases List.eq_nil_or_concat c.r with h5 | ⟨q, z, h5⟩
          · exact hr h5
          · rw [h5, List.concat_eq_append, List.map_append] at hu
            simp at hu
        · obtain ⟨ec, hr⟩ := opD_of hc1 hk
          rw [ec, unitsO_D] at hu
          obtain ⟨q, hq⟩ : ∃ q, c.n.toNat = q + 1 := ⟨c.n.toNat - 1, by omega⟩
          rw [hq, List.replicate_succ'] at hu
          simp at hu
        · obtain ⟨ec, hr⟩ := opR_of hc1 hk
          rw [ec, unitsO_R] at hu
          obtain ⟨q, hq⟩ : ∃ q, c.n.toNat = q + 1 := ⟨c.n.toNat - 1, by omega⟩
          rw [hq, List.replicate_succ'] at hu
          simp at hu
          rw [ec, e1, hu] at hcm
          simp [canMerge, opR] at hcm
    · rw [if_neg hc]
      refine ⟨h1, ?_⟩
      symm
      refine trim_last (fun u hu hr => ?_)
      subst hr
      rw [e, units_append, units_one] at hu
      rcases isOp_kind hop with hk | hk | hk
      · obtain ⟨ec, hr⟩ := opI_of hop hk
        rw [ec, unitsO_I] at hu
        rcases List.eq_nil_or_concat o.r with h5 | ⟨q, z, h5⟩
        · exact hr h5
        · rw [h5, List.concat_eq_append, List.map_append] at hu
          simp at hu
      · obtain ⟨ec, hr⟩ := opD_of hop hk
        rw [ec, unitsO_D] at hu
        obtain ⟨q, hq⟩ : ∃ q, o.n.toNat = q + 1 := ⟨o.n.toNat - 1, by omega⟩
        rw [hq, List.replicate_succ'] at hu
        simp at hu
      · obtain ⟨ec, hr⟩ := opR_of hop hk
        rw [ec, unitsO_R] at hu
        obtain ⟨q, hq⟩ : ∃ q, o.n.toNat = q + 1 := ⟨o.n.toNat - 1, by omega⟩
        rw [hq, List.replicate_succ'] at hu
        simp at hu
        exact hc ⟨hk, hu⟩
end Go.Proofs.YtfnkjcodcoehcaaGreatDoor
namespace Go.Proofs.YtfnkjcodcoehcaaGreatDoor
set_option linter.unusedVariables false
set_option linter.unusedSimpArgs false

/-- inserts ahead of deletes, gap by gap; I and g: what the gap has so far -/
def cn : List Un → List Un → Nat → List Un
  | [], I, g => I ++ List.replicate g .del
  | .ins r s :: us, I, g => cn us (I ++ [.ins r s]) g
  | .del :: us, I, g => cn us I (g + 1)
  | .ret p :: us, I, g => I ++ List.replicate g .del ++ .ret p :: cn us [] 0
def canon (us : List Un) : List Un := cn us [] 0
/-- the normal form of units -/
def nf (us : List Un) : List Un := trim (canon us)

def takesU : List Un → Nat
  | [] => 0
  | .ins _ _ :: us => takesU us
  | _ :: us => takesU us + 1
def makesU : List Un → Nat
  | [] => 0
  | .del :: us => makesU us
  | _ :: us => makesU us + 1
theorem takesU_r (p : List Ch) (us : List Un) : takesU (.ret p :: us) = takesU us + 1 := rfl
theorem takesU_d (us : List Un) : takesU (.del :: us) = takesU us + 1 := rfl
theorem takesU_i (r : Int) (s : List At) (us : List Un) : takesU (.ins r s :: us) = takesU us := rfl
theorem makesU_r (p : List Ch) (us : List Un) : makesU (.ret p :: us) = makesU us + 1 := rfl
theorem makesU_d (us : List Un) : makesU (.del :: us) = makesU us := rfl
theorem makesU_i (r : Int) (s : List At) (us : List Un) : makesU (.ins r s :: us) = makesU us + 1 := rfl
theorem takesU_append (a b : List Un) : takesU (a ++ b) = takesU a + takesU b := by
  induction a with
  | nil => simp [takesU]
  | cons u a ih => cases u <;> simp [takesU, ih] <;> omega
theorem makesU_append (a b : List Un) : makesU (a ++ b) = makesU a + makesU b := by
  induction a with
  | nil => simp [makesU]
  | cons u a ih => cases u <;> simp [makesU, ih] <;> omega
theorem takesU_del (g : Nat) : takesU (List.replicate g .del) = g := by induction g with | zero => rfl | succ g ih => rw [List.replicate_succ, takesU_d, ih]
theorem makesU_del (g : Nat) : makesU (List.replicate g .del) = 0 := by induction g with | zero => rfl | succ g ih => rw [List.replicate_succ, makesU_d, ih]
theorem cn_ins (l : List Int) (s : List At) (us : List Un) : ∀ (I : List Un) (g : Nat), cn (l.map (fun r => Un.ins r s) ++ us) I g = cn us (I ++ l.map (fun r => Un.ins r s)) g := by
  induction l with
  | nil => intro I g; simp
  | cons r l ih => intro I g; show cn (l.map _ ++ us) (I ++ [.ins r s]) g = _; rw [ih]; simp
theorem cn_del (k : Nat) (us : List Un) : ∀ (I : List Un) (g : Nat), cn (List.replicate k .del ++ us) I g = cn us I (g + k) := by
  induction k with
  | zero => intro I g; simp
  | succ k ih => intro I g; rw [List.replicate_succ]; show cn (List.replicate k .del ++ us) I (g + 1) = _; rw [ih]; congr 1; omega
theorem cn_ret (k : Nat) (p : List Ch) (us : List Un) (I : List Un) (g : Nat) : cn (List.replicate (k + 1) (.ret p) ++ us) I g = I ++ List.replicate g .del ++ List.replicate (k + 1) (.ret p) ++ cn us [] 0 := by
  have h : ∀ k, cn (List.replicate k (.ret p) ++ us) [] 0 = List.replicate k (.ret p) ++ cn us [] 0 := by
    intro k
    induction k with
    | zero => rfl
    | succ k ih => rw [List.replicate_succ]; show [] ++ List.replicate 0 .del ++ .ret p :: cn (List.replicate k (.ret p) ++ us) [] 0 = _; rw [ih]; simp
  rw [List.replicate_succ]
  show I ++ List.replicate g .del ++ .ret p :: cn (List.replicate k (.ret p) ++ us) [] 0 = _
  rw [h]; simp

/-- a maker that was told these units -/
def Told (m : Mk) (us : List Un) : Prop :=
  ∃ K I g, MkAt m K I g ∧ (∀ rest, canon (us ++ rest) = K ++ cn rest I g) ∧ K.length + I.length + g = us.length
theorem Told.new : Told Mk.new [] := ⟨[], [], 0, MkAt.new, fun rest => rfl, rfl⟩
theorem Told.retain {m : Mk} {us : List Un} (h : Told m us) (n : Int) (p : List Ch) (hb : (us.length : Int) + n ≤ 4611686018427387904) : Told (mkRetain m n p) (us ++ List.replicate n.toNat (.ret p)) := by
  obtain ⟨K, I, g, h1, h2, h3⟩ := h
  by_cases hn : n < 1
  · have : n.toNat = 0 := by omega
    rw [this]
    exact ⟨K, I, g, h1.retain0 hn, fun rest => by rw [List.replicate_zero, List.append_nil]; exact h2 rest, by simpa using h3⟩
  · obtain ⟨k, hk⟩ : ∃ k, n.toNat = k + 1 := ⟨n.toNat - 1, by omega⟩
    refine ⟨_, [], 0, h1.retain (p := p) (by omega) (by rw [h3]; exact hb), fun rest => ?_, ?_⟩
    · rw [List.append_assoc, h2, hk, cn_ret]; simp only [List.append_assoc]
    · simp only [List.length_append, List.length_replicate, List.length_nil]; omega
theorem Told.insert {m : Mk} {us : List Un} (h : Told m us) (l : List Int) (s : List At) : Told (mkInsert m l s) (us ++ l.map (fun r => Un.ins r s)) := by
  obtain ⟨K, I, g, h1, h2, h3⟩ := h
  refine ⟨K, _, g, h1.insert l s, fun rest => by rw [List.append_assoc, h2, cn_ins], by simp; omega⟩
theorem Told.delete {m : Mk} {us : List Un} (h : Told m us) (n : Int) (hb : (us.length : Int) + n ≤ 4611686018427387904) (hb2 : us.length ≤ 4611686018427387904) : Told (mkDelete m n) (us ++ List.replicate n.toNat .del) := by
  obtain ⟨K, I, g, h1, h2, h3⟩ := h
  refine ⟨K, I, _, h1.delete (n := n) (by omega) (by omega), fun rest => by rw [List.append_assoc, h2, cn_del], by simp; omega⟩
/-- what a maker makes -/
theorem Told.ops {m : Mk} {us : List Un} (h : Told m us) : tight (mkOps m) ∧ units (mkOps m) = nf us := by
  obtain ⟨K, I, g, h1, h2, h3⟩ := h
  obtain ⟨g1, g2⟩ := h1.ops
  refine ⟨g1, ?_⟩
  rw [g2, nf]
  have := h2 []
  rw [List.append_nil] at this
  rw [this]
  simp [cn, List.append_assoc]
/-- two makers that were told units of one normal form -/
theorem Told.same {m m' : Mk} {us us' : List Un} (h : Told m us) (h' : Told m' us') (e : nf us = nf us') : mkOps m = mkOps m' :=
  tight_ext h.ops.1 h'.ops.1 (by rw [h.ops.2, h'.ops.2, e])

end Go.Proofs.YtfnkjcodcoehcaaGreatDoor
namespace Go.Proofs.YtfnkjcodcoehcaaGreatDoor
open Go.RowKit
set_option linter.unusedVariables false
set_option linter.unusedSimpArgs false

def osOf (x : List OpS) : List Opd := x.map (·.o)
/-- a cell: its rune, its set -/
structure Cl where
  r : Int
  s : List At
deriving DecidableEq
/-- a cell and where its set lies -/
structure ClS where
  c : Cl
  As : Option Addr
  cs : Nat
def ClS.enc (x : ClS) : List Value := [.int .i32 x.c.r, .slice x.As x.c.s.length x.cs]
theorem ClS.enc_len (x : ClS) : x.enc.length = 2 := rfl
theorem ClS.enc_one (x : ClS) : ∀ u ∈ x.enc, u.oneCell' = true := by intro u hu; simp [ClS.enc] at hu; rcases hu with rfl | rfl <;> rfl
abbrev RdCs := @Rd ClS ClS.enc 2
/-- the sets of cells read so -/
def SubC (w : World) (B : Nat) (l : List ClS) : Prop := ∀ x ∈ l, RdAt w B x.As x.c.s
/-- the slice at A reads as the cells l -/
def RdCl (w : World) (B : Nat) (A : Option Addr) (l : List ClS) : Prop := RdCs w B A l ∧ SubC w B l
theorem SubC.ext {w w' : World} {l : List ClS} (h : SubC w w.heap.size l) (y : Below w.heap.size w w') : SubC w' w'.heap.size l := fun x hx => (h x hx).ext y
theorem RdCl.ext {w w' : World} {A : Option Addr} {l : List ClS} (h : RdCl w w.heap.size A l) (y : Below w.heap.size w w') : RdCl w' w'.heap.size A l := ⟨h.1.ext y, h.2.ext y⟩
theorem cl_cells {w : World} {p : Addr} {r s : Value} (h : CellsAt w p [r, s]) : w.cell? p = some r ∧ w.cell? { block := p.block, off := p.off + 1 } = some s := by
  have h0 := h 0 _ rfl
  rw [add_zero'] at h0
  exact ⟨h0, cellsAt_lit h 0 rfl⟩
theorem box_cl {w : World} {b : Nat} {t : TypeId} {c0 c1 : Value} (h : w.heap[b]? = some (.cells #[c0, c1] t (0, 0))) : w.cell? ⟨b, 0, none⟩ = some c0 ∧ w.cell? ⟨b, 1, none⟩ = some c1 := by
  simp [World.cell?, h]
end Go.Proofs.YtfnkjcodcoehcaaGreatDoor
namespace Go.Proofs.YtfnkjcodcoehcaaGreatDoor

def put1 (c : Ch) : List At := if c.gone then [] else [⟨c.key, c.v⟩]
def drop1 (k : Int) : List At → List At
  | [] => []
  | a :: s => if a.key = k then s else a :: s
def applyP : List Ch → List At → List At
  | [], s => s
  | c :: p, s => s.takeWhile (fun a => decide (a.key < c.key)) ++ (put1 c ++ applyP p (drop1 c.key (s.dropWhile (fun a => decide (a.key < c.key)))))
/-- what is left to do at a change -/
def applyAt (c : Ch) (p : List Ch) (s : List At) : List At :=
  s.takeWhile (fun a => decide (a.key < c.key)) ++ (put1 c ++ applyP p (drop1 c.key (s.dropWhile (fun a => decide (a.key < c.key)))))

theorem applyAt_less (c : Ch) (p : List Ch) (a : At) (s : List At) (h : a.key < c.key) : applyAt c p (a :: s) = a :: applyAt c p s := by
  simp [applyAt, h]
theorem applyAt_eq (c : Ch) (p : List Ch) (a : At) (s : List At) (h : a.key = c.key) : applyAt c p (a :: s) = put1 c ++ applyP p s := by
  simp [applyAt, h, drop1]
theorem applyAt_more (c : Ch) (p : List Ch) (a : At) (s : List At) (h : c.key < a.key) : applyAt c p (a :: s) = put1 c ++ applyP p (a :: s) := by
  have h1 : ¬ a.key < c.key := by omega
  have h2 : ¬ a.key = c.key := by omega
  simp [applyAt, h1, h2, drop1]
theorem applyAt_nil (c : Ch) (p : List Ch) : applyAt c p [] = put1 c ++ applyP p [] := by
  simp [applyAt, drop1]
end Go.Proofs.YtfnkjcodcoehcaaGreatDoor
namespace Go.Proofs.YtfnkjcodcoehcaaGreatDoor
open Go.RowKit
set_option linter.unusedVariables false
set_option linter.unusedSimpArgs false

theorem rise_head {a : Int} {l : List Int} (h : rise (a :: l) = true) : ∀ b ∈ l, a < b := by
  induction l generalizing a with
  | nil => intro b hb; simp at hb
  | cons c l ih =>
    simp only [rise, Bool.and_eq_true, decide_eq_true_eq] at h
    intro b hb
    rcases List.mem_cons.1 hb with rfl | hb
    · exact h.1
    · have := ih h.2 b hb; omega
theorem rise_tail {a : Int} {l : List Int} (h : rise (a :: l) = true) : rise l = true := by
  cases l with
  | nil => rfl
  | cons c l => simp only [rise, Bool.and_eq_true] at h; exact h.2
theorem rise_lt {l : List At} (h : riseA l = true) : ∀ {x y : Nat} {a b : At}, x < y → l[x]? = some a → l[y]? = some b → a.key < b.key := by
  induction l with
  | nil => intro x y a b _ h1; simp at h1
  | cons c l ih =>
    intro x y a b hxy h1 h2
    have ht : riseA l = true := rise_tail (a := c.key) (l := l.map At.key) h
    cases y with
    | zero => omega
    | succ y =>
      cases x with
      | zero =>
        simp at h1 h2
        subst h1
        exact rise_head (a := c.key) (l := l.map At.key) h _ (List.mem_map.2 ⟨b, List.mem_of_getElem? h2, rfl⟩)
      | succ x => exact ih ht (Nat.lt_of_succ_lt_succ hxy) (by rw [List.getElem?_cons_succ] at h1; exact h1) (by rw [List.getElem?_cons_succ] at h2; exact h2)

def cmpI (a b : Int) : Int := if a < b then -1 else if b < a then 1 else 0

/-- what the halving knows: keys ahead of i are less, those from j on are not -/
def BsInv (l : List At) (key : Int) (i j : Nat) : Prop :=
  i ≤ j ∧ j ≤ l.length ∧ (riseA l = true → (∀ x a, x < i → l[x]? = some a → a.key < key) ∧ ∀ x a, j ≤ x → l[x]? = some a → key ≤ a.key)
def FindOut (l : List At) (key : Int) (i : Nat) (b : Bool) : Prop :=
  i ≤ l.length ∧ (b = true ↔ ∃ a, l[i]? = some a ∧ a.key = key) ∧ (riseA l = true → (∀ x a, x < i → l[x]? = some a → a.key < key) ∧ ∀ x a, i ≤ x → l[x]? = some a → key ≤ a.key)
theorem BsInv.up {l : List At} {key : Int} {i j h : Nat} {a : At} (v : BsInv l key i j) (h2 : h < j) (ha : l[h]? = some a) (hk : a.key < key) : BsInv l key (h + 1) j :=
  ⟨h2, v.2.1, fun r => ⟨fun x b hx hb => by
    rcases Nat.lt_or_ge x h with hlt | hge
    · have := rise_lt r hlt hb ha; omega
    · have : x = h := by omega
      subst this
      rw [ha] at hb; injection hb with hb; subst hb; exact hk, (v.2.2 r).2⟩⟩
theorem BsInv.down {l : List At} {key : Int} {i j h : Nat} {a : At} (v : BsInv l key i j) (h1 : i ≤ h) (h2 : h < j) (ha : l[h]? = some a) (hk : ¬ a.key < key) : BsInv l key i h :=
  ⟨h1, by have := v.2.1; omega, fun r => ⟨(v.2.2 r).1, fun x b hx hb => by
    rcases Nat.lt_or_ge h x with hlt | hge
    · have := rise_lt r hlt ha hb; omega
    · have : x = h := by omega
      subst this
      rw [ha] at hb; injection hb with hb; subst hb; omega⟩⟩
theorem BsInv.done {l : List At} {key : Int} {i j : Nat} {b : Bool} (v : BsInv l key i j) (hij : ¬ i < j) (hb : b = true ↔ ∃ a, l[i]? = some a ∧ a.key = key) : FindOut l key i b := by
  obtain ⟨h1, h2, h3⟩ := v
  have : i = j := by omega
  subst this
  exact ⟨h2, hb, h3⟩

set_option maxHeartbeats 400000 in
theorem cmpNaN_any (x : Int) (w : World) : Calls Tryz.prog 149 #[.int .i64 x] w fun e w' => e = .returned (.bool false) ∧ w = w' := by
  go_enter Tryz.func149, Tryz.ntmps149
  go_wp2
  go_ret
  exact ⟨by simp, rfl⟩

set_option maxHeartbeats 400000 in
theorem compare_any (x y : Int) (w : World) : Calls Tryz.prog 71 #[.int .i64 x, .int .i64 y] w fun e w' => e = .returned (.int .i64 (cmpI x y)) ∧ w = w' := by
  have hc : (x < y ∧ cmpI x y = -1) ∨ (¬ x < y ∧ y < x ∧ cmpI x y = 1) ∨ (¬ x < y ∧ ¬ y < x ∧ cmpI x y = 0) := by
    unfold cmpI
    by_cases h1 : x < y
    · simp [h1]
    · by_cases h2 : y < x <;> simp [h1, h2]
  rcases hc with ⟨h1, hc⟩ | ⟨h1, h2, hc⟩ | ⟨h1, h2, hc⟩
  all_goals
    have HC := Lib.hid hc
    clear hc
    go_enter Tryz.func71, Tryz.ntmps71
    go_wp2_with (go_at_call 149; refine (cmpNaN_any _ _).mono ?_; rintro e w' ⟨rfl, rfl⟩)
    go_ret
    exact ⟨ret_int HC.out.symm, rfl⟩

end Go.Proofs.YtfnkjcodcoehcaaGreatDoor
