/- Merged texts: MkFn, Canon, Cell, PatchFn, Find, PatchLaw, KeepK, Schema2. -/
import Derived.Test.YtfnkjcodcoehcaaGreatDoorV6
import Derived.Test.YtfnkjcodcoehcaaGreatDoorV1
import Derived.Test.YtfnkjcodcoehcaaGreatDoorV2
namespace Go.Proofs.YtfnkjcodcoehcaaGreatDoor
set_option linter.unusedVariables false
set_option linter.unusedSimpArgs false

structure Mk where
  done : List Opd
  ins : List Opd
  gone : Int
def Mk.new : Mk := ⟨[], [], 0⟩
def mkGap (m : Mk) : List Opd := m.ins ++ (if 0 < m.gone then [opD m.gone] else [])
def addR (d : List Opd) (n : Int) (p : List Ch) : List Opd :=
  match d.getLast? with
  | some o => if o.k = 1 ∧ o.p = p then d.dropLast ++ [{ o with n := IntKind.i64.wrap (o.n + n) }] else d ++ [opR n p]
  | none => d ++ [opR n p]
def mkRetain (m : Mk) (n : Int) (p : List Ch) : Mk := if n < 1 then m else ⟨addR (m.done ++ mkGap m) n p, [], 0⟩
def addI (d : List Opd) (l : List Int) (s : List At) : List Opd :=
  match d.getLast? with
  | some o => if o.s = s then d.dropLast ++ [{ o with r := o.r ++ l }] else d ++ [opI l s]
  | none => d ++ [opI l s]
def mkInsert (m : Mk) (l : List Int) (s : List At) : Mk := if l = [] then m else { m with ins := addI m.ins l s }
def mkDelete (m : Mk) (n : Int) : Mk := { m with gone := IntKind.i64.wrap (m.gone + (if n < 0 then 0 else n)) }
def cutR (d : List Opd) : List Opd :=
  match d.getLast? with
  | some o => if o.k = 1 ∧ o.p = [] then d.dropLast else d
  | none => d
def mkOps (m : Mk) : List Opd := cutR (m.done ++ mkGap m)

def trim : List Un → List Un
  | [] => []
  | u :: us => match trim us with
    | [] => if u = .ret [] then [] else [u]
    | v :: vs => u :: v :: vs
theorem trim_cons_ne {u : Un} {us : List Un} (h : trim us ≠ [] ∨ u ≠ .ret []) : trim (u :: us) = u :: trim us := by
  rw [trim]
  cases ht : trim us with
  | nil =>
    rcases h with h | h
    · exact absurd ht h
    · simp only; rw [if_neg h]
  | cons v vs => rfl
theorem trim_snoc_ne {us : List Un} {u : Un} (h : u ≠ .ret []) : trim (us ++ [u]) = us ++ [u] := by
  induction us with
  | nil => show trim [u] = [u]; rw [trim_cons_ne (.inr h)]; rfl
  | cons a us ih => show trim (a :: (us ++ [u])) = _; rw [trim_cons_ne (.inl (by rw [ih]; simp)), ih]; rfl
theorem trim_snoc {us : List Un} : trim (us ++ [.ret []]) = trim us := by
  induction us with
  | nil => rfl
  | cons a us ih => show trim (a :: (us ++ [.ret []])) = _; rw [trim, ih]; rfl
theorem trim_reps {us : List Un} (n : Nat) : trim (us ++ List.replicate n (.ret [])) = trim us := by
  induction n with
  | zero => simp
  | succ n ih => rw [List.replicate_succ', ← List.append_assoc, trim_snoc, ih]
theorem trim_last {us : List Un} (h : ∀ u, us.getLast? = some u → u ≠ .ret []) : trim us = us := by
  rcases List.eq_nil_or_concat us with rfl | ⟨t, u, rfl⟩
  · rfl
  · rw [List.concat_eq_append] at h ⊢
    exact trim_snoc_ne (h u (by simp))

theorem tight_append {x y : List Opd} (hx : tight x) (hy : tight y) (h : ∀ a b t, x.getLast? = some a → y = b :: t → canMerge a b = false) : tight (x ++ y) := by
  induction x with
  | nil => exact hy
  | cons a x ih =>
    obtain ⟨h1, h2, h3⟩ := hx
    refine ⟨h1, ?_, ih h3 (fun c b t hc hb => h c b t ?_ hb)⟩
    · cases x with
      | nil =>
        cases y with
        | nil => trivial
        | cons b t => exact h a b t rfl rfl
      | cons c x => exact h2
    · cases x with
      | nil => cases hc
      | cons d x => simpa using hc
theorem tight_front {x y : List Opd} (h : tight (x ++ y)) : tight x := by
  induction x with
  | nil => trivial
  | cons a x ih =>
    obtain ⟨h1, h2, h3⟩ := h
    refine ⟨h1, ?_, ih h3⟩
    cases x with
    | nil => trivial
    | cons b x => exact h2
theorem tight_mem {x : List Opd} (h : tight x) : ∀ o ∈ x, isOp o := by
  induction x with
  | nil => intro o ho; cases ho
  | cons a x ih =>
    intro o ho
    rcases List.mem_cons.1 ho with rfl | ho
    · exact h.1
    · exact ih h.2.2 o ho
theorem tight_lastIs {x : List Opd} {a b : Opd} (h : tight (x ++ [a])) (hb : isOp b) (hm : ∀ c, canMerge c a = false → canMerge c b = false) : tight (x ++ [b]) := by
  refine tight_append (tight_front h) ⟨hb, trivial, trivial⟩ (fun c d t hc hd => ?_)
  injection hd with hd _
  subst hd
  refine hm c ?_
  clear hm hb
  induction x with
  | nil => cases hc
  | cons e x ih =>
    obtain ⟨h1, h2, h3⟩ := h
    cases x with
    | nil => simp at hc; subst hc; exact h2
    | cons f x => exact ih h3 (by simpa using hc)
theorem last_split {x : List Opd} {o : Opd} (h : x.getLast? = some o) : x = x.dropLast ++ [o] := by
  rcases List.eq_nil_or_concat x with rfl | ⟨t, u, rfl⟩
  · cases h
  · rw [List.concat_eq_append] at h ⊢
    simp at h
    subst h
    simp
theorem isOp_opR {n : Int} {p : List Ch} (h : 1 ≤ n) : isOp (opR n p) := .inr (.inr ⟨rfl, h, rfl, rfl⟩)
theorem isOp_opD {n : Int} (h : 1 ≤ n) : isOp (opD n) := .inr (.inl ⟨rfl, h, rfl, rfl, rfl⟩)
theorem isOp_opI {l : List Int} {s : List At} (h : l ≠ []) : isOp (opI l s) := .inl ⟨rfl, rfl, h, rfl⟩
theorem unitsO_R (n : Int) (p : List Ch) : unitsO (opR n p) = List.replicate n.toNat (.ret p) := rfl
theorem unitsO_D (n : Int) : unitsO (opD n) = List.replicate n.toNat .del := rfl
theorem unitsO_I (l : List Int) (s : List At) : unitsO (opI l s) = l.map (fun r => Un.ins r s) := rfl
theorem units_one (o : Opd) : units [o] = unitsO o := by simp [units]
theorem units_len_ge {x : List Opd} (h : tight x) {o : Opd} (ho : o ∈ x) (hk : o.k ≠ 2) : o.n ≤ (units x).length := by
  induction x with
  | nil => cases ho
  | cons a x ih =>
    rw [units_cons, List.length_append]
    rcases List.mem_cons.1 ho with rfl | hm
    · have : (unitsO o).length = o.n.toNat := by
        unfold unitsO
        rw [if_neg hk]
        split <;> simp
      have := h.1
      rcases this with h1 | h1 | h1 <;> omega
    · have := ih h.2.2 hm; omega

theorem addR_ok {d : List Opd} {n : Int} {p : List Ch} (hd : tight d) (hn : 1 ≤ n) (hb : (units d).length + n ≤ 4611686018427387904) :
    tight (addR d n p) ∧ units (addR d n p) = units d ++ List.replicate n.toNat (.ret p) ∧ (∃ o, (addR d n p).getLast? = some o ∧ o.k = 1) := by
  unfold addR
  cases hl : d.getLast? with
  | none =>
    have : d = [] := by simpa using hl
    subst this
    refine ⟨⟨isOp_opR hn, trivial, trivial⟩, ?_, opR n p, rfl, rfl⟩
    simp [units_one, units_nil, unitsO_R]
  | some o =>
    have e := last_split hl
    have hmem : o ∈ d := by rw [e]; simp
    have hop := tight_mem hd o hmem
    simp only
    by_cases hc : o.k = 1 ∧ o.p = p
    · rw [if_pos hc]
      obtain ⟨e1, h1⟩ := opR_of hop hc.1
      have hge := units_len_ge hd hmem (by rw [hc.1]; decide)
      have hw : IntKind.i64.wrap (o.n + n) = o.n + n := IntWalk.i64_in _ (by omega)
      have e2 : ({ o with n := IntKind.i64.wrap (o.n + n) } : Opd) = opR (o.n + n) p := by rw [hw, e1, hc.2]; rfl
      rw [e2]
      rw [e1, hc.2] at e
      refine ⟨tight_lastIs (a := opR o.n p) (by rw [← e]; exact hd) (isOp_opR (by omega)) (fun c h => h), ?_, opR (o.n + n) p, by simp, rfl⟩
      rw [units_append, units_one, unitsO_R]
      have : units d = units d.dropLast ++ List.replicate o.n.toNat (.ret p) := by
        conv => lhs; rw [e]
        rw [units_append, units_one, unitsO_R]
      rw [this, List.append_assoc, List.replicate_append_replicate]
      congr 2
      omega
    · rw [if_neg hc]
      refine ⟨tight_append hd ⟨isOp_opR hn, trivial, trivial⟩ (fun a b t ha hb => ?_), by rw [units_append, units_one, unitsO_R], opR n p, by simp, rfl⟩
      injection hb with hb _
      subst hb
      rw [hl] at ha; injection ha with ha; subst ha
      cases hm : canMerge o (opR n p) with
      | false => rfl
      | true =>
        exfalso
        refine hc ?_
        simp [canMerge, opR] at hm
        exact ⟨hm.1, of_decide_eq_true hm.2⟩
theorem addI_ok {d : List Opd} {l : List Int} {s : List At} (hd : tight d) (h2 : ∀ o ∈ d, o.k = 2) (hl : l ≠ []) :
    tight (addI d l s) ∧ (∀ o ∈ addI d l s, o.k = 2) ∧ units (addI d l s) = units d ++ l.map (fun r => Un.ins r s) := by
  unfold addI
  cases hg : d.getLast? with
  | none =>
    have : d = [] := by simpa using hg
    subst this
    exact ⟨⟨isOp_opI hl, trivial, trivial⟩, by intro o ho; simp at ho; subst ho; rfl, by simp [units_one, units_nil, unitsO_I]⟩
  | some o =>
    have e := last_split hg
    have hmem : o ∈ d := by rw [e]; simp
    have hop := tight_mem hd o hmem
    have hk := h2 o hmem
    obtain ⟨e1, h1⟩ := opI_of hop hk
    simp only
    by_cases hc : o.s = s
    · rw [if_pos hc]
      have e2 : ({ o with r := o.r ++ l } : Opd) = opI (o.r ++ l) s := by rw [e1, hc]; rfl
      rw [e2]
      rw [e1, hc] at e
      refine ⟨tight_lastIs (a := opI o.r s) (by rw [← e]; exact hd) (isOp_opI (by simp [hl])) (fun c h => h), fun x hx => ?_, ?_⟩
      · rcases List.mem_append.1 hx with hx | hx
        · exact h2 x ((List.dropLast_sublist _).subset hx)
        · simp at hx; subst hx; rfl
      · rw [units_append, units_one, unitsO_I]
        have : units d = units d.dropLast ++ o.r.map (fun r => Un.ins r s) := by
          conv => lhs; rw [e]
          rw [units_append, units_one, unitsO_I]
        rw [this, List.append_assoc, List.map_append]
    · rw [if_neg hc]
      refine ⟨tight_append hd ⟨isOp_opI hl, trivial, trivial⟩ (fun a b t ha hb => ?_), fun x hx => ?_, by rw [units_append, units_one, unitsO_I]⟩
      · injection hb with hb _
        subst hb
        rw [hg] at ha; injection ha with ha; subst ha
        cases hm : canMerge o (opI l s) with
        | false => rfl
        | true =>
          exfalso
          refine hc ?_
          simp [canMerge, opI] at hm
          exact of_decide_eq_true hm.2
      · rcases List.mem_append.1 hx with hx | hx
        · exact h2 x hx
        · simp at hx; subst hx; rfl

structure MkAt (m : Mk) (K : List Un) (I : List Un) (g : Nat) : Prop where
  d1 : tight m.done
  d2 : units m.done = K
  d3 : ∀ o, m.done.getLast? = some o → o.k = 1
  i1 : tight m.ins
  i2 : units m.ins = I
  i3 : ∀ o ∈ m.ins, o.k = 2
  g1 : m.gone = g
theorem MkAt.new : MkAt Mk.new [] [] 0 := ⟨trivial, rfl, (by intro o h; cases h), trivial, rfl, (by intro o h; cases h), rfl⟩
theorem merge_kinds {a b : Opd} (h : a.k ≠ b.k) : canMerge a b = false := by
  cases hm : canMerge a b with
  | false => rfl
  | true =>
    exfalso; apply h
    simp [canMerge] at hm
    rcases hm with (⟨⟨h1, h2⟩, _⟩ | ⟨h1, h2⟩) | ⟨⟨h1, h2⟩, _⟩ <;> rw [h1, h2]
theorem MkAt.all {m : Mk} {K I : List Un} {g : Nat} (h : MkAt m K I g) : tight (m.done ++ mkGap m) ∧ units (m.done ++ mkGap m) = K ++ I ++ List.replicate g .del := by
  have hgap : tight (mkGap m) ∧ units (mkGap m) = I ++ List.replicate g .del ∧ ∀ b t, mkGap m = b :: t → b.k ≠ 1 := by
    unfold mkGap
    by_cases hg : 0 < m.gone
    · rw [if_pos hg]
      refine ⟨tight_append h.i1 ⟨isOp_opD (by omega), trivial, trivial⟩ (fun a b t ha hb => ?_), ?_, fun b t hb => ?_⟩
      · injection hb with hb _; subst hb
        exact merge_kinds (by rw [h.i3 a (List.mem_of_getLast? ha)]; exact (show (2 : Int) ≠ 3 by decide))
      · rw [units_append, units_one, unitsO_D, h.i2, h.g1]; simp
      · cases hi : m.ins with
        | nil => rw [hi] at hb; injection hb with hb _; subst hb; exact (show (3 : Int) ≠ 1 by decide)
        | cons c x =>
          rw [hi] at hb; injection hb with hb _; subst hb
          rw [h.i3 c (by rw [hi]; simp)]; decide
    · rw [if_neg hg]
      have hg0 : g = 0 := by have := h.g1; omega
      subst hg0
      refine ⟨by rw [List.append_nil]; exact h.i1, by rw [List.append_nil, h.i2]; simp, fun b t hb => ?_⟩
      rw [List.append_nil] at hb
      rw [h.i3 b (by rw [hb]; simp)]; decide
  obtain ⟨h1, h2, h3⟩ := hgap
  refine ⟨tight_append h.d1 h1 (fun a b t ha hb => merge_kinds (by rw [h.d3 a ha]; exact fun e => h3 b t hb e.symm)), by rw [units_append, h.d2, h2, List.append_assoc]⟩
theorem MkAt.retain {m : Mk} {K I : List Un} {g : Nat} (h : MkAt m K I g) {n : Int} {p : List Ch} (hn : 1 ≤ n) (hb : (K.length + I.length + g : Nat) + n ≤ 4611686018427387904) :
    MkAt (mkRetain m n p) (K ++ I ++ List.replicate g .del ++ List.replicate n.toNat (.ret p)) [] 0 := by
  obtain ⟨h1, h2⟩ := h.all
  obtain ⟨g1, g2, o, g3, g4⟩ := addR_ok (p := p) h1 hn (by rw [h2]; simp only [List.length_append, List.length_replicate]; exact hb)
  unfold mkRetain
  rw [if_neg (by omega)]
  refine ⟨g1, by rw [g2, h2], fun x hx => ?_, trivial, rfl, (by intro o ho; cases ho), rfl⟩
  rw [g3] at hx; injection hx with hx; subst hx; exact g4
theorem MkAt.retain0 {m : Mk} {K I : List Un} {g : Nat} (h : MkAt m K I g) {n : Int} {p : List Ch} (hn : n < 1) : MkAt (mkRetain m n p) K I g := by
  unfold mkRetain; rw [if_pos hn]; exact h
theorem MkAt.insert {m : Mk} {K I : List Un} {g : Nat} (h : MkAt m K I g) (l : List Int) (s : List At) :
    MkAt (mkInsert m l s) K (I ++ l.map (fun r => Un.ins r s)) g := by
  unfold mkInsert
  by_cases hl : l = []
  · rw [if_pos hl, hl]; simpa using h
  · rw [if_neg hl]
    obtain ⟨g1, g2, g3⟩ := addI_ok (s := s) h.i1 h.i3 hl
    exact ⟨h.d1, h.d2, h.d3, g1, by rw [g3, h.i2], g2, h.g1⟩
theorem MkAt.delete {m : Mk} {K I : List Un} {g : Nat} (h : MkAt m K I g) {n : Int} (hb : (g : Int) + n ≤ 4611686018427387904) (hg : g ≤ 4611686018427387904) :
    MkAt (mkDelete m n) K I (g + n.toNat) := by
  refine ⟨h.d1, h.d2, h.d3, h.i1, h.i2, h.i3, ?_⟩
  show IntKind.i64.wrap (m.gone + (if n < 0 then 0 else n)) = _
  rw [h.g1]
  have : (if n < 0 then 0 else n) = (n.toNat : Int) := by split <;> omega
  rw [this, IntWalk.i64_in _ (by omega)]
  omega
theorem MkAt.ops {m : Mk} {K I : List Un} {g : Nat} (h : MkAt m K I g) : tight (mkOps m) ∧ units (mkOps m) = trim (K ++ I ++ List.replicate g .del) := by
  obtain ⟨h1, h2⟩ := h.all
  unfold mkOps cutR
  rw [← h2]
  generalize m.done ++ mkGap m = x at *
  cases hl : x.getLast? with
  | none =>
    have : x = [] := by simpa using hl
    subst this
    exact ⟨trivial, rfl⟩
  | some o =>
    have e := last_split hl
    have hop := tight_mem h1 o (by rw [e]; simp)
    simp only
    have hT : tight (x.dropLast ++ [o]) := by rw [← e]; exact h1
    by_cases hc : o.k = 1 ∧ o.p = []
    · rw [if_pos hc]
      obtain ⟨e1, hn⟩ := opR_of hop hc.1
      rw [hc.2] at e1
      refine ⟨tight_front hT, ?_⟩
      have e2 : units x = units x.dropLast ++ List.replicate o.n.toNat (.ret []) := by
        conv => lhs; rw [e, e1]
        rw [units_append, units_one, unitsO_R]
      rw [e2, trim_reps]
      symm
      refine trim_last (fun u hu hr => ?_)
      subst hr
      -- the op ahead would be one with the last
      rcases List.eq_nil_or_concat x.dropLast with h0 | ⟨t, c, h0⟩
      · rw [h0] at hu; cases hu
      · rw [List.concat_eq_append] at h0
        rw [h0] at hu hT
        rw [units_append, units_one] at hu
        have hc1 := tight_mem hT c (by simp)
        have hcm : canMerge c o = false := by
          have : ∀ (t : List Opd), tight (t ++ [c] ++ [o]) → canMerge c o = false := by
            intro t
            induction t with
            | nil => intro h; exact h.2.1
            | cons d t ih => intro h; exact ih h.2.2
          exact this t hT
        rcases isOp_kind hc1 with hk | hk | hk
        · obtain ⟨ec, hr⟩ := opI_of hc1 hk
          rw [ec, unitsO_I] at hu
          rcases List.eq_nil_or_concat c.r with h5 | ⟨q, z, h5⟩
          · exact hr h5
          · rw [h5, List.concat_eq_append, List.map_append] at hu
            simp at hu
        · obtain ⟨ec, hr⟩ := opD_of hc1 hk
          rw [ec, unitsO_D] at hu
          obtain ⟨q, hq⟩ : ∃ q, c.n.toNat = q + 1 := ⟨c.n.toNat - 1, by omega⟩
          rw [hq, List.replicate_succ'] at hu
          simp at hu
        · obtain ⟨ec, hr⟩ := opR_of hc1 hk
          rw [ec, unitsO_R] at hu
          obtain ⟨q, hq⟩ : ∃ q, c.n.toNat = q + 1 := ⟨c.n.toNat - 1, by omega⟩
          rw [hq, List.replicate_succ'] at hu
          simp at hu
          rw [ec, e1, hu] at hcm
          simp [canMerge, opR] at hcm
    · rw [if_neg hc]
      refine ⟨h1, ?_⟩
      symm
      refine trim_last (fun u hu hr => ?_)
      subst hr
      rw [e, units_append, units_one] at hu
      rcases isOp_kind hop with hk | hk | hk
      · obtain ⟨ec, hr⟩ := opI_of hop hk
        rw [ec, unitsO_I] at hu
        rcases List.eq_nil_or_concat o.r with h5 | ⟨q, z, h5⟩
        · exact hr h5
        · rw [h5, List.concat_eq_append, List.map_append] at hu
          simp at hu
      · obtain ⟨ec, hr⟩ := opD_of hop hk
        rw [ec, unitsO_D] at hu
        obtain ⟨q, hq⟩ : ∃ q, o.n.toNat = q + 1 := ⟨o.n.toNat - 1, by omega⟩
        rw [hq, List.replicate_succ'] at hu
        simp at hu
      · obtain ⟨ec, hr⟩ := opR_of hop hk
        rw [ec, unitsO_R] at hu
        obtain ⟨q, hq⟩ : ∃ q, o.n.toNat = q + 1 := ⟨o.n.toNat - 1, by omega⟩
        rw [hq, List.replicate_succ'] at hu
        simp at hu
        exact hc ⟨hk, hu⟩

def cn : List Un → List Un → Nat → List Un
  | [], I, g => I ++ List.replicate g .del
  | .ins r s :: us, I, g => cn us (I ++ [.ins r s]) g
  | .del :: us, I, g => cn us I (g + 1)
  | .ret p :: us, I, g => I ++ List.replicate g .del ++ .ret p :: cn us [] 0
def canon (us : List Un) : List Un := cn us [] 0
def nf (us : List Un) : List Un := trim (canon us)

def takesU : List Un → Nat
  | [] => 0
  | .ins _ _ :: us => takesU us
  | _ :: us => takesU us + 1
def makesU : List Un → Nat
  | [] => 0
  | .del :: us => makesU us
  | _ :: us => makesU us + 1
theorem takesU_r (p : List Ch) (us : List Un) : takesU (.ret p :: us) = takesU us + 1 := rfl
theorem takesU_d (us : List Un) : takesU (.del :: us) = takesU us + 1 := rfl
theorem takesU_i (r : Int) (s : List At) (us : List Un) : takesU (.ins r s :: us) = takesU us := rfl
theorem makesU_r (p : List Ch) (us : List Un) : makesU (.ret p :: us) = makesU us + 1 := rfl
theorem makesU_d (us : List Un) : makesU (.del :: us) = makesU us := rfl
theorem makesU_i (r : Int) (s : List At) (us : List Un) : makesU (.ins r s :: us) = makesU us + 1 := rfl
theorem takesU_append (a b : List Un) : takesU (a ++ b) = takesU a + takesU b := by
  induction a with
  | nil => simp [takesU]
  | cons u a ih => cases u <;> simp [takesU, ih] <;> omega
theorem makesU_append (a b : List Un) : makesU (a ++ b) = makesU a + makesU b := by
  induction a with
  | nil => simp [makesU]
  | cons u a ih => cases u <;> simp [makesU, ih] <;> omega
theorem takesU_del (g : Nat) : takesU (List.replicate g .del) = g := by induction g with | zero => rfl | succ g ih => rw [List.replicate_succ, takesU_d, ih]
theorem makesU_del (g : Nat) : makesU (List.replicate g .del) = 0 := by induction g with | zero => rfl | succ g ih => rw [List.replicate_succ, makesU_d, ih]
theorem cn_takes (us : List Un) : ∀ (I : List Un) (g : Nat), takesU (cn us I g) = takesU I + g + takesU us := by
  induction us with
  | nil => intro I g; simp [cn, takesU_append, takesU_del, takesU]
  | cons u us ih =>
    intro I g
    cases u with
    | ins r s => rw [cn, ih, takesU_append]; simp [takesU]
    | del => rw [cn, ih]; simp [takesU]; omega
    | ret p => rw [cn, takesU_append, takesU_append, takesU_del, takesU_r, takesU_r, ih]; simp [takesU]; try omega
theorem cn_makes (us : List Un) : ∀ (I : List Un) (g : Nat), makesU (cn us I g) = makesU I + makesU us := by
  induction us with
  | nil => intro I g; simp [cn, makesU_append, makesU_del, makesU]
  | cons u us ih =>
    intro I g
    cases u with
    | ins r s => rw [cn, ih, makesU_append]; simp [makesU]; omega
    | del => rw [cn, ih]; simp [makesU]
    | ret p => rw [cn, makesU_append, makesU_append, makesU_del, makesU_r, makesU_r, ih]; simp [makesU]; try omega
theorem canon_takes (us : List Un) : takesU (canon us) = takesU us := by rw [canon, cn_takes]; simp [takesU]
theorem canon_makes (us : List Un) : makesU (canon us) = makesU us := by rw [canon, cn_makes]; simp [makesU]

theorem cn_ins (l : List Int) (s : List At) (us : List Un) : ∀ (I : List Un) (g : Nat), cn (l.map (fun r => Un.ins r s) ++ us) I g = cn us (I ++ l.map (fun r => Un.ins r s)) g := by
  induction l with
  | nil => intro I g; simp
  | cons r l ih => intro I g; show cn (l.map _ ++ us) (I ++ [.ins r s]) g = _; rw [ih]; simp
theorem cn_del (k : Nat) (us : List Un) : ∀ (I : List Un) (g : Nat), cn (List.replicate k .del ++ us) I g = cn us I (g + k) := by
  induction k with
  | zero => intro I g; simp
  | succ k ih => intro I g; rw [List.replicate_succ]; show cn (List.replicate k .del ++ us) I (g + 1) = _; rw [ih]; congr 1; omega
theorem cn_ret (k : Nat) (p : List Ch) (us : List Un) (I : List Un) (g : Nat) : cn (List.replicate (k + 1) (.ret p) ++ us) I g = I ++ List.replicate g .del ++ List.replicate (k + 1) (.ret p) ++ cn us [] 0 := by
  have h : ∀ k, cn (List.replicate k (.ret p) ++ us) [] 0 = List.replicate k (.ret p) ++ cn us [] 0 := by
    intro k
    induction k with
    | zero => rfl
    | succ k ih => rw [List.replicate_succ]; show [] ++ List.replicate 0 .del ++ .ret p :: cn (List.replicate k (.ret p) ++ us) [] 0 = _; rw [ih]; simp
  rw [List.replicate_succ]
  show I ++ List.replicate g .del ++ .ret p :: cn (List.replicate k (.ret p) ++ us) [] 0 = _
  rw [h]; simp

def Told (m : Mk) (us : List Un) : Prop :=
  ∃ K I g, MkAt m K I g ∧ (∀ rest, canon (us ++ rest) = K ++ cn rest I g) ∧ K.length + I.length + g = us.length
theorem Told.new : Told Mk.new [] := ⟨[], [], 0, MkAt.new, fun rest => rfl, rfl⟩
theorem Told.retain {m : Mk} {us : List Un} (h : Told m us) (n : Int) (p : List Ch) (hb : (us.length : Int) + n ≤ 4611686018427387904) : Told (mkRetain m n p) (us ++ List.replicate n.toNat (.ret p)) := by
  obtain ⟨K, I, g, h1, h2, h3⟩ := h
  by_cases hn : n < 1
  · have : n.toNat = 0 := by omega
    rw [this]
    exact ⟨K, I, g, h1.retain0 hn, fun rest => by rw [List.replicate_zero, List.append_nil]; exact h2 rest, by simpa using h3⟩
  · obtain ⟨k, hk⟩ : ∃ k, n.toNat = k + 1 := ⟨n.toNat - 1, by omega⟩
    refine ⟨_, [], 0, h1.retain (p := p) (by omega) (by rw [h3]; exact hb), fun rest => ?_, ?_⟩
    · rw [List.append_assoc, h2, hk, cn_ret]; simp only [List.append_assoc]
    · simp only [List.length_append, List.length_replicate, List.length_nil]; omega
theorem Told.insert {m : Mk} {us : List Un} (h : Told m us) (l : List Int) (s : List At) : Told (mkInsert m l s) (us ++ l.map (fun r => Un.ins r s)) := by
  obtain ⟨K, I, g, h1, h2, h3⟩ := h
  refine ⟨K, _, g, h1.insert l s, fun rest => by rw [List.append_assoc, h2, cn_ins], by simp; omega⟩
theorem Told.delete {m : Mk} {us : List Un} (h : Told m us) (n : Int) (hb : (us.length : Int) + n ≤ 4611686018427387904) (hb2 : us.length ≤ 4611686018427387904) : Told (mkDelete m n) (us ++ List.replicate n.toNat .del) := by
  obtain ⟨K, I, g, h1, h2, h3⟩ := h
  refine ⟨K, I, _, h1.delete (n := n) (by omega) (by omega), fun rest => by rw [List.append_assoc, h2, cn_del], by simp; omega⟩
theorem Told.ops {m : Mk} {us : List Un} (h : Told m us) : tight (mkOps m) ∧ units (mkOps m) = nf us := by
  obtain ⟨K, I, g, h1, h2, h3⟩ := h
  obtain ⟨g1, g2⟩ := h1.ops
  refine ⟨g1, ?_⟩
  rw [g2, nf]
  have := h2 []
  rw [List.append_nil] at this
  rw [this]
  simp [cn, List.append_assoc]
theorem canon_snoc_ret (us : List Un) (p : List Ch) : canon (us ++ [.ret p]) = canon us ++ [.ret p] := by
  have h : ∀ (us I : List Un) (g : Nat), cn (us ++ [.ret p]) I g = cn us I g ++ [.ret p] := by
    intro us
    induction us with
    | nil => intro I g; simp [cn]
    | cons u us ih => intro I g; cases u <;> simp [cn, ih]
  exact h us [] 0
open Go.RowKit

def osOf (x : List OpS) : List Opd := x.map (·.o)
structure Cl where
  r : Int
  s : List At
deriving DecidableEq
structure ClS where
  c : Cl
  As : Option Addr
  cs : Nat
def ClS.enc (x : ClS) : List Value := [.int .i32 x.c.r, .slice x.As x.c.s.length x.cs]
abbrev RdCs := @Rd ClS ClS.enc 2
def SubC (w : World) (B : Nat) (l : List ClS) : Prop := ∀ x ∈ l, RdAt w B x.As x.c.s
def RdCl (w : World) (B : Nat) (A : Option Addr) (l : List ClS) : Prop := RdCs w B A l ∧ SubC w B l
theorem cl_cells {w : World} {p : Addr} {r s : Value} (h : CellsAt w p [r, s]) : w.cell? p = some r ∧ w.cell? { block := p.block, off := p.off + 1 } = some s := by
  have h0 := h 0 _ rfl
  rw [add_zero'] at h0
  exact ⟨h0, cellsAt_lit h 0 rfl⟩

def put1 (c : Ch) : List At := if c.gone then [] else [⟨c.key, c.v⟩]
def drop1 (k : Int) : List At → List At
  | [] => []
  | a :: s => if a.key = k then s else a :: s
def applyP : List Ch → List At → List At
  | [], s => s
  | c :: p, s => s.takeWhile (fun a => decide (a.key < c.key)) ++ (put1 c ++ applyP p (drop1 c.key (s.dropWhile (fun a => decide (a.key < c.key)))))
def getA (l : List At) (key : Int) : Option V := (l.find? (fun a => decide (a.key = key))).map (·.v)

theorem rise_head {a : Int} {l : List Int} (h : rise (a :: l) = true) : ∀ b ∈ l, a < b := by
  induction l generalizing a with
  | nil => intro b hb; simp at hb
  | cons c l ih =>
    simp only [rise, Bool.and_eq_true, decide_eq_true_eq] at h
    intro b hb
    rcases List.mem_cons.1 hb with rfl | hb
    · exact h.1
    · have := ih h.2 b hb; omega
theorem rise_tail {a : Int} {l : List Int} (h : rise (a :: l) = true) : rise l = true := by
  cases l with
  | nil => rfl
  | cons c l => simp only [rise, Bool.and_eq_true] at h; exact h.2
def cmpI (a b : Int) : Int := if a < b then -1 else if b < a then 1 else 0

set_option maxHeartbeats 400000 in
theorem cmpNaN_any (x : Int) (w : World) : Calls Tryz.prog 149 #[.int .i64 x] w fun e w' => e = .returned (.bool false) ∧ w = w' := by
  go_enter Tryz.func149, Tryz.ntmps149
  go_wp2
  go_ret
  exact ⟨by simp, rfl⟩

set_option maxHeartbeats 400000 in
theorem compare_any (x y : Int) (w : World) : Calls Tryz.prog 71 #[.int .i64 x, .int .i64 y] w fun e w' => e = .returned (.int .i64 (cmpI x y)) ∧ w = w' := by
  have hc : (x < y ∧ cmpI x y = -1) ∨ (¬ x < y ∧ y < x ∧ cmpI x y = 1) ∨ (¬ x < y ∧ ¬ y < x ∧ cmpI x y = 0) := by
    unfold cmpI
    by_cases h1 : x < y
    · simp [h1]
    · by_cases h2 : y < x <;> simp [h1, h2]
  rcases hc with ⟨h1, hc⟩ | ⟨h1, h2, hc⟩ | ⟨h1, h2, hc⟩
  all_goals
    have HC := Lib.hid hc
    clear hc
    go_enter Tryz.func71, Tryz.ntmps71
    go_wp2_with (go_at_call 149; refine (cmpNaN_any _ _).mono ?_; rintro e w' ⟨rfl, rfl⟩)
    go_ret
    exact ⟨ret_int HC.out.symm, rfl⟩

section
variable {α : Type} (key : α → Int)
def lk (l : List α) (k : Int) : Option α := l.find? (fun a => decide (key a = k))
def Srt (l : List α) : Prop := l.Pairwise (fun a b => key a < key b)

theorem lk_nil (k : Int) : lk key [] k = none := rfl
theorem lk_cons (a : α) (l : List α) (k : Int) : lk key (a :: l) k = if key a = k then some a else lk key l k := by
  unfold lk
  by_cases h : key a = k <;> simp [h]
theorem lk_key {l : List α} {k : Int} {a : α} (h : lk key l k = some a) : key a = k := by
  unfold lk at h
  have := List.find?_some h
  simpa using this
theorem lk_mem {l : List α} {k : Int} {a : α} (h : lk key l k = some a) : a ∈ l := by
  unfold lk at h
  exact List.mem_of_find?_eq_some h
theorem lk_isSome {l : List α} {k : Int} : (lk key l k).isSome = true ↔ ∃ a ∈ l, key a = k := by
  constructor
  · intro h
    obtain ⟨a, ha⟩ := Option.isSome_iff_exists.1 h
    exact ⟨a, lk_mem key ha, lk_key key ha⟩
  · rintro ⟨a, ha, hk⟩
    cases hl : lk key l k with
    | some _ => rfl
    | none =>
      unfold lk at hl
      rw [List.find?_eq_none] at hl
      exact absurd hk (by simpa using hl a ha)
theorem srt_cons {a : α} {l : List α} : Srt key (a :: l) ↔ (∀ b ∈ l, key a < key b) ∧ Srt key l := List.pairwise_cons
theorem Srt.filter {l : List α} (h : Srt key l) (p : α → Bool) : Srt key (l.filter p) := List.Pairwise.filter p h
end

theorem rise_srt {α : Type} (key : α → Int) (l : List α) : rise (l.map key) = true ↔ Srt key l := by
  induction l with
  | nil => simp [rise, Srt]
  | cons a l ih =>
    rw [srt_cons, ← ih]
    constructor
    · intro h
      refine ⟨fun b hb => rise_head h _ (List.mem_map.2 ⟨b, hb, rfl⟩), rise_tail h⟩
    · rintro ⟨h1, h2⟩
      cases l with
      | nil => rfl
      | cons b l =>
        simp only [List.map_cons, rise, Bool.and_eq_true, decide_eq_true_eq]
        exact ⟨h1 b (by simp), h2⟩
theorem riseC_srt {l : List Ch} : riseC l = true ↔ Srt Ch.key l := rise_srt Ch.key l
section
variable {a b : List At} {p q r : List Ch}
end

def keepK (l : List Ky) (b : Bool) (id : Int) : Bool :=
  match findK l id with
  | none => false
  | some k => k.block == b
def partP (l : List Ky) (b : Bool) (p : List Ch) : List Ch := p.filter (fun c => keepK l b c.key)
open Go.RowKit
set_option linter.unusedVariables false
set_option linter.unusedSimpArgs false

theorem findK_drop {l : List Ky} {m : Nat} {x : Ky} {id : Int} {R : Option Ky} (hd : l.drop m = x :: l.drop (m + 1)) (h : findK (l.drop m) id = R) (hx : x.id ≠ id) : findK (l.drop (m + 1)) id = R := by
  rw [hd] at h
  rw [← h]
  simp [findK, hx]
theorem findK_hit {l : List Ky} {m : Nat} {x : Ky} {id : Int} {R : Option Ky} (hd : l.drop m = x :: l.drop (m + 1)) (h : findK (l.drop m) id = R) (hx : x.id = id) : R = some x := by
  rw [hd] at h
  rw [← h]
  simp [findK, hx]
theorem findK_end {l : List Ky} {m : Nat} {id : Int} {R : Option Ky} (hm : l.length ≤ m) (h : findK (l.drop m) id = R) : R = none := by
  rw [List.drop_eq_nil_of_le hm] at h
  rw [← h]
  rfl

set_option maxRecDepth 100000 in
set_option maxHeartbeats 800000 in
theorem findR_any (A : Option Addr) (n c : Nat) (l : List Ky) (id : Int) (w : World) (hn : n = l.length) (h : RdKy w w.heap.size A l) (hb : n ≤ 140737488355328) :
    Calls Tryz.prog 151 #[.slice A n c, .int .i64 id] w (FindOutK l id w) := by
  have N := Lib.hid hn
  generalize hR : findK l id = R
  have HR := Lib.hid hR
  clear hn hR
  unfold FindOutK
  rw [HR.out]
  have y0 := ext_alloc w (.cells #[.int .i64 0, .bool false, .int .u8 0, .bool false, .bool false, .int .i64 0] 97)
  have HB := Lib.hid (heap_alloc_new w (.cells #[.int .i64 0, .bool false, .int .u8 0, .bool false, .bool false, .int .i64 0] 97))
  go_enter Tryz.func151, Tryz.ntmps151
  go_wp2_with (fail)
  go_loopg [6] n (fun g iv wr => ∃ m : Nat, m ≤ n ∧ g = n - m ∧ iv = .int .i64 (m : Int) ∧ wr = w.alloc (.cells #[.int .i64 0, .bool false, .int .u8 0, .bool false, .bool false, .int .i64 0] 97) ∧ Hid (findK (l.drop m) id = R))
  case atStart => exact ⟨0, by omega, rfl, rfl, rfl, Lib.hid (by rw [List.drop_zero]; exact HR.out)⟩
  case round =>
    obtain ⟨m, hm, hg, rfl, rfl, HI⟩ := hrel
    have HG := Lib.hid hg
    clear hg HR
    by_cases hlt : m < n
    · have hl1 : m < l.length := by have := N.out; omega
      obtain ⟨ad, x, rfl, had, hd1, _, hc0⟩ := h.el hl1
      have hc1 := hc0.keep (w' := w.alloc (.cells #[.int .i64 0, .bool false, .int .u8 0, .bool false, .bool false, .int .i64 0] 97)) (fun q hq => World.cell?_alloc_lt w _ q (by rw [hq, add_block]; exact had))
      have HD := Lib.hid hd1
      obtain ⟨x1, x2, x3, x4, x5, x6⟩ := x
      obtain ⟨r0, r1, r2, r3, r4, r5⟩ := ky_cells hc1
      clear hc0 hc1 hd1
      have hw2 : IntKind.i64.wrap ((m:Int) + 1) = (m : Int) + 1 := IntWalk.i64_in _ (by omega)
      obtain ⟨b0, b1, b2, b3, b4, b5⟩ := box_ky HB.out
      by_cases hle : x1 = id
      · subst hle
        go_wp2_with (fail)
        refine bodyPost_ret (v := .tuple #[.agg #[.int .i64 x1, .bool x2, .int .u8 x3, .bool x4, .bool x5, .int .i64 x6], .bool true]) (by simp [results, Tryz.results151, go_sem]) rfl ?_
        have hr := findK_hit HD.out HI.out rfl
        exact ⟨x1, x2, x3, x4, x5, x6, true, rfl, by rw [hr]; rfl, by rw [hr]; rfl, by first | exact ext_alloc w _ | trace_state⟩
      · go_wp2_with (fail)
        go_roundg (n - (m + 1))
        case measure => have := HG.out; omega
        case rel => exact ⟨m + 1, by omega, rfl, by go_num, rfl, Lib.hid (findK_drop HD.out HI.out hle)⟩
    · have HE := Lib.hid (findK_end (m := m) (by have := N.out; omega) HI.out)
      go_wp2_with (fail)
      refine bodyPost_ret (v := .tuple #[.agg #[.int .i64 0, .bool false, .int .u8 0, .bool false, .bool false, .int .i64 0], .bool false]) (by simp [results, Tryz.results151, go_sem]) rfl ?_
      exact ⟨0, false, 0, false, false, 0, false, rfl, by rw [HE.out]; rfl, by rw [HE.out]; rfl, by first | exact ext_alloc w _ | trace_state⟩

set_option maxHeartbeats 1600000 in
theorem fitsR_any (A : Option Addr) (nn cc : Nat) (l : List Ky) (id k n f : Int) (t : ByteArray) (w : World) (hn : nn = l.length) (h : RdKy w w.heap.size A l) (hb : nn ≤ 140737488355328) (h0 : 0 ≤ f) (h1 : f < 18446744073709551616) (hsz : t.size ≤ 100000000)
    (hT : Lib.Utf8Tabs 1 2 w) :
    Calls Tryz.prog 175 #[.slice A nn cc, .int .i64 id, .agg #[.int .u8 k, .int .i64 n, .int .u64 f, .string t]] w fun e w' => e = .returned (.bool (fitsK l id ⟨k, n, f, t⟩)) ∧ Below w.heap.size w w' := by
  obtain ⟨R, hR⟩ : ∃ X, fitsK l id ⟨k, n, f, t⟩ = X := ⟨_, rfl⟩
  obtain ⟨m, hm⟩ : ∃ X, mayV ⟨k, n, f, t⟩ = X := ⟨_, rfl⟩
  rw [hR]
  unfold fitsK at hR
  rw [hm] at hR
  have HR := Lib.hid hR
  have HMV := Lib.hid hm
  have HN := Lib.hid hn
  have y0 := ext_alloc w (.cells #[.int .u8 k, .int .i64 n, .int .u64 f, .string t] 41)
  have hv0 := heap_alloc_new w (.cells #[.int .u8 k, .int .i64 n, .int .u64 f, .string t] 41)
  have hs0 := h.ext y0
  have hT0 := Utf8Tabs_below hT y0
  clear hR hm h hn
  go_enter Tryz.func175, Tryz.ntmps175
  go_wp2_with (go_at_call 151; refine Hid.out ?_)
  refine Lib.hid ?_
  have H0 := Lib.hid hv0
  clear hv0
  generalize hw0 : w.alloc _ = w0 at *
  clear hw0
  refine (findR_any A nn cc l id w0 HN.out hs0 hb).mono ?_
  rintro e w1 ⟨i, c, kd, d, g, q, b, rfl, hk, hb, y1⟩
  have hv1 := (y1.block w.heap.size (lt_of_some H0.out)).trans H0.out
  have y1' := ext_trans y0 y1
  have y2 := ext_alloc w1 (.cells #[.int .i64 i, .bool c, .int .u8 kd, .bool d, .bool g, .int .i64 q] 97)
  have hk2 := heap_alloc_new w1 (.cells #[.int .i64 i, .bool c, .int .u8 kd, .bool d, .bool g, .int .i64 q] 97)
  have hv2 := (y2.block w.heap.size (lt_of_some hv1)).trans hv1
  have hT2 := Utf8Tabs_below hT0 (ext_trans y1 y2)
  have yy := ext_trans y1' y2
  obtain ⟨a0, a1, a2, a3⟩ := box_v hv2
  have HV2 := Lib.hid hv2
  have HK2 := Lib.hid hk2
  have HB := Lib.hid hb
  have HK := Lib.hid hk
  clear hv1 hv2 hk2 H0 hb hk hT hT0 hs0
  cases b with
  | false =>
    go_wp2_with (fail)
    go_ret
    refine ⟨ret_bool ?_, yy⟩
    have h := HR.out
    have hb := HB.out
    cases hq : findK l id with
    | none => rw [hq] at h; exact h
    | some k => rw [hq] at hb; simp at hb
  | true =>
    obtain ⟨K, hK⟩ : ∃ K, findK l id = some K := Option.isSome_iff_exists.1 HB.out
    have hR := HR.out
    have hk := HK.out
    rw [hK] at hR hk
    simp only [Option.getD_some] at hk
    subst hk
    simp only at hR
    have HR := Lib.hid hR
    clear hR
    go_wp2_with (go_at_call 174; refine Hid.out ?_)
    refine Lib.hid ?_
    refine (refMayV_any k n f t _ h0 h1 hsz hT2).mono ?_
    rintro e w3 ⟨rfl, y3⟩
    rw [HMV.out]
    have yy3 := below_at yy y3 rfl rfl rfl rfl
    obtain ⟨hv3, hk3⟩ := kept2 HV2.out HK2.out y3 rfl
    obtain ⟨a0, a1, a2, a3⟩ := box_v hv3
    obtain ⟨k0, k1, k2, k3, k4, k5⟩ := box_ky hk3
    clear hv3 hk3 y3
    cases m with
    | false =>
      go_wp2_with (fail)
      go_ret
      refine ⟨ret_bool ?_, yy3⟩
      rw [← HR.out]; simp
    | true =>
      go_wp2_with (fail)
      go_ret
      refine ⟨ret_bool ?_, yy3⟩
      rw [← HR.out, Bool.and_true]
      by_cases hq : kd = k
      · subst hq; simp
      · have hq' : ¬ k = kd := fun e => hq e.symm
        simp [hq, hq']

def okPre (seen : List Ky) : List Ky → Bool
  | [] => true
  | k :: r => mayK k && (findK seen k.id).isNone && okPre (seen ++ [k]) r
def mayKs (l : List Ky) : Bool := decide (l.length ≤ 64) && okPre [] l
theorem findK_take_none {l : List Ky} {m j : Nat} {x : Ky} {id : Int} (hd : l.drop j = x :: l.drop (j + 1)) (hj : j < m) : findK ((l.take m).drop j) id = if x.id = id then some x else findK ((l.take m).drop (j + 1)) id := by
  have hl : j < l.length := by rcases Nat.lt_or_ge j l.length with h | h; · exact h
                               · rw [List.drop_eq_nil_of_le h] at hd; simp at hd
  have hx : l[j] = x := by rw [List.drop_eq_getElem_cons hl] at hd; exact (List.cons.inj hd).1
  have hl2 : j < (l.take m).length := by rw [List.length_take]; omega
  rw [List.drop_eq_getElem_cons hl2, List.getElem_take, hx]
  simp only [findK, List.find?_cons]
  by_cases h : x.id = id <;> simp [h]

set_option maxRecDepth 100000 in
set_option maxHeartbeats 3200000 in
theorem mayR4_any (A : Option Addr) (n c : Nat) (l : List Ky) (w : World) (hn : n = l.length) (h : RdKy w w.heap.size A l) (hb : n ≤ 140737488355328) :
    Calls Tryz.prog 14 #[.slice A n c] w fun e w' => e = .returned (.bool (mayKs l)) ∧ Below w.heap.size w w' := by
  have N := Lib.hid hn
  generalize hR : mayKs l = R
  have HR := Lib.hid hR
  clear hn hR
  by_cases h64 : (64 : Int) < (n : Int)
  · go_enter Tryz.func14, Tryz.ntmps14
    go_wp2_with (fail)
    go_ret
    refine ⟨ret_bool ?_, Below.refl _ _⟩
    rw [← HR.out]
    have := N.out
    simp [mayKs]; omega
  have HP : Hid (okPre [] l = R) := Lib.hid (by rw [← HR.out]; have := N.out; simp [mayKs]; intro h; omega)
  go_enter Tryz.func14, Tryz.ntmps14
  go_wp2_with (fail)
  go_loopg [3] n (fun g iv wr => ∃ m : Nat, m ≤ n ∧ g = n - m ∧ iv = .int .i64 (m : Int) ∧ Below w.heap.size w wr ∧ Hid (okPre (l.take m) (l.drop m) = R))
  case atStart => exact ⟨0, by omega, rfl, rfl, Below.refl _ _, Lib.hid (by rw [List.drop_zero, List.take_zero]; exact HP.out)⟩
  case round =>
    obtain ⟨m, hm, hg, rfl, y, HI⟩ := hrel
    have HG := Lib.hid hg
    clear hg HR HP
    by_cases hlt : m < n
    · have hl1 : m < l.length := by have := N.out; omega
      obtain ⟨ad, x, rfl, had, hd1, hx1, hc0⟩ := (h.below y (Nat.le_refl _)).el hl1
      have hh := h.below y (Nat.le_refl _)
      obtain ⟨x1, x2, x3, x4, x5, x6⟩ := x
      obtain ⟨r0, r1, r2, r3, r4, r5⟩ := ky_cells hc0
      have HI2 : Hid ((mayK ⟨x1, x2, x3, x4, x5, x6⟩ && (findK (l.take m) x1).isNone && okPre (l.take (m + 1)) (l.drop (m + 1))) = R) := Lib.hid (by
        rw [← HI.out, hd1]
        simp only [okPre]
        rw [List.take_add_one, hx1]; rfl)
      have HD := Lib.hid hd1
      have yb := ext_alloc wr (.cells #[.int .i64 x1, .bool x2, .int .u8 x3, .bool x4, .bool x5, .int .i64 x6] 97)
      have HBX := Lib.hid (heap_alloc_new wr (.cells #[.int .i64 x1, .bool x2, .int .u8 x3, .bool x4, .bool x5, .int .i64 x6] 97))
      clear hc0 hd1 hx1 HI
      have hw2 : IntKind.i64.wrap ((m:Int) + 1) = (m : Int) + 1 := IntWalk.i64_in _ (by omega)
      by_cases h1 : x1 < 1
      · skip
        go_wp2_with (fail)
        go_ret
        exact ⟨ret_bool (by rw [← HI2.out, show mayK ⟨x1, x2, x3, x4, x5, x6⟩ = false by unfold mayK; simp; omega]; simp), ext_trans y yb⟩
      by_cases h2 : 1000 < x1
      · skip
        go_wp2_with (fail)
        go_ret
        exact ⟨ret_bool (by rw [← HI2.out, show mayK ⟨x1, x2, x3, x4, x5, x6⟩ = false by unfold mayK; simp; omega]; simp), ext_trans y yb⟩
      by_cases h3 : x3 < 1
      · skip
        go_wp2_with (fail)
        go_ret
        exact ⟨ret_bool (by rw [← HI2.out, show mayK ⟨x1, x2, x3, x4, x5, x6⟩ = false by unfold mayK; simp; omega]; simp), ext_trans y yb⟩
      by_cases h4 : 4 < x3
      · skip
        go_wp2_with (fail)
        go_ret
        exact ⟨ret_bool (by rw [← HI2.out, show mayK ⟨x1, x2, x3, x4, x5, x6⟩ = false by unfold mayK; simp; omega]; simp), ext_trans y yb⟩
      by_cases h5 : x6 < 0
      · skip
        go_wp2_with (fail)
        go_ret
        exact ⟨ret_bool (by rw [← HI2.out, show mayK ⟨x1, x2, x3, x4, x5, x6⟩ = false by unfold mayK; simp; intros; cases x2 <;> simp <;> omega]; simp), ext_trans y yb⟩
      by_cases h6 : 8 < x6
      · skip
        go_wp2_with (fail)
        go_ret
        exact ⟨ret_bool (by rw [← HI2.out, show mayK ⟨x1, x2, x3, x4, x5, x6⟩ = false by unfold mayK; simp; intros; cases x2 <;> simp <;> omega]; simp), ext_trans y yb⟩
      have hgo : (x2 = true ∧ x5 = true) ∨ (x2 = false ∧ ¬ x6 = 0) ∨ mayK ⟨x1, x2, x3, x4, x5, x6⟩ = true := by
        unfold mayK
        cases x2 <;> cases x5 <;> simp <;> omega
      rcases hgo with ⟨rfl, rfl⟩ | ⟨rfl, h7⟩ | hgo
      · go_wp2_with (fail)
        go_ret
        exact ⟨ret_bool (by rw [← HI2.out, show mayK ⟨x1, true, x3, x4, true, x6⟩ = false by unfold mayK; simp]; simp), ext_trans y yb⟩
      · go_wp2_with (fail)
        go_ret
        exact ⟨ret_bool (by rw [← HI2.out, show mayK ⟨x1, false, x3, x4, x5, x6⟩ = false by unfold mayK; simp [h7]]; simp), ext_trans y yb⟩
      have HGO := Lib.hid hgo
      clear hgo
      cases x2 with
      | true =>
        have hx5 : x5 = false := by
          have h := HGO.out
          cases x5 with
          | false => rfl
          | true => simp [mayK] at h
        subst hx5
        go_wp2_with (fail)
        obtain ⟨R2, hR2⟩ : ∃ X, findK (l.take m) x1 = X := ⟨_, rfl⟩
        have HR2 := Lib.hid hR2
        clear hR2
        go_loopg [5] m (fun g2 jv wi => ∃ j : Nat, j ≤ m ∧ g2 = m - j ∧ jv = .int .i64 (j : Int) ∧ (∃ d, wi = (wr.alloc (.cells #[.int .i64 x1, .bool true, .int .u8 x3, .bool x4, .bool false, .int .i64 x6] 97)).drewN d) ∧ Hid (findK ((l.take m).drop j) x1 = R2))
        case atStart => exact ⟨0, by omega, rfl, rfl, ⟨0, rfl⟩, Lib.hid (by rw [List.drop_zero]; exact HR2.out)⟩
        case round =>
          obtain ⟨j, hj, hg2, rfl, ⟨d, rfl⟩, HJ⟩ := hrel
          have HG2 := Lib.hid hg2
          clear hg2
          by_cases hjm : j < m
          · have hl2 : j < l.length := by omega
            obtain ⟨ad', z, e, had2, hd2, _, hz0⟩ := hh.el hl2
            injection e with e; subst e
            have hz1 := hz0.keep (w' := wr.alloc (.cells #[.int .i64 x1, .bool true, .int .u8 x3, .bool x4, .bool false, .int .i64 x6] 97)) (fun q hq => World.cell?_alloc_lt wr _ q (by rw [hq, add_block]; exact Nat.lt_of_lt_of_le had2 y.size))
            obtain ⟨z1, z2, z3, z4, z5, z6⟩ := z
            obtain ⟨s0, -⟩ := ky_cells hz1
            have hbx : (wr.alloc (.cells #[.int .i64 x1, .bool true, .int .u8 x3, .bool x4, .bool false, .int .i64 x6] 97)).heap[wr.heap.size]? = some (.cells #[.int .i64 x1, .bool true, .int .u8 x3, .bool x4, .bool false, .int .i64 x6] 97 (0, 0)) := HBX.out
            obtain ⟨b0, -⟩ := box_ky hbx
            have HT := Lib.hid (findK_take_none (m := m) (id := x1) hd2 hjm)
            clear hz0 hz1 hd2 hbx
            have hjn : j < n := by omega
            have hw3 : IntKind.i64.wrap ((j:Int) + 1) = (j : Int) + 1 := IntWalk.i64_in _ (by omega)
            by_cases hzx : z1 = x1
            · subst hzx
              go_wp2_with (go_quiet (fail))
              go_ret
              have h2 := HJ.out
              rw [HT.out, if_pos (by simp)] at h2
              have h3 := HR2.out
              exact ⟨ret_bool (by rw [← HI2.out, h3, ← h2]; simp), ext_trans y (ext_trans yb (ext_drew _ _))⟩
            · go_wp2_with (go_quiet (fail))
              go_roundg (m - (j + 1))
              case measure => have := HG2.out; omega
              case rel => exact ⟨j + 1, by omega, rfl, by go_num, ⟨_, rfl⟩, Lib.hid (by rw [← HJ.out, HT.out, if_neg hzx])⟩
          · have hR2 : R2 = none := by rw [← HJ.out, List.drop_eq_nil_of_le (by rw [List.length_take]; omega)]; rfl
            have HF := Lib.hid (HR2.out.trans hR2)
            clear hR2
            go_wp2_with (fail)
            go_roundg (n - (m + 1))
            case measure => have := HG.out; omega
            case rel => exact ⟨m + 1, by omega, rfl, by go_num, ext_trans y (ext_trans yb (ext_drew _ _)), Lib.hid (by rw [← HI2.out, HGO.out, HF.out]; simp)⟩
      | false =>
        have hx6 : x6 = 0 := by
          have h := HGO.out
          simp [mayK] at h
          exact h.2
        subst hx6
        go_wp2_with (fail)
        obtain ⟨R2, hR2⟩ : ∃ X, findK (l.take m) x1 = X := ⟨_, rfl⟩
        have HR2 := Lib.hid hR2
        clear hR2
        go_loopg [5] m (fun g2 jv wi => ∃ j : Nat, j ≤ m ∧ g2 = m - j ∧ jv = .int .i64 (j : Int) ∧ (∃ d, wi = (wr.alloc (.cells #[.int .i64 x1, .bool false, .int .u8 x3, .bool x4, .bool x5, .int .i64 0] 97)).drewN d) ∧ Hid (findK ((l.take m).drop j) x1 = R2))
        case atStart => exact ⟨0, by omega, rfl, rfl, ⟨0, rfl⟩, Lib.hid (by rw [List.drop_zero]; exact HR2.out)⟩
        case round =>
          obtain ⟨j, hj, hg2, rfl, ⟨d, rfl⟩, HJ⟩ := hrel
          have HG2 := Lib.hid hg2
          clear hg2
          by_cases hjm : j < m
          · have hl2 : j < l.length := by omega
            obtain ⟨ad', z, e, had2, hd2, _, hz0⟩ := hh.el hl2
            injection e with e; subst e
            have hz1 := hz0.keep (w' := wr.alloc (.cells #[.int .i64 x1, .bool false, .int .u8 x3, .bool x4, .bool x5, .int .i64 0] 97)) (fun q hq => World.cell?_alloc_lt wr _ q (by rw [hq, add_block]; exact Nat.lt_of_lt_of_le had2 y.size))
            obtain ⟨z1, z2, z3, z4, z5, z6⟩ := z
            obtain ⟨s0, -⟩ := ky_cells hz1
            have hbx : (wr.alloc (.cells #[.int .i64 x1, .bool false, .int .u8 x3, .bool x4, .bool x5, .int .i64 0] 97)).heap[wr.heap.size]? = some (.cells #[.int .i64 x1, .bool false, .int .u8 x3, .bool x4, .bool x5, .int .i64 0] 97 (0, 0)) := HBX.out
            obtain ⟨b0, -⟩ := box_ky hbx
            have HT := Lib.hid (findK_take_none (m := m) (id := x1) hd2 hjm)
            clear hz0 hz1 hd2 hbx
            have hjn : j < n := by omega
            have hw3 : IntKind.i64.wrap ((j:Int) + 1) = (j : Int) + 1 := IntWalk.i64_in _ (by omega)
            by_cases hzx : z1 = x1
            · subst hzx
              go_wp2_with (go_quiet (fail))
              go_ret
              have h2 := HJ.out
              rw [HT.out, if_pos (by simp)] at h2
              have h3 := HR2.out
              exact ⟨ret_bool (by rw [← HI2.out, h3, ← h2]; simp), ext_trans y (ext_trans yb (ext_drew _ _))⟩
            · go_wp2_with (go_quiet (fail))
              go_roundg (m - (j + 1))
              case measure => have := HG2.out; omega
              case rel => exact ⟨j + 1, by omega, rfl, by go_num, ⟨_, rfl⟩, Lib.hid (by rw [← HJ.out, HT.out, if_neg hzx])⟩
          · have hR2 : R2 = none := by rw [← HJ.out, List.drop_eq_nil_of_le (by rw [List.length_take]; omega)]; rfl
            have HF := Lib.hid (HR2.out.trans hR2)
            clear hR2
            go_wp2_with (fail)
            go_roundg (n - (m + 1))
            case measure => have := HG.out; omega
            case rel => exact ⟨m + 1, by omega, rfl, by go_num, ext_trans y (ext_trans yb (ext_drew _ _)), Lib.hid (by rw [← HI2.out, HGO.out, HF.out]; simp)⟩
    · go_wp2_with (fail)
      go_ret
      refine ⟨ret_bool ?_, y⟩
      rw [← HI.out, List.drop_eq_nil_of_le (by have := N.out; omega)]; rfl
end Go.Proofs.YtfnkjcodcoehcaaGreatDoor
