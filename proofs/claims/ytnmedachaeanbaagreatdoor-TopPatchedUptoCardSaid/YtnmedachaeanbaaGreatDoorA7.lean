/- Merged texts. -/
import Derived.Test.YtnmedachaeanbaaGreatDoorA6
namespace Go.Proofs.YtnmedachaeanbaaGreatDoor
set_option maxRecDepth 100000
set_option maxHeartbeats 1600000
set_option linter.unusedVariables false
set_option linter.unusedSimpArgs false
structure Mk where
 done : List Opd
 ins : List Opd
 gone : Int
def Mk.new : Mk := ⟨[], [], 0⟩
def Z03 (m : Mk) : List Opd := m.ins ++ (if 0 < m.gone then [opD m.gone] else [])
def addR (d : List Opd) (n : Int) (p : List Ch) : List Opd :=
 match d.getLast? with
 | some o => if o.k = 1 ∧ o.p = p then d.dropLast ++ [{ o with n := IntKind.i64.wrap (o.n + n) }] else d ++ [opR n p]
 | none => d ++ [opR n p]
def Z0s (m : Mk) (n : Int) (p : List Ch) : Mk := if n < 1 then m else ⟨addR (m.done ++ Z03 m) n p, [], 0⟩
def addI (d : List Opd) (l : List Int) (s : List At) : List Opd :=
 match d.getLast? with
 | some o => if o.s = s then d.dropLast ++ [{ o with r := o.r ++ l }] else d ++ [opI l s]
 | none => d ++ [opI l s]
def Z0F (m : Mk) (l : List Int) (s : List At) : Mk := if l = [] then m else { m with ins := addI m.ins l s }
def Z1G (m : Mk) (n : Int) : Mk := { m with gone := IntKind.i64.wrap (m.gone + (if n < 0 then 0 else n)) }
def cutR (d : List Opd) : List Opd :=
 match d.getLast? with
 | some o => if o.k = 1 ∧ o.p = [] then d.dropLast else d
 | none => d
def Z1u (m : Mk) : List Opd := cutR (m.done ++ Z03 m)
def trim : List Un → List Un
 | [] => []
 | u :: us => match trim us with
   | [] => if u = .ret [] then [] else [u]
   | v :: vs => u :: v :: vs
theorem Z42 {u : Un} {us : List Un} (h : trim us ≠ [] ∨ u ≠ .ret []) : trim (u :: us) = u :: trim us := by
 rw [trim]
 cases ht : trim us with
 | nil =>
   rcases h with h | h
   ·exact absurd ht h
   ·simp only; rw [if_neg h]
 | cons v vs => rfl
theorem Z43 {us : List Un} {u : Un} (h : u ≠ .ret []) : trim (us ++ [u]) = us ++ [u] := by
 induction us with
 | nil => show trim [u] = [u]; rw [Z42 (.inr h)]; rfl
 | cons a us ih => show trim (a :: (us ++ [u])) = _; rw [Z42 (.inl (by rw [ih]; simp)), ih]; rfl
theorem Z74 {us : List Un} : trim (us ++ [.ret []]) = trim us := by
 induction us with
 | nil => rfl
 | cons a us ih => show trim (a :: (us ++ [.ret []])) = _; rw [trim, ih]; rfl
theorem Z75 {us : List Un} (n : Nat) : trim (us ++ List.replicate n (.ret [])) = trim us := by
 induction n with
 | zero => simp
 | succ n ih => rw [List.replicate_succ', ← List.append_assoc, Z74, ih]
theorem Z39 {us : List Un} (h : ∀ u, us.getLast? = some u → u ≠ .ret []) : trim us = us := by
 rcases List.eq_nil_or_concat us with rfl | ⟨t, u, rfl⟩
 ·rfl
 ·rw [List.concat_eq_append] at h ⊢
  exact Z43 (h u (by simp))
theorem Z1Z {x y : List Opd} (hx : Z1t x) (hy : Z1t y) (h : ∀ a b t, x.getLast? = some a → y = b :: t → Z0n a b = false) : Z1t (x ++ y) := by
 induction x with
 | nil => exact hy
 | cons a x ih =>
   obtain ⟨h1, h2, h3⟩ := hx
   refine ⟨h1, ?_, ih h3 (fun c b t hc hb => h c b t ?_ hb)⟩
   ·cases x with
    | nil =>
      cases y with
      | nil => trivial
      | cons b t => exact h a b t rfl rfl
    | cons c x => exact h2
   ·cases x with
    | nil => cases hc
    | cons d x => simpa using hc
theorem Z5S {x y : List Opd} (h : Z1t (x ++ y)) : Z1t x := by
 induction x with
 | nil => trivial
 | cons a x ih =>
   obtain ⟨h1, h2, h3⟩ := h
   refine ⟨h1, ?_, ih h3⟩
   cases x with
   | nil => trivial
   | cons b x => exact h2
theorem Z4a {x : List Opd} (h : Z1t x) : ∀ o ∈ x, isOp o := by
 induction x with
 | nil => intro o ho; cases ho
 | cons a x ih =>
   intro o ho
   rcases List.mem_cons.1 ho with rfl | ho
   ·exact h.1
   ·exact ih h.2.2 o ho
theorem Z44 {x : List Opd} {a b : Opd} (h : Z1t (x ++ [a])) (hb : isOp b) (hm : ∀ c, Z0n c a = false → Z0n c b = false) : Z1t (x ++ [b]) := by
 refine Z1Z (Z5S h) ⟨hb, trivial, trivial⟩ (fun c d t hc hd => ?_)
 injection hd with hd _
 subst hd
 refine hm c ?_
 clear hm hb
 induction x with
 | nil => cases hc
 | cons e x ih =>
   obtain ⟨h1, h2, h3⟩ := h
   cases x with
   | nil => simp at hc; subst hc; exact h2
   | cons f x => exact ih h3 (by simpa using hc)
theorem Z4E {x : List Opd} {o : Opd} (h : x.getLast? = some o) : x = x.dropLast ++ [o] := by
 rcases List.eq_nil_or_concat x with rfl | ⟨t, u, rfl⟩
 ·cases h
 ·rw [List.concat_eq_append] at h ⊢
  simp at h
  subst h
  simp
theorem Z5r {n : Int} {p : List Ch} (h : 1 ≤ n) : isOp (opR n p) := .inr (.inr ⟨rfl, h, rfl, rfl⟩)
theorem Z9Z {n : Int} (h : 1 ≤ n) : isOp (opD n) := .inr (.inl ⟨rfl, h, rfl, rfl, rfl⟩)
theorem Z7v {l : List Int} {s : List At} (h : l ≠ []) : isOp (opI l s) := .inl ⟨rfl, rfl, h, rfl⟩
theorem Z1p (n : Int) (p : List Ch) : Z0h (opR n p) = List.replicate n.toNat (.ret p) := rfl
theorem Z3B (n : Int) : Z0h (opD n) = List.replicate n.toNat .del := rfl
theorem Z1Y (l : List Int) (s : List At) : Z0h (opI l s) = l.map (fun r => Un.ins r s) := rfl
theorem Z04 (o : Opd) : Z0e [o] = Z0h o := by simp [Z0e]
theorem Z76 {x : List Opd} (h : Z1t x) {o : Opd} (ho : o ∈ x) (hk : o.k ≠ 2) : o.n ≤ (Z0e x).length := by
 induction x with
 | nil => cases ho
 | cons a x ih =>
   rw [Z1j, List.length_append]
   rcases List.mem_cons.1 ho with rfl | hm
   ·have : (Z0h o).length = o.n.toNat := by
     unfold Z0h
     rw [if_neg hk]
     split <;> simp
    have := h.1
    rcases this with h1 | h1 | h1 <;> omega
   ·have := ih h.2.2 hm; omega
theorem Y5U {d : List Opd} {n : Int} {p : List Ch} (hd : Z1t d) (hn : 1 ≤ n) (hb : (Z0e d).length + n ≤ 4611686018427387904) :
 Z1t (addR d n p) ∧ Z0e (addR d n p) = Z0e d ++ List.replicate n.toNat (.ret p) ∧ (∃ o, (addR d n p).getLast? = some o ∧ o.k = 1) := by
 unfold addR
 cases hl : d.getLast? with
 | none =>
   have : d = [] := by simpa using hl
   subst this
   refine ⟨⟨Z5r hn, trivial, trivial⟩, ?_, opR n p, rfl, rfl⟩
   simp [Z04, Z5Q, Z1p]
 | some o =>
   have e := Z4E hl
   have hmem : o ∈ d := by rw [e]; simp
   have hop := Z4a hd o hmem
   simp only
   by_cases hc : o.k = 1 ∧ o.p = p
   ·rw [if_pos hc]
    obtain ⟨e1, h1⟩ := Z2g hop hc.1
    have hge := Z76 hd hmem (by rw [hc.1]; decide)
    have hw : IntKind.i64.wrap (o.n + n) = o.n + n := IntWalk.i64_in _ (by omega)
    have e2 : ({ o with n := IntKind.i64.wrap (o.n + n) } : Opd) = opR (o.n + n) p := by rw [hw, e1, hc.2]; rfl
    rw [e2]
    rw [e1, hc.2] at e
    refine ⟨Z44 (a := opR o.n p) (by rw [← e]; exact hd) (Z5r (by omega)) (fun c h => h), ?_, opR (o.n + n) p, by simp, rfl⟩
    rw [Z0J, Z04, Z1p]
    have : Z0e d = Z0e d.dropLast ++ List.replicate o.n.toNat (.ret p) := by
     conv => lhs; rw [e]
     rw [Z0J, Z04, Z1p]
    rw [this, List.append_assoc, List.replicate_append_replicate]
    congr 2
    omega
   ·rw [if_neg hc]
    refine ⟨Z1Z hd ⟨Z5r hn, trivial, trivial⟩ (fun a b t ha hb => ?_), by rw [Z0J, Z04, Z1p], opR n p, by simp, rfl⟩
    injection hb with hb _
    subst hb
    rw [hl] at ha; injection ha with ha; subst ha
    cases hm : Z0n o (opR n p) with
    | false => rfl
    | true =>
      exfalso
      refine hc ?_
      simp [Z0n, opR] at hm
      exact ⟨hm.1, of_decide_eq_true hm.2⟩
theorem Y5V {d : List Opd} {l : List Int} {s : List At} (hd : Z1t d) (h2 : ∀ o ∈ d, o.k = 2) (hl : l ≠ []) :
 Z1t (addI d l s) ∧ (∀ o ∈ addI d l s, o.k = 2) ∧ Z0e (addI d l s) = Z0e d ++ l.map (fun r => Un.ins r s) := by
 unfold addI
 cases hg : d.getLast? with
 | none =>
   have : d = [] := by simpa using hg
   subst this
   exact ⟨⟨Z7v hl, trivial, trivial⟩, by intro o ho; simp at ho; subst ho; rfl, by simp [Z04, Z5Q, Z1Y]⟩
 | some o =>
   have e := Z4E hg
   have hmem : o ∈ d := by rw [e]; simp
   have hop := Z4a hd o hmem
   have hk := h2 o hmem
   obtain ⟨e1, h1⟩ := Z18 hop hk
   simp only
   by_cases hc : o.s = s
   ·rw [if_pos hc]
    have e2 : ({ o with r := o.r ++ l } : Opd) = opI (o.r ++ l) s := by rw [e1, hc]; rfl
    rw [e2]
    rw [e1, hc] at e
    refine ⟨Z44 (a := opI o.r s) (by rw [← e]; exact hd) (Z7v (by simp [hl])) (fun c h => h), fun x hx => ?_, ?_⟩
    ·rcases List.mem_append.1 hx with hx | hx
     ·exact h2 x ((List.dropLast_sublist _).subset hx)
     ·simp at hx; subst hx; rfl
    ·rw [Z0J, Z04, Z1Y]
     have : Z0e d = Z0e d.dropLast ++ o.r.map (fun r => Un.ins r s) := by
      conv => lhs; rw [e]
      rw [Z0J, Z04, Z1Y]
     rw [this, List.append_assoc, List.map_append]
   ·rw [if_neg hc]
    refine ⟨Z1Z hd ⟨Z7v hl, trivial, trivial⟩ (fun a b t ha hb => ?_), fun x hx => ?_, by rw [Z0J, Z04, Z1Y]⟩
    ·injection hb with hb _
     subst hb
     rw [hg] at ha; injection ha with ha; subst ha
     cases hm : Z0n o (opI l s) with
     | false => rfl
     | true =>
       exfalso
       refine hc ?_
       simp [Z0n, opI] at hm
       exact of_decide_eq_true hm.2
    ·rcases List.mem_append.1 hx with hx | hx
     ·exact h2 x hx
     ·simp at hx; subst hx; rfl
structure MkAt (m : Mk) (K : List Un) (I : List Un) (g : Nat) : Prop where
 d1 : Z1t m.done
 d2 : Z0e m.done = K
 d3 : ∀ o, m.done.getLast? = some o → o.k = 1
 i1 : Z1t m.ins
 i2 : Z0e m.ins = I
 i3 : ∀ o ∈ m.ins, o.k = 2
 g1 : m.gone = g
theorem MkAt.new : MkAt Mk.new [] [] 0 := ⟨trivial, rfl, (by intro o h; cases h), trivial, rfl, (by intro o h; cases h), rfl⟩
theorem Z5T {a b : Opd} (h : a.k ≠ b.k) : Z0n a b = false := by
 cases hm : Z0n a b with
 | false => rfl
 | true =>
   exfalso; apply h
   simp [Z0n] at hm
   rcases hm with (⟨⟨h1, h2⟩, _⟩ | ⟨h1, h2⟩) | ⟨⟨h1, h2⟩, _⟩ <;> rw [h1, h2]
theorem MkAt.all {m : Mk} {K I : List Un} {g : Nat} (h : MkAt m K I g) : Z1t (m.done ++ Z03 m) ∧ Z0e (m.done ++ Z03 m) = K ++ I ++ List.replicate g .del := by
 have hgap : Z1t (Z03 m) ∧ Z0e (Z03 m) = I ++ List.replicate g .del ∧ ∀ b t, Z03 m = b :: t → b.k ≠ 1 := by
  unfold Z03
  by_cases hg : 0 < m.gone
  ·rw [if_pos hg]
   refine ⟨Z1Z h.i1 ⟨Z9Z (by omega), trivial, trivial⟩ (fun a b t ha hb => ?_), ?_, fun b t hb => ?_⟩
   ·injection hb with hb _; subst hb
    exact Z5T (by rw [h.i3 a (List.mem_of_getLast? ha)]; exact (show (2 : Int) ≠ 3 by decide))
   ·rw [Z0J, Z04, Z3B, h.i2, h.g1]; simp
   ·cases hi : m.ins with
    | nil => rw [hi] at hb; injection hb with hb _; subst hb; exact (show (3 : Int) ≠ 1 by decide)
    | cons c x =>
      rw [hi] at hb; injection hb with hb _; subst hb
      rw [h.i3 c (by rw [hi]; simp)]; decide
  ·rw [if_neg hg]
   have hg0 : g = 0 := by have := h.g1; omega
   subst hg0
   refine ⟨by rw [List.append_nil]; exact h.i1, by rw [List.append_nil, h.i2]; simp, fun b t hb => ?_⟩
   rw [List.append_nil] at hb
   rw [h.i3 b (by rw [hb]; simp)]; decide
 obtain ⟨h1, h2, h3⟩ := hgap
 refine ⟨Z1Z h.d1 h1 (fun a b t ha hb => Z5T (by rw [h.d3 a ha]; exact fun e => h3 b t hb e.symm)), by rw [Z0J, h.d2, h2, List.append_assoc]⟩
theorem MkAt.retain {m : Mk} {K I : List Un} {g : Nat} (h : MkAt m K I g) {n : Int} {p : List Ch} (hn : 1 ≤ n) (hb : (K.length + I.length + g : Nat) + n ≤ 4611686018427387904) :
 MkAt (Z0s m n p) (K ++ I ++ List.replicate g .del ++ List.replicate n.toNat (.ret p)) [] 0 := by
 obtain ⟨h1, h2⟩ := h.all
 obtain ⟨g1, g2, o, g3, g4⟩ := Y5U (p := p) h1 hn (by rw [h2]; simp only [List.length_append, List.length_replicate]; exact hb)
 unfold Z0s
 rw [if_neg (by omega)]
 refine ⟨g1, by rw [g2, h2], fun x hx => ?_, trivial, rfl, (by intro o ho; cases ho), rfl⟩
 rw [g3] at hx; injection hx with hx; subst hx; exact g4
theorem MkAt.retain0 {m : Mk} {K I : List Un} {g : Nat} (h : MkAt m K I g) {n : Int} {p : List Ch} (hn : n < 1) : MkAt (Z0s m n p) K I g := by
 unfold Z0s; rw [if_pos hn]; exact h
theorem MkAt.insert {m : Mk} {K I : List Un} {g : Nat} (h : MkAt m K I g) (l : List Int) (s : List At) :
 MkAt (Z0F m l s) K (I ++ l.map (fun r => Un.ins r s)) g := by
 unfold Z0F
 by_cases hl : l = []
 ·rw [if_pos hl, hl]; simpa using h
 ·rw [if_neg hl]
  obtain ⟨g1, g2, g3⟩ := Y5V (s := s) h.i1 h.i3 hl
  exact ⟨h.d1, h.d2, h.d3, g1, by rw [g3, h.i2], g2, h.g1⟩
theorem MkAt.delete {m : Mk} {K I : List Un} {g : Nat} (h : MkAt m K I g) {n : Int} (hb : (g : Int) + n ≤ 4611686018427387904) (hg : g ≤ 4611686018427387904) :
 MkAt (Z1G m n) K I (g + n.toNat) := by
 refine ⟨h.d1, h.d2, h.d3, h.i1, h.i2, h.i3, ?_⟩
 show IntKind.i64.wrap (m.gone + (if n < 0 then 0 else n)) = _
 rw [h.g1]
 have : (if n < 0 then 0 else n) = (n.toNat : Int) := by split <;> omega
 rw [this, IntWalk.i64_in _ (by omega)]
 omega
theorem MkAt.ops {m : Mk} {K I : List Un} {g : Nat} (h : MkAt m K I g) : Z1t (Z1u m) ∧ Z0e (Z1u m) = trim (K ++ I ++ List.replicate g .del) := by
 obtain ⟨h1, h2⟩ := h.all
 unfold Z1u cutR
 rw [← h2]
 generalize m.done ++ Z03 m = x at *
 cases hl : x.getLast? with
 | none =>
   have : x = [] := by simpa using hl
   subst this
   exact ⟨trivial, rfl⟩
 | some o =>
   have e := Z4E hl
   have hop := Z4a h1 o (by rw [e]; simp)
   simp only
   have hT : Z1t (x.dropLast ++ [o]) := by rw [← e]; exact h1
   by_cases hc : o.k = 1 ∧ o.p = []
   ·rw [if_pos hc]
    obtain ⟨e1, hn⟩ := Z2g hop hc.1
    rw [hc.2] at e1
    refine ⟨Z5S hT, ?_⟩
    have e2 : Z0e x = Z0e x.dropLast ++ List.replicate o.n.toNat (.ret []) := by
     conv => lhs; rw [e, e1]
     rw [Z0J, Z04, Z1p]
    rw [e2, Z75]
    symm
    refine Z39 (fun u hu hr => ?_)
    subst hr
    -- the op ahead would be one with the last
    rcases List.eq_nil_or_concat x.dropLast with h0 | ⟨t, c, h0⟩
    ·rw [h0] at hu; cases hu
    ·rw [List.concat_eq_append] at h0
     rw [h0] at hu hT
     rw [Z0J, Z04] at hu
     have hc1 := Z4a hT c (by simp)
     have hcm : Z0n c o = false := by
      have : ∀ (t : List Opd), Z1t (t ++ [c] ++ [o]) → Z0n c o = false := by
       intro t
       induction t with
       | nil => intro h; exact h.2.1
       | cons d t ih => intro h; exact ih h.2.2
      exact this t hT
     rcases Z0q hc1 with hk | hk | hk
     ·obtain ⟨ec, hr⟩ := Z18 hc1 hk
      rw [ec, Z1Y] at hu
      rcases List.eq_nil_or_concat c.r with h5 | ⟨q, z, h5⟩
      ·exact hr h5
      ·rw [h5, List.concat_eq_append, List.map_append] at hu
       simp at hu
     ·obtain ⟨ec, hr⟩ := Z2L hc1 hk
      rw [ec, Z3B] at hu
      obtain ⟨q, hq⟩ : ∃ q, c.n.toNat = q + 1 := ⟨c.n.toNat - 1, by omega⟩
      rw [hq, List.replicate_succ'] at hu
      simp at hu
     ·obtain ⟨ec, hr⟩ := Z2g hc1 hk
      rw [ec, Z1p] at hu
      obtain ⟨q, hq⟩ : ∃ q, c.n.toNat = q + 1 := ⟨c.n.toNat - 1, by omega⟩
      rw [hq, List.replicate_succ'] at hu
      simp at hu
      rw [ec, e1, hu] at hcm
      simp [Z0n, opR] at hcm
   ·rw [if_neg hc]
    refine ⟨h1, ?_⟩
    symm
    refine Z39 (fun u hu hr => ?_)
    subst hr
    rw [e, Z0J, Z04] at hu
    rcases Z0q hop with hk | hk | hk
    ·obtain ⟨ec, hr⟩ := Z18 hop hk
     rw [ec, Z1Y] at hu
     rcases List.eq_nil_or_concat o.r with h5 | ⟨q, z, h5⟩
     ·exact hr h5
     ·rw [h5, List.concat_eq_append, List.map_append] at hu
      simp at hu
    ·obtain ⟨ec, hr⟩ := Z2L hop hk
     rw [ec, Z3B] at hu
     obtain ⟨q, hq⟩ : ∃ q, o.n.toNat = q + 1 := ⟨o.n.toNat - 1, by omega⟩
     rw [hq, List.replicate_succ'] at hu
     simp at hu
    ·obtain ⟨ec, hr⟩ := Z2g hop hk
     rw [ec, Z1p] at hu
     obtain ⟨q, hq⟩ : ∃ q, o.n.toNat = q + 1 := ⟨o.n.toNat - 1, by omega⟩
     rw [hq, List.replicate_succ'] at hu
     simp at hu
     exact hc ⟨hk, hu⟩
def cn : List Un → List Un → Nat → List Un
 | [], I, g => I ++ List.replicate g .del
 | .ins r s :: us, I, g => cn us (I ++ [.ins r s]) g
 | .del :: us, I, g => cn us I (g + 1)
 | .ret p :: us, I, g => I ++ List.replicate g .del ++ .ret p :: cn us [] 0
def Z16 (us : List Un) : List Un := cn us [] 0
def nf (us : List Un) : List Un := trim (Z16 us)
def Z0k : List Un → Nat
 | [] => 0
 | .ins _ _ :: us => Z0k us
 | _ :: us => Z0k us + 1
def Z0l : List Un → Nat
 | [] => 0
 | .del :: us => Z0l us
 | _ :: us => Z0l us + 1
theorem Z0y (p : List Ch) (us : List Un) : Z0k (.ret p :: us) = Z0k us + 1 := rfl
theorem Z0S (us : List Un) : Z0k (.del :: us) = Z0k us + 1 := rfl
theorem Z06 (r : Int) (s : List At) (us : List Un) : Z0k (.ins r s :: us) = Z0k us := rfl
theorem Z1H (p : List Ch) (us : List Un) : Z0l (.ret p :: us) = Z0l us + 1 := rfl
theorem Z2x (us : List Un) : Z0l (.del :: us) = Z0l us := rfl
theorem Z4b (r : Int) (s : List At) (us : List Un) : Z0l (.ins r s :: us) = Z0l us + 1 := rfl
theorem Z0A (a b : List Un) : Z0k (a ++ b) = Z0k a + Z0k b := by
 induction a with
 | nil => simp [Z0k]
 | cons u a ih => cases u <;> simp [Z0k, ih] <;> omega
theorem Z0I (a b : List Un) : Z0l (a ++ b) = Z0l a + Z0l b := by
 induction a with
 | nil => simp [Z0l]
 | cons u a ih => cases u <;> simp [Z0l, ih] <;> omega
theorem Z2M (g : Nat) : Z0k (List.replicate g .del) = g := by induction g with | zero => rfl | succ g ih => rw [List.replicate_succ, Z0S, ih]
theorem Z4F (g : Nat) : Z0l (List.replicate g .del) = 0 := by induction g with | zero => rfl | succ g ih => rw [List.replicate_succ, Z2x, ih]
theorem Y35 (us : List Un) : ∀ (I : List Un) (g : Nat), Z0k (cn us I g) = Z0k I + g + Z0k us := by
 induction us with
 | nil => intro I g; simp [cn, Z0A, Z2M, Z0k]
 | cons u us ih =>
   intro I g
   cases u with
   | ins r s => rw [cn, ih, Z0A]; simp [Z0k]
   | del => rw [cn, ih]; simp [Z0k]; omega
   | ret p => rw [cn, Z0A, Z0A, Z2M, Z0y, Z0y, ih]; simp [Z0k]; try omega
theorem Y36 (us : List Un) : ∀ (I : List Un) (g : Nat), Z0l (cn us I g) = Z0l I + Z0l us := by
 induction us with
 | nil => intro I g; simp [cn, Z0I, Z4F, Z0l]
 | cons u us ih =>
   intro I g
   cases u with
   | ins r s => rw [cn, ih, Z0I]; simp [Z0l]; omega
   | del => rw [cn, ih]; simp [Z0l]
   | ret p => rw [cn, Z0I, Z0I, Z4F, Z1H, Z1H, ih]; simp [Z0l]; try omega
theorem Z5U (us : List Un) : Z0k (Z16 us) = Z0k us := by rw [Z16, Y35]; simp [Z0k]
theorem Z5V (us : List Un) : Z0l (Z16 us) = Z0l us := by rw [Z16, Y36]; simp [Z0l]
theorem Y6S (l : List Int) (s : List At) (us : List Un) : ∀ (I : List Un) (g : Nat), cn (l.map (fun r => Un.ins r s) ++ us) I g = cn us (I ++ l.map (fun r => Un.ins r s)) g := by
 induction l with
 | nil => intro I g; simp
 | cons r l ih => intro I g; show cn (l.map _ ++ us) (I ++ [.ins r s]) g = _; rw [ih]; simp
theorem Y6T (k : Nat) (us : List Un) : ∀ (I : List Un) (g : Nat), cn (List.replicate k .del ++ us) I g = cn us I (g + k) := by
 induction k with
 | zero => intro I g; simp
 | succ k ih => intro I g; rw [List.replicate_succ]; show cn (List.replicate k .del ++ us) I (g + 1) = _; rw [ih]; congr 1; omega
theorem Y6U (k : Nat) (p : List Ch) (us : List Un) (I : List Un) (g : Nat) : cn (List.replicate (k + 1) (.ret p) ++ us) I g = I ++ List.replicate g .del ++ List.replicate (k + 1) (.ret p) ++ cn us [] 0 := by
 have h : ∀ k, cn (List.replicate k (.ret p) ++ us) [] 0 = List.replicate k (.ret p) ++ cn us [] 0 := by
  intro k
  induction k with
  | zero => rfl
  | succ k ih => rw [List.replicate_succ]; show [] ++ List.replicate 0 .del ++ .ret p :: cn (List.replicate k (.ret p) ++ us) [] 0 = _; rw [ih]; simp
 rw [List.replicate_succ]
 show I ++ List.replicate g .del ++ .ret p :: cn (List.replicate k (.ret p) ++ us) [] 0 = _
 rw [h]; simp
def Told (m : Mk) (us : List Un) : Prop :=
 ∃ K I g, MkAt m K I g ∧ (∀ rest, Z16 (us ++ rest) = K ++ cn rest I g) ∧ K.length + I.length + g = us.length
theorem Told.new : Told Mk.new [] := ⟨[], [], 0, MkAt.new, fun rest => rfl, rfl⟩
theorem Told.retain {m : Mk} {us : List Un} (h : Told m us) (n : Int) (p : List Ch) (hb : (us.length : Int) + n ≤ 4611686018427387904) : Told (Z0s m n p) (us ++ List.replicate n.toNat (.ret p)) := by
 obtain ⟨K, I, g, h1, h2, h3⟩ := h
 by_cases hn : n < 1
 ·have : n.toNat = 0 := by omega
  rw [this]
  exact ⟨K, I, g, h1.retain0 hn, fun rest => by rw [List.replicate_zero, List.append_nil]; exact h2 rest, by simpa using h3⟩
 ·obtain ⟨k, hk⟩ : ∃ k, n.toNat = k + 1 := ⟨n.toNat - 1, by omega⟩
  refine ⟨_, [], 0, h1.retain (p := p) (by omega) (by rw [h3]; exact hb), fun rest => ?_, ?_⟩
  ·rw [List.append_assoc, h2, hk, Y6U]; simp only [List.append_assoc]
  ·simp only [List.length_append, List.length_replicate, List.length_nil]; omega
theorem Told.insert {m : Mk} {us : List Un} (h : Told m us) (l : List Int) (s : List At) : Told (Z0F m l s) (us ++ l.map (fun r => Un.ins r s)) := by
 obtain ⟨K, I, g, h1, h2, h3⟩ := h
 refine ⟨K, _, g, h1.insert l s, fun rest => by rw [List.append_assoc, h2, Y6S], by simp; omega⟩
theorem Told.delete {m : Mk} {us : List Un} (h : Told m us) (n : Int) (hb : (us.length : Int) + n ≤ 4611686018427387904) (hb2 : us.length ≤ 4611686018427387904) : Told (Z1G m n) (us ++ List.replicate n.toNat .del) := by
 obtain ⟨K, I, g, h1, h2, h3⟩ := h
 refine ⟨K, I, _, h1.delete (n := n) (by omega) (by omega), fun rest => by rw [List.append_assoc, h2, Y6T], by simp; omega⟩
theorem Told.ops {m : Mk} {us : List Un} (h : Told m us) : Z1t (Z1u m) ∧ Z0e (Z1u m) = nf us := by
 obtain ⟨K, I, g, h1, h2, h3⟩ := h
 obtain ⟨g1, g2⟩ := h1.ops
 refine ⟨g1, ?_⟩
 rw [g2, nf]
 have := h2 []
 rw [List.append_nil] at this
 rw [this]
 simp [cn, List.append_assoc]
open Go.RowKit
open Go.Lib (hid Utf8Tabs)
def osOf (x : List OpS) : List Opd := x.map (·.o)
structure Cl where
 r : Int
 s : List At
deriving DecidableEq
structure ClS where
 c : Cl
 As : Option Addr
 cs : Nat
def ClS.enc (x : ClS) : List Value := [.int .i32 x.c.r, .slice x.As x.c.s.length x.cs]
theorem ClS.enc_len (x : ClS) : x.enc.length = 2 := rfl
theorem ClS.enc_one (x : ClS) : ∀ u ∈ x.enc, u.oneCell' = true := by intro u hu; simp [ClS.enc] at hu; rcases hu with rfl | rfl <;> rfl
abbrev RdCs := @Rd ClS ClS.enc 2
def SubC (w : World) (B : Nat) (l : List ClS) : Prop := ∀ x ∈ l, RdAt w B x.As x.c.s
def RdCl (w : World) (B : Nat) (A : Option Addr) (l : List ClS) : Prop := RdCs w B A l ∧ SubC w B l
theorem SubC.ext {w w' : World} {l : List ClS} (h : SubC w w.heap.size l) (y : Below w.heap.size w w') : SubC w' w'.heap.size l := fun x hx => (h x hx).ext y
theorem RdCl.ext {w w' : World} {A : Option Addr} {l : List ClS} (h : RdCl w w.heap.size A l) (y : Below w.heap.size w w') : RdCl w' w'.heap.size A l := ⟨h.1.ext y, h.2.ext y⟩
theorem Z1I {w : World} {p : Addr} {r s : Value} (h : CellsAt w p [r, s]) : w.cell? p = some r ∧ w.cell? { block := p.block, off := p.off + 1 } = some s := by
 have h0 := h 0 _ rfl
 rw [Z0o] at h0
 exact ⟨h0, Z0r h 0 rfl⟩
theorem Z6P {w : World} {b : Nat} {t : TypeId} {c0 c1 : Value} (h : w.heap[b]? = some (.cells #[c0, c1] t (0, 0))) : w.cell? ⟨b, 0, none⟩ = some c0 ∧ w.cell? ⟨b, 1, none⟩ = some c1 := by
 simp [World.cell?, h]
def put1 (c : Ch) : List At := if c.gone then [] else [⟨c.key, c.v⟩]
def Z3f (k : Int) : List At → List At
 | [] => []
 | a :: s => if a.key = k then s else a :: s
def Z0K : List Ch → List At → List At
 | [], s => s
 | c :: p, s => s.takeWhile (fun a => decide (a.key < c.key)) ++ (put1 c ++ Z0K p (Z3f c.key (s.dropWhile (fun a => decide (a.key < c.key)))))
def Z2h (c : Ch) (p : List Ch) (s : List At) : List At :=
 s.takeWhile (fun a => decide (a.key < c.key)) ++ (put1 c ++ Z0K p (Z3f c.key (s.dropWhile (fun a => decide (a.key < c.key)))))
theorem Z77 (c : Ch) (p : List Ch) (a : At) (s : List At) (h : a.key < c.key) : Z2h c p (a :: s) = a :: Z2h c p s := by
 simp [Z2h, h]
theorem Z6Q (c : Ch) (p : List Ch) (a : At) (s : List At) (h : a.key = c.key) : Z2h c p (a :: s) = put1 c ++ Z0K p s := by
 simp [Z2h, h, Z3f]
theorem Z45 (c : Ch) (p : List Ch) (a : At) (s : List At) (h : c.key < a.key) : Z2h c p (a :: s) = put1 c ++ Z0K p (a :: s) := by
 have h1 : ¬ a.key < c.key := by omega
 have h2 : ¬ a.key = c.key := by omega
 simp [Z2h, h1, h2, Z3f]
theorem Z5W (c : Ch) (p : List Ch) : Z2h c p [] = put1 c ++ Z0K p [] := by
 simp [Z2h, Z3f]
def chg (a : At) : Ch := ⟨a.key, false, a.v⟩
def Y5W (a : At) : Ch := ⟨a.key, true, V.zero⟩
def Z89 (rest : List At → List Ch) (x : At) : List At → List Ch
 | [] => chg x :: rest []
 | y :: t => if y.key = x.key then (if y.v = x.v then rest t else chg x :: rest t) else chg x :: rest (y :: t)
def Z7w : List At → List At → List Ch
 | a, [] => a.map Y5W
 | a, x :: b => (a.takeWhile (fun y => decide (y.key < x.key))).map Y5W ++ Z89 (fun r => Z7w r b) x (a.dropWhile (fun y => decide (y.key < x.key)))
def Z90 (a : List At) (x : At) (b : List At) : List Ch :=
 (a.takeWhile (fun y => decide (y.key < x.key))).map Y5W ++ Z89 (fun r => Z7w r b) x (a.dropWhile (fun y => decide (y.key < x.key)))
theorem Y0W (a : List At) (x : At) (b : List At) : Z7w a (x :: b) = Z90 a x b := by simp [Z7w, Z90]
theorem Y0X (x : At) (b : List At) : Z90 [] x b = chg x :: Z7w [] b := by simp [Z90, Z89]
theorem Y2a {a : Int} {l : List Int} (h : rise (a :: l) = true) : ∀ b ∈ l, a < b := by
 induction l generalizing a with
 | nil => intro b hb; simp at hb
 | cons c l ih =>
   simp only [rise, Bool.and_eq_true, decide_eq_true_eq] at h
   intro b hb
   rcases List.mem_cons.1 hb with rfl | hb
   ·exact h.1
   ·have := ih h.2 b hb; omega
theorem Y2b {a : Int} {l : List Int} (h : rise (a :: l) = true) : rise l = true := by
 cases l with
 | nil => rfl
 | cons c l => simp only [rise, Bool.and_eq_true] at h; exact h.2
def cmpI (a b : Int) : Int := if a < b then -1 else if b < a then 1 else 0
theorem Y0Y (x : Int) (w : World) : Calls Tryz.prog 119 #[.int .i64 x] w fun e w' => e = .returned (.bool false) ∧ w = w' := by
 go_enter Tryz.func119, Tryz.ntmps119
 go_wp2
 go_ret
 exact ⟨by simp, rfl⟩
theorem Z9a (x y : Int) (w : World) : Calls Tryz.prog 47 #[.int .i64 x, .int .i64 y] w fun e w' => e = .returned (.int .i64 (cmpI x y)) ∧ w = w' := by
 have hc : (x < y ∧ cmpI x y = -1) ∨ (¬ x < y ∧ y < x ∧ cmpI x y = 1) ∨ (¬ x < y ∧ ¬ y < x ∧ cmpI x y = 0) := by
  unfold cmpI
  by_cases h1 : x < y
  ·simp [h1]
  ·by_cases h2 : y < x <;> simp [h1, h2]
 rcases hc with ⟨h1, hc⟩ | ⟨h1, h2, hc⟩ | ⟨h1, h2, hc⟩
 all_goals
  have HC := hid hc
  clear hc
  go_enter Tryz.func47, Tryz.ntmps47
  go_wp2_with (go_at_call 119; refine (Y0Y _ _).mono ?_; rintro e w' ⟨rfl, rfl⟩)
  go_ret
  exact ⟨Z0t HC.out.symm, rfl⟩
section
variable {α : Type} (key : α → Int)
def lk (l : List α) (k : Int) : Option α := l.find? (fun a => decide (key a = k))
def Srt (l : List α) : Prop := l.Pairwise (fun a b => key a < key b)
theorem Z91 (k : Int) : lk key [] k = none := rfl
theorem Z0W (a : α) (l : List α) (k : Int) : lk key (a :: l) k = if key a = k then some a else lk key l k := by
 unfold lk
 by_cases h : key a = k <;> simp [h]
theorem Z5X (l m : List α) (k : Int) : lk key (l ++ m) k = (lk key l k).or (lk key m k) := by
 unfold lk
 rw [List.find?_append]
theorem Z1J {l : List α} {k : Int} (h : ∀ a ∈ l, key a ≠ k) : lk key l k = none := by
 unfold lk
 rw [List.find?_eq_none]
 intro a ha
 simpa using h a ha
theorem Z78 {l : List α} {k : Int} {a : α} (h : lk key l k = some a) : key a = k := by
 unfold lk at h
 have := List.find?_some h
 simpa using this
theorem Z5Y {l : List α} {k : Int} {a : α} (h : lk key l k = some a) : a ∈ l := by
 unfold lk at h
 exact List.mem_of_find?_eq_some h
theorem Z5Z {l : List α} (hs : Srt key l) {a : α} (h : a ∈ l) : lk key l (key a) = some a := by
 induction l with
 | nil => simp at h
 | cons b l ih =>
   rw [Z0W]
   obtain ⟨h1, h2⟩ := List.pairwise_cons.1 hs
   rcases List.mem_cons.1 h with rfl | h
   ·simp
   ·have := h1 a h
    rw [if_neg (by omega)]
    exact ih h2 h
theorem Z79 {l : List α} {k : Int} : (lk key l k).isSome = true ↔ ∃ a ∈ l, key a = k := by
 constructor
 ·intro h
  obtain ⟨a, ha⟩ := Option.isSome_iff_exists.1 h
  exact ⟨a, Z5Y key ha, Z78 key ha⟩
 ·rintro ⟨a, ha, hk⟩
  cases hl : lk key l k with
  | some _ => rfl
  | none =>
    unfold lk at hl
    rw [List.find?_eq_none] at hl
    exact absurd hk (by simpa using hl a ha)
theorem Y2c {l m : List α} (hl : Srt key l) (hm : Srt key m) (h : ∀ k, lk key l k = lk key m k) : l = m := by
 induction l generalizing m with
 | nil =>
   cases m with
   | nil => rfl
   | cons b m => have := h (key b); simp [Z0W, Z91] at this
 | cons a l ih =>
   obtain ⟨h1, h2⟩ := List.pairwise_cons.1 hl
   cases m with
   | nil => have := h (key a); simp [Z0W, Z91] at this
   | cons b m =>
     obtain ⟨h3, h4⟩ := List.pairwise_cons.1 hm
     have hab : key a = key b := by
      rcases Int.lt_trichotomy (key a) (key b) with hlt | he | hgt
      ·have := h (key a)
       rw [Z0W, if_pos rfl, Z0W, if_neg (by omega), Z1J key (fun c hc => by have := h3 c hc; omega)] at this
       cases this
      ·exact he
      ·have := h (key b)
       rw [Z0W, Z0W, if_pos rfl, if_neg (by omega), Z1J key (fun c hc => by have := h1 c hc; omega)] at this
       cases this
     have e := h (key a)
     rw [Z0W, if_pos rfl, Z0W, if_pos hab.symm] at e
     injection e with e
     subst e
     congr 1
     refine ih h2 h4 fun k => ?_
     have := h k
     rw [Z0W, Z0W] at this
     by_cases hk : key a = k
     ·rw [Z1J key (fun c hc => by have := h1 c hc; omega), Z1J key (fun c hc => by have := h3 c hc; omega)]
     ·rw [if_neg hk, if_neg hk] at this; exact this
theorem Srt.nil : Srt key ([] : List α) := List.Pairwise.nil
theorem Z1z {a : α} {l : List α} : Srt key (a :: l) ↔ (∀ b ∈ l, key a < key b) ∧ Srt key l := List.pairwise_cons
theorem Z6R {l m : List α} : Srt key (l ++ m) ↔ Srt key l ∧ Srt key m ∧ ∀ a ∈ l, ∀ b ∈ m, key a < key b := List.pairwise_append
theorem Srt.filter {l : List α} (h : Srt key l) (p : α → Bool) : Srt key (l.filter p) := List.Pairwise.filter p h
theorem Z50 {l : List α} (hs : Srt key l) (p : α → Bool) (k : Int) : lk key (l.filter p) k = (lk key l k).filter p := by
 induction l with
 | nil => rfl
 | cons a l ih =>
   obtain ⟨h1, h2⟩ := (Z1z key).1 hs
   rw [Z0W]
   by_cases hk : key a = k
   ·rw [if_pos hk]
    by_cases hp : p a = true
    ·rw [List.filter_cons_of_pos hp, Z0W, if_pos hk]; simp [Option.filter, hp]
    ·rw [List.filter_cons_of_neg hp, Z1J key (fun c hc => by have := h1 c (List.mem_filter.1 hc).1; omega)]; simp [Option.filter, hp]
   ·rw [if_neg hk, ← ih h2]
    by_cases hp : p a = true
    ·rw [List.filter_cons_of_pos hp, Z0W, if_neg hk]
    ·rw [List.filter_cons_of_neg hp]
end
theorem Z92 {α : Type} (key : α → Int) (l : List α) : rise (l.map key) = true ↔ Srt key l := by
 induction l with
 | nil => simp [rise, Srt]
 | cons a l ih =>
   rw [Z1z, ← ih]
   constructor
   ·intro h
    refine ⟨fun b hb => Y2a h _ (List.mem_map.2 ⟨b, hb, rfl⟩), Y2b h⟩
   ·rintro ⟨h1, h2⟩
    cases l with
    | nil => rfl
    | cons b l =>
      simp only [List.map_cons, rise, Bool.and_eq_true, decide_eq_true_eq]
      exact ⟨h1 b (by simp), h2⟩
theorem Z0P {l : List At} : Z1D l = true ↔ Srt At.key l := Z92 At.key l
theorem Z0G {l : List Ch} : Z1S l = true ↔ Srt Ch.key l := Z92 Ch.key l
theorem Y6V {α : Type} (key : α → Int) {l : List α} (hs : Srt key l) (c : Int) :
 (∀ a ∈ l.takeWhile (fun a => decide (key a < c)), key a < c) ∧ (∀ a ∈ l.dropWhile (fun a => decide (key a < c)), c ≤ key a) := by
 induction l with
 | nil => simp
 | cons a l ih =>
   obtain ⟨h1, h2⟩ := (Z1z key).1 hs
   by_cases h : key a < c
   ·simp only [List.takeWhile_cons, List.dropWhile_cons, h, decide_true, if_true]
    refine ⟨fun b hb => ?_, (ih h2).2⟩
    rcases List.mem_cons.1 hb with rfl | hb
    ·exact h
    ·exact (ih h2).1 b hb
   ·simp only [List.takeWhile_cons, List.dropWhile_cons, h, decide_false, Bool.false_eq_true, if_false]
    refine ⟨fun b hb => by simp at hb, fun b hb => ?_⟩
    rcases List.mem_cons.1 hb with rfl | hb
    ·omega
    ·have := h1 b hb; omega
theorem Y6W {α : Type} (key : α → Int) {l : List α} (hs : Srt key l) (p : α → Bool) : Srt key (l.takeWhile p) := hs.sublist (List.takeWhile_sublist p)
theorem Y6X {α : Type} (key : α → Int) {l : List α} (hs : Srt key l) (p : α → Bool) : Srt key (l.dropWhile p) := hs.sublist (List.dropWhile_sublist p)
theorem Y37 {l : List At} (hs : Srt At.key l) {c : Int} (h : ∀ a ∈ l, c ≤ a.key) : Srt At.key (Z3f c l) ∧ (∀ a ∈ Z3f c l, c < a.key) ∧ ∀ k, c < k → lk At.key (Z3f c l) k = lk At.key l k := by
 cases l with
 | nil => exact ⟨hs, by simp [Z3f], fun _ _ => rfl⟩
 | cons a l =>
   obtain ⟨h1, h2⟩ := (Z1z At.key).1 hs
   have hd : Z3f c (a :: l) = if a.key = c then l else a :: l := rfl
   rw [hd]
   by_cases he : a.key = c
   ·rw [if_pos he]
    exact ⟨h2, fun b hb => by have := h1 b hb; omega, fun k hk => by rw [Z0W, if_neg (by omega)]⟩
   ·rw [if_neg he]
    refine ⟨hs, fun b hb => ?_, fun _ _ => rfl⟩
    have ha := h a (by simp)
    rcases List.mem_cons.1 hb with rfl | hb
    ·omega
    ·have := h1 b hb; omega
def Z2C (c : Option Ch) (x : Option At) : Option At :=
 match c with
 | some c => if c.gone = true then none else some ⟨c.key, c.v⟩
 | none => x
theorem Y38 {c : Ch} {a : At} (h : a ∈ put1 c) : a.key = c.key := by
 unfold put1 at h
 split at h
 ·simp at h
 ·simp at h; rw [h]
theorem Z1x {p : List Ch} (hp : Srt Ch.key p) : ∀ {s : List At}, Srt At.key s →
 Srt At.key (Z0K p s) ∧ (∀ k, lk At.key (Z0K p s) k = Z2C (lk Ch.key p k) (lk At.key s k)) ∧ (∀ m : Int, (∀ c ∈ p, m < c.key) → (∀ a ∈ s, m < a.key) → ∀ a ∈ Z0K p s, m < a.key) ∧ (Z0K p s).length ≤ p.length + s.length := by
 induction p with
 | nil => intro s hs; exact ⟨hs, fun k => rfl, fun m _ h a ha => h a ha, by simp [Z0K]⟩
 | cons c p ih =>
   intro s hs
   obtain ⟨h1, h2⟩ := (Z1z Ch.key).1 hp
   obtain ⟨t1, t2⟩ := Y6V At.key hs c.key
   have hts := Y6W At.key hs (fun a => decide (a.key < c.key))
   have hds := Y6X At.key hs (fun a => decide (a.key < c.key))
   have e : Z0K (c :: p) s = s.takeWhile (fun a => decide (a.key < c.key)) ++ (put1 c ++ Z0K p (Z3f c.key (s.dropWhile (fun a => decide (a.key < c.key))))) := rfl
   have happ : s.takeWhile (fun a => decide (a.key < c.key)) ++ s.dropWhile (fun a => decide (a.key < c.key)) = s := List.takeWhile_append_dropWhile
   have hlen : (s.takeWhile (fun a => decide (a.key < c.key))).length + (s.dropWhile (fun a => decide (a.key < c.key))).length = s.length := by rw [← List.length_append, happ]
   have hlk : ∀ k, lk At.key s k = (lk At.key (s.takeWhile (fun a => decide (a.key < c.key))) k).or (lk At.key (s.dropWhile (fun a => decide (a.key < c.key))) k) := fun k => by rw [← Z5X, happ]
   have hmt : ∀ a ∈ s.takeWhile (fun a => decide (a.key < c.key)), a ∈ s := fun a ha => (List.takeWhile_sublist _).subset ha
   have hmd : ∀ a ∈ s.dropWhile (fun a => decide (a.key < c.key)), a ∈ s := fun a ha => (List.dropWhile_sublist _).subset ha
   generalize s.takeWhile (fun a => decide (a.key < c.key)) = tw at *
   generalize s.dropWhile (fun a => decide (a.key < c.key)) = dw at *
   obtain ⟨d1, d2, d3⟩ := Y37 hds t2
   have hdl : (Z3f c.key dw).length ≤ dw.length := by
    unfold Z3f; split
    ·simp
    ·split <;> simp
   have hdm : ∀ a ∈ Z3f c.key dw, a ∈ dw := by
    unfold Z3f; split
    ·simp
    ·intro a ha; split at ha
     ·exact List.mem_cons_of_mem _ ha
     ·exact ha
   obtain ⟨i1, i2, i3, i4⟩ := ih h2 d1
   rw [e]
   have hput : ∀ a ∈ put1 c, a.key = c.key := fun a ha => Y38 ha
   have hpl : (put1 c).length ≤ 1 := by unfold put1; split <;> simp
   have hrest : ∀ a ∈ Z0K p (Z3f c.key dw), c.key < a.key := i3 c.key h1 d2
   refine ⟨?_, fun k => ?_, fun m hm1 hm2 a ha => ?_, ?_⟩
   ·rw [Z6R, Z6R]
    refine ⟨hts, ⟨?_, i1, fun a ha b hb => ?_⟩, fun a ha b hb => ?_⟩
    ·unfold put1; split
     ·exact Srt.nil _
     ·rw [Z1z]; exact ⟨by simp, Srt.nil _⟩
    ·rw [hput a ha]; exact hrest b hb
    ·have := t1 a ha
     rcases List.mem_append.1 hb with hb | hb
     ·rw [hput b hb]; exact this
     ·have := hrest b hb; omega
   ·rw [Z5X, Z5X, hlk, Z0W]
    rcases Int.lt_trichotomy k c.key with hlt | rfl | hgt
    ·rw [if_neg (by omega), Z1J Ch.key (fun d hd => by have := h1 d hd; omega), Z1J At.key (l := put1 c) (fun d hd => by have := hput d hd; omega), Z1J At.key (l := Z0K p (Z3f c.key dw)) (fun d hd => by have := hrest d hd; omega),
      Z1J At.key (l := dw) (fun d hd => by have := t2 d hd; omega)]
     rfl
    ·rw [if_pos rfl, Z1J At.key (l := tw) (fun d hd => by have := t1 d hd; omega), Z1J At.key (l := Z0K p (Z3f c.key dw)) (fun d hd => by have := hrest d hd; omega)]
     unfold put1 Z2C
     by_cases hg : c.gone = true
     ·simp [hg, Z91]
     ·simp [hg, Z0W]
    ·rw [if_neg (by omega), Z1J At.key (l := tw) (fun d hd => by have := t1 d hd; omega), Z1J At.key (l := put1 c) (fun d hd => by have := hput d hd; omega), i2, d3 k hgt]
     rfl
   ·rcases List.mem_append.1 ha with ha | ha
    ·exact hm2 a (hmt a ha)
    ·rcases List.mem_append.1 ha with ha | ha
     ·rw [hput a ha]; exact hm1 c (by simp)
     ·have := hrest a ha; have := hm1 c (by simp); omega
   ·simp only [List.length_append, List.length_cons]; omega
section
variable {a b : List At} {p q r : List Ch}
theorem Y0Z (hp : Z1S p = true) (ha : Z1D a = true) : Z1D (Z0K p a) = true := by
 rw [Z0P] at *
 rw [Z0G] at hp
 exact (Z1x hp ha).1
end
def Z1v (l : List Ky) (b : Bool) (id : Int) : Bool :=
 match Z0N l id with
 | none => false
 | some k => k.block == b
def Z0T (l : List Ky) (b : Bool) (p : List Ch) : List Ch := p.filter (fun c => Z1v l b c.key)
open Go.RowKit
set_option linter.unusedVariables false
set_option linter.unusedSimpArgs false
theorem Y00 {l : List Ky} {m : Nat} {x : Ky} {id : Int} {R : Option Ky} (hd : l.drop m = x :: l.drop (m + 1)) (h : Z0N (l.drop m) id = R) (hx : x.id ≠ id) : Z0N (l.drop (m + 1)) id = R := by
 rw [hd] at h
 rw [← h]
 simp [Z0N, hx]
theorem Y2d {l : List Ky} {m : Nat} {x : Ky} {id : Int} {R : Option Ky} (hd : l.drop m = x :: l.drop (m + 1)) (h : Z0N (l.drop m) id = R) (hx : x.id = id) : R = some x := by
 rw [hd] at h
 rw [← h]
 simp [Z0N, hx]
theorem Y2e {l : List Ky} {m : Nat} {id : Int} {R : Option Ky} (hm : l.length ≤ m) (h : Z0N (l.drop m) id = R) : R = none := by
 rw [List.drop_eq_nil_of_le hm] at h
 rw [← h]
 rfl
theorem Z51 (A : Option Addr) (n c : Nat) (l : List Ky) (id : Int) (w : World) (hn : n = l.length) (h : RdKy w w.heap.size A l) (hb : n ≤ 140737488355328) :
 Calls Tryz.prog 33 #[.slice A n c, .int .i64 id] w (Z7r l id w) := by
 have N := hid hn
 generalize hR : Z0N l id = R
 have HR := hid hR
 clear hn hR
 unfold Z7r
 rw [HR.out]
 have y0 := Z0c w (.cells #[.int .i64 0, .bool false, .int .u8 0, .bool false, .bool false, .int .i64 0] 78)
 have HB := hid (heap_alloc_new w (.cells #[.int .i64 0, .bool false, .int .u8 0, .bool false, .bool false, .int .i64 0] 78))
 go_enter Tryz.func33, Tryz.ntmps33
 go_wp2_with (fail)
 go_loopg [6] n (fun g iv wr => ∃ m : Nat, m ≤ n ∧ g = n - m ∧ iv = .int .i64 (m : Int) ∧ wr = w.alloc (.cells #[.int .i64 0, .bool false, .int .u8 0, .bool false, .bool false, .int .i64 0] 78) ∧ Hid (Z0N (l.drop m) id = R))
 case atStart => exact ⟨0, by omega, rfl, rfl, rfl, hid (by rw [List.drop_zero]; exact HR.out)⟩
 case round =>
  obtain ⟨m, hm, hg, rfl, rfl, HI⟩ := hrel
  have HG := hid hg
  clear hg HR
  by_cases hlt : m < n
  ·have hl1 : m < l.length := by have := N.out; omega
   obtain ⟨ad, x, rfl, had, hd1, _, hc0⟩ := h.el hl1
   have hc1 := hc0.keep (w' := w.alloc (.cells #[.int .i64 0, .bool false, .int .u8 0, .bool false, .bool false, .int .i64 0] 78)) (fun q hq => World.cell?_alloc_lt w _ q (by rw [hq, Z0U]; exact had))
   have HD := hid hd1
   obtain ⟨x1, x2, x3, x4, x5, x6⟩ := x
   obtain ⟨r0, r1, r2, r3, r4, r5⟩ := Z9P hc1
   clear hc0 hc1 hd1
   have hw2 : IntKind.i64.wrap ((m:Int) + 1) = (m : Int) + 1 := IntWalk.i64_in _ (by omega)
   obtain ⟨b0, b1, b2, b3, b4, b5⟩ := Z6K HB.out
   by_cases hle : x1 = id
   ·subst hle
    go_wp2_with (fail)
    refine bodyPost_ret (v := .tuple #[.agg #[.int .i64 x1, .bool x2, .int .u8 x3, .bool x4, .bool x5, .int .i64 x6], .bool true]) (by simp [results, Tryz.results33, go_sem]) rfl ?_
    have hr := Y2d HD.out HI.out rfl
    exact ⟨x1, x2, x3, x4, x5, x6, true, rfl, by rw [hr]; rfl, by rw [hr]; rfl, by first | exact Z0c w _ | trace_state⟩
   ·go_wp2_with (fail)
    go_roundg (n - (m + 1))
    case measure => have := HG.out; omega
    case rel => exact ⟨m + 1, by omega, rfl, by go_num, rfl, hid (Y00 HD.out HI.out hle)⟩
  ·have HE := hid (Y2e (m := m) (by have := N.out; omega) HI.out)
   go_wp2_with (fail)
   refine bodyPost_ret (v := .tuple #[.agg #[.int .i64 0, .bool false, .int .u8 0, .bool false, .bool false, .int .i64 0], .bool false]) (by simp [results, Tryz.results33, go_sem]) rfl ?_
   exact ⟨0, false, 0, false, false, 0, false, rfl, by rw [HE.out]; rfl, by rw [HE.out]; rfl, by first | exact Z0c w _ | trace_state⟩
theorem Y2f (A : Option Addr) (nn cc : Nat) (l : List Ky) (id k n f : Int) (t : ByteArray) (w : World) (hn : nn = l.length) (h : RdKy w w.heap.size A l) (hb : nn ≤ 140737488355328) (h0 : 0 ≤ f) (h1 : f < 18446744073709551616) (hsz : t.size ≤ 100000000)
 (hT : Utf8Tabs 0 1 w) :
 Calls Tryz.prog 34 #[.slice A nn cc, .int .i64 id, .agg #[.int .u8 k, .int .i64 n, .int .u64 f, .string t]] w fun e w' => e = .returned (.bool (Z2K l id ⟨k, n, f, t⟩)) ∧ Below w.heap.size w w' := by
 obtain ⟨R, hR⟩ : ∃ X, Z2K l id ⟨k, n, f, t⟩ = X := ⟨_, rfl⟩
 obtain ⟨m, hm⟩ : ∃ X, mayV ⟨k, n, f, t⟩ = X := ⟨_, rfl⟩
 rw [hR]
 unfold Z2K at hR
 rw [hm] at hR
 have HR := hid hR
 have HMV := hid hm
 have HN := hid hn
 have y0 := Z0c w (.cells #[.int .u8 k, .int .i64 n, .int .u64 f, .string t] 73)
 have hv0 := heap_alloc_new w (.cells #[.int .u8 k, .int .i64 n, .int .u64 f, .string t] 73)
 have hs0 := h.ext y0
 have hT0 := Utf8Tabs_below hT y0
 clear hR hm h hn
 go_enter Tryz.func34, Tryz.ntmps34
 go_wp2_with (go_at_call 33; refine Hid.out ?_)
 refine hid ?_
 have H0 := hid hv0
 clear hv0
 generalize hw0 : w.alloc _ = w0 at *
 clear hw0
 refine (Z51 A nn cc l id w0 HN.out hs0 hb).mono ?_
 rintro e w1 ⟨i, c, kd, d, g, q, b, rfl, hk, hb, y1⟩
 have hv1 := (y1.block w.heap.size (Z0b H0.out)).trans H0.out
 have y1' := Z0a y0 y1
 have y2 := Z0c w1 (.cells #[.int .i64 i, .bool c, .int .u8 kd, .bool d, .bool g, .int .i64 q] 78)
 have hk2 := heap_alloc_new w1 (.cells #[.int .i64 i, .bool c, .int .u8 kd, .bool d, .bool g, .int .i64 q] 78)
 have hv2 := (y2.block w.heap.size (Z0b hv1)).trans hv1
 have hT2 := Utf8Tabs_below hT0 (Z0a y1 y2)
 have yy := Z0a y1' y2
 obtain ⟨a0, a1, a2, a3⟩ := Z4B hv2
 have HV2 := hid hv2
 have HK2 := hid hk2
 have HB := hid hb
 have HK := hid hk
 clear hv1 hv2 hk2 H0 hb hk hT hT0 hs0
 cases b with
 | false =>
   go_wp2_with (fail)
   go_ret
   refine ⟨Z0g ?_, yy⟩
   have h := HR.out
   have hb := HB.out
   cases hq : Z0N l id with
   | none => rw [hq] at h; exact h
   | some k => rw [hq] at hb; simp at hb
 | true =>
   obtain ⟨K, hK⟩ : ∃ K, Z0N l id = some K := Option.isSome_iff_exists.1 HB.out
   have hR := HR.out
   have hk := HK.out
   rw [hK] at hR hk
   simp only [Option.getD_some] at hk
   subst hk
   simp only at hR
   have HR := hid hR
   clear hR
   go_wp2_with (go_at_call 32; refine Hid.out ?_)
   refine hid ?_
   refine (Z5M k n f t _ h0 h1 hsz hT2).mono ?_
   rintro e w3 ⟨rfl, y3⟩
   rw [HMV.out]
   have yy3 := Z21 yy y3 rfl rfl rfl rfl
   obtain ⟨hv3, hk3⟩ := kept2 HV2.out HK2.out y3 rfl
   obtain ⟨a0, a1, a2, a3⟩ := Z4B hv3
   obtain ⟨k0, k1, k2, k3, k4, k5⟩ := Z6K hk3
   clear hv3 hk3 y3
   cases m with
   | false =>
     go_wp2_with (fail)
     go_ret
     refine ⟨Z0g ?_, yy3⟩
     rw [← HR.out]; simp
   | true =>
     go_wp2_with (fail)
     go_ret
     refine ⟨Z0g ?_, yy3⟩
     rw [← HR.out, Bool.and_true]
     by_cases hq : kd = k
     ·subst hq; simp
     ·have hq' : ¬ k = kd := fun e => hq e.symm
      simp [hq, hq']
def Y01 (seen : List Ky) : List Ky → Bool
 | [] => true
 | k :: r => mayK k && (Z0N seen k.id).isNone && Y01 (seen ++ [k]) r
def Y2g (l : List Ky) : Bool := decide (l.length ≤ 64) && Y01 [] l
end Go.Proofs.YtnmedachaeanbaaGreatDoor
