/- Merged texts. -/
import Derived.Test.YtfnkjcodcoehcaaGreatDoorX6
namespace Go.Proofs.YtfnkjcodcoehcaaGreatDoor
set_option maxHeartbeats 400000
set_option linter.unusedVariables false
set_option linter.unusedSimpArgs false
structure Mk where
 done : List Opd
 ins : List Opd
 gone : Int
def Mk.new : Mk := ⟨[], [], 0⟩
def Z09 (m : Mk) : List Opd := m.ins ++ (if 0 < m.gone then [opD m.gone] else [])
def addR (d : List Opd) (n : Int) (p : List Ch) : List Opd :=
 match d.getLast? with
 | some o => if o.k = 1 ∧ o.p = p then d.dropLast ++ [{ o with n := IntKind.i64.wrap (o.n + n) }] else d ++ [opR n p]
 | none => d ++ [opR n p]
def Z0D (m : Mk) (n : Int) (p : List Ch) : Mk := if n < 1 then m else ⟨addR (m.done ++ Z09 m) n p, [], 0⟩
def addI (d : List Opd) (l : List Int) (s : List At) : List Opd :=
 match d.getLast? with
 | some o => if o.s = s then d.dropLast ++ [{ o with r := o.r ++ l }] else d ++ [opI l s]
 | none => d ++ [opI l s]
def Z0S (m : Mk) (l : List Int) (s : List At) : Mk := if l = [] then m else { m with ins := addI m.ins l s }
def Z1M (m : Mk) (n : Int) : Mk := { m with gone := IntKind.i64.wrap (m.gone + (if n < 0 then 0 else n)) }
def cutR (d : List Opd) : List Opd :=
 match d.getLast? with
 | some o => if o.k = 1 ∧ o.p = [] then d.dropLast else d
 | none => d
def Z1z (m : Mk) : List Opd := cutR (m.done ++ Z09 m)
def trim : List Un → List Un
 | [] => []
 | u :: us => match trim us with
   | [] => if u = .ret [] then [] else [u]
   | v :: vs => u :: v :: vs
theorem Z5m {u : Un} {us : List Un} (h : trim us ≠ [] ∨ u ≠ .ret []) : trim (u :: us) = u :: trim us := by
 rw [trim]
 cases ht : trim us with
 | nil =>
   rcases h with h | h
   ·exact absurd ht h
   ·simp only; rw [if_neg h]
 | cons v vs => rfl
theorem Z72 {us : List Un} {u : Un} (h : u ≠ .ret []) : trim (us ++ [u]) = us ++ [u] := by
 induction us with
 | nil => show trim [u] = [u]; rw [Z5m (.inr h)]; rfl
 | cons a us ih => show trim (a :: (us ++ [u])) = _; rw [Z5m (.inl (by rw [ih]; simp)), ih]; rfl
theorem Z73 {us : List Un} : trim (us ++ [.ret []]) = trim us := by
 induction us with
 | nil => rfl
 | cons a us ih => show trim (a :: (us ++ [.ret []])) = _; rw [trim, ih]; rfl
theorem Y1T {us : List Un} (n : Nat) : trim (us ++ List.replicate n (.ret [])) = trim us := by
 induction n with
 | zero => simp
 | succ n ih => rw [List.replicate_succ', ← List.append_assoc, Z73, ih]
theorem Z74 {us : List Un} (h : ∀ u, us.getLast? = some u → u ≠ .ret []) : trim us = us := by
 rcases List.eq_nil_or_concat us with rfl | ⟨t, u, rfl⟩
 ·rfl
 ·rw [List.concat_eq_append] at h ⊢
  exact Z72 (h u (by simp))
theorem Z2e {x y : List Opd} (hx : Z1J x) (hy : Z1J y) (h : ∀ a b t, x.getLast? = some a → y = b :: t → Z0A a b = false) : Z1J (x ++ y) := by
 induction x with
 | nil => exact hy
 | cons a x ih =>
   obtain ⟨h1, h2, h3⟩ := hx
   refine ⟨h1, ?_, ih h3 (fun c b t hc hb => h c b t ?_ hb)⟩
   ·cases x with
    | nil =>
      cases y with
      | nil => trivial
      | cons b t => exact h a b t rfl rfl
    | cons c x => exact h2
   ·cases x with
    | nil => cases hc
    | cons d x => simpa using hc
theorem Z54 {x y : List Opd} (h : Z1J (x ++ y)) : Z1J x := by
 induction x with
 | nil => trivial
 | cons a x ih =>
   obtain ⟨h1, h2, h3⟩ := h
   refine ⟨h1, ?_, ih h3⟩
   cases x with
   | nil => trivial
   | cons b x => exact h2
theorem Z4r {x : List Opd} (h : Z1J x) : ∀ o ∈ x, isOp o := by
 induction x with
 | nil => intro o ho; cases ho
 | cons a x ih =>
   intro o ho
   rcases List.mem_cons.1 ho with rfl | ho
   ·exact h.1
   ·exact ih h.2.2 o ho
theorem Z5n {x : List Opd} {a b : Opd} (h : Z1J (x ++ [a])) (hb : isOp b) (hm : ∀ c, Z0A c a = false → Z0A c b = false) : Z1J (x ++ [b]) := by
 refine Z2e (Z54 h) ⟨hb, trivial, trivial⟩ (fun c d t hc hd => ?_)
 injection hd with hd _
 subst hd
 refine hm c ?_
 clear hm hb
 induction x with
 | nil => cases hc
 | cons e x ih =>
   obtain ⟨h1, h2, h3⟩ := h
   cases x with
   | nil => simp at hc; subst hc; exact h2
   | cons f x => exact ih h3 (by simpa using hc)
theorem Z4Z {x : List Opd} {o : Opd} (h : x.getLast? = some o) : x = x.dropLast ++ [o] := by
 rcases List.eq_nil_or_concat x with rfl | ⟨t, u, rfl⟩
 ·cases h
 ·rw [List.concat_eq_append] at h ⊢
  simp at h
  subst h
  simp
theorem Z5B {n : Int} {p : List Ch} (h : 1 ≤ n) : isOp (opR n p) := .inr (.inr ⟨rfl, h, rfl, rfl⟩)
theorem Z9R {n : Int} (h : 1 ≤ n) : isOp (opD n) := .inr (.inl ⟨rfl, h, rfl, rfl, rfl⟩)
theorem Z7x {l : List Int} {s : List At} (h : l ≠ []) : isOp (opI l s) := .inl ⟨rfl, rfl, h, rfl⟩
theorem Z1N (n : Int) (p : List Ch) : Z0h (opR n p) = List.replicate n.toNat (.ret p) := rfl
theorem Z3L (n : Int) : Z0h (opD n) = List.replicate n.toNat .del := rfl
theorem Z2a (l : List Int) (s : List At) : Z0h (opI l s) = l.map (fun r => Un.ins r s) := rfl
theorem Z1j (o : Opd) : Z0d [o] = Z0h o := by simp [Z0d]
theorem Z75 {x : List Opd} (h : Z1J x) {o : Opd} (ho : o ∈ x) (hk : o.k ≠ 2) : o.n ≤ (Z0d x).length := by
 induction x with
 | nil => cases ho
 | cons a x ih =>
   rw [Z1w, List.length_append]
   rcases List.mem_cons.1 ho with rfl | hm
   ·have : (Z0h o).length = o.n.toNat := by
     unfold Z0h
     rw [if_neg hk]
     split <;> simp
    have := h.1
    rcases this with h1 | h1 | h1 <;> omega
   ·have := ih h.2.2 hm; omega
theorem Y5k {d : List Opd} {n : Int} {p : List Ch} (hd : Z1J d) (hn : 1 ≤ n) (hb : (Z0d d).length + n ≤ 4611686018427387904) :
 Z1J (addR d n p) ∧ Z0d (addR d n p) = Z0d d ++ List.replicate n.toNat (.ret p) ∧ (∃ o, (addR d n p).getLast? = some o ∧ o.k = 1) := by
 unfold addR
 cases hl : d.getLast? with
 | none =>
   have : d = [] := by simpa using hl
   subst this
   refine ⟨⟨Z5B hn, trivial, trivial⟩, ?_, opR n p, rfl, rfl⟩
   simp [Z1j, Z52, Z1N]
 | some o =>
   have e := Z4Z hl
   have hmem : o ∈ d := by rw [e]; simp
   have hop := Z4r hd o hmem
   simp only
   by_cases hc : o.k = 1 ∧ o.p = p
   ·rw [if_pos hc]
    obtain ⟨e1, h1⟩ := Z1K hop hc.1
    have hge := Z75 hd hmem (by rw [hc.1]; decide)
    have hw : IntKind.i64.wrap (o.n + n) = o.n + n := IntWalk.i64_in _ (by omega)
    have e2 : ({ o with n := IntKind.i64.wrap (o.n + n) } : Opd) = opR (o.n + n) p := by rw [hw, e1, hc.2]; rfl
    rw [e2]
    rw [e1, hc.2] at e
    refine ⟨Z5n (a := opR o.n p) (by rw [← e]; exact hd) (Z5B (by omega)) (fun c h => h), ?_, opR (o.n + n) p, by simp, rfl⟩
    rw [Z0G, Z1j, Z1N]
    have : Z0d d = Z0d d.dropLast ++ List.replicate o.n.toNat (.ret p) := by
     conv => lhs; rw [e]
     rw [Z0G, Z1j, Z1N]
    rw [this, List.append_assoc, List.replicate_append_replicate]
    congr 2
    omega
   ·rw [if_neg hc]
    refine ⟨Z2e hd ⟨Z5B hn, trivial, trivial⟩ (fun a b t ha hb => ?_), by rw [Z0G, Z1j, Z1N], opR n p, by simp, rfl⟩
    injection hb with hb _
    subst hb
    rw [hl] at ha; injection ha with ha; subst ha
    cases hm : Z0A o (opR n p) with
    | false => rfl
    | true =>
      exfalso
      refine hc ?_
      simp [Z0A, opR] at hm
      exact ⟨hm.1, of_decide_eq_true hm.2⟩
theorem Y5l {d : List Opd} {l : List Int} {s : List At} (hd : Z1J d) (h2 : ∀ o ∈ d, o.k = 2) (hl : l ≠ []) :
 Z1J (addI d l s) ∧ (∀ o ∈ addI d l s, o.k = 2) ∧ Z0d (addI d l s) = Z0d d ++ l.map (fun r => Un.ins r s) := by
 unfold addI
 cases hg : d.getLast? with
 | none =>
   have : d = [] := by simpa using hg
   subst this
   exact ⟨⟨Z7x hl, trivial, trivial⟩, by intro o ho; simp at ho; subst ho; rfl, by simp [Z1j, Z52, Z2a]⟩
 | some o =>
   have e := Z4Z hg
   have hmem : o ∈ d := by rw [e]; simp
   have hop := Z4r hd o hmem
   have hk := h2 o hmem
   obtain ⟨e1, h1⟩ := Z13 hop hk
   simp only
   by_cases hc : o.s = s
   ·rw [if_pos hc]
    have e2 : ({ o with r := o.r ++ l } : Opd) = opI (o.r ++ l) s := by rw [e1, hc]; rfl
    rw [e2]
    rw [e1, hc] at e
    refine ⟨Z5n (a := opI o.r s) (by rw [← e]; exact hd) (Z7x (by simp [hl])) (fun c h => h), fun x hx => ?_, ?_⟩
    ·rcases List.mem_append.1 hx with hx | hx
     ·exact h2 x ((List.dropLast_sublist _).subset hx)
     ·simp at hx; subst hx; rfl
    ·rw [Z0G, Z1j, Z2a]
     have : Z0d d = Z0d d.dropLast ++ o.r.map (fun r => Un.ins r s) := by
      conv => lhs; rw [e]
      rw [Z0G, Z1j, Z2a]
     rw [this, List.append_assoc, List.map_append]
   ·rw [if_neg hc]
    refine ⟨Z2e hd ⟨Z7x hl, trivial, trivial⟩ (fun a b t ha hb => ?_), fun x hx => ?_, by rw [Z0G, Z1j, Z2a]⟩
    ·injection hb with hb _
     subst hb
     rw [hg] at ha; injection ha with ha; subst ha
     cases hm : Z0A o (opI l s) with
     | false => rfl
     | true =>
       exfalso
       refine hc ?_
       simp [Z0A, opI] at hm
       exact of_decide_eq_true hm.2
    ·rcases List.mem_append.1 hx with hx | hx
     ·exact h2 x hx
     ·simp at hx; subst hx; rfl
structure MkAt (m : Mk) (K : List Un) (I : List Un) (g : Nat) : Prop where
 d1 : Z1J m.done
 d2 : Z0d m.done = K
 d3 : ∀ o, m.done.getLast? = some o → o.k = 1
 i1 : Z1J m.ins
 i2 : Z0d m.ins = I
 i3 : ∀ o ∈ m.ins, o.k = 2
 g1 : m.gone = g
theorem MkAt.new : MkAt Mk.new [] [] 0 := ⟨trivial, rfl, (by intro o h; cases h), trivial, rfl, (by intro o h; cases h), rfl⟩
theorem Z55 {a b : Opd} (h : a.k ≠ b.k) : Z0A a b = false := by
 cases hm : Z0A a b with
 | false => rfl
 | true =>
   exfalso; apply h
   simp [Z0A] at hm
   rcases hm with (⟨⟨h1, h2⟩, _⟩ | ⟨h1, h2⟩) | ⟨⟨h1, h2⟩, _⟩ <;> rw [h1, h2]
theorem MkAt.all {m : Mk} {K I : List Un} {g : Nat} (h : MkAt m K I g) : Z1J (m.done ++ Z09 m) ∧ Z0d (m.done ++ Z09 m) = K ++ I ++ List.replicate g .del := by
 have hgap : Z1J (Z09 m) ∧ Z0d (Z09 m) = I ++ List.replicate g .del ∧ ∀ b t, Z09 m = b :: t → b.k ≠ 1 := by
  unfold Z09
  by_cases hg : 0 < m.gone
  ·rw [if_pos hg]
   refine ⟨Z2e h.i1 ⟨Z9R (by omega), trivial, trivial⟩ (fun a b t ha hb => ?_), ?_, fun b t hb => ?_⟩
   ·injection hb with hb _; subst hb
    exact Z55 (by rw [h.i3 a (List.mem_of_getLast? ha)]; exact (show (2 : Int) ≠ 3 by decide))
   ·rw [Z0G, Z1j, Z3L, h.i2, h.g1]; simp
   ·cases hi : m.ins with
    | nil => rw [hi] at hb; injection hb with hb _; subst hb; exact (show (3 : Int) ≠ 1 by decide)
    | cons c x =>
      rw [hi] at hb; injection hb with hb _; subst hb
      rw [h.i3 c (by rw [hi]; simp)]; decide
  ·rw [if_neg hg]
   have hg0 : g = 0 := by have := h.g1; omega
   subst hg0
   refine ⟨by rw [List.append_nil]; exact h.i1, by rw [List.append_nil, h.i2]; simp, fun b t hb => ?_⟩
   rw [List.append_nil] at hb
   rw [h.i3 b (by rw [hb]; simp)]; decide
 obtain ⟨h1, h2, h3⟩ := hgap
 refine ⟨Z2e h.d1 h1 (fun a b t ha hb => Z55 (by rw [h.d3 a ha]; exact fun e => h3 b t hb e.symm)), by rw [Z0G, h.d2, h2, List.append_assoc]⟩
theorem MkAt.retain {m : Mk} {K I : List Un} {g : Nat} (h : MkAt m K I g) {n : Int} {p : List Ch} (hn : 1 ≤ n) (hb : (K.length + I.length + g : Nat) + n ≤ 4611686018427387904) :
 MkAt (Z0D m n p) (K ++ I ++ List.replicate g .del ++ List.replicate n.toNat (.ret p)) [] 0 := by
 obtain ⟨h1, h2⟩ := h.all
 obtain ⟨g1, g2, o, g3, g4⟩ := Y5k (p := p) h1 hn (by rw [h2]; simp only [List.length_append, List.length_replicate]; exact hb)
 unfold Z0D
 rw [if_neg (by omega)]
 refine ⟨g1, by rw [g2, h2], fun x hx => ?_, trivial, rfl, (by intro o ho; cases ho), rfl⟩
 rw [g3] at hx; injection hx with hx; subst hx; exact g4
theorem MkAt.retain0 {m : Mk} {K I : List Un} {g : Nat} (h : MkAt m K I g) {n : Int} {p : List Ch} (hn : n < 1) : MkAt (Z0D m n p) K I g := by
 unfold Z0D; rw [if_pos hn]; exact h
theorem MkAt.insert {m : Mk} {K I : List Un} {g : Nat} (h : MkAt m K I g) (l : List Int) (s : List At) :
 MkAt (Z0S m l s) K (I ++ l.map (fun r => Un.ins r s)) g := by
 unfold Z0S
 by_cases hl : l = []
 ·rw [if_pos hl, hl]; simpa using h
 ·rw [if_neg hl]
  obtain ⟨g1, g2, g3⟩ := Y5l (s := s) h.i1 h.i3 hl
  exact ⟨h.d1, h.d2, h.d3, g1, by rw [g3, h.i2], g2, h.g1⟩
theorem MkAt.delete {m : Mk} {K I : List Un} {g : Nat} (h : MkAt m K I g) {n : Int} (hb : (g : Int) + n ≤ 4611686018427387904) (hg : g ≤ 4611686018427387904) :
 MkAt (Z1M m n) K I (g + n.toNat) := by
 refine ⟨h.d1, h.d2, h.d3, h.i1, h.i2, h.i3, ?_⟩
 show IntKind.i64.wrap (m.gone + (if n < 0 then 0 else n)) = _
 rw [h.g1]
 have : (if n < 0 then 0 else n) = (n.toNat : Int) := by split <;> omega
 rw [this, IntWalk.i64_in _ (by omega)]
 omega
theorem MkAt.ops {m : Mk} {K I : List Un} {g : Nat} (h : MkAt m K I g) : Z1J (Z1z m) ∧ Z0d (Z1z m) = trim (K ++ I ++ List.replicate g .del) := by
 obtain ⟨h1, h2⟩ := h.all
 unfold Z1z cutR
 rw [← h2]
 generalize m.done ++ Z09 m = x at *
 cases hl : x.getLast? with
 | none =>
   have : x = [] := by simpa using hl
   subst this
   exact ⟨trivial, rfl⟩
 | some o =>
   have e := Z4Z hl
   have hop := Z4r h1 o (by rw [e]; simp)
   simp only
   have hT : Z1J (x.dropLast ++ [o]) := by rw [← e]; exact h1
   by_cases hc : o.k = 1 ∧ o.p = []
   ·rw [if_pos hc]
    obtain ⟨e1, hn⟩ := Z1K hop hc.1
    rw [hc.2] at e1
    refine ⟨Z54 hT, ?_⟩
    have e2 : Z0d x = Z0d x.dropLast ++ List.replicate o.n.toNat (.ret []) := by
     conv => lhs; rw [e, e1]
     rw [Z0G, Z1j, Z1N]
    rw [e2, Y1T]
    symm
    refine Z74 (fun u hu hr => ?_)
    subst hr
    -- the op ahead would be one with the last
    rcases List.eq_nil_or_concat x.dropLast with h0 | ⟨t, c, h0⟩
    ·rw [h0] at hu; cases hu
    ·rw [List.concat_eq_append] at h0
     rw [h0] at hu hT
     rw [Z0G, Z1j] at hu
     have hc1 := Z4r hT c (by simp)
     have hcm : Z0A c o = false := by
      have : ∀ (t : List Opd), Z1J (t ++ [c] ++ [o]) → Z0A c o = false := by
       intro t
       induction t with
       | nil => intro h; exact h.2.1
       | cons d t ih => intro h; exact ih h.2.2
      exact this t hT
     rcases Z0x hc1 with hk | hk | hk
     ·obtain ⟨ec, hr⟩ := Z13 hc1 hk
      rw [ec, Z2a] at hu
      rcases List.eq_nil_or_concat c.r with h5 | ⟨q, z, h5⟩
      ·exact hr h5
      ·rw [h5, List.concat_eq_append, List.map_append] at hu
       simp at hu
     ·obtain ⟨ec, hr⟩ := Z14 hc1 hk
      rw [ec, Z3L] at hu
      obtain ⟨q, hq⟩ : ∃ q, c.n.toNat = q + 1 := ⟨c.n.toNat - 1, by omega⟩
      rw [hq, List.replicate_succ'] at hu
      simp at hu
     ·obtain ⟨ec, hr⟩ := Z1K hc1 hk
      rw [ec, Z1N] at hu
      obtain ⟨q, hq⟩ : ∃ q, c.n.toNat = q + 1 := ⟨c.n.toNat - 1, by omega⟩
      rw [hq, List.replicate_succ'] at hu
      simp at hu
      rw [ec, e1, hu] at hcm
      simp [Z0A, opR] at hcm
   ·rw [if_neg hc]
    refine ⟨h1, ?_⟩
    symm
    refine Z74 (fun u hu hr => ?_)
    subst hr
    rw [e, Z0G, Z1j] at hu
    rcases Z0x hop with hk | hk | hk
    ·obtain ⟨ec, hr⟩ := Z13 hop hk
     rw [ec, Z2a] at hu
     rcases List.eq_nil_or_concat o.r with h5 | ⟨q, z, h5⟩
     ·exact hr h5
     ·rw [h5, List.concat_eq_append, List.map_append] at hu
      simp at hu
    ·obtain ⟨ec, hr⟩ := Z14 hop hk
     rw [ec, Z3L] at hu
     obtain ⟨q, hq⟩ : ∃ q, o.n.toNat = q + 1 := ⟨o.n.toNat - 1, by omega⟩
     rw [hq, List.replicate_succ'] at hu
     simp at hu
    ·obtain ⟨ec, hr⟩ := Z1K hop hk
     rw [ec, Z1N] at hu
     obtain ⟨q, hq⟩ : ∃ q, o.n.toNat = q + 1 := ⟨o.n.toNat - 1, by omega⟩
     rw [hq, List.replicate_succ'] at hu
     simp at hu
     exact hc ⟨hk, hu⟩
def cn : List Un → List Un → Nat → List Un
 | [], I, g => I ++ List.replicate g .del
 | .ins r s :: us, I, g => cn us (I ++ [.ins r s]) g
 | .del :: us, I, g => cn us I (g + 1)
 | .ret p :: us, I, g => I ++ List.replicate g .del ++ .ret p :: cn us [] 0
def Z2i (us : List Un) : List Un := cn us [] 0
def nf (us : List Un) : List Un := trim (Z2i us)
def Z0k : List Un → Nat
 | [] => 0
 | .ins _ _ :: us => Z0k us
 | _ :: us => Z0k us + 1
def Z0p : List Un → Nat
 | [] => 0
 | .del :: us => Z0p us
 | _ :: us => Z0p us + 1
theorem Z0Q (p : List Ch) (us : List Un) : Z0k (.ret p :: us) = Z0k us + 1 := rfl
theorem Z07 (us : List Un) : Z0k (.del :: us) = Z0k us + 1 := rfl
theorem Z1k (r : Int) (s : List At) (us : List Un) : Z0k (.ins r s :: us) = Z0k us := rfl
theorem Z1O (p : List Ch) (us : List Un) : Z0p (.ret p :: us) = Z0p us + 1 := rfl
theorem Z2m (us : List Un) : Z0p (.del :: us) = Z0p us := rfl
theorem Z3a (r : Int) (s : List At) (us : List Un) : Z0p (.ins r s :: us) = Z0p us + 1 := rfl
theorem Z0y (a b : List Un) : Z0k (a ++ b) = Z0k a + Z0k b := by
 induction a with
 | nil => simp [Z0k]
 | cons u a ih => cases u <;> simp [Z0k, ih] <;> omega
theorem Z0E (a b : List Un) : Z0p (a ++ b) = Z0p a + Z0p b := by
 induction a with
 | nil => simp [Z0p]
 | cons u a ih => cases u <;> simp [Z0p, ih] <;> omega
theorem Z2p (g : Nat) : Z0k (List.replicate g .del) = g := by induction g with | zero => rfl | succ g ih => rw [List.replicate_succ, Z07, ih]
theorem Z3M (g : Nat) : Z0p (List.replicate g .del) = 0 := by induction g with | zero => rfl | succ g ih => rw [List.replicate_succ, Z2m, ih]
theorem Y3W (us : List Un) : ∀ (I : List Un) (g : Nat), Z0k (cn us I g) = Z0k I + g + Z0k us := by
 induction us with
 | nil => intro I g; simp [cn, Z0y, Z2p, Z0k]
 | cons u us ih =>
   intro I g
   cases u with
   | ins r s => rw [cn, ih, Z0y]; simp [Z0k]
   | del => rw [cn, ih]; simp [Z0k]; omega
   | ret p => rw [cn, Z0y, Z0y, Z2p, Z0Q, Z0Q, ih]; simp [Z0k]; try omega
theorem Y3X (us : List Un) : ∀ (I : List Un) (g : Nat), Z0p (cn us I g) = Z0p I + Z0p us := by
 induction us with
 | nil => intro I g; simp [cn, Z0E, Z3M, Z0p]
 | cons u us ih =>
   intro I g
   cases u with
   | ins r s => rw [cn, ih, Z0E]; simp [Z0p]; omega
   | del => rw [cn, ih]; simp [Z0p]
   | ret p => rw [cn, Z0E, Z0E, Z3M, Z1O, Z1O, ih]; simp [Z0p]; try omega
theorem Z56 (us : List Un) : Z0k (Z2i us) = Z0k us := by rw [Z2i, Y3W]; simp [Z0k]
theorem Z57 (us : List Un) : Z0p (Z2i us) = Z0p us := by rw [Z2i, Y3X]; simp [Z0p]
theorem Y59 (l : List Int) (s : List At) (us : List Un) : ∀ (I : List Un) (g : Nat), cn (l.map (fun r => Un.ins r s) ++ us) I g = cn us (I ++ l.map (fun r => Un.ins r s)) g := by
 induction l with
 | nil => intro I g; simp
 | cons r l ih => intro I g; show cn (l.map _ ++ us) (I ++ [.ins r s]) g = _; rw [ih]; simp
theorem Y6a (k : Nat) (us : List Un) : ∀ (I : List Un) (g : Nat), cn (List.replicate k .del ++ us) I g = cn us I (g + k) := by
 induction k with
 | zero => intro I g; simp
 | succ k ih => intro I g; rw [List.replicate_succ]; show cn (List.replicate k .del ++ us) I (g + 1) = _; rw [ih]; congr 1; omega
theorem Y6b (k : Nat) (p : List Ch) (us : List Un) (I : List Un) (g : Nat) : cn (List.replicate (k + 1) (.ret p) ++ us) I g = I ++ List.replicate g .del ++ List.replicate (k + 1) (.ret p) ++ cn us [] 0 := by
 have h : ∀ k, cn (List.replicate k (.ret p) ++ us) [] 0 = List.replicate k (.ret p) ++ cn us [] 0 := by
  intro k
  induction k with
  | zero => rfl
  | succ k ih => rw [List.replicate_succ]; show [] ++ List.replicate 0 .del ++ .ret p :: cn (List.replicate k (.ret p) ++ us) [] 0 = _; rw [ih]; simp
 rw [List.replicate_succ]
 show I ++ List.replicate g .del ++ .ret p :: cn (List.replicate k (.ret p) ++ us) [] 0 = _
 rw [h]; simp
def Told (m : Mk) (us : List Un) : Prop :=
 ∃ K I g, MkAt m K I g ∧ (∀ rest, Z2i (us ++ rest) = K ++ cn rest I g) ∧ K.length + I.length + g = us.length
theorem Told.new : Told Mk.new [] := ⟨[], [], 0, MkAt.new, fun rest => rfl, rfl⟩
theorem Told.retain {m : Mk} {us : List Un} (h : Told m us) (n : Int) (p : List Ch) (hb : (us.length : Int) + n ≤ 4611686018427387904) : Told (Z0D m n p) (us ++ List.replicate n.toNat (.ret p)) := by
 obtain ⟨K, I, g, h1, h2, h3⟩ := h
 by_cases hn : n < 1
 ·have : n.toNat = 0 := by omega
  rw [this]
  exact ⟨K, I, g, h1.retain0 hn, fun rest => by rw [List.replicate_zero, List.append_nil]; exact h2 rest, by simpa using h3⟩
 ·obtain ⟨k, hk⟩ : ∃ k, n.toNat = k + 1 := ⟨n.toNat - 1, by omega⟩
  refine ⟨_, [], 0, h1.retain (p := p) (by omega) (by rw [h3]; exact hb), fun rest => ?_, ?_⟩
  ·rw [List.append_assoc, h2, hk, Y6b]; simp only [List.append_assoc]
  ·simp only [List.length_append, List.length_replicate, List.length_nil]; omega
theorem Told.insert {m : Mk} {us : List Un} (h : Told m us) (l : List Int) (s : List At) : Told (Z0S m l s) (us ++ l.map (fun r => Un.ins r s)) := by
 obtain ⟨K, I, g, h1, h2, h3⟩ := h
 refine ⟨K, _, g, h1.insert l s, fun rest => by rw [List.append_assoc, h2, Y59], by simp; omega⟩
theorem Told.delete {m : Mk} {us : List Un} (h : Told m us) (n : Int) (hb : (us.length : Int) + n ≤ 4611686018427387904) (hb2 : us.length ≤ 4611686018427387904) : Told (Z1M m n) (us ++ List.replicate n.toNat .del) := by
 obtain ⟨K, I, g, h1, h2, h3⟩ := h
 refine ⟨K, I, _, h1.delete (n := n) (by omega) (by omega), fun rest => by rw [List.append_assoc, h2, Y6a], by simp; omega⟩
theorem Told.ops {m : Mk} {us : List Un} (h : Told m us) : Z1J (Z1z m) ∧ Z0d (Z1z m) = nf us := by
 obtain ⟨K, I, g, h1, h2, h3⟩ := h
 obtain ⟨g1, g2⟩ := h1.ops
 refine ⟨g1, ?_⟩
 rw [g2, nf]
 have := h2 []
 rw [List.append_nil] at this
 rw [this]
 simp [cn, List.append_assoc]
theorem Z6B (us : List Un) (p : List Ch) : Z2i (us ++ [.ret p]) = Z2i us ++ [.ret p] := by
 have h : ∀ (us I : List Un) (g : Nat), cn (us ++ [.ret p]) I g = cn us I g ++ [.ret p] := by
  intro us
  induction us with
  | nil => intro I g; simp [cn]
  | cons u us ih => intro I g; cases u <;> simp [cn, ih]
 exact h us [] 0
open Go.RowKit
def osOf (x : List OpS) : List Opd := x.map (·.o)
structure Cl where
 r : Int
 s : List At
deriving DecidableEq
structure ClS where
 c : Cl
 As : Option Addr
 cs : Nat
def ClS.enc (x : ClS) : List Value := [.int .i32 x.c.r, .slice x.As x.c.s.length x.cs]
theorem ClS.enc_len (x : ClS) : x.enc.length = 2 := rfl
theorem ClS.enc_one (x : ClS) : ∀ u ∈ x.enc, u.oneCell' = true := by intro u hu; simp [ClS.enc] at hu; rcases hu with rfl | rfl <;> rfl
abbrev RdCs := @Rd ClS ClS.enc 2
def SubC (w : World) (B : Nat) (l : List ClS) : Prop := ∀ x ∈ l, RdAt w B x.As x.c.s
def RdCl (w : World) (B : Nat) (A : Option Addr) (l : List ClS) : Prop := RdCs w B A l ∧ SubC w B l
theorem SubC.ext {w w' : World} {l : List ClS} (h : SubC w w.heap.size l) (y : Below w.heap.size w w') : SubC w' w'.heap.size l := fun x hx => (h x hx).ext y
theorem RdCl.ext {w w' : World} {A : Option Addr} {l : List ClS} (h : RdCl w w.heap.size A l) (y : Below w.heap.size w w') : RdCl w' w'.heap.size A l := ⟨h.1.ext y, h.2.ext y⟩
theorem Z03 {w : World} {p : Addr} {r s : Value} (h : CellsAt w p [r, s]) : w.cell? p = some r ∧ w.cell? { block := p.block, off := p.off + 1 } = some s := by
 have h0 := h 0 _ rfl
 rw [Z0v] at h0
 exact ⟨h0, Z0B h 0 rfl⟩
theorem Z34 {w : World} {b : Nat} {t : TypeId} {c0 c1 : Value} (h : w.heap[b]? = some (.cells #[c0, c1] t (0, 0))) : w.cell? ⟨b, 0, none⟩ = some c0 ∧ w.cell? ⟨b, 1, none⟩ = some c1 := by
 simp [World.cell?, h]
def put1 (c : Ch) : List At := if c.gone then [] else [⟨c.key, c.v⟩]
def Z3n (k : Int) : List At → List At
 | [] => []
 | a :: s => if a.key = k then s else a :: s
def Z04 : List Ch → List At → List At
 | [], s => s
 | c :: p, s => s.takeWhile (fun a => decide (a.key < c.key)) ++ (put1 c ++ Z04 p (Z3n c.key (s.dropWhile (fun a => decide (a.key < c.key)))))
def Z2u (c : Ch) (p : List Ch) (s : List At) : List At :=
 s.takeWhile (fun a => decide (a.key < c.key)) ++ (put1 c ++ Z04 p (Z3n c.key (s.dropWhile (fun a => decide (a.key < c.key)))))
theorem Z76 (c : Ch) (p : List Ch) (a : At) (s : List At) (h : a.key < c.key) : Z2u c p (a :: s) = a :: Z2u c p s := by
 simp [Z2u, h]
theorem Z6Q (c : Ch) (p : List Ch) (a : At) (s : List At) (h : a.key = c.key) : Z2u c p (a :: s) = put1 c ++ Z04 p s := by
 simp [Z2u, h, Z3n]
theorem Z5o (c : Ch) (p : List Ch) (a : At) (s : List At) (h : c.key < a.key) : Z2u c p (a :: s) = put1 c ++ Z04 p (a :: s) := by
 have h1 : ¬ a.key < c.key := by omega
 have h2 : ¬ a.key = c.key := by omega
 simp [Z2u, h1, h2, Z3n]
theorem Z58 (c : Ch) (p : List Ch) : Z2u c p [] = put1 c ++ Z04 p [] := by
 simp [Z2u, Z3n]
def getA (l : List At) (key : Int) : Option V := (l.find? (fun a => decide (a.key = key))).map (·.v)
theorem Y1U {a : Int} {l : List Int} (h : rise (a :: l) = true) : ∀ b ∈ l, a < b := by
 induction l generalizing a with
 | nil => intro b hb; simp at hb
 | cons c l ih =>
   simp only [rise, Bool.and_eq_true, decide_eq_true_eq] at h
   intro b hb
   rcases List.mem_cons.1 hb with rfl | hb
   ·exact h.1
   ·have := ih h.2 b hb; omega
theorem Y1V {a : Int} {l : List Int} (h : rise (a :: l) = true) : rise l = true := by
 cases l with
 | nil => rfl
 | cons c l => simp only [rise, Bool.and_eq_true] at h; exact h.2
def cmpI (a b : Int) : Int := if a < b then -1 else if b < a then 1 else 0
theorem Y0S (x : Int) (w : World) : Calls Tryz.prog 149 #[.int .i64 x] w fun e w' => e = .returned (.bool false) ∧ w = w' := by
 go_enter Tryz.func149, Tryz.ntmps149
 go_wp2
 go_ret
 exact ⟨by simp, rfl⟩
theorem Z80 (x y : Int) (w : World) : Calls Tryz.prog 71 #[.int .i64 x, .int .i64 y] w fun e w' => e = .returned (.int .i64 (cmpI x y)) ∧ w = w' := by
 have hc : (x < y ∧ cmpI x y = -1) ∨ (¬ x < y ∧ y < x ∧ cmpI x y = 1) ∨ (¬ x < y ∧ ¬ y < x ∧ cmpI x y = 0) := by
  unfold cmpI
  by_cases h1 : x < y
  ·simp [h1]
  ·by_cases h2 : y < x <;> simp [h1, h2]
 rcases hc with ⟨h1, hc⟩ | ⟨h1, h2, hc⟩ | ⟨h1, h2, hc⟩
 all_goals
  have HC := Lib.hid hc
  clear hc
  go_enter Tryz.func71, Tryz.ntmps71
  go_wp2_with (go_at_call 149; refine (Y0S _ _).mono ?_; rintro e w' ⟨rfl, rfl⟩)
  go_ret
  exact ⟨Z0r HC.out.symm, rfl⟩
section
variable {α : Type} (key : α → Int)
def lk (l : List α) (k : Int) : Option α := l.find? (fun a => decide (key a = k))
def Srt (l : List α) : Prop := l.Pairwise (fun a b => key a < key b)
theorem Z9S (k : Int) : lk key [] k = none := rfl
theorem Z1b (a : α) (l : List α) (k : Int) : lk key (a :: l) k = if key a = k then some a else lk key l k := by
 unfold lk
 by_cases h : key a = k <;> simp [h]
theorem Z59 (l m : List α) (k : Int) : lk key (l ++ m) k = (lk key l k).or (lk key m k) := by
 unfold lk
 rw [List.find?_append]
theorem Z1Y {l : List α} {k : Int} (h : ∀ a ∈ l, key a ≠ k) : lk key l k = none := by
 unfold lk
 rw [List.find?_eq_none]
 intro a ha
 simpa using h a ha
theorem Z77 {l : List α} {k : Int} {a : α} (h : lk key l k = some a) : key a = k := by
 unfold lk at h
 have := List.find?_some h
 simpa using this
theorem Z6a {l : List α} {k : Int} {a : α} (h : lk key l k = some a) : a ∈ l := by
 unfold lk at h
 exact List.mem_of_find?_eq_some h
theorem Z6b {l : List α} (hs : Srt key l) {a : α} (h : a ∈ l) : lk key l (key a) = some a := by
 induction l with
 | nil => simp at h
 | cons b l ih =>
   rw [Z1b]
   obtain ⟨h1, h2⟩ := List.pairwise_cons.1 hs
   rcases List.mem_cons.1 h with rfl | h
   ·simp
   ·have := h1 a h
    rw [if_neg (by omega)]
    exact ih h2 h
theorem Z78 {l : List α} {k : Int} : (lk key l k).isSome = true ↔ ∃ a ∈ l, key a = k := by
 constructor
 ·intro h
  obtain ⟨a, ha⟩ := Option.isSome_iff_exists.1 h
  exact ⟨a, Z6a key ha, Z77 key ha⟩
 ·rintro ⟨a, ha, hk⟩
  cases hl : lk key l k with
  | some _ => rfl
  | none =>
    unfold lk at hl
    rw [List.find?_eq_none] at hl
    exact absurd hk (by simpa using hl a ha)
theorem Y1W {l m : List α} (hl : Srt key l) (hm : Srt key m) (h : ∀ k, lk key l k = lk key m k) : l = m := by
 induction l generalizing m with
 | nil =>
   cases m with
   | nil => rfl
   | cons b m => have := h (key b); simp [Z1b, Z9S] at this
 | cons a l ih =>
   obtain ⟨h1, h2⟩ := List.pairwise_cons.1 hl
   cases m with
   | nil => have := h (key a); simp [Z1b, Z9S] at this
   | cons b m =>
     obtain ⟨h3, h4⟩ := List.pairwise_cons.1 hm
     have hab : key a = key b := by
      rcases Int.lt_trichotomy (key a) (key b) with hlt | he | hgt
      ·have := h (key a)
       rw [Z1b, if_pos rfl, Z1b, if_neg (by omega), Z1Y key (fun c hc => by have := h3 c hc; omega)] at this
       cases this
      ·exact he
      ·have := h (key b)
       rw [Z1b, Z1b, if_pos rfl, if_neg (by omega), Z1Y key (fun c hc => by have := h1 c hc; omega)] at this
       cases this
     have e := h (key a)
     rw [Z1b, if_pos rfl, Z1b, if_pos hab.symm] at e
     injection e with e
     subst e
     congr 1
     refine ih h2 h4 fun k => ?_
     have := h k
     rw [Z1b, Z1b] at this
     by_cases hk : key a = k
     ·rw [Z1Y key (fun c hc => by have := h1 c hc; omega), Z1Y key (fun c hc => by have := h3 c hc; omega)]
     ·rw [if_neg hk, if_neg hk] at this; exact this
theorem Srt.nil : Srt key ([] : List α) := List.Pairwise.nil
theorem Z1P {a : α} {l : List α} : Srt key (a :: l) ↔ (∀ b ∈ l, key a < key b) ∧ Srt key l := List.pairwise_cons
theorem Z6R {l m : List α} : Srt key (l ++ m) ↔ Srt key l ∧ Srt key m ∧ ∀ a ∈ l, ∀ b ∈ m, key a < key b := List.pairwise_append
theorem Srt.filter {l : List α} (h : Srt key l) (p : α → Bool) : Srt key (l.filter p) := List.Pairwise.filter p h
theorem Z6c {l : List α} (hs : Srt key l) (p : α → Bool) (k : Int) : lk key (l.filter p) k = (lk key l k).filter p := by
 induction l with
 | nil => rfl
 | cons a l ih =>
   obtain ⟨h1, h2⟩ := (Z1P key).1 hs
   rw [Z1b]
   by_cases hk : key a = k
   ·rw [if_pos hk]
    by_cases hp : p a = true
    ·rw [List.filter_cons_of_pos hp, Z1b, if_pos hk]; simp [Option.filter, hp]
    ·rw [List.filter_cons_of_neg hp, Z1Y key (fun c hc => by have := h1 c (List.mem_filter.1 hc).1; omega)]; simp [Option.filter, hp]
   ·rw [if_neg hk, ← ih h2]
    by_cases hp : p a = true
    ·rw [List.filter_cons_of_pos hp, Z1b, if_neg hk]
    ·rw [List.filter_cons_of_neg hp]
end
theorem Z9T {α : Type} (key : α → Int) (l : List α) : rise (l.map key) = true ↔ Srt key l := by
 induction l with
 | nil => simp [rise, Srt]
 | cons a l ih =>
   rw [Z1P, ← ih]
   constructor
   ·intro h
    refine ⟨fun b hb => Y1U h _ (List.mem_map.2 ⟨b, hb, rfl⟩), Y1V h⟩
   ·rintro ⟨h1, h2⟩
    cases l with
    | nil => rfl
    | cons b l =>
      simp only [List.map_cons, rise, Bool.and_eq_true, decide_eq_true_eq]
      exact ⟨h1 b (by simp), h2⟩
theorem Z1c {l : List At} : Z1H l = true ↔ Srt At.key l := Z9T At.key l
theorem Z1d {l : List Ch} : Z1W l = true ↔ Srt Ch.key l := Z9T Ch.key l
theorem Y6c {α : Type} (key : α → Int) {l : List α} (hs : Srt key l) (c : Int) :
 (∀ a ∈ l.takeWhile (fun a => decide (key a < c)), key a < c) ∧ (∀ a ∈ l.dropWhile (fun a => decide (key a < c)), c ≤ key a) := by
 induction l with
 | nil => simp
 | cons a l ih =>
   obtain ⟨h1, h2⟩ := (Z1P key).1 hs
   by_cases h : key a < c
   ·simp only [List.takeWhile_cons, List.dropWhile_cons, h, decide_true, if_true]
    refine ⟨fun b hb => ?_, (ih h2).2⟩
    rcases List.mem_cons.1 hb with rfl | hb
    ·exact h
    ·exact (ih h2).1 b hb
   ·simp only [List.takeWhile_cons, List.dropWhile_cons, h, decide_false, Bool.false_eq_true, if_false]
    refine ⟨fun b hb => by simp at hb, fun b hb => ?_⟩
    rcases List.mem_cons.1 hb with rfl | hb
    ·omega
    ·have := h1 b hb; omega
theorem Y6d {α : Type} (key : α → Int) {l : List α} (hs : Srt key l) (p : α → Bool) : Srt key (l.takeWhile p) := hs.sublist (List.takeWhile_sublist p)
theorem Y6e {α : Type} (key : α → Int) {l : List α} (hs : Srt key l) (p : α → Bool) : Srt key (l.dropWhile p) := hs.sublist (List.dropWhile_sublist p)
theorem Y3Y {l : List At} (hs : Srt At.key l) {c : Int} (h : ∀ a ∈ l, c ≤ a.key) : Srt At.key (Z3n c l) ∧ (∀ a ∈ Z3n c l, c < a.key) ∧ ∀ k, c < k → lk At.key (Z3n c l) k = lk At.key l k := by
 cases l with
 | nil => exact ⟨hs, by simp [Z3n], fun _ _ => rfl⟩
 | cons a l =>
   obtain ⟨h1, h2⟩ := (Z1P At.key).1 hs
   have hd : Z3n c (a :: l) = if a.key = c then l else a :: l := rfl
   rw [hd]
   by_cases he : a.key = c
   ·rw [if_pos he]
    exact ⟨h2, fun b hb => by have := h1 b hb; omega, fun k hk => by rw [Z1b, if_neg (by omega)]⟩
   ·rw [if_neg he]
    refine ⟨hs, fun b hb => ?_, fun _ _ => rfl⟩
    have ha := h a (by simp)
    rcases List.mem_cons.1 hb with rfl | hb
    ·omega
    ·have := h1 b hb; omega
def Z2P (c : Option Ch) (x : Option At) : Option At :=
 match c with
 | some c => if c.gone = true then none else some ⟨c.key, c.v⟩
 | none => x
theorem Y3Z {c : Ch} {a : At} (h : a ∈ put1 c) : a.key = c.key := by
 unfold put1 at h
 split at h
 ·simp at h
 ·simp at h; rw [h]
theorem Z1Z {p : List Ch} (hp : Srt Ch.key p) : ∀ {s : List At}, Srt At.key s →
 Srt At.key (Z04 p s) ∧ (∀ k, lk At.key (Z04 p s) k = Z2P (lk Ch.key p k) (lk At.key s k)) ∧ (∀ m : Int, (∀ c ∈ p, m < c.key) → (∀ a ∈ s, m < a.key) → ∀ a ∈ Z04 p s, m < a.key) ∧ (Z04 p s).length ≤ p.length + s.length := by
 induction p with
 | nil => intro s hs; exact ⟨hs, fun k => rfl, fun m _ h a ha => h a ha, by simp [Z04]⟩
 | cons c p ih =>
   intro s hs
   obtain ⟨h1, h2⟩ := (Z1P Ch.key).1 hp
   obtain ⟨t1, t2⟩ := Y6c At.key hs c.key
   have hts := Y6d At.key hs (fun a => decide (a.key < c.key))
   have hds := Y6e At.key hs (fun a => decide (a.key < c.key))
   have e : Z04 (c :: p) s = s.takeWhile (fun a => decide (a.key < c.key)) ++ (put1 c ++ Z04 p (Z3n c.key (s.dropWhile (fun a => decide (a.key < c.key))))) := rfl
   have happ : s.takeWhile (fun a => decide (a.key < c.key)) ++ s.dropWhile (fun a => decide (a.key < c.key)) = s := List.takeWhile_append_dropWhile
   have hlen : (s.takeWhile (fun a => decide (a.key < c.key))).length + (s.dropWhile (fun a => decide (a.key < c.key))).length = s.length := by rw [← List.length_append, happ]
   have hlk : ∀ k, lk At.key s k = (lk At.key (s.takeWhile (fun a => decide (a.key < c.key))) k).or (lk At.key (s.dropWhile (fun a => decide (a.key < c.key))) k) := fun k => by rw [← Z59, happ]
   have hmt : ∀ a ∈ s.takeWhile (fun a => decide (a.key < c.key)), a ∈ s := fun a ha => (List.takeWhile_sublist _).subset ha
   have hmd : ∀ a ∈ s.dropWhile (fun a => decide (a.key < c.key)), a ∈ s := fun a ha => (List.dropWhile_sublist _).subset ha
   generalize s.takeWhile (fun a => decide (a.key < c.key)) = tw at *
   generalize s.dropWhile (fun a => decide (a.key < c.key)) = dw at *
   obtain ⟨d1, d2, d3⟩ := Y3Y hds t2
   have hdl : (Z3n c.key dw).length ≤ dw.length := by
    unfold Z3n; split
    ·simp
    ·split <;> simp
   have hdm : ∀ a ∈ Z3n c.key dw, a ∈ dw := by
    unfold Z3n; split
    ·simp
    ·intro a ha; split at ha
     ·exact List.mem_cons_of_mem _ ha
     ·exact ha
   obtain ⟨i1, i2, i3, i4⟩ := ih h2 d1
   rw [e]
   have hput : ∀ a ∈ put1 c, a.key = c.key := fun a ha => Y3Z ha
   have hpl : (put1 c).length ≤ 1 := by unfold put1; split <;> simp
   have hrest : ∀ a ∈ Z04 p (Z3n c.key dw), c.key < a.key := i3 c.key h1 d2
   refine ⟨?_, fun k => ?_, fun m hm1 hm2 a ha => ?_, ?_⟩
   ·rw [Z6R, Z6R]
    refine ⟨hts, ⟨?_, i1, fun a ha b hb => ?_⟩, fun a ha b hb => ?_⟩
    ·unfold put1; split
     ·exact Srt.nil _
     ·rw [Z1P]; exact ⟨by simp, Srt.nil _⟩
    ·rw [hput a ha]; exact hrest b hb
    ·have := t1 a ha
     rcases List.mem_append.1 hb with hb | hb
     ·rw [hput b hb]; exact this
     ·have := hrest b hb; omega
   ·rw [Z59, Z59, hlk, Z1b]
    rcases Int.lt_trichotomy k c.key with hlt | rfl | hgt
    ·rw [if_neg (by omega), Z1Y Ch.key (fun d hd => by have := h1 d hd; omega), Z1Y At.key (l := put1 c) (fun d hd => by have := hput d hd; omega), Z1Y At.key (l := Z04 p (Z3n c.key dw)) (fun d hd => by have := hrest d hd; omega),
      Z1Y At.key (l := dw) (fun d hd => by have := t2 d hd; omega)]
     rfl
    ·rw [if_pos rfl, Z1Y At.key (l := tw) (fun d hd => by have := t1 d hd; omega), Z1Y At.key (l := Z04 p (Z3n c.key dw)) (fun d hd => by have := hrest d hd; omega)]
     unfold put1 Z2P
     by_cases hg : c.gone = true
     ·simp [hg, Z9S]
     ·simp [hg, Z1b]
    ·rw [if_neg (by omega), Z1Y At.key (l := tw) (fun d hd => by have := t1 d hd; omega), Z1Y At.key (l := put1 c) (fun d hd => by have := hput d hd; omega), i2, d3 k hgt]
     rfl
   ·rcases List.mem_append.1 ha with ha | ha
    ·exact hm2 a (hmt a ha)
    ·rcases List.mem_append.1 ha with ha | ha
     ·rw [hput a ha]; exact hm1 c (by simp)
     ·have := hrest a ha; have := hm1 c (by simp); omega
   ·simp only [List.length_append, List.length_cons]; omega
section
variable {a b : List At} {p q r : List Ch}
end
def Z1q (l : List Ky) (b : Bool) (id : Int) : Bool :=
 match Z0N l id with
 | none => false
 | some k => k.block == b
def Z1t (l : List Ky) (b : Bool) (p : List Ch) : List Ch := p.filter (fun c => Z1q l b c.key)
end Go.Proofs.YtfnkjcodcoehcaaGreatDoor
