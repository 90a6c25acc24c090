/- Merged texts: WholeLaw, RoundLaw. -/
import Derived.Test.YtnppoifgfehpfaaGreatDoorPk26
import Derived.Test.YtnppoifgfehpfaaGreatDoorPk29
/- What fits within a great most fits within a small one that it does not pass; how much longer a document comes. Plain mathematics. -/
namespace Go.Proofs.YtnppoifgfehpfaaGreatDoor
set_option linter.unusedVariables false
set_option linter.unusedSimpArgs false

theorem fits_up {l : List Ky} {x : List OpS} {n a b : Int} (h : fitsO l x n a = 0) (hab : a ≤ b) : fitsO l x n b = 0 := by
  obtain ⟨h1, h2, h3, h4, h5, h6, h7⟩ := fits_zero h
  exact zero_fits h1 h2 (by omega) h4 h5 h6 (by omega)
theorem fits_down {l : List Ky} {x : List OpS} {n a b : Int} (h : fitsO l x n b = 0) (h2 : n ≤ a) (h3 : longO n x ≤ a) : fitsO l x n a = 0 := by
  obtain ⟨g1, g2, g3, g4, g5, g6, g7⟩ := fits_zero h
  exact zero_fits g1 g2 h2 g4 g5 g6 h3
theorem applyN_up {l : List Ky} {x : List OpS} {d : List Cl} {a b : Int} (h : applyN l x d a = 0) (hab : a ≤ b) : applyN l x d b = 0 := by
  obtain ⟨h1, h2⟩ := applyN_zero h
  exact zero_applyN h1 (fits_up h2 hab)
theorem makes_sz {x : List OpS} (hi : ∀ o ∈ x, isOp o.o) : makesU (units (osOf x)) ≤ szX x + takesU (units (osOf x)) := by
  induction x with
  | nil => exact Nat.zero_le _
  | cons o x ih =>
    have e : units (osOf (o :: x)) = unitsO o.o ++ units (osOf x) := rfl
    have e2 : szX (o :: x) = szO o.o + szX x := rfl
    rw [e, makesU_append, takesU_append, e2]
    have h1 := ih (fun z hz => hi z (List.mem_cons_of_mem _ hz))
    have h2 := makes_small (hi o (by simp))
    unfold szO
    omega
/-- a small most that does as well -/
theorem whole_most {l : List Ky} {x : List OpS} {d : List Cl} {most : Int} (hx : x.length ≤ 1048576) (hz : szX x ≤ 5000) (hd : d.length ≤ 400) (h : applyN l x d most = 0) : ∃ N : Nat, N ≤ 10000 ∧ (N : Int) ≤ most ∧ applyN l x d (N : Int) = 0 := by
  obtain ⟨h1, h2⟩ := applyN_zero h
  obtain ⟨g1, g2, g3, g4, g5, g6, g7⟩ := fits_zero h2
  obtain ⟨m1, m2, m3⟩ := mayO_zero g1
  obtain ⟨s1, s2⟩ := sums_units x (good_isOp m1)
  have ht := takes_sum m1 hx
  have hm := makes_sum m1 hx
  have hl := longO_is (n := (d.length : Int)) m1 hx (by omega) (by omega) m2 m3
  have hs := makes_sz (good_isOp m1)
  rw [hl] at g7
  refine ⟨max d.length (d.length + makesU (units (osOf x)) - takesU (units (osOf x))), by omega, by omega, zero_applyN h1 (fits_down h2 (by omega) (by rw [hl]; omega))⟩
/-- how much longer an op makes a document -/
def growO (o : Opd) : Int := if o.k = 2 then o.r.length else if o.k = 3 then -o.n else 0
def growX (x : List OpS) : Int := (x.map (fun o => growO o.o)).sum
theorem growX_nil : growX [] = 0 := rfl
theorem growX_cons (o : OpS) (x : List OpS) : growX (o :: x) = growO o.o + growX x := rfl
theorem growX_append (x y : List OpS) : growX (x ++ y) = growX x + growX y := by
  induction x with
  | nil => rw [List.nil_append, growX_nil]; omega
  | cons o x ih => rw [List.cons_append, growX_cons, growX_cons, ih]; omega
theorem growX_units {x : List OpS} (hi : ∀ o ∈ x, isOp o.o) : growX x = (makesU (units (osOf x)) : Int) - (takesU (units (osOf x)) : Int) := by
  induction x with
  | nil => rfl
  | cons o x ih =>
    have e : units (osOf (o :: x)) = unitsO o.o ++ units (osOf x) := rfl
    rw [e, makesU_append, takesU_append, growX_cons, ih (fun z hz => hi z (List.mem_cons_of_mem _ hz))]
    obtain ⟨t1, t2⟩ := takes_one (hi o (by simp))
    have hg : growO o.o = mkI o.o - tkI o.o := by
      unfold growO mkI tkI sizeO
      rcases isOp_kind (hi o (by simp)) with hk | hk | hk <;> rw [hk] <;> simp
    rw [hg, ← t1, ← t2]
    omega
/-- on the way it stays small -/
theorem growX_take {x : List OpS} (hi : ∀ o ∈ x, isOp o.o) (i : Nat) : -(takesU (units (osOf x)) : Int) ≤ growX (x.take i) ∧ growX (x.take i) ≤ (makesU (units (osOf x)) : Int) := by
  rw [growX_units (fun o ho => hi o (List.mem_of_mem_take ho))]
  have e : units (osOf x) = units (osOf (x.take i)) ++ units (osOf (x.drop i)) := by
    conv => lhs; rw [← List.take_append_drop i x]
    unfold osOf
    rw [List.map_append, units_append]
  rw [e, takesU_append, makesU_append]
  omega
end Go.Proofs.YtnppoifgfehpfaaGreatDoor
/- What the laws of layers 20 to 23 ask of deltas that are applied in turn. Plain mathematics. -/
namespace Go.Proofs.YtnppoifgfehpfaaGreatDoor
set_option linter.unusedVariables false
set_option linter.unusedSimpArgs false

theorem FitU.up {l : List Ky} {us : List Un} {n a b : Nat} (h : FitU l us n a) (hab : a ≤ b) : FitU l us n b :=
  ⟨h.v, h.t, h.n1, by have := h.nm; omega, h.f, by have := h.m; omega, h.tb, h.mb⟩
theorem nil_mayD (l : List Ky) : mayD l [] = 3 := rfl
/-- a delta on no cells is refused -/
theorem nil_bad (l : List Ky) (x : List OpS) (most : Int) : applyN l x [] most ≠ 0 := fun h => by
  have := (applyN_zero h).1
  rw [nil_mayD] at this; cases this
/-- a delta that is applied, of no great size -/
structure In (l : List Ky) (x : List OpS) (d : List Cl) (most : Int) (N : Nat) : Prop where
  n : N ≤ 10000
  le : (N : Int) ≤ most
  at_ : applyN l x d (N : Int) = 0
  may : mayO l x = 0
  isop : ∀ o ∈ x, isOp o.o
  fit : FitU l (units (osOf x)) d.length N
  mu : ∀ u ∈ units (osOf x), mU l u
  len : (app l (units (osOf x)) d).length ≤ d.length + szX x
  dn : d.length ≤ N
  an : (app l (units (osOf x)) d).length ≤ N
  doc : mayD l d = 0
  ul : (units (osOf x)).length ≤ 2 * d.length + szX x
theorem apply_in {l : List Ky} {x : List OpS} {d : List Cl} {most : Int} (hx : x.length ≤ 1048576) (hz : d.length + szX x ≤ 10000) (h : applyN l x d most = 0) : ∃ N : Nat, In l x d most N := by
  obtain ⟨h1, h2⟩ := applyN_zero h
  obtain ⟨g1, g2, g3, g4, g5, g6, g7⟩ := fits_zero h2
  obtain ⟨m1, m2, m3⟩ := mayO_zero g1
  obtain ⟨s1, s2⟩ := sums_units x (good_isOp m1)
  have ht := takes_sum m1 hx
  have hm := makes_sum m1 hx
  have hl := longO_is (n := (d.length : Int)) m1 hx (by omega) (by omega) m2 m3
  have hs := makes_sz (good_isOp m1)
  rw [hl] at g7
  have hN : applyN l x d ((max d.length (d.length + makesU (units (osOf x)) - takesU (units (osOf x))) : Nat) : Int) = 0 := zero_applyN h1 (fits_down h2 (by omega) (by rw [hl]; omega))
  obtain ⟨hg, hf⟩ := fits_units (most := max d.length (d.length + makesU (units (osOf x)) - takesU (units (osOf x)))) hx (by omega) (applyN_zero hN).2
  have hal := app_len l (units (osOf x)) d hf.t
  have hul := units_length (us := units (osOf x))
  exact ⟨_, by omega, by omega, hN, g1, good_isOp m1, hf, good_mU m1, by omega, by omega, by have := hf.m; omega, h1, by have := hf.t; omega⟩
/-- what is made of it may be -/
theorem In.out {l : List Ky} {x : List OpS} {d : List Cl} {most : Int} {N : Nat} (h : In l x d most N) (hl : l.length ≤ 64) : mayD l (app l (units (osOf x)) d) = 0 :=
  app_mayD hl h.doc h.fit (by have := h.fit.m; have := h.n; have := h.fit.t; omega)
theorem In.rise {l : List Ky} {x : List OpS} {d : List Cl} {most : Int} {N : Nat} (h : In l x d most N) : ∀ c ∈ d, riseA c.s = true := fun c hc =>
  (mayS_zero ((mayD_iff.1 h.doc).2.1 c hc).2.1).2.1
/-- both composed -/
theorem In.comp {l : List Ky} {x y : List OpS} {d e : List Cl} {m1 m2 : Int} {N1 N2 : Nat} (h : In l x d m1 N1) (he : e = app l (units (osOf x)) d) (h2 : In l y e m2 N2) (hl : l.length ≤ 64) :
    FitU l (compU l (units (osOf x)) (units (osOf y))) d.length (max N1 N2) ∧ app l (compU l (units (osOf x)) (units (osOf y))) d = app l (units (osOf y)) e := by
  subst he
  exact ⟨comp_fit hl (h.fit.up (Nat.le_max_left _ _)) (h2.fit.up (Nat.le_max_right _ _)) (by have := h.n; have := h2.n; omega),
    comp_app l _ _ d h.fit.t h.mu h2.mu h.rise h2.fit.t⟩
/-- made ops of units that fit -/
theorem made_in {l : List Ky} {z : List OpS} {us : List Un} {d : List Cl} {N : Nat} (hz : osOf z = mkU us) (hb : z.length ≤ 1048576) (hd : mayD l d = 0) (hf : FitU l us d.length N) (hN : N ≤ 536870912) {most : Int} (hm : (N : Int) ≤ most) :
    applyN l z d most = 0 ∧ applyN l z d (N : Int) = 0 ∧ app l (units (osOf z)) d = app l us d := by
  obtain ⟨h1, h2⟩ := made_applyU hz hb (by omega) hd hf
  exact ⟨applyN_up h1 hm, h1, h2⟩
theorem mayO_of {l : List Ky} {x : List OpS} {d : List Cl} {most : Int} (h : applyN l x d most = 0) : mayO l x = 0 := (fits_zero (applyN_zero h).2).1
end Go.Proofs.YtnppoifgfehpfaaGreatDoor
