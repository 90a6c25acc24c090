/- Merged texts: MeetLaw. -/
import Derived.Test.YtbdkbfoplpociaaGreatDoorApartLawF
import Derived.Test.YtbdkbfoplpociaaGreatDoorF6
import Derived.Test.YtbdkbfoplpociaaGreatDoorF9
import Derived.Test.YtbdkbfoplpociaaGreatDoorK33
import Derived.Test.YtbdkbfoplpociaaGreatDoorK32
namespace Go.Proofs.YtbdkbfoplpociaaGreatDoor
set_option linter.unusedVariables false
set_option linter.unusedSimpArgs false

theorem makes_runes : ∀ us : List Un, makesU us ≤ (runesU us).length + takesU us
  | [] => Nat.le_refl _
  | .ins r s :: us => by have := makes_runes us; show makesU us + 1 ≤ (runesU us).length + 1 + takesU us; omega
  | .del :: us => by have := makes_runes us; show makesU us ≤ (runesU us).length + (takesU us + 1); omega
  | .ret p :: us => by have := makes_runes us; show makesU us + 1 ≤ (runesU us).length + (takesU us + 1); omega
theorem runes_sz : ∀ x : List OpS, (runesU (units (osOf x))).length ≤ szX x
  | [] => Nat.le_refl _
  | o :: x => by
    have ih := runes_sz x
    have e : units (osOf (o :: x)) = unitsO o.o ++ units (osOf x) := rfl
    have e2 : szX (o :: x) = szO o.o + szX x := rfl
    rw [e, e2, runesU_append, List.length_append]
    have h : (runesU (unitsO o.o)).length ≤ szO o.o := by
      unfold unitsO
      split
      · rw [runesU_ins]; unfold szO; omega
      · split
        · rw [runesU_rets]; exact Nat.zero_le _
        · rw [runesU_dels]; exact Nat.zero_le _
    omega
/-- how long it comes out -/
theorem app_runes (l : List Ky) {us : List Un} {d : List Cl} (h : takesU us ≤ d.length) : (app l us d).length ≤ d.length + (runesU us).length := by
  have h1 := app_len l us d h
  have h2 := makes_runes us
  omega
/-- ops made of units that fit: applied, or too long -/
theorem made_most {l : List Ky} {z : List OpS} {us : List Un} {d : List Cl} {N : Nat} (hz : osOf z = mkU us) (hb : z.length ≤ 1048576) (hd : mayD l d = 0) (hf : FitU l us d.length N) (hN : N ≤ 536870912) (ha : (app l us d).length ≤ N) {most : Int} (hm : (d.length : Int) ≤ most) :
    ((((app l us d).length : Nat) : Int) ≤ most → ∃ N2 : Nat, N2 ≤ N ∧ applyN l z d most = 0 ∧ applyN l z d (N2 : Int) = 0 ∧ app l (units (osOf z)) d = app l us d) ∧ (most < ((app l us d).length : Int) → applyN l z d most = 8) := by
  have hl := app_len l us d hf.t
  refine ⟨fun h => ?_, fun h => ?_⟩
  · have hf2 : FitU l us d.length (max d.length (app l us d).length) := ⟨hf.v, hf.t, hf.n1, Nat.le_max_left _ _, hf.f, by have := Nat.le_max_right d.length (app l us d).length; omega, hf.tb, hf.mb⟩
    have hn := hf.nm
    obtain ⟨h1, h2, h3⟩ := made_in (most := most) hz hb hd hf2 (Nat.max_le.2 ⟨by omega, by omega⟩) (by omega)
    exact ⟨_, Nat.max_le.2 ⟨hn, ha⟩, h1, h2, h3⟩
  · obtain ⟨h1, _, h3⟩ := made_in (N := N) (most := (N : Int)) hz hb hd hf hN (Int.le_refl _)
    obtain ⟨h4, h5⟩ := applyN_zero h1
    obtain ⟨g1, g2, g3, g4, g5, g6, g7⟩ := fits_zero h5
    obtain ⟨m1, m2, m3⟩ := mayO_zero g1
    obtain ⟨s1, s2⟩ := sums_units z (good_isOp m1)
    have hn := hf.nm
    have hlo := longO_is (n := (d.length : Int)) m1 hb (by omega) (by omega) m2 m3
    have ht : takesU (units (osOf z)) ≤ d.length := by
      rw [takes_sum m1 hb] at g4
      omega
    have hl2 := app_len l (units (osOf z)) d ht
    rw [h3] at hl2
    unfold applyN
    rw [if_neg (by simpa using g1), if_neg (by simpa using h4)]
    unfold fitsO
    rw [if_neg (by simp [g1]), if_neg (by omega), if_neg (by simp [g5]), if_neg (by simp [g6]), if_pos (by rw [hlo]; omega)]
/-- past one another they fit -/
theorem meet_fit (f : Bool) {l : List Ky} {ua ub : List Un} {d : List Cl} {m1 m2 : Nat} (hf : FitU l ua d.length m1) (hg : FitU l ub d.length m2) (hx : (app l ua d).length + (runesU ub).length ≤ 10000) (hb : makesU ua + makesU ub ≤ 536870912) :
    FitU l (traU f (nf ua) (nf ub)) (app l ua d).length 10000 ∧ (app l (traU f (nf ua) (nf ub)) (app l ua d)).length ≤ 10000 := by
  have ht := tra_takes l f (nf ub) (nf ua) d (fit_nf hf).t (fit_nf hg).t
  rw [app_nf] at ht
  have hr := app_runes l ht
  rw [(tra_runes f (nf ub) (nf ua)).1, (nf_runes ub).1] at hr
  have h := tra_fit (N := 10000) f (fit_nf hf) (fit_nf hg) (by rw [app_nf]; omega) (by rw [app_nf]; omega) (by omega) (by have h1 := nf_makes ua; have h2 := nf_makes ub; omega)
  rw [app_nf] at h
  exact ⟨h, by omega⟩
/-- both ways round, on normal forms -/
theorem meet_both {l : List Ky} {ua ub : List Un} {d : List Cl} {m1 m2 : Nat} (hf : FitU l ua d.length m1) (hg : FitU l ub d.length m2) (hd : ∀ c ∈ d, riseA c.s = true) :
    app l (traU true (nf ua) (nf ub)) (app l ua d) = app l (traU false (nf ub) (nf ua)) (app l ub d) := by
  have e1 := tra_both (fit_nf hf) (fit_nf hg) hd
  rw [app_nf, app_nf] at e1
  exact e1
theorem In.to {l : List Ky} {x : List OpS} {d : List Cl} {most : Int} {N : Nat} (h : In l x d most N) : In l x d 536870912 N :=
  ⟨h.n, by have := h.n; omega, h.at_, h.may, h.isop, h.fit, h.mu, h.len, h.dn, h.an, h.doc, h.ul⟩
theorem In.makes {l : List Ky} {x : List OpS} {d : List Cl} {most : Int} {N : Nat} (h : In l x d most N) : makesU (units (osOf x)) ≤ 10000 := by
  have h1 := app_len l (units (osOf x)) d h.fit.t
  have h2 := h.an
  have h3 := h.n
  have h4 := h.fit.t
  omega
end Go.Proofs.YtbdkbfoplpociaaGreatDoor
