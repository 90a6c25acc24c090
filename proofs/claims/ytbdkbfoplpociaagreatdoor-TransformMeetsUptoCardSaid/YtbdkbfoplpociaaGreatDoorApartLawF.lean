/- Merged texts: ApartLaw. -/
import Derived.Test.YtbdkbfoplpociaaGreatDoorF2
import Derived.Test.YtbdkbfoplpociaaGreatDoorF10
import Derived.Test.YtbdkbfoplpociaaGreatDoorF1
import Derived.Test.YtbdkbfoplpociaaGreatDoorK31
namespace Go.Proofs.YtbdkbfoplpociaaGreatDoor
set_option linter.unusedVariables false
set_option linter.unusedSimpArgs false

/-- the normal form of a delta behind a retain -/
theorem nf_rets (n : Nat) (us : List Un) : nf (List.replicate n (.ret []) ++ us) = [] ∨ ∃ vs, nf (List.replicate n (.ret []) ++ us) = List.replicate n (.ret []) ++ vs := by
  have hc : canon (List.replicate n (.ret []) ++ us) = List.replicate n (.ret []) ++ canon us := by
    cases n with
    | zero => rfl
    | succ k =>
      unfold canon
      rw [cn_ret]
      simp
  unfold nf
  rw [hc]
  by_cases h : trim (canon us) = []
  · refine .inl (trim_nil_iff.2 fun u hu => ?_)
    rcases List.mem_append.1 hu with hu | hu
    · exact (List.mem_replicate.1 hu).2
    · exact trim_nil_iff.1 h u hu
  · exact .inr ⟨_, trim_front h⟩
theorem apart_q (g : Bool) {ua ub : List Un} {n : Nat} (h : takesU ua + 1 ≤ n) : traU g (nf (List.replicate n (.ret []) ++ ub)) (nf ua) = nf ua := by
  rcases nf_rets n ub with e | ⟨vs, e⟩
  · rw [e, tra_none]
  · rw [e]
    exact tra_rets g _ _ _ (by have := nf_takes ua; omega)
theorem app_front (l : List Ky) {us : List Un} {d1 d2 : List Cl} (h : takesU us ≤ d1.length) : app l us (d1 ++ d2) = app l us d1 ++ d2 := by
  rw [app_rest l us (d1 ++ d2), app_rest l us d1, List.take_append_of_le_length h, List.drop_append_of_le_length h, List.append_assoc]
/-- each past the other -/
theorem apart_both (f : Bool) {l : List Ky} {ua uc : List Un} {d : List Cl} {m1 m2 : Nat} (hf : FitU l ua d.length m1) (hg : FitU l uc d.length m2) (hd : ∀ c ∈ d, riseA c.s = true) :
    app l (traU f (nf ua) (nf uc)) (app l ua d) = app l (traU (!f) (nf uc) (nf ua)) (app l uc d) := by
  have e1 := tra_both (fit_nf hf) (fit_nf hg) hd
  have e2 := tra_both (fit_nf hg) (fit_nf hf) hd
  rw [app_nf, app_nf] at e1 e2
  cases f with
  | true => exact e1
  | false => exact e2.symm
/-- nothing of either is lost -/
theorem apart_law (f : Bool) {l : List Ky} {ua ub : List Un} {d : List Cl} {n m1 m2 : Nat} (hn : takesU ua + 1 ≤ n) (hd : n ≤ d.length) (hf : FitU l ua d.length m1) (hg : FitU l (List.replicate n (.ret []) ++ ub) d.length m2) (hr : ∀ c ∈ d, riseA c.s = true) :
    ∃ G, (app l ua d).length + n = d.length + G ∧ G ≤ (app l ua d).length ∧ n ≤ (app l (List.replicate n (.ret []) ++ ub) d).length ∧
      (app l (traU f (nf ua) (nf (List.replicate n (.ret []) ++ ub))) (app l ua d)).length + d.length = (app l ua d).length + (app l (List.replicate n (.ret []) ++ ub) d).length ∧
      G ≤ (app l (traU f (nf ua) (nf (List.replicate n (.ret []) ++ ub))) (app l ua d)).length ∧
      (app l (traU f (nf ua) (nf (List.replicate n (.ret []) ++ ub))) (app l ua d)).drop G = (app l (List.replicate n (.ret []) ++ ub) d).drop n ∧
      (app l (traU f (nf ua) (nf (List.replicate n (.ret []) ++ ub))) (app l ua d)).take G = (app l ua d).take G := by
  have hl : (d.take n).length = n := by rw [List.length_take]; omega
  have hc : app l (List.replicate n (.ret []) ++ ub) d = d.take n ++ app l ub (d.drop n) := app_ret0 l n ub d hd
  have hx : app l ua d = app l ua (d.take n) ++ d.drop n := by
    have := app_front l (us := ua) (d1 := d.take n) (d2 := d.drop n) (by omega)
    rwa [List.take_append_drop] at this
  have hu : app l (traU f (nf ua) (nf (List.replicate n (.ret []) ++ ub))) (app l ua d) = app l ua (d.take n) ++ app l ub (d.drop n) := by
    rw [apart_both f hf hg hr, apart_q _ hn, app_nf, hc]
    exact app_front l (by omega)
  refine ⟨(app l ua (d.take n)).length, ?_, ?_, ?_, ?_, ?_, ?_, ?_⟩
  · rw [hx, List.length_append, List.length_drop]; omega
  · rw [hx, List.length_append]; omega
  · rw [hc, List.length_append]; omega
  · rw [hu, hx, hc]; simp only [List.length_append, List.length_drop, hl]; omega
  · rw [hu, List.length_append]; omega
  · rw [hu, hc, List.drop_left]
    conv => rhs; rw [show n = (d.take n).length from hl.symm]
    simp only [hl]
    exact (List.drop_left' hl).symm
  · rw [hu, hx, List.take_left, List.take_left]
end Go.Proofs.YtbdkbfoplpociaaGreatDoor
