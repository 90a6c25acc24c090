/- Merged texts: TraLaw2, TraFit, TrStep. -/
import Derived.Test.YtbdkbfoplpociaaGreatDoorF1
import Derived.Test.YtbdkbfoplpociaaGreatDoorK33
namespace Go.Proofs.YtbdkbfoplpociaaGreatDoor
set_option linter.unusedVariables false
set_option linter.unusedSimpArgs false

theorem tra_ind2 (f : Bool) {P : List Un → List Un → Prop} (nil : ∀ us, P us []) (non : ∀ vs, P [] vs)
    (iv : ∀ r s us v vs, traU f (.ins r s :: us) (v :: vs) = .ret [] :: traU f us (v :: vs) → P us (v :: vs) → P (.ins r s :: us) (v :: vs))
    (vi : ∀ u us r s vs, traU f (u :: us) (.ins r s :: vs) = .ins r s :: traU f (u :: us) vs → P (u :: us) vs → P (u :: us) (.ins r s :: vs))
    (dd : ∀ us vs, P us vs → P (.del :: us) (.del :: vs)) (dr : ∀ us q vs, P us vs → P (.del :: us) (.ret q :: vs))
    (rd : ∀ p us vs, P us vs → P (.ret p :: us) (.del :: vs)) (rr : ∀ p us q vs, P us vs → P (.ret p :: us) (.ret q :: vs)) : ∀ vs us, P us vs := by
  intro vs
  induction vs with
  | nil => exact nil
  | cons v vs ih =>
    intro us
    induction us with
    | nil => exact non _
    | cons u us ihu =>
      cases u with
      | ins r s =>
        cases v with
        | ins r' s' =>
          cases f with
          | true => exact iv r s us _ vs (traU_ii us vs r s r' s') ihu
          | false => exact vi _ us r' s' vs (traU_fi _ vs r' s') (ih _)
        | del => exact iv r s us _ vs (traU_id f us vs r s) ihu
        | ret q => exact iv r s us _ vs (traU_ir f us vs r s q) ihu
      | del =>
        cases v with
        | ins r s => exact vi _ us r s vs (traU_di f us vs r s) (ih _)
        | del => exact dd us vs (ih us)
        | ret q => exact dr us q vs (ih us)
      | ret p =>
        cases v with
        | ins r s => exact vi _ us r s vs (traU_ri f us vs r s p) (ih _)
        | del => exact rd p us vs (ih us)
        | ret q => exact rr p us q vs (ih us)
theorem tra_all (f : Bool) {P : Un → Prop} (hd : P .del) (h0 : P (.ret [])) (hr : ∀ p q, P (.ret p) → P (.ret q) → P (.ret (pastP f q p))) :
    ∀ vs us, (∀ u ∈ us, P u) → (∀ v ∈ vs, P v) → ∀ x ∈ traU f us vs, P x := by
  have cons : ∀ {u : Un} {t : List Un}, P u → (∀ x ∈ t, P x) → ∀ x ∈ u :: t, P x := fun h1 h2 x hx => by
    rcases List.mem_cons.1 hx with rfl | hx
    · exact h1
    · exact h2 x hx
  refine tra_ind2 f ?_ ?_ ?_ ?_ ?_ ?_ ?_ ?_
  · intro us _ _ x hx; rw [traU_nil] at hx; cases hx
  · intro vs _ h2; rw [tra_none]; exact h2
  · intro r s us v vs e ih h1 h2; rw [e]; exact cons h0 (ih (tail_m h1) h2)
  · intro u us r s vs e ih h1 h2; rw [e]; exact cons (h2 _ (by simp)) (ih h1 (tail_m h2))
  · intro us vs ih h1 h2; rw [traU_dd]; exact ih (tail_m h1) (tail_m h2)
  · intro us q vs ih h1 h2; rw [traU_dr]; exact ih (tail_m h1) (tail_m h2)
  · intro p us vs ih h1 h2; rw [traU_rd]; exact cons hd (ih (tail_m h1) (tail_m h2))
  · intro p us q vs ih h1 h2; rw [traU_rr]; exact cons (hr p q (h1 _ (by simp)) (h2 _ (by simp))) (ih (tail_m h1) (tail_m h2))
theorem mayP_past {l : List Ky} {f : Bool} {p q : List Ch} (h : mayP l q = 0) : mayP l (pastP f q p) = 0 := by
  unfold pastP
  split
  · exact stay_filter _ h
  · exact h
theorem tra_vU {l : List Ky} (f : Bool) {us vs : List Un} (h1 : ∀ u ∈ us, vU l u) (h2 : ∀ v ∈ vs, vU l v) : ∀ x ∈ traU f us vs, vU l x :=
  tra_all f trivial (mayP_nil l) (fun p q _ h => mayP_past h) vs us h1 h2
theorem tra_mU {l : List Ky} (f : Bool) {us vs : List Un} (h1 : ∀ u ∈ us, mU l u) (h2 : ∀ v ∈ vs, mU l v) : ∀ x ∈ traU f us vs, mU l x :=
  tra_all f trivial (mayP_nil l) (fun p q _ h => mayP_past h) vs us h1 h2
theorem tra_okUn (f : Bool) {us vs : List Un} (h1 : ∀ u ∈ us, okUn u) (h2 : ∀ v ∈ vs, okUn v) : ∀ x ∈ traU f us vs, okUn x :=
  tra_all f trivial (fun c hc => by cases hc) (fun p q _ h => by
    show okVs (pastP f q p)
    unfold pastP
    split
    · exact vs_filter _ h
    · exact h) vs us h1 h2
/-- how much it takes and makes at most -/
theorem tra_size (f : Bool) : ∀ vs us, takesU (traU f us vs) ≤ takesU vs + makesU us ∧ makesU (traU f us vs) ≤ makesU vs + makesU us ∧ (traU f us vs).length ≤ us.length + vs.length := by
  refine tra_ind2 f ?_ ?_ ?_ ?_ ?_ ?_ ?_ ?_
  · intro us; rw [traU_nil]; exact ⟨Nat.zero_le _, Nat.zero_le _, Nat.zero_le _⟩
  · intro vs; rw [tra_none]; exact ⟨Nat.le_add_right _ _, Nat.le_add_right _ _, Nat.le_add_left _ _⟩
  · intro r s us v vs e ⟨h1, h2, h3⟩; rw [e, takesU_r, makesU_r, makesU_i, List.length_cons, List.length_cons]; omega
  · intro u us r s vs e ⟨h1, h2, h3⟩; rw [e, takesU_i, takesU_i, makesU_i, makesU_i, List.length_cons, List.length_cons (a := Un.ins r s)]; omega
  · intro us vs ⟨h1, h2, h3⟩; rw [traU_dd, takesU_d, makesU_d, makesU_d, List.length_cons, List.length_cons]; omega
  · intro us q vs ⟨h1, h2, h3⟩; rw [traU_dr, takesU_r, makesU_d, makesU_r, List.length_cons, List.length_cons]; omega
  · intro p us vs ⟨h1, h2, h3⟩; rw [traU_rd, takesU_d, takesU_d, makesU_d, makesU_d, makesU_r, List.length_cons, List.length_cons, List.length_cons]; omega
  · intro p us q vs ⟨h1, h2, h3⟩; rw [traU_rr, takesU_r, takesU_r, makesU_r, makesU_r, makesU_r, List.length_cons, List.length_cons, List.length_cons]; omega
/-- it takes no more than there is -/
theorem tra_takes (l : List Ky) (f : Bool) : ∀ vs us, ∀ d : List Cl, takesU us ≤ d.length → takesU vs ≤ d.length → takesU (traU f us vs) ≤ (app l us d).length := by
  refine tra_ind2 f ?_ ?_ ?_ ?_ ?_ ?_ ?_ ?_
  · intro us d _ _; rw [traU_nil]; exact Nat.zero_le _
  · intro vs d _ h2; rw [tra_none]; exact h2
  · intro r s us v vs e ih d h1 h2
    rw [takesU_i] at h1
    rw [e, takesU_r]
    show _ ≤ (app l us d).length + 1
    have := ih d h1 h2; omega
  · intro u us r s vs e ih d h1 h2
    rw [takesU_i] at h2
    rw [e, takesU_i]; exact ih d h1 h2
  · intro us vs ih d h1 h2
    rw [takesU_d] at h1 h2
    rw [traU_dd]
    exact ih (d.drop 1) (by rw [List.length_drop]; omega) (by rw [List.length_drop]; omega)
  · intro us q vs ih d h1 h2
    rw [takesU_d] at h1
    rw [takesU_r] at h2
    rw [traU_dr]
    exact ih (d.drop 1) (by rw [List.length_drop]; omega) (by rw [List.length_drop]; omega)
  · intro p us vs ih d h1 h2
    rw [takesU_r] at h1
    rw [takesU_d] at h2
    cases d with
    | nil => simp at h1
    | cons c d =>
      rw [traU_rd, takesU_d]
      show _ ≤ (app l us d).length + 1
      have := ih d (by simp at h1; omega) (by simp at h2; omega); omega
  · intro p us q vs ih d h1 h2
    rw [takesU_r] at h1 h2
    cases d with
    | nil => simp at h1
    | cons c d =>
      rw [traU_rr, takesU_r]
      show _ ≤ (app l us d).length + 1
      have := ih d (by simp at h1; omega) (by simp at h2; omega); omega
theorem finU_move {k : Nat} : ∀ (us : List Un) (n a n' a' : Nat), n = a + k → n' = a' + k → finU n a us = true → takesU us ≤ k → finU n' a' us = true
  | [], _, _, _, _, _, _, _, _ => rfl
  | .ins r s :: us, n, a, n', a', h1, h2, h3, h4 => by
    simp only [finU, Bool.and_eq_true, decide_eq_true_eq] at h3
    rw [takesU_i] at h4
    show (decide (a' ≠ n') && finU n' a' us) = true
    rw [finU_move us n a n' a' h1 h2 h3.2 h4, Bool.and_true]
    exact decide_eq_true (by omega)
  | .del :: us, n, a, n', a', h1, h2, h3, h4 => by
    simp only [finU, Bool.and_eq_true, decide_eq_true_eq] at h3
    rw [takesU_d] at h4
    show (decide (a' + 1 ≠ n') && finU n' (a' + 1) us) = true
    rw [finU_move (k := k - 1) us n (a + 1) n' (a' + 1) (by omega) (by omega) h3.2 (by omega), Bool.and_true]
    exact decide_eq_true (by omega)
  | .ret p :: us, n, a, n', a', h1, h2, h3, h4 => by
    simp only [finU] at h3
    rw [takesU_r] at h4
    exact finU_move (k := k - 1) us n (a + 1) n' (a' + 1) (by omega) (by omega) h3 (by omega)
/-- the last cell stays the last one -/
theorem tra_fin (l : List Ky) (f : Bool) : ∀ vs us, ∀ (d : List Cl) (n a n' a' : Nat), takesU us ≤ d.length → takesU vs ≤ d.length → finU n a us = true → finU n a vs = true → n = a + d.length → n' = a' + (app l us d).length → finU n' a' (traU f us vs) = true := by
  refine tra_ind2 f ?_ ?_ ?_ ?_ ?_ ?_ ?_ ?_
  · intro us d n a n' a' _ _ _ _ _ _; rw [traU_nil]; rfl
  · intro vs d n a n' a' _ h2 _ h4 h5 h6
    rw [tra_none]
    exact finU_move (k := d.length) vs n a n' a' h5 h6 h4 h2
  · intro r s us v vs e ih d n a n' a' h1 h2 h3 h4 h5 h6
    rw [takesU_i] at h1
    simp only [finU, Bool.and_eq_true] at h3
    have h6 : n' = a' + ((app l us d).length + 1) := h6
    rw [e]
    exact ih d n a n' (a' + 1) h1 h2 h3.2 h4 h5 (by omega)
  · intro u us r s vs e ih d n a n' a' h1 h2 h3 h4 h5 h6
    rw [takesU_i] at h2
    simp only [finU, Bool.and_eq_true, decide_eq_true_eq] at h4
    rw [e]
    show (decide (a' ≠ n') && finU n' a' (traU f (u :: us) vs)) = true
    rw [ih d n a n' a' h1 h2 h3 h4.2 h5 h6, Bool.and_true]
    have := app_pos l (u :: us) d n a (by omega) h1 h3 h5
    exact decide_eq_true (by omega)
  · intro us vs ih d n a n' a' h1 h2 h3 h4 h5 h6
    rw [takesU_d] at h1 h2
    simp only [finU, Bool.and_eq_true] at h3 h4
    rw [traU_dd]
    exact ih (d.drop 1) n (a + 1) n' a' (by rw [List.length_drop]; omega) (by rw [List.length_drop]; omega) h3.2 h4.2 (by rw [List.length_drop]; omega) h6
  · intro us q vs ih d n a n' a' h1 h2 h3 h4 h5 h6
    rw [takesU_d] at h1
    rw [takesU_r] at h2
    simp only [finU, Bool.and_eq_true] at h3 h4
    rw [traU_dr]
    exact ih (d.drop 1) n (a + 1) n' a' (by rw [List.length_drop]; omega) (by rw [List.length_drop]; omega) h3.2 h4 (by rw [List.length_drop]; omega) h6
  · intro p us vs ih d n a n' a' h1 h2 h3 h4 h5 h6
    rw [takesU_r] at h1
    rw [takesU_d] at h2
    simp only [finU, Bool.and_eq_true, decide_eq_true_eq] at h3 h4
    cases d with
    | nil => simp at h1
    | cons c d =>
      simp only [List.length_cons] at h1 h2 h5
      have h6 : n' = a' + ((app l us d).length + 1) := h6
      rw [traU_rd]
      show (decide (a' + 1 ≠ n') && finU n' (a' + 1) (traU f us vs)) = true
      rw [ih d n (a + 1) n' (a' + 1) (by omega) (by omega) h3 h4.2 (by omega) (by omega), Bool.and_true]
      have := app_pos l us d n (a + 1) (by omega) (by omega) h3 (by omega)
      exact decide_eq_true (by omega)
  · intro p us q vs ih d n a n' a' h1 h2 h3 h4 h5 h6
    rw [takesU_r] at h1 h2
    simp only [finU] at h3 h4
    cases d with
    | nil => simp at h1
    | cons c d =>
      simp only [List.length_cons] at h1 h2 h5
      have h6 : n' = a' + ((app l us d).length + 1) := h6
      rw [traU_rr]
      exact ih d n (a + 1) n' (a' + 1) (by omega) (by omega) h3 h4 (by omega) (by omega)
theorem past_nil (f : Bool) (q : List Ch) : pastP f q [] = q := by unfold pastP; split; exact List.filter_eq_self.2 (fun c _ => rfl); rfl
/-- past what retains all that it takes, and a cell more, all stays -/
theorem tra_rets (f : Bool) : ∀ (vs : List Un) (k : Nat) (us : List Un), takesU vs + 1 ≤ k → traU f (List.replicate k (.ret []) ++ us) vs = vs
  | [], k, us, _ => traU_nil f _
  | .ins r s :: vs, 0, us, h => by omega
  | .del :: vs, 0, us, h => by omega
  | .ret q :: vs, 0, us, h => by omega
  | .ins r s :: vs, k + 1, us, h => by
    rw [takesU_i] at h
    have ih := tra_rets f vs (k + 1) us h
    rw [List.replicate_succ] at ih ⊢
    show traU f (.ret [] :: (List.replicate k (.ret []) ++ us)) (.ins r s :: vs) = _
    rw [traU_ri]
    exact congrArg _ ih
  | .del :: vs, k + 1, us, h => by
    rw [takesU_d] at h
    have ih := tra_rets f vs k us (by omega)
    rw [List.replicate_succ]
    show traU f (.ret [] :: (List.replicate k (.ret []) ++ us)) (.del :: vs) = _
    rw [traU_rd, ih]
  | .ret q :: vs, k + 1, us, h => by
    rw [takesU_r] at h
    have ih := tra_rets f vs k us (by omega)
    rw [List.replicate_succ]
    show traU f (.ret [] :: (List.replicate k (.ret []) ++ us)) (.ret q :: vs) = _
    rw [traU_rr, ih, past_nil]
end Go.Proofs.YtbdkbfoplpociaaGreatDoor
namespace Go.Proofs.YtbdkbfoplpociaaGreatDoor
set_option linter.unusedVariables false
set_option linter.unusedSimpArgs false

/-- past one another they fit, if what comes is not too long -/
theorem tra_fit {l : List Ky} (f : Bool) {us vs : List Un} {d : List Cl} {m1 m2 N : Nat} (hf : FitU l us d.length m1) (hg : FitU l vs d.length m2) (h1 : (app l us d).length ≤ N)
    (h2 : (app l (traU f us vs) (app l us d)).length ≤ N) (hN : N ≤ 536870912) (hb : makesU us + makesU vs ≤ 536870912) : FitU l (traU f us vs) (app l us d).length N := by
  obtain ⟨s1, s2, s3⟩ := tra_size f vs us
  have ht := tra_takes l f vs us d hf.t hg.t
  have hl := app_len l (traU f us vs) (app l us d) ht
  have hp := app_pos l us d d.length 0 hf.n1 hf.t hf.f (by omega)
  exact ⟨tra_vU f hf.v hg.v, ht, hp, h1, tra_fin l f vs us d d.length 0 _ 0 hf.t hg.t hf.f hg.f (by omega) (by omega), by omega, by omega, by omega⟩
/-- both ways round are alike -/
theorem tra_both {l : List Ky} {us vs : List Un} {d : List Cl} {m1 m2 : Nat} (hf : FitU l us d.length m1) (hg : FitU l vs d.length m2) (hd : ∀ c ∈ d, riseA c.s = true) :
    app l (traU true us vs) (app l us d) = app l (traU false vs us) (app l vs d) :=
  tra_meet l vs us d hf.t hg.t (fun u hu => vU_mU (hf.v u hu)) (fun v hv => vU_mU (hg.v v hv)) hd
end Go.Proofs.YtbdkbfoplpociaaGreatDoor
namespace Go.Proofs.YtbdkbfoplpociaaGreatDoor
set_option linter.unusedVariables false
set_option linter.unusedSimpArgs false

/-- the rounds' steps -/
theorem tra_insX (f : Bool) (A B : List Un) (s : List At) (v : Un) (hv : f = true ∨ isIns v = false) : ∀ r : List Int, traU f (r.map (fun r => Un.ins r s) ++ A) (v :: B) = List.replicate r.length (.ret []) ++ traU f A (v :: B)
  | [] => rfl
  | a :: r => by
    rw [List.length_cons, List.replicate_succ]
    show traU f (.ins a s :: (r.map (fun r => Un.ins r s) ++ A)) (v :: B) = _
    have e : traU f (.ins a s :: (r.map (fun r => Un.ins r s) ++ A)) (v :: B) = .ret [] :: traU f (r.map (fun r => Un.ins r s) ++ A) (v :: B) := by
      cases v with
      | ins r' s' =>
        rcases hv with rfl | hv
        · exact traU_ii _ B a s r' s'
        · cases hv
      | del => exact traU_id f _ B a s
      | ret q => exact traU_ir f _ B a s q
    rw [e, tra_insX f A B s v hv r]; rfl
theorem tra_insY (f : Bool) (A B : List Un) (s : List At) (hA : f = false ∨ ∀ u t, A = u :: t → isIns u = false) : ∀ r : List Int, traU f A (r.map (fun r => Un.ins r s) ++ B) = r.map (fun r => Un.ins r s) ++ traU f A B
  | [] => rfl
  | a :: r => by
    show traU f A (.ins a s :: (r.map (fun r => Un.ins r s) ++ B)) = _
    have e : traU f A (.ins a s :: (r.map (fun r => Un.ins r s) ++ B)) = .ins a s :: traU f A (r.map (fun r => Un.ins r s) ++ B) := by
      rcases hA with rfl | hA
      · exact traU_fi A _ a s
      · cases A with
        | nil => exact traU_ni f _ a s
        | cons u t =>
          cases u with
          | ins r' s' => have := hA _ _ rfl; cases this
          | del => exact traU_di f t _ a s
          | ret p => exact traU_ri f t _ a s p
    rw [e, tra_insY f A B s hA r]; rfl
theorem tra_gone (f : Bool) (A B : List Un) (v : Un) (hv : v = .del ∨ ∃ q, v = .ret q) : ∀ k, traU f (List.replicate k .del ++ A) (List.replicate k v ++ B) = traU f A B
  | 0 => rfl
  | k + 1 => by
    rw [List.replicate_succ, List.replicate_succ]
    show traU f (.del :: (List.replicate k .del ++ A)) (v :: (List.replicate k v ++ B)) = _
    rcases hv with rfl | ⟨q, rfl⟩
    · rw [traU_dd, tra_gone f A B _ (.inl rfl) k]
    · rw [traU_dr, tra_gone f A B _ (.inr ⟨q, rfl⟩) k]
theorem tra_retdel (f : Bool) (A B : List Un) (p : List Ch) : ∀ k, traU f (List.replicate k (.ret p) ++ A) (List.replicate k .del ++ B) = List.replicate k .del ++ traU f A B
  | 0 => rfl
  | k + 1 => by
    rw [List.replicate_succ, List.replicate_succ]
    show traU f (.ret p :: (List.replicate k (.ret p) ++ A)) (.del :: (List.replicate k .del ++ B)) = _
    rw [traU_rd, tra_retdel f A B p k]; rfl
theorem tra_retret (f : Bool) (A B : List Un) (p q : List Ch) : ∀ k, traU f (List.replicate k (.ret p) ++ A) (List.replicate k (.ret q) ++ B) = List.replicate k (.ret (pastP f q p)) ++ traU f A B
  | 0 => rfl
  | k + 1 => by
    rw [List.replicate_succ, List.replicate_succ, List.replicate_succ]
    show traU f (.ret p :: (List.replicate k (.ret p) ++ A)) (.ret q :: (List.replicate k (.ret q) ++ B)) = _
    rw [traU_rr, tra_retret f A B p q k]; rfl
/-- an op that a reader may give -/
def readO (l : List Ky) (o : Opd) : Prop := isOp o ∧ lenO o ≤ 536870912 ∧ mayS l o.s = 0 ∧ mayP l o.p = 0
/-- what the units and the sizes are -/
structure TQ (l : List Ky) (f : Bool) (T : List Un) (P : Nat) (X Y : List OpS) (m : Mk) (us : List Un) (K : Nat) : Prop where
  told : Told m us
  b : MkB m K 64
  k : K + 2 * (X.length + Y.length) + insN (units (osOf X)) + insN (units (osOf Y)) ≤ P
  eq : us ++ traU f (units (osOf X)) (units (osOf Y)) = T
  gx : ∀ o ∈ X, readO l o.o
  gy : ∀ o ∈ Y, readO l o.o
/-- a part of a retain or a delete taken -/
def tookT (X : List OpS) (n : Nat) (o : OpS) (X' : List OpS) : Prop :=
  match X with
  | [] => o.o = opR n [] ∧ X' = []
  | x :: t => o = { x with o := { x.o with n := (n : Int) } } ∧ ((x.o.n = (n : Int) ∧ X' = t) ∨ ((n : Int) < x.o.n ∧ X' = { x with o := { x.o with n := x.o.n - n } } :: t))
theorem units_osCons (x : OpS) (t : List OpS) : units (osOf (x :: t)) = unitsO x.o ++ units (osOf t) := rfl
theorem part_op {o : Opd} (h : isOp o) (hk : o.k ≠ 2) {n : Int} (hn : 1 ≤ n) : isOp { o with n := n } ∧ (o.k = 3 → unitsO { o with n := n } = List.replicate n.toNat .del) ∧ (o.k = 1 → unitsO { o with n := n } = List.replicate n.toNat (.ret o.p)) ∧ lenO { o with n := n } = n.toNat := by
  rcases isOp_kind h with h2 | h3 | h1
  · exact absurd h2 hk
  · obtain ⟨e, _⟩ := opD_of h h3
    refine ⟨?_, fun _ => ?_, fun h1 => (by rw [h3] at h1; cases h1), ?_⟩
    · rw [e]; exact isOp_opD hn
    · rw [e]; rfl
    · rw [e]; rfl
  · obtain ⟨e, _⟩ := opR_of h h1
    refine ⟨?_, fun h3 => (by rw [h1] at h3; cases h3), fun _ => ?_, ?_⟩
    · rw [e]; exact isOp_opR hn
    · rw [e]; rfl
    · rw [e]; rfl
theorem tookT_units {l : List Ky} {x o : OpS} {t X' : List OpS} {n : Nat} (h : ∀ z ∈ x :: t, readO l z.o) (hk : x.o.k ≠ 2) (hn : 1 ≤ n) (ht : tookT (x :: t) n o X') :
    units (osOf (x :: t)) = unitsO o.o ++ units (osOf X') ∧ isOp o.o ∧ (unitsO o.o).length = n ∧ o.o.k = x.o.k ∧ o.o.p = x.o.p ∧ o.o.n = (n : Int) ∧ (∀ z ∈ X', readO l z.o) ∧ X'.length ≤ (x :: t).length ∧ (x.o.n = (n : Int) → X'.length + 1 = (x :: t).length) := by
  obtain ⟨e, hc⟩ := ht
  subst e
  obtain ⟨x1, x2, x3, x4⟩ := h x (by simp)
  obtain ⟨p1, p2, p3, p4⟩ := part_op x1 hk (n := (n : Int)) (by omega)
  have hl : (unitsO ({ x with o := { x.o with n := (n : Int) } } : OpS).o).length = n := by
    rw [lenO_units p1, p4]; omega
  have hx : unitsO x.o = List.replicate x.o.n.toNat (if x.o.k = 3 then .del else .ret x.o.p) := by
    rcases isOp_kind x1 with h2 | h3 | h1
    · exact absurd h2 hk
    · unfold unitsO; rw [if_neg hk, if_neg (by rw [h3]; decide), if_pos h3]
    · unfold unitsO; rw [if_neg hk, if_pos h1, if_neg (by rw [h1]; decide)]
  have hy : ∀ m : Int, 1 ≤ m → unitsO { x.o with n := m } = List.replicate m.toNat (if x.o.k = 3 then .del else .ret x.o.p) := fun m hm => by
    obtain ⟨q1, q2, q3, q4⟩ := part_op x1 hk (n := m) hm
    rcases isOp_kind x1 with h2 | h3 | h1
    · exact absurd h2 hk
    · rw [if_pos h3]; exact q2 h3
    · rw [if_neg (by rw [h1]; decide)]; exact q3 h1
  refine ⟨?_, p1, hl, rfl, rfl, rfl, ?_, ?_, ?_⟩
  · rcases hc with ⟨h1, rfl⟩ | ⟨h1, rfl⟩
    · rw [units_osCons]
      have : ({ x with o := { x.o with n := (n : Int) } } : OpS).o = x.o := by show ({ x.o with n := (n : Int) } : Opd) = x.o; rw [← h1]
      rw [this]
    · rw [units_osCons, units_osCons]
      show unitsO x.o ++ _ = unitsO { x.o with n := (n : Int) } ++ (unitsO { x.o with n := x.o.n - n } ++ _)
      rw [hx, hy _ (by omega), hy _ (by omega), ← List.append_assoc, List.replicate_append_replicate]
      congr 2
      omega
  · intro z hz
    rcases hc with ⟨h1, rfl⟩ | ⟨h1, rfl⟩
    · exact h z (List.mem_cons_of_mem _ hz)
    · rcases List.mem_cons.1 hz with rfl | hz
      · obtain ⟨q1, q2, q3, q4⟩ := part_op x1 hk (n := x.o.n - n) (by omega)
        refine ⟨q1, ?_, x3, x4⟩
        show lenO { x.o with n := x.o.n - n } ≤ _
        rw [q4]
        have : lenO x.o = x.o.n.toNat := by
          obtain ⟨r1, r2, r3, r4⟩ := part_op x1 hk (n := x.o.n) (by omega)
          exact r4
        omega
      · exact h z (List.mem_cons_of_mem _ hz)
  · rcases hc with ⟨h1, rfl⟩ | ⟨h1, rfl⟩
    · simp
    · exact Nat.le_refl _
  · intro he
    rcases hc with ⟨h1, rfl⟩ | ⟨h1, rfl⟩
    · rfl
    · omega
theorem units_head {l : List Ky} {y : OpS} {t : List OpS} (h : ∀ z ∈ y :: t, readO l z.o) : ∃ v B, units (osOf (y :: t)) = v :: B ∧ (isIns v = true ↔ y.o.k = 2) := by
  obtain ⟨h1, _⟩ := h y (by simp)
  have hl := lenO_units h1
  obtain ⟨h2, _⟩ := lenO_of h1
  rw [units_osCons]
  cases hu : unitsO y.o with
  | nil => rw [hu] at hl; simp at hl; omega
  | cons v B =>
    refine ⟨v, B ++ units (osOf t), rfl, ?_⟩
    have hv : v ∈ unitsO y.o := by rw [hu]; simp
    rcases isOp_kind h1 with k | k | k
    · rw [unitsO_two k] at hv
      obtain ⟨r, _, rfl⟩ := List.mem_map.1 hv
      simp [isIns, k]
    · rw [unitsO_del k] at hv
      rw [(List.mem_replicate.1 hv).2]
      simp [isIns, k]
    · rw [unitsO_ret k] at hv
      rw [(List.mem_replicate.1 hv).2]
      simp [isIns, k]
/-- the first one's insert: so many cells are retained -/
theorem TQ.insX {l : List Ky} {f : Bool} {T : List Un} {P : Nat} {x y : OpS} {s t : List OpS} {m : Mk} {us : List Un} {K : Nat} (h : TQ l f T P (x :: s) (y :: t) m us K) (hk : x.o.k = 2) (hy : f = true ∨ y.o.k ≠ 2) (hT : T.length ≤ 4000000000) :
    ∃ us', TQ l f T P s (y :: t) (mkRetain m (x.o.r.length : Int) []) us' (K + 2) ∧ K + 2 ≤ P := by
  obtain ⟨h1, _⟩ := h.gx x (by simp)
  have e1 := unitsO_two hk
  obtain ⟨v, B, hv, hvi⟩ := units_head h.gy
  have heq := h.eq
  rw [units_osCons, e1, hv, tra_insX f _ _ _ _ (by
    rcases hy with hy | hy
    · exact .inl hy
    · exact .inr (by cases hi : isIns v with
        | false => rfl
        | true => exact absurd (hvi.1 hi) hy)), ← hv, ← List.append_assoc] at heq
  have hll := congrArg List.length heq
  rw [List.length_append, List.length_append, List.length_replicate] at hll
  have hkk := h.k
  rw [units_osCons, insN_append, e1, insN_ins, List.length_cons] at hkk
  refine ⟨_, ⟨?_, h.b.retain _ (Nat.zero_le _), by omega, heq, fun o ho => h.gx o (List.mem_cons_of_mem _ ho), h.gy⟩, by omega⟩
  have := h.told.retain (x.o.r.length : Int) [] (by omega)
  rwa [Int.toNat_natCast] at this
/-- the other one's insert -/
theorem TQ.insY {l : List Ky} {f : Bool} {T : List Un} {P : Nat} {X t : List OpS} {y : OpS} {m : Mk} {us : List Un} {K : Nat} (h : TQ l f T P X (y :: t) m us K) (hk : y.o.k = 2) (hX : f = false ∨ ∀ x s, X = x :: s → x.o.k ≠ 2) :
    ∃ us', TQ l f T P X t (mkInsert m y.o.r y.o.s) us' (K + y.o.r.length) ∧ K + y.o.r.length ≤ P ∧ y.o.s.length ≤ 64 := by
  have hy := h.gy y (by simp)
  have e1 := unitsO_two hk
  have heq := h.eq
  have hs := (mayS_zero hy.2.2.1).1
  rw [units_osCons, e1, tra_insY f _ _ _ (by
    rcases hX with hX | hX
    · exact .inl hX
    · refine .inr fun u t' hu => ?_
      cases X with
      | nil => cases hu
      | cons x s =>
        obtain ⟨v, B, hv, hvi⟩ := units_head h.gx
        rw [hv] at hu
        injection hu with hu _
        subst hu
        cases hi : isIns v with
        | false => rfl
        | true => exact absurd (hvi.1 hi) (hX x s rfl)), ← List.append_assoc] at heq
  have hkk := h.k
  rw [units_osCons, insN_append, e1, insN_ins, List.length_cons] at hkk
  exact ⟨_, ⟨h.told.insert _ _, h.b.insert _ hs, by omega, heq, h.gx, fun o ho => h.gy o (List.mem_cons_of_mem _ ho)⟩, by omega, hs⟩
/-- what a round does with cells of both -/
def overM (f : Bool) (m : Mk) (n : Nat) (o q : Opd) : Mk :=
  if o.k = 3 then m else if q.k = 3 then mkDelete m n else mkRetain m n (pastP f q.p o.p)
theorem mayP_nil0 (l : List Ky) : mayP l [] = 0 := by simp [mayP, riseC, rise]
theorem TQ.both {l : List Ky} {f : Bool} {T : List Un} {P : Nat} {X t X' Y' : List OpS} {y o q : OpS} {n : Nat} {m : Mk} {us : List Un} {K : Nat} (h : TQ l f T P X (y :: t) m us K)
    (hX : ∀ x s, X = x :: s → x.o.k ≠ 2 ∧ (n : Int) ≤ x.o.n) (hy : y.o.k ≠ 2) (hn : 1 ≤ n) (hny : (n : Int) ≤ y.o.n) (hmin : y.o.n = (n : Int) ∨ ∃ x s, X = x :: s ∧ x.o.n = (n : Int))
    (tx : tookT X n o X') (ty : tookT (y :: t) n q Y') (hT : T.length ≤ 4000000000) :
    ∃ us' K', TQ l f T P X' Y' (overM f m n o.o q.o) us' K' ∧ X'.length + Y'.length < X.length + (y :: t).length ∧ (o.o.k = 1 ∨ o.o.k = 3) ∧ (q.o.k = 1 ∨ q.o.k = 3) ∧ K + 2 ≤ P ∧ o.o.p.length ≤ 64 ∧ q.o.p.length ≤ 64 ∧ (pastP f q.o.p o.o.p).length ≤ 64 := by
  obtain ⟨y1, y2, y3, y4, y5, y6, y7, y8, y9⟩ := tookT_units h.gy hy hn ty
  have hyr := h.gy y (by simp)
  have mq : mayP l q.o.p = 0 := by rw [y5]; exact hyr.2.2.2
  have hqk : q.o.k = 1 ∨ q.o.k = 3 := by
    rw [y4]
    rcases isOp_kind hyr.1 with hk | hk | hk
    · exact absurd hk hy
    · exact .inr hk
    · exact .inl hk
  have key : (units (osOf X) = unitsO o.o ++ units (osOf X') ∨ (X = [] ∧ X' = [] ∧ o.o = opR n [])) ∧ (unitsO o.o).length = n ∧ (o.o.k = 1 ∨ o.o.k = 3) ∧ mayP l o.o.p = 0 ∧ (∀ z ∈ X', readO l z.o) ∧ X'.length ≤ X.length ∧ (∀ x s, X = x :: s → x.o.n = (n : Int) → X'.length + 1 = X.length) := by
    cases X with
    | nil =>
      obtain ⟨e1, e2⟩ := tx
      subst e2
      refine ⟨.inr ⟨rfl, rfl, e1⟩, by rw [e1, unitsO_R, List.length_replicate]; omega, .inl (by rw [e1]; rfl), by rw [e1]; exact mayP_nil0 l, fun z hz => (by cases hz), Nat.le_refl _, fun x s e => by cases e⟩
    | cons x s =>
      obtain ⟨x1, x2⟩ := hX x s rfl
      obtain ⟨z1, z2, z3, z4, z5, z6, z7, z8, z9⟩ := tookT_units h.gx x1 hn tx
      have hxr := h.gx x (by simp)
      refine ⟨.inl z1, z3, ?_, by rw [z5]; exact hxr.2.2.2, z7, z8, fun x' s' e => by injection e with e1 _; subst e1; exact z9⟩
      rw [z4]
      rcases isOp_kind hxr.1 with hk | hk | hk
      · exact absurd hk x1
      · exact .inr hk
      · exact .inl hk
  obtain ⟨hXu, hol, hok, mo, gx', xl, xd⟩ := key
  have hdec : X'.length + Y'.length < X.length + (y :: t).length := by
    rcases hmin with hm | ⟨x, s, e, hm⟩
    · have := y9 hm; omega
    · have := xd x s e hm; omega
  have hpast : mayP l (pastP f q.o.p o.o.p) = 0 := mayP_past mq
  have heq := h.eq
  rw [y1] at heq
  have hkk := h.k
  rw [y1, insN_append] at hkk
  have hcnt : K + 2 * (X'.length + Y'.length) + 2 + insN (units (osOf X')) + insN (units (osOf Y')) ≤ P := by
    have : insN (units (osOf X')) ≤ insN (units (osOf X)) := by
      rcases hXu with hX | ⟨rfl, rfl, _⟩
      · rw [hX, insN_append]; omega
      · exact Nat.le_refl _
    omega
  have main : ∃ W, Told (overM f m n o.o q.o) (us ++ W) ∧ us ++ W ++ traU f (units (osOf X')) (units (osOf Y')) = T := by
    have hW : ∀ W, traU f (units (osOf X)) (unitsO q.o ++ units (osOf Y')) = W ++ traU f (units (osOf X')) (units (osOf Y')) → us ++ W ++ traU f (units (osOf X')) (units (osOf Y')) = T ∧ us.length + W.length ≤ T.length := fun W hW => by
      rw [hW, ← List.append_assoc] at heq
      refine ⟨heq, ?_⟩
      have := congrArg List.length heq
      rw [List.length_append, List.length_append] at this; omega
    have hone : ∃ v, unitsO q.o = List.replicate n v ∧ (v = .del ∨ ∃ q, v = .ret q) := by
      rcases hqk with k | k
      · have e := unitsO_ret k; rw [y3] at e; exact ⟨_, e, .inr ⟨_, rfl⟩⟩
      · have e := unitsO_del k; rw [y3] at e; exact ⟨_, e, .inl rfl⟩
    rcases hok with ok | ok
    · have er := unitsO_ret ok
      rw [hol] at er
      have hn3 : ¬ o.o.k = 3 := by rw [ok]; decide
      rcases hqk with k | k
      · have eq := unitsO_ret k
        rw [y3] at eq
        have hm : overM f m n o.o q.o = mkRetain m n (pastP f q.o.p o.o.p) := by unfold overM; rw [if_neg hn3, if_neg (by rw [k]; decide)]
        have hh : traU f (units (osOf X)) (unitsO q.o ++ units (osOf Y')) = List.replicate n (.ret (pastP f q.o.p o.o.p)) ++ traU f (units (osOf X')) (units (osOf Y')) := by
          rcases hXu with hX | ⟨rfl, rfl, e⟩
          · rw [hX, er, eq, tra_retret]
          · rw [e, eq, show units (osOf []) = [] from rfl, tra_none, tra_none]
            show _ = List.replicate n (Un.ret (pastP f q.o.p [])) ++ _
            rw [past_nil]
        obtain ⟨h1, h2⟩ := hW _ hh
        rw [List.length_replicate] at h2
        refine ⟨_, ?_, h1⟩
        rw [hm]
        have := h.told.retain (n : Int) (pastP f q.o.p o.o.p) (by omega)
        rwa [Int.toNat_natCast] at this
      · have eq := unitsO_del k
        rw [y3] at eq
        have hm : overM f m n o.o q.o = mkDelete m n := by unfold overM; rw [if_neg hn3, if_pos k]
        have hh : traU f (units (osOf X)) (unitsO q.o ++ units (osOf Y')) = List.replicate n .del ++ traU f (units (osOf X')) (units (osOf Y')) := by
          rcases hXu with hX | ⟨rfl, rfl, e⟩
          · rw [hX, er, eq, tra_retdel]
          · rw [eq, show units (osOf []) = [] from rfl, tra_none, tra_none]
        obtain ⟨h1, h2⟩ := hW _ hh
        rw [List.length_replicate] at h2
        refine ⟨_, ?_, h1⟩
        rw [hm]
        have := h.told.delete (n : Int) (by omega) (by omega)
        rwa [Int.toNat_natCast] at this
    · have er := unitsO_del ok
      rw [hol] at er
      obtain ⟨v, hv, hv2⟩ := hone
      have hm : overM f m n o.o q.o = m := by unfold overM; rw [if_pos ok]
      have hX : units (osOf X) = unitsO o.o ++ units (osOf X') := by
        rcases hXu with hX | ⟨_, _, e⟩
        · exact hX
        · rw [e] at ok; cases ok
      have hh : traU f (units (osOf X)) (unitsO q.o ++ units (osOf Y')) = [] ++ traU f (units (osOf X')) (units (osOf Y')) := by
        rw [hX, er, hv, tra_gone f _ _ v hv2]; rfl
      obtain ⟨h1, h2⟩ := hW _ hh
      refine ⟨[], ?_, h1⟩
      rw [hm, List.append_nil]; exact h.told
  obtain ⟨W, m1, m2⟩ := main
  have hB : MkB (overM f m n o.o q.o) (K + 2) 64 := by
    unfold overM
    split
    · exact h.b.mono (by omega) (Nat.le_refl _)
    · split
      · exact (h.b.delete _).mono (by omega) (Nat.le_refl _)
      · exact h.b.retain _ (mayP_zero hpast).1
  exact ⟨us ++ W, K + 2, ⟨m1, hB, by omega, m2, gx', y7⟩, hdec, hok, hqk, by omega, (mayP_zero mo).1, (mayP_zero mq).1, (mayP_zero hpast).1⟩
/-- at the end -/
theorem TQ.end_ {l : List Ky} {f : Bool} {T : List Un} {P : Nat} {X : List OpS} {m : Mk} {us : List Un} {K : Nat} (h : TQ l f T P X [] m us K) : us = T := by
  have := h.eq
  rw [show units (osOf []) = [] from rfl, traU_nil, List.append_nil] at this
  exact this
end Go.Proofs.YtbdkbfoplpociaaGreatDoor
