/- Merged texts. -/
import Derived.Test.YtfnkjcodcoehcaaGreatDoorX22
namespace Go.Proofs.YtfnkjcodcoehcaaGreatDoor
set_option linter.unusedVariables false
set_option linter.unusedSimpArgs false
theorem Z4E (f : Bool) {P : List Un → List Un → Prop} (nil : ∀ us, P us []) (non : ∀ vs, P [] vs)
 (iv : ∀ r s us v vs, traU f (.ins r s :: us) (v :: vs) = .ret [] :: traU f us (v :: vs) → P us (v :: vs) → P (.ins r s :: us) (v :: vs))
 (vi : ∀ u us r s vs, traU f (u :: us) (.ins r s :: vs) = .ins r s :: traU f (u :: us) vs → P (u :: us) vs → P (u :: us) (.ins r s :: vs))
 (dd : ∀ us vs, P us vs → P (.del :: us) (.del :: vs)) (dr : ∀ us q vs, P us vs → P (.del :: us) (.ret q :: vs))
 (rd : ∀ p us vs, P us vs → P (.ret p :: us) (.del :: vs)) (rr : ∀ p us q vs, P us vs → P (.ret p :: us) (.ret q :: vs)) : ∀ vs us, P us vs := by
 intro vs
 induction vs with
 | nil => exact nil
 | cons v vs ih =>
   intro us
   induction us with
   | nil => exact non _
   | cons u us ihu =>
     cases u with
     | ins r s =>
       cases v with
       | ins r' s' =>
         cases f with
         | true => exact iv r s us _ vs (Y2P us vs r s r' s') ihu
         | false => exact vi _ us r' s' vs (Y2S _ vs r' s') (ih _)
       | del => exact iv r s us _ vs (Y2Q f us vs r s) ihu
       | ret q => exact iv r s us _ vs (Y2R f us vs r s q) ihu
     | del =>
       cases v with
       | ins r s => exact vi _ us r s vs (Y2U f us vs r s) (ih _)
       | del => exact dd us vs (ih us)
       | ret q => exact dr us q vs (ih us)
     | ret p =>
       cases v with
       | ins r s => exact vi _ us r s vs (Y2V f us vs r s p) (ih _)
       | del => exact rd p us vs (ih us)
       | ret q => exact rr p us q vs (ih us)
theorem Z9m (f : Bool) {P : Un → Prop} (hd : P .del) (h0 : P (.ret [])) (hr : ∀ p q, P (.ret p) → P (.ret q) → P (.ret (Z2l f q p))) :
 ∀ vs us, (∀ u ∈ us, P u) → (∀ v ∈ vs, P v) → ∀ x ∈ traU f us vs, P x := by
 have cons : ∀ {u : Un} {t : List Un}, P u → (∀ x ∈ t, P x) → ∀ x ∈ u :: t, P x := fun h1 h2 x hx => by
  rcases List.mem_cons.1 hx with rfl | hx
  ·exact h1
  ·exact h2 x hx
 refine Z4E f ?_ ?_ ?_ ?_ ?_ ?_ ?_ ?_
 ·intro us _ _ x hx; rw [Z2d] at hx; cases hx
 ·intro vs _ h2; rw [Z1Q]; exact h2
 ·intro r s us v vs e ih h1 h2; rw [e]; exact cons h0 (ih (Z35 h1) h2)
 ·intro u us r s vs e ih h1 h2; rw [e]; exact cons (h2 _ (by simp)) (ih h1 (Z35 h2))
 ·intro us vs ih h1 h2; rw [Z5a]; exact ih (Z35 h1) (Z35 h2)
 ·intro us q vs ih h1 h2; rw [Z5b]; exact ih (Z35 h1) (Z35 h2)
 ·intro p us vs ih h1 h2; rw [Z5c]; exact cons hd (ih (Z35 h1) (Z35 h2))
 ·intro p us q vs ih h1 h2; rw [Z5d]; exact cons (hr p q (h1 _ (by simp)) (h2 _ (by simp))) (ih (Z35 h1) (Z35 h2))
theorem Z6o {l : List Ky} {f : Bool} {p q : List Ch} (h : mayP l q = 0) : mayP l (Z2l f q p) = 0 := by
 unfold Z2l
 split
 ·exact Z4b _ h
 ·exact h
theorem Y6p {l : List Ky} (f : Bool) {us vs : List Un} (h1 : ∀ u ∈ us, vU l u) (h2 : ∀ v ∈ vs, vU l v) : ∀ x ∈ traU f us vs, vU l x :=
 Z9m f trivial (Z4w l) (fun p q _ h => Z6o h) vs us h1 h2
theorem Y6q {l : List Ky} (f : Bool) {us vs : List Un} (h1 : ∀ u ∈ us, mU l u) (h2 : ∀ v ∈ vs, mU l v) : ∀ x ∈ traU f us vs, mU l x :=
 Z9m f trivial (Z4w l) (fun p q _ h => Z6o h) vs us h1 h2
theorem Y4x (f : Bool) {us vs : List Un} (h1 : ∀ u ∈ us, okUn u) (h2 : ∀ v ∈ vs, okUn v) : ∀ x ∈ traU f us vs, okUn x :=
 Z9m f trivial (fun c hc => by cases hc) (fun p q _ h => by
  show okVs (Z2l f q p)
  unfold Z2l
  split
  ·exact Z8l _ h
  ·exact h) vs us h1 h2
theorem Y0f (f : Bool) : ∀ vs us, Z0k (traU f us vs) ≤ Z0k vs + Z0p us ∧ Z0p (traU f us vs) ≤ Z0p vs + Z0p us ∧ (traU f us vs).length ≤ us.length + vs.length := by
 refine Z4E f ?_ ?_ ?_ ?_ ?_ ?_ ?_ ?_
 ·intro us; rw [Z2d]; exact ⟨Nat.zero_le _, Nat.zero_le _, Nat.zero_le _⟩
 ·intro vs; rw [Z1Q]; exact ⟨Nat.le_add_right _ _, Nat.le_add_right _ _, Nat.le_add_left _ _⟩
 ·intro r s us v vs e ⟨h1, h2, h3⟩; rw [e, Z0Q, Z1O, Z3a, List.length_cons, List.length_cons]; omega
 ·intro u us r s vs e ⟨h1, h2, h3⟩; rw [e, Z1k, Z1k, Z3a, Z3a, List.length_cons, List.length_cons (a := Un.ins r s)]; omega
 ·intro us vs ⟨h1, h2, h3⟩; rw [Z5a, Z07, Z2m, Z2m, List.length_cons, List.length_cons]; omega
 ·intro us q vs ⟨h1, h2, h3⟩; rw [Z5b, Z0Q, Z2m, Z1O, List.length_cons, List.length_cons]; omega
 ·intro p us vs ⟨h1, h2, h3⟩; rw [Z5c, Z07, Z07, Z2m, Z2m, Z1O, List.length_cons, List.length_cons, List.length_cons]; omega
 ·intro p us q vs ⟨h1, h2, h3⟩; rw [Z5d, Z0Q, Z0Q, Z1O, Z1O, Z1O, List.length_cons, List.length_cons, List.length_cons]; omega
theorem Z8u (l : List Ky) (f : Bool) : ∀ vs us, ∀ d : List Cl, Z0k us ≤ d.length → Z0k vs ≤ d.length → Z0k (traU f us vs) ≤ (app l us d).length := by
 refine Z4E f ?_ ?_ ?_ ?_ ?_ ?_ ?_ ?_
 ·intro us d _ _; rw [Z2d]; exact Nat.zero_le _
 ·intro vs d _ h2; rw [Z1Q]; exact h2
 ·intro r s us v vs e ih d h1 h2
  rw [Z1k] at h1
  rw [e, Z0Q]
  show _ ≤ (app l us d).length + 1
  have := ih d h1 h2; omega
 ·intro u us r s vs e ih d h1 h2
  rw [Z1k] at h2
  rw [e, Z1k]; exact ih d h1 h2
 ·intro us vs ih d h1 h2
  rw [Z07] at h1 h2
  rw [Z5a]
  exact ih (d.drop 1) (by rw [List.length_drop]; omega) (by rw [List.length_drop]; omega)
 ·intro us q vs ih d h1 h2
  rw [Z07] at h1
  rw [Z0Q] at h2
  rw [Z5b]
  exact ih (d.drop 1) (by rw [List.length_drop]; omega) (by rw [List.length_drop]; omega)
 ·intro p us vs ih d h1 h2
  rw [Z0Q] at h1
  rw [Z07] at h2
  cases d with
  | nil => simp at h1
  | cons c d =>
    rw [Z5c, Z07]
    show _ ≤ (app l us d).length + 1
    have := ih d (by simp at h1; omega) (by simp at h2; omega); omega
 ·intro p us q vs ih d h1 h2
  rw [Z0Q] at h1 h2
  cases d with
  | nil => simp at h1
  | cons c d =>
    rw [Z5d, Z0Q]
    show _ ≤ (app l us d).length + 1
    have := ih d (by simp at h1; omega) (by simp at h2; omega); omega
theorem Z4F {k : Nat} : ∀ (us : List Un) (n a n' a' : Nat), n = a + k → n' = a' + k → finU n a us = true → Z0k us ≤ k → finU n' a' us = true
 | [], _, _, _, _, _, _, _, _ => rfl
 | .ins r s :: us, n, a, n', a', h1, h2, h3, h4 => by
   simp only [finU, Bool.and_eq_true, decide_eq_true_eq] at h3
   rw [Z1k] at h4
   show (decide (a' ≠ n') && finU n' a' us) = true
   rw [Z4F us n a n' a' h1 h2 h3.2 h4, Bool.and_true]
   exact decide_eq_true (by omega)
 | .del :: us, n, a, n', a', h1, h2, h3, h4 => by
   simp only [finU, Bool.and_eq_true, decide_eq_true_eq] at h3
   rw [Z07] at h4
   show (decide (a' + 1 ≠ n') && finU n' (a' + 1) us) = true
   rw [Z4F (k := k - 1) us n (a + 1) n' (a' + 1) (by omega) (by omega) h3.2 (by omega), Bool.and_true]
   exact decide_eq_true (by omega)
 | .ret p :: us, n, a, n', a', h1, h2, h3, h4 => by
   simp only [finU] at h3
   rw [Z0Q] at h4
   exact Z4F (k := k - 1) us n (a + 1) n' (a' + 1) (by omega) (by omega) h3 (by omega)
theorem Y5E (l : List Ky) (f : Bool) : ∀ vs us, ∀ (d : List Cl) (n a n' a' : Nat), Z0k us ≤ d.length → Z0k vs ≤ d.length → finU n a us = true → finU n a vs = true → n = a + d.length → n' = a' + (app l us d).length → finU n' a' (traU f us vs) = true := by
 refine Z4E f ?_ ?_ ?_ ?_ ?_ ?_ ?_ ?_
 ·intro us d n a n' a' _ _ _ _ _ _; rw [Z2d]; rfl
 ·intro vs d n a n' a' _ h2 _ h4 h5 h6
  rw [Z1Q]
  exact Z4F (k := d.length) vs n a n' a' h5 h6 h4 h2
 ·intro r s us v vs e ih d n a n' a' h1 h2 h3 h4 h5 h6
  rw [Z1k] at h1
  simp only [finU, Bool.and_eq_true] at h3
  have h6 : n' = a' + ((app l us d).length + 1) := h6
  rw [e]
  exact ih d n a n' (a' + 1) h1 h2 h3.2 h4 h5 (by omega)
 ·intro u us r s vs e ih d n a n' a' h1 h2 h3 h4 h5 h6
  rw [Z1k] at h2
  simp only [finU, Bool.and_eq_true, decide_eq_true_eq] at h4
  rw [e]
  show (decide (a' ≠ n') && finU n' a' (traU f (u :: us) vs)) = true
  rw [ih d n a n' a' h1 h2 h3 h4.2 h5 h6, Bool.and_true]
  have := Z9l l (u :: us) d n a (by omega) h1 h3 h5
  exact decide_eq_true (by omega)
 ·intro us vs ih d n a n' a' h1 h2 h3 h4 h5 h6
  rw [Z07] at h1 h2
  simp only [finU, Bool.and_eq_true] at h3 h4
  rw [Z5a]
  exact ih (d.drop 1) n (a + 1) n' a' (by rw [List.length_drop]; omega) (by rw [List.length_drop]; omega) h3.2 h4.2 (by rw [List.length_drop]; omega) h6
 ·intro us q vs ih d n a n' a' h1 h2 h3 h4 h5 h6
  rw [Z07] at h1
  rw [Z0Q] at h2
  simp only [finU, Bool.and_eq_true] at h3 h4
  rw [Z5b]
  exact ih (d.drop 1) n (a + 1) n' a' (by rw [List.length_drop]; omega) (by rw [List.length_drop]; omega) h3.2 h4 (by rw [List.length_drop]; omega) h6
 ·intro p us vs ih d n a n' a' h1 h2 h3 h4 h5 h6
  rw [Z0Q] at h1
  rw [Z07] at h2
  simp only [finU, Bool.and_eq_true, decide_eq_true_eq] at h3 h4
  cases d with
  | nil => simp at h1
  | cons c d =>
    simp only [List.length_cons] at h1 h2 h5
    have h6 : n' = a' + ((app l us d).length + 1) := h6
    rw [Z5c]
    show (decide (a' + 1 ≠ n') && finU n' (a' + 1) (traU f us vs)) = true
    rw [ih d n (a + 1) n' (a' + 1) (by omega) (by omega) h3 h4.2 (by omega) (by omega), Bool.and_true]
    have := Z9l l us d n (a + 1) (by omega) (by omega) h3 (by omega)
    exact decide_eq_true (by omega)
 ·intro p us q vs ih d n a n' a' h1 h2 h3 h4 h5 h6
  rw [Z0Q] at h1 h2
  simp only [finU] at h3 h4
  cases d with
  | nil => simp at h1
  | cons c d =>
    simp only [List.length_cons] at h1 h2 h5
    have h6 : n' = a' + ((app l us d).length + 1) := h6
    rw [Z5d]
    exact ih d n (a + 1) n' (a' + 1) (by omega) (by omega) h3 h4 (by omega) (by omega)
theorem Y0g (f : Bool) (q : List Ch) : Z2l f q [] = q := by unfold Z2l; split; exact List.filter_eq_self.2 (fun c _ => rfl); rfl
theorem Y5F {l : List Ky} (f : Bool) {us vs : List Un} {d : List Cl} {m1 m2 N : Nat} (hf : FitU l us d.length m1) (hg : FitU l vs d.length m2) (h1 : (app l us d).length ≤ N)
 (h2 : (app l (traU f us vs) (app l us d)).length ≤ N) (hN : N ≤ 536870912) (hb : Z0p us + Z0p vs ≤ 536870912) : FitU l (traU f us vs) (app l us d).length N := by
 obtain ⟨s1, s2, s3⟩ := Y0f f vs us
 have ht := Z8u l f vs us d hf.t hg.t
 have hl := Z2j l (traU f us vs) (app l us d) ht
 have hp := Z9l l us d d.length 0 hf.n1 hf.t hf.f (by omega)
 exact ⟨Y6p f hf.v hg.v, ht, hp, h1, Y5E l f vs us d d.length 0 _ 0 hf.t hg.t hf.f hg.f (by omega) (by omega), by omega, by omega, by omega⟩
def cutO (o : Opd) (a n : Nat) : Opd := if o.k = 2 then { o with r := (o.r.drop a).take n } else { o with n := n }
def lenO (o : Opd) : Nat := (Z0V o).toNat
theorem Z4d {o : Opd} (h : isOp o) : 1 ≤ lenO o ∧ (lenO o : Int) = Z0V o := by
 unfold lenO
 rcases Z0x h with hk | hk | hk
 ·obtain ⟨e, hr⟩ := Z13 h hk
  have h1 : Z0V o = o.r.length := by unfold Z0V; rw [if_pos hk]
  have := List.length_pos_iff.2 hr
  omega
 ·obtain ⟨e, hn⟩ := Z14 h hk
  have h1 : Z0V o = o.n := by unfold Z0V; rw [if_neg (by rw [hk]; decide)]
  omega
 ·obtain ⟨e, hn⟩ := Z1K h hk
  have h1 : Z0V o = o.n := by unfold Z0V; rw [if_neg (by rw [hk]; decide)]
  omega
def tookV (X : List OpS) (a n : Nat) (o : Opd) (X' : List OpS) (a' : Nat) : Prop :=
 match X with
 | [] => o = opR n [] ∧ X' = [] ∧ a' = 0
 | x :: t => o = cutO x.o a (min n (lenO x.o - a)) ∧ ((a + min n (lenO x.o - a) = lenO x.o ∧ X' = t ∧ a' = 0) ∨ (a + min n (lenO x.o - a) < lenO x.o ∧ X' = x :: t ∧ a' = a + min n (lenO x.o - a)))
def Z9n (X : List OpS) : Int := match X with
 | [] => 1
 | o :: _ => o.o.k
theorem Z65 {o : Opd} (h : isOp o) : (Z0h o).length = lenO o := by
 obtain ⟨_, h1⟩ := Z4d h
 rcases Z0x h with hk | hk | hk
 ·have h2 : (Z0h o).length = o.r.length := by unfold Z0h; rw [if_pos hk, List.length_map]
  have h3 : Z0V o = o.r.length := by unfold Z0V; rw [if_pos hk]
  omega
 ·have h2 : (Z0h o).length = o.n.toNat := by unfold Z0h; rw [if_neg (by rw [hk]; decide), if_neg (by rw [hk]; decide), List.length_replicate]
  have h3 : Z0V o = o.n := by unfold Z0V; rw [if_neg (by rw [hk]; decide)]
  omega
 ·have h2 : (Z0h o).length = o.n.toNat := by unfold Z0h; rw [if_neg (by rw [hk]; decide), if_pos hk, List.length_replicate]
  have h3 : Z0V o = o.n := by unfold Z0V; rw [if_neg (by rw [hk]; decide)]
  omega
def insN : List Un → Nat
 | [] => 0
 | .ins _ _ :: us => insN us + 1
 | _ :: us => insN us
theorem Z2w (a b : List Un) : insN (a ++ b) = insN a + insN b := by
 induction a with
 | nil => simp [insN]
 | cons u a ih => cases u <;> simp [insN, ih] <;> omega
theorem Z7K (r : List Int) (s : List At) : insN (r.map (fun r => Un.ins r s)) = r.length := by
 induction r with
 | nil => rfl
 | cons a r ih => show insN _ + 1 = _; rw [ih]; rfl
theorem Y43 (x : List OpS) (h : ∀ o ∈ x, isOp o.o) : x.length + insN (Z0d (osOf x)) ≤ szN x := by
 induction x with
 | nil => exact Nat.le_refl _
 | cons a x ih =>
   have h1 := ih (fun o ho => h o (List.mem_cons_of_mem _ ho))
   have e : Z0d (osOf (a :: x)) = Z0h a.o ++ Z0d (osOf x) := rfl
   rw [e, Z2w, Z3R, List.length_cons]
   have : insN (Z0h a.o) ≤ a.o.r.length := by
    rcases Z0x (h a (by simp)) with hk | hk | hk
    ·unfold Z0h; rw [if_pos hk, Z7K]; exact Nat.le_refl _
    ·have : ∀ k, insN (List.replicate k .del) = 0 := fun k => by
      induction k with
      | zero => rfl
      | succ k ih => rw [List.replicate_succ]; exact ih
     unfold Z0h; rw [if_neg (by rw [hk]; decide), if_neg (by rw [hk]; decide), this]; exact Nat.zero_le _
    ·have : ∀ k p, insN (List.replicate k (.ret p)) = 0 := fun k p => by
      induction k with
      | zero => rfl
      | succ k ih => rw [List.replicate_succ]; exact ih
     unfold Z0h; rw [if_neg (by rw [hk]; decide), if_pos hk, this]; exact Nat.zero_le _
   omega
theorem Z3S {o : Opd} (h : o.k = 2) : Z0h o = o.r.map (fun r => Un.ins r o.s) := by unfold Z0h; rw [if_pos h]
theorem Z3T {o : Opd} (h : o.k = 3) : Z0h o = List.replicate (Z0h o).length .del := by
 have e : Z0h o = List.replicate o.n.toNat .del := by unfold Z0h; rw [if_neg (by rw [h]; decide), if_neg (by rw [h]; decide)]
 rw [e, List.length_replicate]
theorem Z3U {o : Opd} (h : o.k = 1) : Z0h o = List.replicate (Z0h o).length (.ret o.p) := by
 have e : Z0h o = List.replicate o.n.toNat (.ret o.p) := by unfold Z0h; rw [if_neg (by rw [h]; decide), if_pos h]
 rw [e, List.length_replicate]
theorem Y0h (f : Bool) (A B : List Un) (s : List At) (v : Un) (hv : f = true ∨ Z0n v = false) : ∀ r : List Int, traU f (r.map (fun r => Un.ins r s) ++ A) (v :: B) = List.replicate r.length (.ret []) ++ traU f A (v :: B)
 | [] => rfl
 | a :: r => by
   rw [List.length_cons, List.replicate_succ]
   show traU f (.ins a s :: (r.map (fun r => Un.ins r s) ++ A)) (v :: B) = _
   have e : traU f (.ins a s :: (r.map (fun r => Un.ins r s) ++ A)) (v :: B) = .ret [] :: traU f (r.map (fun r => Un.ins r s) ++ A) (v :: B) := by
    cases v with
    | ins r' s' =>
      rcases hv with rfl | hv
      ·exact Y2P _ B a s r' s'
      ·cases hv
    | del => exact Y2Q f _ B a s
    | ret q => exact Y2R f _ B a s q
   rw [e, Y0h f A B s v hv r]; rfl
theorem Y0i (f : Bool) (A B : List Un) (s : List At) (hA : f = false ∨ ∀ u t, A = u :: t → Z0n u = false) : ∀ r : List Int, traU f A (r.map (fun r => Un.ins r s) ++ B) = r.map (fun r => Un.ins r s) ++ traU f A B
 | [] => rfl
 | a :: r => by
   show traU f A (.ins a s :: (r.map (fun r => Un.ins r s) ++ B)) = _
   have e : traU f A (.ins a s :: (r.map (fun r => Un.ins r s) ++ B)) = .ins a s :: traU f A (r.map (fun r => Un.ins r s) ++ B) := by
    rcases hA with rfl | hA
    ·exact Y2S A _ a s
    ·cases A with
     | nil => exact Y2T f _ a s
     | cons u t =>
       cases u with
       | ins r' s' => have := hA _ _ rfl; cases this
       | del => exact Y2U f t _ a s
       | ret p => exact Y2V f t _ a s p
   rw [e, Y0i f A B s hA r]; rfl
theorem Z7L (f : Bool) (A B : List Un) (v : Un) (hv : v = .del ∨ ∃ q, v = .ret q) : ∀ k, traU f (List.replicate k .del ++ A) (List.replicate k v ++ B) = traU f A B
 | 0 => rfl
 | k + 1 => by
   rw [List.replicate_succ, List.replicate_succ]
   show traU f (.del :: (List.replicate k .del ++ A)) (v :: (List.replicate k v ++ B)) = _
   rcases hv with rfl | ⟨q, rfl⟩
   ·rw [Z5a, Z7L f A B _ (.inl rfl) k]
   ·rw [Z5b, Z7L f A B _ (.inr ⟨q, rfl⟩) k]
theorem Z66 (f : Bool) (A B : List Un) (p : List Ch) : ∀ k, traU f (List.replicate k (.ret p) ++ A) (List.replicate k .del ++ B) = List.replicate k .del ++ traU f A B
 | 0 => rfl
 | k + 1 => by
   rw [List.replicate_succ, List.replicate_succ]
   show traU f (.ret p :: (List.replicate k (.ret p) ++ A)) (.del :: (List.replicate k .del ++ B)) = _
   rw [Z5c, Z66 f A B p k]; rfl
theorem Z67 (f : Bool) (A B : List Un) (p q : List Ch) : ∀ k, traU f (List.replicate k (.ret p) ++ A) (List.replicate k (.ret q) ++ B) = List.replicate k (.ret (Z2l f q p)) ++ traU f A B
 | 0 => rfl
 | k + 1 => by
   rw [List.replicate_succ, List.replicate_succ, List.replicate_succ]
   show traU f (.ret p :: (List.replicate k (.ret p) ++ A)) (.ret q :: (List.replicate k (.ret q) ++ B)) = _
   rw [Z5d, Z67 f A B p q k]; rfl
def Z8v (l : List Ky) (o : Opd) : Prop := isOp o ∧ lenO o ≤ 536870912 ∧ mayS l o.s = 0 ∧ mayP l o.p = 0
structure TQ (l : List Ky) (f : Bool) (T : List Un) (P : Nat) (X Y : List OpS) (m : Mk) (us : List Un) (K : Nat) : Prop where
 told : Told m us
 b : MkB m K 64
 k : K + 2 * (X.length + Y.length) + insN (Z0d (osOf X)) + insN (Z0d (osOf Y)) ≤ P
 eq : us ++ traU f (Z0d (osOf X)) (Z0d (osOf Y)) = T
 gx : ∀ o ∈ X, Z8v l o.o
 gy : ∀ o ∈ Y, Z8v l o.o
def Z9o (X : List OpS) (n : Nat) (o : OpS) (X' : List OpS) : Prop :=
 match X with
 | [] => o.o = opR n [] ∧ X' = []
 | x :: t => o = { x with o := { x.o with n := (n : Int) } } ∧ ((x.o.n = (n : Int) ∧ X' = t) ∨ ((n : Int) < x.o.n ∧ X' = { x with o := { x.o with n := x.o.n - n } } :: t))
theorem Z1o (x : OpS) (t : List OpS) : Z0d (osOf (x :: t)) = Z0h x.o ++ Z0d (osOf t) := rfl
theorem Z7M {o : Opd} (h : isOp o) (hk : o.k ≠ 2) {n : Int} (hn : 1 ≤ n) : isOp { o with n := n } ∧ (o.k = 3 → Z0h { o with n := n } = List.replicate n.toNat .del) ∧ (o.k = 1 → Z0h { o with n := n } = List.replicate n.toNat (.ret o.p)) ∧ lenO { o with n := n } = n.toNat := by
 rcases Z0x h with h2 | h3 | h1
 ·exact absurd h2 hk
 ·obtain ⟨e, _⟩ := Z14 h h3
  refine ⟨?_, fun _ => ?_, fun h1 => (by rw [h3] at h1; cases h1), ?_⟩
  ·rw [e]; exact Z9R hn
  ·rw [e]; rfl
  ·rw [e]; rfl
 ·obtain ⟨e, _⟩ := Z1K h h1
  refine ⟨?_, fun h3 => (by rw [h1] at h3; cases h3), fun _ => ?_, ?_⟩
  ·rw [e]; exact Z5B hn
  ·rw [e]; rfl
  ·rw [e]; rfl
theorem Z6p {l : List Ky} {x o : OpS} {t X' : List OpS} {n : Nat} (h : ∀ z ∈ x :: t, Z8v l z.o) (hk : x.o.k ≠ 2) (hn : 1 ≤ n) (ht : Z9o (x :: t) n o X') :
 Z0d (osOf (x :: t)) = Z0h o.o ++ Z0d (osOf X') ∧ isOp o.o ∧ (Z0h o.o).length = n ∧ o.o.k = x.o.k ∧ o.o.p = x.o.p ∧ o.o.n = (n : Int) ∧ (∀ z ∈ X', Z8v l z.o) ∧ X'.length ≤ (x :: t).length ∧ (x.o.n = (n : Int) → X'.length + 1 = (x :: t).length) := by
 obtain ⟨e, hc⟩ := ht
 subst e
 obtain ⟨x1, x2, x3, x4⟩ := h x (by simp)
 obtain ⟨p1, p2, p3, p4⟩ := Z7M x1 hk (n := (n : Int)) (by omega)
 have hl : (Z0h ({ x with o := { x.o with n := (n : Int) } } : OpS).o).length = n := by
  rw [Z65 p1, p4]; omega
 have hx : Z0h x.o = List.replicate x.o.n.toNat (if x.o.k = 3 then .del else .ret x.o.p) := by
  rcases Z0x x1 with h2 | h3 | h1
  ·exact absurd h2 hk
  ·unfold Z0h; rw [if_neg hk, if_neg (by rw [h3]; decide), if_pos h3]
  ·unfold Z0h; rw [if_neg hk, if_pos h1, if_neg (by rw [h1]; decide)]
 have hy : ∀ m : Int, 1 ≤ m → Z0h { x.o with n := m } = List.replicate m.toNat (if x.o.k = 3 then .del else .ret x.o.p) := fun m hm => by
  obtain ⟨q1, q2, q3, q4⟩ := Z7M x1 hk (n := m) hm
  rcases Z0x x1 with h2 | h3 | h1
  ·exact absurd h2 hk
  ·rw [if_pos h3]; exact q2 h3
  ·rw [if_neg (by rw [h1]; decide)]; exact q3 h1
 refine ⟨?_, p1, hl, rfl, rfl, rfl, ?_, ?_, ?_⟩
 ·rcases hc with ⟨h1, rfl⟩ | ⟨h1, rfl⟩
  ·rw [Z1o]
   have : ({ x with o := { x.o with n := (n : Int) } } : OpS).o = x.o := by show ({ x.o with n := (n : Int) } : Opd) = x.o; rw [← h1]
   rw [this]
  ·rw [Z1o, Z1o]
   show Z0h x.o ++ _ = Z0h { x.o with n := (n : Int) } ++ (Z0h { x.o with n := x.o.n - n } ++ _)
   rw [hx, hy _ (by omega), hy _ (by omega), ← List.append_assoc, List.replicate_append_replicate]
   congr 2
   omega
 ·intro z hz
  rcases hc with ⟨h1, rfl⟩ | ⟨h1, rfl⟩
  ·exact h z (List.mem_cons_of_mem _ hz)
  ·rcases List.mem_cons.1 hz with rfl | hz
   ·obtain ⟨q1, q2, q3, q4⟩ := Z7M x1 hk (n := x.o.n - n) (by omega)
    refine ⟨q1, ?_, x3, x4⟩
    show lenO { x.o with n := x.o.n - n } ≤ _
    rw [q4]
    have : lenO x.o = x.o.n.toNat := by
     obtain ⟨r1, r2, r3, r4⟩ := Z7M x1 hk (n := x.o.n) (by omega)
     exact r4
    omega
   ·exact h z (List.mem_cons_of_mem _ hz)
 ·rcases hc with ⟨h1, rfl⟩ | ⟨h1, rfl⟩
  ·simp
  ·exact Nat.le_refl _
 ·intro he
  rcases hc with ⟨h1, rfl⟩ | ⟨h1, rfl⟩
  ·rfl
  ·omega
theorem Z68 {l : List Ky} {y : OpS} {t : List OpS} (h : ∀ z ∈ y :: t, Z8v l z.o) : ∃ v B, Z0d (osOf (y :: t)) = v :: B ∧ (Z0n v = true ↔ y.o.k = 2) := by
 obtain ⟨h1, _⟩ := h y (by simp)
 have hl := Z65 h1
 obtain ⟨h2, _⟩ := Z4d h1
 rw [Z1o]
 cases hu : Z0h y.o with
 | nil => rw [hu] at hl; simp at hl; omega
 | cons v B =>
   refine ⟨v, B ++ Z0d (osOf t), rfl, ?_⟩
   have hv : v ∈ Z0h y.o := by rw [hu]; simp
   rcases Z0x h1 with k | k | k
   ·rw [Z3S k] at hv
    obtain ⟨r, _, rfl⟩ := List.mem_map.1 hv
    simp [Z0n, k]
   ·rw [Z3T k] at hv
    rw [(List.mem_replicate.1 hv).2]
    simp [Z0n, k]
   ·rw [Z3U k] at hv
    rw [(List.mem_replicate.1 hv).2]
    simp [Z0n, k]
theorem TQ.insX {l : List Ky} {f : Bool} {T : List Un} {P : Nat} {x y : OpS} {s t : List OpS} {m : Mk} {us : List Un} {K : Nat} (h : TQ l f T P (x :: s) (y :: t) m us K) (hk : x.o.k = 2) (hy : f = true ∨ y.o.k ≠ 2) (hT : T.length ≤ 4000000000) :
 ∃ us', TQ l f T P s (y :: t) (Z0D m (x.o.r.length : Int) []) us' (K + 2) ∧ K + 2 ≤ P := by
 obtain ⟨h1, _⟩ := h.gx x (by simp)
 have e1 := Z3S hk
 obtain ⟨v, B, hv, hvi⟩ := Z68 h.gy
 have heq := h.eq
 rw [Z1o, e1, hv, Y0h f _ _ _ _ (by
  rcases hy with hy | hy
  ·exact .inl hy
  ·exact .inr (by cases hi : Z0n v with
    | false => rfl
    | true => exact absurd (hvi.1 hi) hy)), ← hv, ← List.append_assoc] at heq
 have hll := congrArg List.length heq
 rw [List.length_append, List.length_append, List.length_replicate] at hll
 have hkk := h.k
 rw [Z1o, Z2w, e1, Z7K, List.length_cons] at hkk
 refine ⟨_, ⟨?_, h.b.retain _ (Nat.zero_le _), by omega, heq, fun o ho => h.gx o (List.mem_cons_of_mem _ ho), h.gy⟩, by omega⟩
 have := h.told.retain (x.o.r.length : Int) [] (by omega)
 rwa [Int.toNat_natCast] at this
theorem TQ.insY {l : List Ky} {f : Bool} {T : List Un} {P : Nat} {X t : List OpS} {y : OpS} {m : Mk} {us : List Un} {K : Nat} (h : TQ l f T P X (y :: t) m us K) (hk : y.o.k = 2) (hX : f = false ∨ ∀ x s, X = x :: s → x.o.k ≠ 2) :
 ∃ us', TQ l f T P X t (Z0S m y.o.r y.o.s) us' (K + y.o.r.length) ∧ K + y.o.r.length ≤ P ∧ y.o.s.length ≤ 64 := by
 have hy := h.gy y (by simp)
 have e1 := Z3S hk
 have heq := h.eq
 have hs := (Z00 hy.2.2.1).1
 rw [Z1o, e1, Y0i f _ _ _ (by
  rcases hX with hX | hX
  ·exact .inl hX
  ·refine .inr fun u t' hu => ?_
   cases X with
   | nil => cases hu
   | cons x s =>
     obtain ⟨v, B, hv, hvi⟩ := Z68 h.gx
     rw [hv] at hu
     injection hu with hu _
     subst hu
     cases hi : Z0n v with
     | false => rfl
     | true => exact absurd (hvi.1 hi) (hX x s rfl)), ← List.append_assoc] at heq
 have hkk := h.k
 rw [Z1o, Z2w, e1, Z7K, List.length_cons] at hkk
 exact ⟨_, ⟨h.told.insert _ _, h.b.insert _ hs, by omega, heq, h.gx, fun o ho => h.gy o (List.mem_cons_of_mem _ ho)⟩, by omega, hs⟩
def Z31 (f : Bool) (m : Mk) (n : Nat) (o q : Opd) : Mk :=
 if o.k = 3 then m else if q.k = 3 then Z1M m n else Z0D m n (Z2l f q.p o.p)
theorem Y2X (l : List Ky) : mayP l [] = 0 := by simp [mayP, Z1W, rise]
theorem TQ.both {l : List Ky} {f : Bool} {T : List Un} {P : Nat} {X t X' Y' : List OpS} {y o q : OpS} {n : Nat} {m : Mk} {us : List Un} {K : Nat} (h : TQ l f T P X (y :: t) m us K)
 (hX : ∀ x s, X = x :: s → x.o.k ≠ 2 ∧ (n : Int) ≤ x.o.n) (hy : y.o.k ≠ 2) (hn : 1 ≤ n) (hny : (n : Int) ≤ y.o.n) (hmin : y.o.n = (n : Int) ∨ ∃ x s, X = x :: s ∧ x.o.n = (n : Int))
 (tx : Z9o X n o X') (ty : Z9o (y :: t) n q Y') (hT : T.length ≤ 4000000000) :
 ∃ us' K', TQ l f T P X' Y' (Z31 f m n o.o q.o) us' K' ∧ X'.length + Y'.length < X.length + (y :: t).length ∧ (o.o.k = 1 ∨ o.o.k = 3) ∧ (q.o.k = 1 ∨ q.o.k = 3) ∧ K + 2 ≤ P ∧ o.o.p.length ≤ 64 ∧ q.o.p.length ≤ 64 ∧ (Z2l f q.o.p o.o.p).length ≤ 64 := by
 obtain ⟨y1, y2, y3, y4, y5, y6, y7, y8, y9⟩ := Z6p h.gy hy hn ty
 have hyr := h.gy y (by simp)
 have mq : mayP l q.o.p = 0 := by rw [y5]; exact hyr.2.2.2
 have hqk : q.o.k = 1 ∨ q.o.k = 3 := by
  rw [y4]
  rcases Z0x hyr.1 with hk | hk | hk
  ·exact absurd hk hy
  ·exact .inr hk
  ·exact .inl hk
 have key : (Z0d (osOf X) = Z0h o.o ++ Z0d (osOf X') ∨ (X = [] ∧ X' = [] ∧ o.o = opR n [])) ∧ (Z0h o.o).length = n ∧ (o.o.k = 1 ∨ o.o.k = 3) ∧ mayP l o.o.p = 0 ∧ (∀ z ∈ X', Z8v l z.o) ∧ X'.length ≤ X.length ∧ (∀ x s, X = x :: s → x.o.n = (n : Int) → X'.length + 1 = X.length) := by
  cases X with
  | nil =>
    obtain ⟨e1, e2⟩ := tx
    subst e2
    refine ⟨.inr ⟨rfl, rfl, e1⟩, by rw [e1, Z1N, List.length_replicate]; omega, .inl (by rw [e1]; rfl), by rw [e1]; exact Y2X l, fun z hz => (by cases hz), Nat.le_refl _, fun x s e => by cases e⟩
  | cons x s =>
    obtain ⟨x1, x2⟩ := hX x s rfl
    obtain ⟨z1, z2, z3, z4, z5, z6, z7, z8, z9⟩ := Z6p h.gx x1 hn tx
    have hxr := h.gx x (by simp)
    refine ⟨.inl z1, z3, ?_, by rw [z5]; exact hxr.2.2.2, z7, z8, fun x' s' e => by injection e with e1 _; subst e1; exact z9⟩
    rw [z4]
    rcases Z0x hxr.1 with hk | hk | hk
    ·exact absurd hk x1
    ·exact .inr hk
    ·exact .inl hk
 obtain ⟨hXu, hol, hok, mo, gx', xl, xd⟩ := key
 have hdec : X'.length + Y'.length < X.length + (y :: t).length := by
  rcases hmin with hm | ⟨x, s, e, hm⟩
  ·have := y9 hm; omega
  ·have := xd x s e hm; omega
 have hpast : mayP l (Z2l f q.o.p o.o.p) = 0 := Z6o mq
 have heq := h.eq
 rw [y1] at heq
 have hkk := h.k
 rw [y1, Z2w] at hkk
 have hcnt : K + 2 * (X'.length + Y'.length) + 2 + insN (Z0d (osOf X')) + insN (Z0d (osOf Y')) ≤ P := by
  have : insN (Z0d (osOf X')) ≤ insN (Z0d (osOf X)) := by
   rcases hXu with hX | ⟨rfl, rfl, _⟩
   ·rw [hX, Z2w]; omega
   ·exact Nat.le_refl _
  omega
 have main : ∃ W, Told (Z31 f m n o.o q.o) (us ++ W) ∧ us ++ W ++ traU f (Z0d (osOf X')) (Z0d (osOf Y')) = T := by
  have hW : ∀ W, traU f (Z0d (osOf X)) (Z0h q.o ++ Z0d (osOf Y')) = W ++ traU f (Z0d (osOf X')) (Z0d (osOf Y')) → us ++ W ++ traU f (Z0d (osOf X')) (Z0d (osOf Y')) = T ∧ us.length + W.length ≤ T.length := fun W hW => by
   rw [hW, ← List.append_assoc] at heq
   refine ⟨heq, ?_⟩
   have := congrArg List.length heq
   rw [List.length_append, List.length_append] at this; omega
  have hone : ∃ v, Z0h q.o = List.replicate n v ∧ (v = .del ∨ ∃ q, v = .ret q) := by
   rcases hqk with k | k
   ·have e := Z3U k; rw [y3] at e; exact ⟨_, e, .inr ⟨_, rfl⟩⟩
   ·have e := Z3T k; rw [y3] at e; exact ⟨_, e, .inl rfl⟩
  rcases hok with ok | ok
  ·have er := Z3U ok
   rw [hol] at er
   have hn3 : ¬ o.o.k = 3 := by rw [ok]; decide
   rcases hqk with k | k
   ·have eq := Z3U k
    rw [y3] at eq
    have hm : Z31 f m n o.o q.o = Z0D m n (Z2l f q.o.p o.o.p) := by unfold Z31; rw [if_neg hn3, if_neg (by rw [k]; decide)]
    have hh : traU f (Z0d (osOf X)) (Z0h q.o ++ Z0d (osOf Y')) = List.replicate n (.ret (Z2l f q.o.p o.o.p)) ++ traU f (Z0d (osOf X')) (Z0d (osOf Y')) := by
     rcases hXu with hX | ⟨rfl, rfl, e⟩
     ·rw [hX, er, eq, Z67]
     ·rw [e, eq, show Z0d (osOf []) = [] from rfl, Z1Q, Z1Q]
      show _ = List.replicate n (Un.ret (Z2l f q.o.p [])) ++ _
      rw [Y0g]
    obtain ⟨h1, h2⟩ := hW _ hh
    rw [List.length_replicate] at h2
    refine ⟨_, ?_, h1⟩
    rw [hm]
    have := h.told.retain (n : Int) (Z2l f q.o.p o.o.p) (by omega)
    rwa [Int.toNat_natCast] at this
   ·have eq := Z3T k
    rw [y3] at eq
    have hm : Z31 f m n o.o q.o = Z1M m n := by unfold Z31; rw [if_neg hn3, if_pos k]
    have hh : traU f (Z0d (osOf X)) (Z0h q.o ++ Z0d (osOf Y')) = List.replicate n .del ++ traU f (Z0d (osOf X')) (Z0d (osOf Y')) := by
     rcases hXu with hX | ⟨rfl, rfl, e⟩
     ·rw [hX, er, eq, Z66]
     ·rw [eq, show Z0d (osOf []) = [] from rfl, Z1Q, Z1Q]
    obtain ⟨h1, h2⟩ := hW _ hh
    rw [List.length_replicate] at h2
    refine ⟨_, ?_, h1⟩
    rw [hm]
    have := h.told.delete (n : Int) (by omega) (by omega)
    rwa [Int.toNat_natCast] at this
  ·have er := Z3T ok
   rw [hol] at er
   obtain ⟨v, hv, hv2⟩ := hone
   have hm : Z31 f m n o.o q.o = m := by unfold Z31; rw [if_pos ok]
   have hX : Z0d (osOf X) = Z0h o.o ++ Z0d (osOf X') := by
    rcases hXu with hX | ⟨_, _, e⟩
    ·exact hX
    ·rw [e] at ok; cases ok
   have hh : traU f (Z0d (osOf X)) (Z0h q.o ++ Z0d (osOf Y')) = [] ++ traU f (Z0d (osOf X')) (Z0d (osOf Y')) := by
    rw [hX, er, hv, Z7L f _ _ v hv2]; rfl
   obtain ⟨h1, h2⟩ := hW _ hh
   refine ⟨[], ?_, h1⟩
   rw [hm, List.append_nil]; exact h.told
 obtain ⟨W, m1, m2⟩ := main
 have hB : MkB (Z31 f m n o.o q.o) (K + 2) 64 := by
  unfold Z31
  split
  ·exact h.b.mono (by omega) (Nat.le_refl _)
  ·split
   ·exact (h.b.delete _).mono (by omega) (Nat.le_refl _)
   ·exact h.b.retain _ (Z0U hpast).1
 exact ⟨us ++ W, K + 2, ⟨m1, hB, by omega, m2, gx', y7⟩, hdec, hok, hqk, by omega, (Z0U mo).1, (Z0U mq).1, (Z0U hpast).1⟩
theorem TQ.end_ {l : List Ky} {f : Bool} {T : List Un} {P : Nat} {X : List OpS} {m : Mk} {us : List Un} {K : Nat} (h : TQ l f T P X [] m us K) : us = T := by
 have := h.eq
 rw [show Z0d (osOf []) = [] from rfl, Z2d, List.append_nil] at this
 exact this
def Z05 : List Un → List Int
 | [] => []
 | .ins r _ :: us => r :: Z05 us
 | _ :: us => Z05 us
def Z1I : List Un → Nat
 | [] => 0
 | .del :: us => Z1I us + 1
 | _ :: us => Z1I us
theorem Z1D (a b : List Un) : Z05 (a ++ b) = Z05 a ++ Z05 b := by
 induction a with
 | nil => rfl
 | cons u a ih => cases u <;> simp [Z05, ih]
theorem Z2h (a b : List Un) : Z1I (a ++ b) = Z1I a + Z1I b := by
 induction a with
 | nil => simp [Z1I]
 | cons u a ih => cases u <;> simp [Z1I, ih] <;> omega
theorem Z6q (k : Nat) (p : List Ch) : Z05 (List.replicate k (.ret p)) = [] := by induction k with | zero => rfl | succ k ih => rw [List.replicate_succ]; exact ih
theorem Z4e (k : Nat) : Z05 (List.replicate k .del) = [] := by induction k with | zero => rfl | succ k ih => rw [List.replicate_succ]; exact ih
theorem Y1m (k : Nat) (p : List Ch) : Z1I (List.replicate k (.ret p)) = 0 := by induction k with | zero => rfl | succ k ih => rw [List.replicate_succ]; exact ih
theorem Z69 (k : Nat) : Z1I (List.replicate k .del) = k := by
 induction k with
 | zero => rfl
 | succ k ih => rw [List.replicate_succ]; show Z1I _ + 1 = _; rw [ih]
theorem Y1n (r : List Int) (s : List At) : Z05 (r.map (fun r => Un.ins r s)) = r := by
 induction r with
 | nil => rfl
 | cons a r ih => show a :: Z05 _ = _; rw [ih]
theorem Z5J : ∀ (us I : List Un) (g : Nat), Z05 (cn us I g) = Z05 I ++ Z05 us ∧ Z1I (cn us I g) = Z1I I + g + Z1I us
 | [], I, g => by rw [cn, Z1D, Z2h, Z4e, Z69]; exact ⟨rfl, rfl⟩
 | .ins r s :: us, I, g => by
   obtain ⟨h1, h2⟩ := Z5J us (I ++ [.ins r s]) g
   rw [cn, h1, h2, Z1D, Z2h]
   refine ⟨by simp [Z05], ?_⟩
   show Z1I I + 0 + g + Z1I us = Z1I I + g + Z1I us
   omega
 | .del :: us, I, g => by
   obtain ⟨h1, h2⟩ := Z5J us I (g + 1)
   rw [cn, h1, h2]
   refine ⟨rfl, ?_⟩
   show _ = Z1I I + g + (Z1I us + 1)
   omega
 | .ret p :: us, I, g => by
   obtain ⟨h1, h2⟩ := Z5J us [] 0
   rw [cn, Z1D, Z1D, Z2h, Z2h, Z4e, Z69]
   refine ⟨?_, ?_⟩
   ·show Z05 I ++ [] ++ Z05 (cn us [] 0) = _
    rw [h1, List.append_nil]; rfl
   ·show Z1I I + g + Z1I (cn us [] 0) = Z1I I + g + Z1I us
    rw [h2]
    show Z1I I + g + (0 + 0 + Z1I us) = _
    omega
theorem Y0j (us : List Un) : Z05 (nf us) = Z05 us ∧ Z1I (nf us) = Z1I us := by
 obtain ⟨k, hk⟩ := Z4x (Z2i us)
 obtain ⟨h1, h2⟩ := Z5J us [] 0
 have h1' : Z05 (Z2i us) = Z05 us := h1
 have h2' : Z1I (Z2i us) = Z1I us := by show Z1I (cn us [] 0) = _; rw [h2]; show 0 + 0 + Z1I us = _; omega
 rw [hk, Z1D, Z6q, List.append_nil] at h1'
 rw [hk, Z2h, Y1m] at h2'
 exact ⟨h1', h2'⟩
theorem Y2Y (f : Bool) : ∀ vs us, Z05 (traU f us vs) = Z05 vs ∧ Z1I (traU f us vs) ≤ Z1I vs := by
 refine Z4E f ?_ ?_ ?_ ?_ ?_ ?_ ?_ ?_
 ·intro us; rw [Z2d]; exact ⟨rfl, Nat.le_refl _⟩
 ·intro vs; rw [Z1Q]; exact ⟨rfl, Nat.le_refl _⟩
 ·intro r s us v vs e ih; rw [e]; exact ih
 ·intro u us r s vs e ih; rw [e]; exact ⟨congrArg (List.cons r) ih.1, ih.2⟩
 ·intro us vs ih; rw [Z5a]; exact ⟨ih.1, Nat.le_trans ih.2 (Nat.le_succ _)⟩
 ·intro us q vs ih; rw [Z5b]; exact ih
 ·intro p us vs ih; rw [Z5c]; exact ⟨ih.1, Nat.succ_le_succ ih.2⟩
 ·intro p us q vs ih; rw [Z5d]; exact ih
def posU (after : Bool) : List Un → Nat → Nat
 | [], r => r
 | .ins _ _ :: us, 0 => if after = true then posU after us 0 + 1 else 0
 | .ins _ _ :: us, r + 1 => posU after us (r + 1) + 1
 | .del :: _, 0 => 0
 | .del :: us, r + 1 => posU after us r
 | .ret _ :: _, 0 => 0
 | .ret _ :: us, r + 1 => posU after us r + 1
theorem Z5K (a : Bool) : ∀ (us : List Un) (r q : Nat), r ≤ q → posU a us r ≤ posU a us q
 | [], r, q, h => h
 | .ins c s :: us, 0, 0, h => Nat.le_refl _
 | .ins c s :: us, 0, q + 1, h => by
   have := Z5K a us 0 (q + 1) (Nat.zero_le _)
   simp only [posU]
   split <;> omega
 | .ins c s :: us, r + 1, 0, h => by omega
 | .ins c s :: us, r + 1, q + 1, h => by have := Z5K a us (r + 1) (q + 1) h; simp only [posU]; omega
 | .del :: us, 0, q, h => by simp only [posU]; exact Nat.zero_le _
 | .del :: us, r + 1, 0, h => by omega
 | .del :: us, r + 1, q + 1, h => by simp only [posU]; exact Z5K a us r q (by omega)
 | .ret p :: us, 0, q, h => by simp only [posU]; exact Nat.zero_le _
 | .ret p :: us, r + 1, 0, h => by omega
 | .ret p :: us, r + 1, q + 1, h => by have := Z5K a us r q (by omega); simp only [posU]; omega
theorem Z6r : ∀ (us : List Un) (r : Nat), posU false us r ≤ posU true us r
 | [], r => Nat.le_refl _
 | .ins c s :: us, 0 => by simp only [posU]; exact Nat.zero_le _
 | .ins c s :: us, r + 1 => by have := Z6r us (r + 1); simp only [posU]; omega
 | .del :: us, 0 => Nat.le_refl _
 | .del :: us, r + 1 => by simp only [posU]; exact Z6r us r
 | .ret p :: us, 0 => Nat.le_refl _
 | .ret p :: us, r + 1 => by have := Z6r us r; simp only [posU]; omega
theorem Z7a (a : Bool) : ∀ (us : List Un) (r : Nat), posU a us r ≤ r + us.length
 | [], r => Nat.le_refl _
 | .ins c s :: us, 0 => by have := Z7a a us 0; simp only [posU, List.length_cons]; split <;> omega
 | .ins c s :: us, r + 1 => by have := Z7a a us (r + 1); simp only [posU, List.length_cons]; omega
 | .del :: us, 0 => Nat.zero_le _
 | .del :: us, r + 1 => by have := Z7a a us r; simp only [posU, List.length_cons]; omega
 | .ret p :: us, 0 => Nat.zero_le _
 | .ret p :: us, r + 1 => by have := Z7a a us r; simp only [posU, List.length_cons]; omega
theorem Y4y (after : Bool) : ∀ us : List Un, (after = false ∨ ∀ u t, us = u :: t → Z0n u = false) → posU after us 0 = 0
 | [], _ => rfl
 | .ins r s :: us, h => by
   rcases h with rfl | h
   ·rfl
   ·have := h _ _ rfl; cases this
 | .del :: us, _ => rfl
 | .ret p :: us, _ => rfl
theorem Y2Z (a : Bool) (us : List Un) (s : List At) (q : Nat) (h : 0 < q ∨ a = true) : ∀ r : List Int, posU a (r.map (fun r => Un.ins r s) ++ us) q = r.length + posU a us q
 | [] => by simp
 | c :: r => by
   have ih := Y2Z a us s q h r
   show posU a (.ins c s :: (r.map (fun r => Un.ins r s) ++ us)) q = _
   cases q with
   | zero =>
     have ha : a = true := by rcases h with h | h; omega; exact h
     simp only [posU, if_pos ha, ih, List.length_cons]; omega
   | succ q => simp only [posU, ih, List.length_cons]; omega
theorem Y0k (a : Bool) (us : List Un) : ∀ k q : Nat, k ≤ q → posU a (List.replicate k .del ++ us) q = posU a us (q - k)
 | 0, q, _ => by simp
 | k + 1, 0, h => by omega
 | k + 1, q + 1, h => by
   rw [List.replicate_succ]
   show posU a (List.replicate k .del ++ us) q = _
   rw [Y0k a us k q (by omega)]
   congr 1; omega
theorem Z8w (a : Bool) (us : List Un) : ∀ k q : Nat, q < k → posU a (List.replicate k .del ++ us) q = 0
 | 0, q, h => by omega
 | k + 1, 0, _ => rfl
 | k + 1, q + 1, h => by
   rw [List.replicate_succ]
   exact Z8w a us k q (by omega)
theorem Y0l (a : Bool) (p : List Ch) (us : List Un) : ∀ k q : Nat, k ≤ q → posU a (List.replicate k (.ret p) ++ us) q = k + posU a us (q - k)
 | 0, q, _ => by simp
 | k + 1, 0, h => by omega
 | k + 1, q + 1, h => by
   rw [List.replicate_succ]
   show posU a (List.replicate k (.ret p) ++ us) q + 1 = _
   rw [Y0l a p us k q (by omega), show q + 1 - (k + 1) = q - k by omega]; omega
theorem Z8x (a : Bool) (p : List Ch) (us : List Un) : ∀ k q : Nat, q < k → posU a (List.replicate k (.ret p) ++ us) q = q
 | 0, q, h => by omega
 | k + 1, 0, _ => rfl
 | k + 1, q + 1, h => by
   rw [List.replicate_succ]
   show posU a (List.replicate k (.ret p) ++ us) q + 1 = _
   rw [Z8x a p us k q (by omega)]
theorem Z4G (us : List Un) : Z0p (nf us) ≤ Z0p us := by
 obtain ⟨k, hk⟩ := Z4x (Z2i us)
 have h1 := congrArg Z0p hk
 rw [Z0E, Z57] at h1
 show Z0p (trim (Z2i us)) ≤ _
 omega
theorem Y20 {l : List Ky} {x : List OpS} {us : List Un} (hx : osOf x = mkU us) (hm : ∀ u ∈ us, mU l u) (ht : Z0k us ≤ 536870912) (hk : Z0p us ≤ 536870912) (hb : x.length ≤ 1048576) : Z0Z x ≤ 536870912 ∧ Z1i x ≤ 536870912 ∧ Z0Z x = Z0k (nf us) ∧ Z1i x = Z0p (nf us) := by
 have hi := Z2N hx
 have hu := Z1v hx
 have h1 := Z5C us
 have h2 := Z4G us
 have g : goodO l x := Z44 hi (by rw [hu]; exact Z3m (P := mU l) trivial hm) (by rw [hu]; omega) (by rw [hu]; omega)
 obtain ⟨s1, s2⟩ := Z1a x hi
 rw [hu] at s1 s2
 rw [Z1m g hb, Z1A g hb]
 omega
theorem Z3g : ∀ us : List Un, Z0p us ≤ (Z05 us).length + Z0k us
 | [] => Nat.le_refl _
 | .ins r s :: us => by have := Z3g us; show Z0p us + 1 ≤ (Z05 us).length + 1 + Z0k us; omega
 | .del :: us => by have := Z3g us; show Z0p us ≤ (Z05 us).length + (Z0k us + 1); omega
 | .ret p :: us => by have := Z3g us; show Z0p us + 1 ≤ (Z05 us).length + (Z0k us + 1); omega
theorem Y0m : ∀ x : List OpS, (Z05 (Z0d (osOf x))).length ≤ szX x
 | [] => Nat.le_refl _
 | o :: x => by
   have ih := Y0m x
   have e : Z0d (osOf (o :: x)) = Z0h o.o ++ Z0d (osOf x) := rfl
   have e2 : szX (o :: x) = szO o.o + szX x := rfl
   rw [e, e2, Z1D, List.length_append]
   have h : (Z05 (Z0h o.o)).length ≤ szO o.o := by
    unfold Z0h
    split
    ·rw [Y1n]; unfold szO; omega
    ·split
     ·rw [Z6q]; exact Nat.zero_le _
     ·rw [Z4e]; exact Nat.zero_le _
   omega
theorem Y21 (l : List Ky) {us : List Un} {d : List Cl} (h : Z0k us ≤ d.length) : (app l us d).length ≤ d.length + (Z05 us).length := by
 have h1 := Z2j l us d h
 have h2 := Z3g us
 omega
theorem Z8y {l : List Ky} {z : List OpS} {us : List Un} {d : List Cl} {N : Nat} (hz : osOf z = mkU us) (hb : z.length ≤ 1048576) (hd : mayD l d = 0) (hf : FitU l us d.length N) (hN : N ≤ 536870912) (ha : (app l us d).length ≤ N) {most : Int} (hm : (d.length : Int) ≤ most) :
 ((((app l us d).length : Nat) : Int) ≤ most → ∃ N2 : Nat, N2 ≤ N ∧ Z0F l z d most = 0 ∧ Z0F l z d (N2 : Int) = 0 ∧ app l (Z0d (osOf z)) d = app l us d) ∧ (most < ((app l us d).length : Int) → Z0F l z d most = 8) := by
 have hl := Z2j l us d hf.t
 refine ⟨fun h => ?_, fun h => ?_⟩
 ·have hf2 : FitU l us d.length (max d.length (app l us d).length) := ⟨hf.v, hf.t, hf.n1, Nat.le_max_left _ _, hf.f, by have := Nat.le_max_right d.length (app l us d).length; omega, hf.tb, hf.mb⟩
  have hn := hf.nm
  obtain ⟨h1, h2, h3⟩ := Y2L (most := most) hz hb hd hf2 (Nat.max_le.2 ⟨by omega, by omega⟩) (by omega)
  exact ⟨_, Nat.max_le.2 ⟨hn, ha⟩, h1, h2, h3⟩
 ·obtain ⟨h1, _, h3⟩ := Y2L (N := N) (most := (N : Int)) hz hb hd hf hN (Int.le_refl _)
  obtain ⟨h4, h5⟩ := Z1T h1
  obtain ⟨g1, g2, g3, g4, g5, g6, g7⟩ := Z10 h5
  obtain ⟨m1, m2, m3⟩ := Z02 g1
  obtain ⟨s1, s2⟩ := Z1a z (Z0O m1)
  have hn := hf.nm
  have hlo := Z5D (n := (d.length : Int)) m1 hb (by omega) (by omega) m2 m3
  have ht : Z0k (Z0d (osOf z)) ≤ d.length := by
   rw [Z1m m1 hb] at g4
   omega
  have hl2 := Z2j l (Z0d (osOf z)) d ht
  rw [h3] at hl2
  unfold Z0F
  rw [if_neg (by simpa using g1), if_neg (by simpa using h4)]
  unfold Z2E
  rw [if_neg (by simp [g1]), if_neg (by omega), if_neg (by simp [g5]), if_neg (by simp [g6]), if_pos (by rw [hlo]; omega)]
theorem Y4z (f : Bool) {l : List Ky} {ua ub : List Un} {d : List Cl} {m1 m2 : Nat} (hf : FitU l ua d.length m1) (hg : FitU l ub d.length m2) (hx : (app l ua d).length + (Z05 ub).length ≤ 10000) (hb : Z0p ua + Z0p ub ≤ 536870912) :
 FitU l (traU f (nf ua) (nf ub)) (app l ua d).length 10000 ∧ (app l (traU f (nf ua) (nf ub)) (app l ua d)).length ≤ 10000 := by
 have ht := Z8u l f (nf ub) (nf ua) d (Z4y hf).t (Z4y hg).t
 rw [Z6T] at ht
 have hr := Y21 l ht
 rw [(Y2Y f (nf ub) (nf ua)).1, (Y0j ub).1] at hr
 have h := Y5F (N := 10000) f (Z4y hf) (Z4y hg) (by rw [Z6T]; omega) (by rw [Z6T]; omega) (by omega) (by have h1 := Z4G ua; have h2 := Z4G ub; omega)
 rw [Z6T] at h
 exact ⟨h, by omega⟩
theorem In.makes {l : List Ky} {x : List OpS} {d : List Cl} {most : Int} {N : Nat} (h : In l x d most N) : Z0p (Z0d (osOf x)) ≤ 10000 := by
 have h1 := Z2j l (Z0d (osOf x)) d h.fit.t
 have h2 := h.an
 have h3 := h.n
 have h4 := h.fit.t
 omega
open Go.RowKit
theorem NewOps.opCV {m : Mk} {us : List Un} {K S : Nat} {w0 w w' : World} {e : Ending} (h : NewOps (Z1z m) w e w') (ht : Told m us) (hu : ∀ u ∈ us, okUn u) (hB : MkB m K S) (hK : K ≤ 900000) (hS : S ≤ 100000000) (hw : w0.heap.size ≤ w.heap.size) :
 ∃ A c x, e = .returned (.slice A x.length c) ∧ osOf x = mkU us ∧ OpsC w' A x.length c x ∧ WrO w' w0.heap.size A x.length c x ∧ Below w.heap.size w w' := by
 obtain ⟨A, c, x, he, hx, ho, hp, y⟩ := h
 obtain ⟨h1, h2⟩ := Z9f hx ht hu hB (by omega) hS
 obtain ⟨c1, c2⟩ := Z3f ho
 exact ⟨A, c, x, he, hx.trans (Z7H ht), ⟨⟨Z9g ho hp, rfl, h1, by omega⟩, c1, c2, fun z hz => by obtain ⟨g, hg⟩ := hp z hz; exact Z7I hg⟩, WrO.of (ho.base_le hw) (fun z hz => (hp z hz).imp fun g p => p.base_le hw), y⟩
end Go.Proofs.YtfnkjcodcoehcaaGreatDoor
