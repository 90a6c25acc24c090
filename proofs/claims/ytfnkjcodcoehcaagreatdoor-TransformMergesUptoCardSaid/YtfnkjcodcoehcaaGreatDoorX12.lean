/- Merged texts. -/
import Derived.Test.YtfnkjcodcoehcaaGreatDoorX11
namespace Go.Proofs.YtfnkjcodcoehcaaGreatDoor
open Go.RowKit
set_option linter.unusedVariables false
set_option linter.unusedSimpArgs false
def goodO (l : List Ky) (x : List OpS) : Prop := ∀ o ∈ x, oneP l o.o = 0
theorem goodO.tail {l : List Ky} {o : OpS} {x : List OpS} (h : goodO l (o :: x)) : goodO l x := fun z hz => h z (List.mem_cons_of_mem _ hz)
theorem Z9X {l : List Ky} : ∀ (x : List OpS) (a : Int), (x.foldl (Z01 l) (false, a)).1 = false → (x.foldl (Z01 l) (false, a)).2 = 0 → a = 0 ∧ goodO l x
 | [], a, _, h => ⟨h, fun z hz => by cases hz⟩
 | o :: x, a, h1, h2 => by
   rw [List.foldl_cons] at h1 h2
   unfold Z01 at h1 h2
   simp only [Bool.false_eq_true, if_false] at h1 h2
   by_cases h3 : oneP l o.o = 3
   ·rw [if_pos h3] at h1
    have := Z2J l 3 x
    unfold Z01 at this
    rw [this] at h1; cases h1
   ·rw [if_neg h3] at h1 h2
    obtain ⟨h4, h5⟩ := Z9X x _ h1 h2
    by_cases h0 : oneP l o.o = 0
    ·rw [if_pos h0] at h4
     refine ⟨h4, fun z hz => ?_⟩
     rcases List.mem_cons.1 hz with rfl | hz
     ·exact h0
     ·exact h5 z hz
    ·rw [if_neg h0] at h4; exact absurd h4 h0
theorem Z9Y {l : List Ky} : ∀ (x : List OpS), goodO l x → x.foldl (Z01 l) (false, 0) = (false, 0)
 | [], _ => rfl
 | o :: x, h => by
   rw [List.foldl_cons]
   have h0 := h o (by simp)
   have : Z01 l (false, 0) o = (false, 0) := by unfold Z01; simp [h0]
   rw [this]
   exact Z9Y x h.tail
theorem Z02 {l : List Ky} {x : List OpS} (h : mayO l x = 0) : goodO l x ∧ Z0Z x ≤ 536870912 ∧ Z1i x ≤ 536870912 := by
 unfold mayO at h
 cases h1 : (x.foldl (Z01 l) (false, 0)).1 with
 | true => rw [h1] at h; simp at h
 | false =>
   rw [h1] at h
   simp only [Bool.false_eq_true, if_false] at h
   by_cases h2 : Z0Z x ≤ 536870912 ∧ Z1i x ≤ 536870912
   ·rw [if_pos h2] at h; exact ⟨(Z9X x 0 h1 h).2, h2⟩
   ·rw [if_neg h2] at h; cases h
theorem Y2i {l : List Ky} {x : List OpS} (h : goodO l x) (h1 : Z0Z x ≤ 536870912) (h2 : Z1i x ≤ 536870912) : mayO l x = 0 := by
 unfold mayO
 rw [Z9Y x h]
 simp [h1, h2]
def tkI (o : Opd) : Int := if o.k = 2 then 0 else o.n
def mkI (o : Opd) : Int := if o.k = 3 then 0 else Z0V o
def sumT : List OpS → Int
 | [] => 0
 | o :: x => tkI o.o + sumT x
def sumM : List OpS → Int
 | [] => 0
 | o :: x => mkI o.o + sumM x
theorem Z1l {l : List Ky} {o : Opd} (h : oneP l o = 0) : Z2D o = true ∧ 1 ≤ Z0V o ∧ Z0V o ≤ 536870912 ∧ mayS l o.s = 0 ∧ mayP l o.p = 0 := by
 unfold oneP at h
 by_cases h1 : Z2D o = true ∧ 1 ≤ Z0V o ∧ Z0V o ≤ 536870912
 ·rw [if_pos h1] at h
  by_cases h2 : mayS l o.s = 0
  ·rw [if_pos h2] at h; exact ⟨h1.1, h1.2.1, h1.2.2, h2, h⟩
  ·rw [if_neg h2] at h; exact absurd h h2
 ·rw [if_neg h1] at h; cases h
theorem Y04 {o : Opd} (h : Z2D o = true) : o.k = 1 ∨ o.k = 2 ∨ o.k = 3 := by
 unfold Z2D at h
 by_cases h1 : o.k = 1
 ·exact .inl h1
 rw [if_neg h1] at h
 by_cases h3 : o.k = 3
 ·exact .inr (.inr h3)
 rw [if_neg h3] at h
 by_cases h2 : o.k = 2
 ·exact .inr (.inl h2)
 rw [if_neg h2] at h; cases h
theorem Z9Z {l : List Ky} {o : Opd} (h : oneP l o = 0) : (o.k = 2 ∧ tkI o = 0 ∧ 1 ≤ mkI o ∧ mkI o ≤ 536870912) ∨ (o.k = 3 ∧ tkI o = o.n ∧ 1 ≤ o.n ∧ o.n ≤ 536870912 ∧ mkI o = 0) ∨ (o.k = 1 ∧ tkI o = o.n ∧ 1 ≤ o.n ∧ o.n ≤ 536870912 ∧ mkI o = o.n) := by
 obtain ⟨f, h1, h2, _, _⟩ := Z1l h
 unfold tkI mkI
 unfold Z0V at *
 rcases Y04 f with hk | hk | hk <;> rw [hk] at h1 h2 ⊢ <;> simp at h1 h2 ⊢ <;> omega
theorem sums {l : List Ky} : ∀ (x : List OpS), goodO l x → 0 ≤ sumT x ∧ sumT x ≤ 536870912 * (x.length : Int) ∧ 0 ≤ sumM x ∧ sumM x ≤ 536870912 * (x.length : Int)
 | [], _ => by simp [sumT, sumM]
 | o :: x, h => by
   obtain ⟨a, b, c, d⟩ := sums x h.tail
   have := Z9Z (h o (by simp))
   simp only [sumT, sumM, List.length_cons]
   push_cast
   omega
theorem Y4Y {l : List Ky} : ∀ (x : List OpS) (a : Int), goodO l x → 0 ≤ a → a + 536870912 * (x.length : Int) ≤ 4611686018427387904 → x.foldl Z1p a = a + sumT x
 | [], a, _, _, _ => by simp [sumT]
 | o :: x, a, h, h0, hb => by
   have hk := Z9Z (h o (by simp))
   simp only [List.length_cons] at hb
   push_cast at hb
   have e : Z1p a o = a + tkI o.o := by
    unfold Z1p
    by_cases h2 : o.o.k = 2
    ·rw [if_pos h2]; unfold tkI; rw [if_pos h2]; omega
    ·rw [if_neg h2]; unfold tkI; rw [if_neg h2]; exact IntWalk.i64_in _ (by omega)
   rw [List.foldl_cons, e, Y4Y x _ h.tail (by omega) (by omega)]
   simp only [sumT]; omega
theorem Y4Z {l : List Ky} : ∀ (x : List OpS) (a : Int), goodO l x → 0 ≤ a → a + 536870912 * (x.length : Int) ≤ 4611686018427387904 → x.foldl Z1L a = a + sumM x
 | [], a, _, _, _ => by simp [sumM]
 | o :: x, a, h, h0, hb => by
   have hk := Z9Z (h o (by simp))
   have hs := (Z1l (h o (by simp))).2
   simp only [List.length_cons] at hb
   push_cast at hb
   have e : Z1L a o = a + mkI o.o := by
    unfold Z1L
    by_cases h2 : o.o.k = 3
    ·rw [if_pos h2]; unfold mkI; rw [if_pos h2]; omega
    ·rw [if_neg h2]; unfold mkI; rw [if_neg h2]; exact IntWalk.i64_in _ (by omega)
   rw [List.foldl_cons, e, Y4Z x _ h.tail (by omega) (by omega)]
   simp only [sumM]; omega
theorem Z1m {l : List Ky} {x : List OpS} (h : goodO l x) (hb : x.length ≤ 1048576) : Z0Z x = sumT x := by
 unfold Z0Z; rw [Y4Y x 0 h (by omega) (by omega)]; omega
theorem Z1A {l : List Ky} {x : List OpS} (h : goodO l x) (hb : x.length ≤ 1048576) : Z1i x = sumM x := by
 unfold Z1i; rw [Y4Z x 0 h (by omega) (by omega)]; omega
def finR (n : Int) : Int → List OpS → Bool
 | _, [] => true
 | a, o :: x => if o.o.k = 2 then (decide (¬ a = n) && finR n a x) else if o.o.k = 3 ∧ a + o.o.n = n then false else finR n (a + o.o.n) x
theorem Z7B {l : List Ky} (n : Int) : ∀ (x : List OpS) (a : Int), goodO l x → 0 ≤ a → a + 536870912 * (x.length : Int) ≤ 4611686018427387904 → (x.foldl (Z0z n) (true, a)).1 = finR n a x
 | [], a, _, _, _ => rfl
 | o :: x, a, h, h0, hb => by
   have hk := Z9Z (h o (by simp))
   simp only [List.length_cons] at hb
   push_cast at hb
   rw [List.foldl_cons]
   unfold Z0z finR
   simp only [Bool.true_eq_false, if_false]
   by_cases h2 : o.o.k = 2
   ·rw [if_pos h2, if_pos h2]
    by_cases ha : a = n
    ·have := Z1R n a x
     unfold Z0z at this
     simp only [ha] at this ⊢
     simp only [not_true_eq_false, decide_false, Bool.false_and]
     rw [this]
    ·simp only [ha, not_false_eq_true, decide_true, Bool.true_and]
     exact Z7B n x a h.tail h0 (by omega)
   ·have e : IntKind.i64.wrap (a + o.o.n) = a + o.o.n := IntWalk.i64_in _ (by omega)
    rw [if_neg h2, if_neg h2, e]
    by_cases h3 : o.o.k = 3 ∧ a + o.o.n = n
    ·rw [if_pos h3, if_pos h3]
     have := Z1R n a x
     unfold Z0z at this
     rw [this]
    ·rw [if_neg h3, if_neg h3]
     exact Z7B n x _ h.tail (by omega) (by omega)
theorem Y2j {l : List Ky} {x : List OpS} (n : Int) (h : goodO l x) (hb : x.length ≤ 1048576) : Z2t n x = finR n 0 x := by
 unfold Z2t; exact Z7B n x 0 h (by omega) (by omega)
theorem Z5D {l : List Ky} {x : List OpS} {n : Int} (h : goodO l x) (hb : x.length ≤ 1048576) (h0 : 0 ≤ n) (h1 : n ≤ 4294967296) (ht : Z0Z x ≤ 536870912) (hm : Z1i x ≤ 536870912) : Z4a n x = n - sumT x + sumM x := by
 have hs := sums x h
 have et := Z1m h hb
 have em := Z1A h hb
 unfold Z4a
 rw [et] at ht ⊢
 rw [em] at hm ⊢
 rw [IntWalk.i64_in (n - sumT x) (by omega), IntWalk.i64_in _ (by omega)]
theorem Z10 {l : List Ky} {x : List OpS} {n most : Int} (h : Z2E l x n most = 0) : mayO l x = 0 ∧ 1 ≤ n ∧ n ≤ most ∧ Z0Z x ≤ n ∧ Z2t n x = true ∧ Z1G l x = true ∧ Z4a n x ≤ most := by
 unfold Z2E at h
 by_cases h1 : ¬ mayO l x = 0
 ·rw [if_pos h1] at h; exact absurd h h1
 rw [if_neg h1] at h
 by_cases h2 : n < 1 ∨ most < n ∨ n < Z0Z x
 ·rw [if_pos h2] at h; cases h
 rw [if_neg h2] at h
 by_cases h3 : Z2t n x = false
 ·rw [if_pos h3] at h; cases h
 rw [if_neg h3] at h
 by_cases h4 : Z1G l x = false
 ·rw [if_pos h4] at h; cases h
 rw [if_neg h4] at h
 by_cases h5 : most < Z4a n x
 ·rw [if_pos h5] at h; cases h
 exact ⟨by omega, by omega, by omega, by omega, by simpa using h3, by simpa using h4, by omega⟩
theorem Z6f {l : List Ky} {x : List OpS} {n most : Int} (h1 : mayO l x = 0) (h2 : 1 ≤ n) (h3 : n ≤ most) (h4 : Z0Z x ≤ n) (h5 : Z2t n x = true) (h6 : Z1G l x = true) (h7 : Z4a n x ≤ most) : Z2E l x n most = 0 := by
 unfold Z2E
 rw [if_neg (by simp [h1]), if_neg (by omega), if_neg (by simp [h5]), if_neg (by simp [h6]), if_neg (by omega)]
def okCl (l : List Ky) (c : Cl) : Prop := mayR c.r = true ∧ mayS l c.s = 0 ∧ Z1x l (!(c.r == 10)) c.s = []
def vU (l : List Ky) : Un → Prop
 | .ins r s => okCl l ⟨r, s⟩
 | .del => True
 | .ret p => mayP l p = 0
def mU (l : List Ky) : Un → Prop
 | .ins r s => mayR r = true ∧ mayS l s = 0
 | .del => True
 | .ret p => mayP l p = 0
def finU (n : Nat) : Nat → List Un → Bool
 | _, [] => true
 | a, .ins _ _ :: us => decide (a ≠ n) && finU n a us
 | a, .del :: us => decide (a + 1 ≠ n) && finU n (a + 1) us
 | a, .ret _ :: us => finU n (a + 1) us
theorem Z1B (n : Nat) : ∀ (us vs : List Un) (a : Nat), finU n a (us ++ vs) = (finU n a us && finU n (a + Z0k us) vs)
 | [], vs, a => by simp [finU, Z0k]
 | .ins r s :: us, vs, a => by show (decide (a ≠ n) && finU n a (us ++ vs)) = _; rw [Z1B n us vs a, Z1k, finU, Bool.and_assoc]
 | .del :: us, vs, a => by
   show (decide (a + 1 ≠ n) && finU n (a + 1) (us ++ vs)) = _
   rw [Z1B n us vs (a + 1), Z07, finU, Bool.and_assoc]
   congr 3; omega
 | .ret p :: us, vs, a => by
   show finU n (a + 1) (us ++ vs) = _
   rw [Z1B n us vs (a + 1), Z0Q, finU]
   congr 2; omega
theorem Z6g {l : List Ky} {o : Opd} (h : oneP l o = 0) : isOp o := by
 obtain ⟨h1, h2, h3, h4, h5⟩ := Z1l h
 obtain ⟨k, n, r, s, p⟩ := o
 unfold Z2D at h1
 unfold Z0V at h2
 simp only at h1 h2
 by_cases k1 : k = 1
 ·subst k1
  rw [if_pos rfl] at h1
  have := of_decide_eq_true h1
  rw [if_neg (by decide)] at h2
  exact .inr (.inr ⟨rfl, h2, List.eq_nil_of_length_eq_zero this.1, List.eq_nil_of_length_eq_zero this.2⟩)
 ·rw [if_neg k1] at h1
  by_cases k3 : k = 3
  ·subst k3
   rw [if_pos rfl] at h1
   have := of_decide_eq_true h1
   rw [if_neg (by decide)] at h2
   exact .inr (.inl ⟨rfl, h2, List.eq_nil_of_length_eq_zero this.1.1, List.eq_nil_of_length_eq_zero this.1.2, List.eq_nil_of_length_eq_zero this.2⟩)
  ·rw [if_neg k3] at h1
   by_cases k2 : k = 2
   ·subst k2
    rw [if_pos rfl] at h1 h2
    have := of_decide_eq_true (Bool.and_eq_true_iff.1 h1).1
    exact .inl ⟨rfl, this.1, by intro e; simp only at e; subst e; simp at h2, List.eq_nil_of_length_eq_zero this.2⟩
   ·rw [if_neg k2] at h1; cases h1
theorem Z90 {l : List Ky} {o : Opd} (h : oneP l o = 0) (hk : o.k = 2) : ∀ r ∈ o.r, mayR r = true := by
 obtain ⟨h1, _⟩ := Z1l h
 unfold Z2D at h1
 rw [if_neg (by rw [hk]; decide), if_neg (by rw [hk]; decide), if_pos hk] at h1
 have := (Bool.and_eq_true_iff.1 h1).2
 intro r hr
 rw [Bool.not_eq_true', List.any_eq_false] at this
 simpa using this r hr
theorem Z87 {l : List Ky} {o : Opd} : oneP l o = 0 ↔ isOp o ∧ Z0V o ≤ 536870912 ∧ ∀ u ∈ Z0h o, mU l u := by
 constructor
 ·intro h
  obtain ⟨h1, h2, h3, h4, h5⟩ := Z1l h
  refine ⟨Z6g h, h3, fun u hu => ?_⟩
  rcases Z0x (Z6g h) with hk | hk | hk
  ·unfold Z0h at hu
   rw [if_pos hk] at hu
   obtain ⟨r, hr, rfl⟩ := List.mem_map.1 hu
   exact ⟨Z90 h hk r hr, h4⟩
  ·unfold Z0h at hu
   rw [if_neg (by rw [hk]; decide), if_neg (by rw [hk]; decide)] at hu
   rw [(List.mem_replicate.1 hu).2]; trivial
  ·unfold Z0h at hu
   rw [if_neg (by rw [hk]; decide), if_pos hk] at hu
   rw [(List.mem_replicate.1 hu).2]; exact h5
 ·rintro ⟨h1, h2, h3⟩
  have m0 : mayS l [] = 0 := by simp [mayS, Z1H, rise]
  have p0 : mayP l [] = 0 := by simp [mayP, Z1W, rise]
  rcases Z0x h1 with hk | hk | hk
  ·obtain ⟨e, hr⟩ := Z13 h1 hk
   obtain ⟨k, n, r, s, p⟩ := o
   rw [e] at h2 h3 ⊢
   simp only at hr
   have hu : ∀ x ∈ r, mayR x = true ∧ mayS l s = 0 := fun x hx => h3 (.ins x s) (by rw [Z2a]; exact List.mem_map.2 ⟨x, hx, rfl⟩)
   obtain ⟨x, hx⟩ := List.exists_mem_of_ne_nil r hr
   have hform : Z2D (opI r s) = true := by
    have hany : r.any (fun r => !mayR r) = false := List.any_eq_false.2 (fun y hy => by simp [(hu y hy).1])
    show (if (2 : Int) = 1 then _ else if (2 : Int) = 3 then _ else if (2 : Int) = 2 then (decide ((0 : Int) = 0 ∧ ([] : List Ch).length = 0) && !r.any (fun r => !mayR r)) else false) = true
    rw [if_neg (by decide), if_neg (by decide), if_pos rfl, hany]
    rfl
   have hsz : 1 ≤ Z0V (opI r s) := by
    show 1 ≤ (if (2 : Int) = 2 then (r.length : Int) else 0)
    rw [if_pos rfl]
    have : r.length ≠ 0 := fun h0 => hr (List.eq_nil_of_length_eq_zero h0)
    omega
   unfold oneP
   rw [if_pos ⟨hform, hsz, h2⟩, if_pos (show mayS l (opI r s).s = 0 from (hu x hx).2)]
   exact p0
  ·obtain ⟨e, hn⟩ := Z14 h1 hk
   obtain ⟨k, n, r, s, p⟩ := o
   simp only at hn
   rw [e] at h2 ⊢
   unfold oneP
   rw [if_pos ⟨by simp [Z2D, opD], by unfold Z0V opD; simp only; rw [if_neg (by decide)]; exact hn, h2⟩, if_pos (show mayS l (opD n).s = 0 from m0)]
   exact p0
  ·obtain ⟨e, hn⟩ := Z1K h1 hk
   obtain ⟨k, n, r, s, p⟩ := o
   simp only at hn
   rw [e] at h2 h3 ⊢
   have hp : mayP l p = 0 := h3 (.ret p) (by
    rw [Z1N]
    simp only at hn ⊢
    exact List.mem_replicate.2 ⟨by omega, rfl⟩)
   unfold oneP
   rw [if_pos ⟨by simp [Z2D, opR], by unfold Z0V opR; simp only; rw [if_neg (by decide)]; exact hn, h2⟩, if_pos (show mayS l (opR n p).s = 0 from m0)]
   exact hp
theorem Z4u {o : Opd} (h : isOp o) : (Z0k (Z0h o) : Int) = tkI o ∧ (Z0p (Z0h o) : Int) = mkI o := by
 have hi : ∀ (r : List Int) (s : List At), Z0k (r.map (fun r => Un.ins r s)) = 0 ∧ Z0p (r.map (fun r => Un.ins r s)) = r.length := by
  intro r s
  induction r with
  | nil => exact ⟨rfl, rfl⟩
  | cons a r ih => exact ⟨ih.1, by show Z0p _ + 1 = _; rw [ih.2]; rfl⟩
 have hr : ∀ (k : Nat) (p : List Ch), Z0k (List.replicate k (.ret p)) = k ∧ Z0p (List.replicate k (.ret p)) = k := by
  intro k p
  induction k with
  | zero => exact ⟨rfl, rfl⟩
  | succ k ih => rw [List.replicate_succ]; exact ⟨by rw [Z0Q, ih.1], by rw [Z1O, ih.2]⟩
 rcases Z0x h with hk | hk | hk
 ·obtain ⟨e, hr⟩ := Z13 h hk
  rw [e, Z2a]
  exact ⟨by rw [(hi _ _).1]; rfl, by rw [(hi _ _).2]; rfl⟩
 ·obtain ⟨e, hn⟩ := Z14 h hk
  rw [e, Z3L, Z2p, Z3M]
  exact ⟨by show ((o.n.toNat : Nat) : Int) = o.n; omega, rfl⟩
 ·obtain ⟨e, hn⟩ := Z1K h hk
  rw [e, Z1N, (hr _ _).1, (hr _ _).2]
  exact ⟨by show ((o.n.toNat : Nat) : Int) = o.n; omega, by show ((o.n.toNat : Nat) : Int) = o.n; omega⟩
theorem Z1a : ∀ (x : List OpS), (∀ o ∈ x, isOp o.o) → (Z0k (Z0d (osOf x)) : Int) = sumT x ∧ (Z0p (Z0d (osOf x)) : Int) = sumM x
 | [], _ => ⟨rfl, rfl⟩
 | o :: x, h => by
   obtain ⟨h1, h2⟩ := Z1a x (fun z hz => h z (List.mem_cons_of_mem _ hz))
   obtain ⟨g1, g2⟩ := Z4u (h o (by simp))
   show ((Z0k (Z0d (o.o :: osOf x)) : Nat) : Int) = tkI o.o + sumT x ∧ ((Z0p (Z0d (o.o :: osOf x)) : Nat) : Int) = mkI o.o + sumM x
   rw [Z1w, Z0y, Z0E]
   omega
theorem Z0O {l : List Ky} {x : List OpS} (h : goodO l x) : ∀ o ∈ x, isOp o.o := fun o ho => Z6g (h o ho)
theorem Z1C {x : List OpS} {u : Un} : u ∈ Z0d (osOf x) ↔ ∃ o ∈ x, u ∈ Z0h o.o := by
 unfold Z0d osOf
 rw [List.mem_flatMap]
 constructor
 ·rintro ⟨a, ha, hu⟩; obtain ⟨o, ho, rfl⟩ := List.mem_map.1 ha; exact ⟨o, ho, hu⟩
 ·rintro ⟨o, ho, hu⟩; exact ⟨o.o, List.mem_map.2 ⟨o, ho, rfl⟩, hu⟩
theorem Z43 {l : List Ky} {x : List OpS} (h : goodO l x) : ∀ u ∈ Z0d (osOf x), mU l u := fun u hu => by
 obtain ⟨o, ho, hu⟩ := Z1C.1 hu
 exact (Z87.1 (h o ho)).2.2 u hu
theorem Y2k (n k : Nat) (p : List Ch) : ∀ a, finU n a (List.replicate k (.ret p)) = true := by
 induction k with
 | zero => intro a; rfl
 | succ k ih => intro a; rw [List.replicate_succ, finU]; exact ih _
theorem Z8g (n : Nat) : ∀ (k a : Nat), a + (k + 1) ≤ n → (finU n a (List.replicate (k + 1) .del) = decide (a + (k + 1) ≠ n)) := by
 intro k
 induction k with
 | zero => intro a _; simp [finU]
 | succ k ih =>
   intro a h
   rw [List.replicate_succ]
   show (decide (a + 1 ≠ n) && finU n (a + 1) (List.replicate (k + 1) .del)) = _
   rw [ih (a + 1) (by omega)]
   have h1 : decide (a + 1 ≠ n) = true := decide_eq_true (by omega)
   rw [h1, Bool.true_and, show a + 1 + (k + 1) = a + (k + 1 + 1) by omega]
theorem Y2l (n : Nat) (r : List Int) (s : List At) : ∀ a, r ≠ [] → finU n a (r.map (fun r => Un.ins r s)) = decide (a ≠ n) := by
 intro a h
 induction r with
 | nil => exact absurd rfl h
 | cons b r ih =>
   show (decide (a ≠ n) && finU n a (r.map _)) = _
   cases r with
   | nil => simp [finU]
   | cons c r => rw [ih (by simp)]; simp
theorem Z2Y {l : List Ky} (n : Nat) : ∀ (x : List OpS) (a : Nat), goodO l x → (a : Int) + sumT x ≤ n → finR n a x = finU n a (Z0d (osOf x))
 | [], a, _, _ => rfl
 | o :: x, a, h, hb => by
   have ho := Z6g (h o (by simp))
   have ht := h.tail
   obtain ⟨s1, _⟩ := Z1a x (Z0O ht)
   obtain ⟨t1, t2⟩ := Z4u ho
   simp only [sumT] at hb
   have e : Z0d (osOf (o :: x)) = Z0h o.o ++ Z0d (osOf x) := rfl
   rw [e, Z1B]
   unfold finR
   rcases Z0x ho with hk | hk | hk
   ·obtain ⟨eo, hr⟩ := Z13 ho hk
    have hz : tkI o.o = 0 := by unfold tkI; rw [if_pos hk]
    rw [if_pos hk]
    have hu : finU n a (Z0h o.o) = decide (a ≠ n) := by rw [eo, Z2a]; exact Y2l n _ _ a hr
    have hta : Z0k (Z0h o.o) = 0 := by omega
    rw [hu, hta, Nat.add_zero, Z2Y n x a ht (by omega)]
    congr 2
    exact propext ⟨fun e h => e (by omega), fun e h => e (by omega)⟩
   ·obtain ⟨eo, hn⟩ := Z14 ho hk
    have hz : tkI o.o = o.o.n := by unfold tkI; rw [if_neg (by rw [hk]; decide)]
    rw [if_neg (by rw [hk]; decide)]
    have hta : (Z0k (Z0h o.o) : Int) = o.o.n := by rw [t1, hz]
    obtain ⟨k, hk2⟩ : ∃ k : Nat, o.o.n.toNat = k + 1 := ⟨o.o.n.toNat - 1, by omega⟩
    have hu : finU n a (Z0h o.o) = decide (a + (k + 1) ≠ n) := by rw [eo, Z3L, hk2]; exact Z8g n k a (by omega)
    rw [hu]
    by_cases hl : o.o.k = 3 ∧ (a : Int) + o.o.n = n
    ·rw [if_pos hl]
     have : decide (a + (k + 1) ≠ n) = false := decide_eq_false (by omega)
     rw [this]; rfl
    ·rw [if_neg hl]
     have hne : ¬ (a : Int) + o.o.n = n := fun e => hl ⟨hk, e⟩
     have : decide (a + (k + 1) ≠ n) = true := decide_eq_true (by omega)
     rw [this, Bool.true_and]
     have e2 : (a : Int) + o.o.n = ((a + Z0k (Z0h o.o) : Nat) : Int) := by omega
     rw [e2, Z2Y n x _ ht (by omega)]
   ·obtain ⟨eo, hn⟩ := Z1K ho hk
    have hz : tkI o.o = o.o.n := by unfold tkI; rw [if_neg (by rw [hk]; decide)]
    rw [if_neg (by rw [hk]; decide), if_neg (by rw [hk]; rintro ⟨h1, _⟩; exact absurd h1 (by decide))]
    have hta : (Z0k (Z0h o.o) : Int) = o.o.n := by rw [t1, hz]
    have hu : finU n a (Z0h o.o) = true := by rw [eo, Z1N]; exact Y2k n _ _ a
    rw [hu, Bool.true_and]
    have e2 : (a : Int) + o.o.n = ((a + Z0k (Z0h o.o) : Nat) : Int) := by omega
    rw [e2, Z2Y n x _ ht (by omega)]
theorem Y2m {r : List Int} : nlR r = r.length ↔ ∀ x ∈ r, x = 10 := by
 unfold nlR
 rw [List.countP_eq_length]
 simp
theorem Z91 {r : List Int} : nlR r = 0 ↔ ∀ x ∈ r, ¬ x = 10 := by
 unfold nlR
 rw [List.countP_eq_zero]
 simp
theorem Z8h {l : List Ky} {o : Opd} (h : oneP l o = 0) : Z1F l o = true ↔ ∀ u ∈ Z0h o, vU l u := by
 obtain ⟨g1, g2, g3⟩ := Z87.1 h
 have hop := Z6g h
 rcases Z0x hop with hk | hk | hk
 ·obtain ⟨e, hr⟩ := Z13 hop hk
  have hm : mayS l o.s = 0 := (Z1l h).2.2.2.1
  have hu : (∀ u ∈ Z0h o, vU l u) ↔ ∀ r ∈ o.r, Z1x l (!(r == 10)) o.s = [] := by
   unfold Z0h
   rw [if_pos hk]
   constructor
   ·intro hh r hr; exact (hh _ (List.mem_map.2 ⟨r, hr, rfl⟩)).2.2
   ·intro hh u hu
    obtain ⟨r, hr, rfl⟩ := List.mem_map.1 hu
    exact ⟨Z90 h hk r hr, hm, hh r hr⟩
  rw [hu]
  have hl := Y2g (Z00 hm).2.2.2
  unfold Z1F
  by_cases hs : 0 < o.s.length
  ·rw [if_pos ⟨hk, hs⟩]
   have hne : 0 < o.r.length := List.length_pos_iff.2 hr
   have hle : nlR o.r ≤ o.r.length := by unfold nlR; exact List.countP_le_length
   constructor
   ·intro hh r hrm
    simp only [Bool.not_eq_true', Bool.and_eq_false_iff, Bool.or_eq_false_iff, decide_eq_false_iff_not] at hh
    rcases hh with ⟨h1, h2⟩ | ⟨h1, h2⟩
    ·have h3 := Z91.1 (by omega : nlR o.r = 0) r hrm
     have hb : (r == 10) = false := beq_eq_false_iff_ne.2 h3
     rw [hb]
     exact List.eq_nil_of_length_eq_zero (by show (Z1x l true o.s).length = 0; omega)
    ·have h3 := Y2m.1 (by omega : nlR o.r = o.r.length) r hrm
     have hb : (r == 10) = true := beq_iff_eq.2 h3
     rw [hb]
     exact List.eq_nil_of_length_eq_zero (by show (Z1x l false o.s).length = 0; omega)
   ·intro hh
    simp only [Bool.not_eq_true', Bool.and_eq_false_iff, Bool.or_eq_false_iff, decide_eq_false_iff_not]
    by_cases h0 : (Z1x l true o.s).length = 0
    ·refine .inl ⟨by omega, ?_⟩
     have : nlR o.r = 0 := Z91.2 (fun r hr h10 => by
      have := hh r hr
      rw [beq_iff_eq.2 h10] at this
      have h5 : (Z1x l false o.s).length = 0 := by show (Z1x l (!true) o.s).length = 0; rw [this]; rfl
      omega)
     omega
    ·refine .inr ?_
     have hall : ∀ r ∈ o.r, r = 10 := fun r hr => by
      rcases Decidable.em (r = 10) with h10 | h10
      ·exact h10
      ·exfalso
       have := hh r hr
       rw [beq_eq_false_iff_ne.2 h10] at this
       exact h0 (by show (Z1x l (!false) o.s).length = 0; rw [this]; rfl)
     have h7 := Y2m.2 hall
     obtain ⟨r, hr2⟩ := List.exists_mem_of_ne_nil o.r hr
     have := hh r hr2
     rw [beq_iff_eq.2 (hall r hr2)] at this
     have h5 : (Z1x l false o.s).length = 0 := by show (Z1x l (!true) o.s).length = 0; rw [this]; rfl
     constructor <;> omega
  ·rw [if_neg (by rintro ⟨_, h⟩; exact hs h)]
   have : o.s = [] := List.eq_nil_of_length_eq_zero (by omega)
   rw [this]
   simp [Z1x]
 ·have : Z1F l o = true := by unfold Z1F; rw [if_neg (by rintro ⟨h, _⟩; rw [hk] at h; exact absurd h (by decide))]
  simp only [this, true_iff]
  intro u hu
  unfold Z0h at hu
  rw [if_neg (by rw [hk]; decide), if_neg (by rw [hk]; decide)] at hu
  rw [(List.mem_replicate.1 hu).2]; trivial
 ·have : Z1F l o = true := by unfold Z1F; rw [if_neg (by rintro ⟨h, _⟩; rw [hk] at h; exact absurd h (by decide))]
  simp only [this, true_iff]
  intro u hu
  have := g3 u hu
  unfold Z0h at hu
  rw [if_neg (by rw [hk]; decide), if_pos hk] at hu
  rw [(List.mem_replicate.1 hu).2] at this ⊢; exact this
structure FitU (l : List Ky) (us : List Un) (n most : Nat) : Prop where
 v : ∀ u ∈ us, vU l u
 t : Z0k us ≤ n
 n1 : 1 ≤ n
 nm : n ≤ most
 f : finU n 0 us = true
 m : n + Z0p us ≤ most + Z0k us
 tb : Z0k us ≤ 536870912
 mb : Z0p us ≤ 536870912
theorem vU_mU {l : List Ky} {u : Un} (h : vU l u) : mU l u := by
 cases u with
 | ins r s => exact ⟨h.1, h.2.1⟩
 | del => trivial
 | ret p => exact h
theorem Z6X {l : List Ky} {x : List OpS} {n most : Nat} (hb : x.length ≤ 1048576) (hm : most ≤ 4294967296) (h : Z2E l x n most = 0) : goodO l x ∧ FitU l (Z0d (osOf x)) n most := by
 obtain ⟨h1, h2, h3, h4, h5, h6, h7⟩ := Z10 h
 obtain ⟨g1, g2, g3⟩ := Z02 h1
 obtain ⟨s1, s2⟩ := Z1a x (Z0O g1)
 have ht := Z1m g1 hb
 have hmk := Z1A g1 hb
 have hl := Z5D (n := n) g1 hb (by omega) (by omega) g2 g3
 rw [hl] at h7
 rw [Y2j n g1 hb] at h5
 have hf := Z2Y n x 0 g1 (by simp; omega)
 refine ⟨g1, fun u hu => ?_, by omega, by omega, by omega, by rw [← hf]; exact h5, by omega, by omega, by omega⟩
 obtain ⟨o, ho, hu⟩ := Z1C.1 hu
 unfold Z1G at h6
 exact (Z8h (g1 o ho)).1 (List.all_eq_true.1 h6 o ho) u hu
theorem Y5o {x : List OpS} (h : ∀ o ∈ x, isOp o.o) {o : OpS} (ho : o ∈ x) : Z0V o.o ≤ Z0k (Z0d (osOf x)) + Z0p (Z0d (osOf x)) := by
 induction x with
 | nil => cases ho
 | cons a x ih =>
   have e : Z0d (osOf (a :: x)) = Z0h a.o ++ Z0d (osOf x) := rfl
   rw [e, Z0y, Z0E]
   rcases List.mem_cons.1 ho with rfl | hm
   ·have hop := h o (by simp)
    obtain ⟨t1, t2⟩ := Z4u hop
    unfold tkI at t1
    unfold mkI at t2
    unfold Z0V at *
    rcases Z0x hop with hk | hk | hk
    ·rw [if_pos hk] at t2 ⊢; rw [if_neg (by rw [hk]; decide)] at t2; omega
    ·rw [if_neg (by rw [hk]; decide)] at t1 ⊢; omega
    ·rw [if_neg (by rw [hk]; decide)] at t1 ⊢; omega
   ·have := ih (fun z hz => h z (List.mem_cons_of_mem _ hz)) hm; omega
theorem op_le {x : List OpS} (h : ∀ o ∈ x, isOp o.o) {o : OpS} (ho : o ∈ x) (ht : Z0k (Z0d (osOf x)) ≤ 536870912) (hm : Z0p (Z0d (osOf x)) ≤ 536870912) : Z0V o.o ≤ 536870912 := by
 induction x with
 | nil => cases ho
 | cons a x ih =>
   have e : Z0d (osOf (a :: x)) = Z0h a.o ++ Z0d (osOf x) := rfl
   rw [e, Z0y] at ht
   rw [e, Z0E] at hm
   rcases List.mem_cons.1 ho with rfl | hmem
   ·have hop := h o (by simp)
    obtain ⟨t1, t2⟩ := Z4u hop
    unfold tkI at t1
    unfold mkI at t2
    rcases Z0x hop with hk | hk | hk
    ·rw [if_neg (by rw [hk]; decide)] at t2; omega
    ·rw [if_neg (by rw [hk]; decide)] at t1
     have : Z0V o.o = o.o.n := by unfold Z0V; rw [if_neg (by rw [hk]; decide)]
     omega
    ·rw [if_neg (by rw [hk]; decide)] at t1
     have : Z0V o.o = o.o.n := by unfold Z0V; rw [if_neg (by rw [hk]; decide)]
     omega
   ·exact ih (fun z hz => h z (List.mem_cons_of_mem _ hz)) hmem (by omega) (by omega)
theorem Z44 {l : List Ky} {x : List OpS} (h : ∀ o ∈ x, isOp o.o) (hu : ∀ u ∈ Z0d (osOf x), mU l u) (ht : Z0k (Z0d (osOf x)) ≤ 536870912) (hm : Z0p (Z0d (osOf x)) ≤ 536870912) : goodO l x := fun o ho =>
 Z87.2 ⟨h o ho, op_le h ho ht hm, fun u hu2 => hu u (Z1C.2 ⟨o, ho, hu2⟩)⟩
theorem Y05 {l : List Ky} {x : List OpS} {n most : Nat} (hb : x.length ≤ 1048576) (hmo : most ≤ 4294967296) (h : ∀ o ∈ x, isOp o.o) (hf : FitU l (Z0d (osOf x)) n most) : Z2E l x n most = 0 := by
 have g := Z44 h (fun u hu => vU_mU (hf.v u hu)) hf.tb hf.mb
 obtain ⟨s1, s2⟩ := Z1a x h
 have h0 := hf.t; have h1 := hf.n1; have h2 := hf.nm; have h3 := hf.m; have h4 := hf.tb; have h5 := hf.mb
 have ht : Z0Z x = sumT x := Z1m g hb
 have hm : Z1i x = sumM x := Z1A g hb
 refine Z6f (Y2i g (by omega) (by omega)) (by omega) (by omega) (by omega) ?_ ?_ ?_
 ·rw [Y2j n g hb]
  have := Z2Y n x 0 g (by simp; omega)
  rw [show ((0 : Nat) : Int) = 0 from rfl] at this
  rw [this]; exact hf.f
 ·unfold Z1G
  exact List.all_eq_true.2 (fun o ho => (Z8h (g o ho)).2 (fun u hu => hf.v u (Z1C.2 ⟨o, ho, hu⟩)))
 ·rw [Z5D g hb (by omega) (by omega) (by omega) (by omega)]; omega
end Go.Proofs.YtfnkjcodcoehcaaGreatDoor
