/- Merged texts. -/
import Derived.Test.YtnmedachaeanbaaGreatDoorA11
namespace Go.Proofs.YtnmedachaeanbaaGreatDoor
set_option maxRecDepth 100000
set_option maxHeartbeats 800000
set_option linter.unusedVariables false
set_option linter.unusedSimpArgs false
def okCl (l : List Ky) (c : Cl) : Prop := mayR c.r = true ∧ mayS l c.s = 0 ∧ Z1T l (!(c.r == 10)) c.s = []
def vU (l : List Ky) : Un → Prop
 | .ins r s => okCl l ⟨r, s⟩
 | .del => True
 | .ret p => mayP l p = 0
def mU (l : List Ky) : Un → Prop
 | .ins r s => mayR r = true ∧ mayS l s = 0
 | .del => True
 | .ret p => mayP l p = 0
def finU (n : Nat) : Nat → List Un → Bool
 | _, [] => true
 | a, .ins _ _ :: us => decide (a ≠ n) && finU n a us
 | a, .del :: us => decide (a + 1 ≠ n) && finU n (a + 1) us
 | a, .ret _ :: us => finU n (a + 1) us
theorem Z1n (n : Nat) : ∀ (us vs : List Un) (a : Nat), finU n a (us ++ vs) = (finU n a us && finU n (a + Z0k us) vs)
 | [], vs, a => by simp [finU, Z0k]
 | .ins r s :: us, vs, a => by show (decide (a ≠ n) && finU n a (us ++ vs)) = _; rw [Z1n n us vs a, Z06, finU, Bool.and_assoc]
 | .del :: us, vs, a => by
   show (decide (a + 1 ≠ n) && finU n (a + 1) (us ++ vs)) = _
   rw [Z1n n us vs (a + 1), Z0S, finU, Bool.and_assoc]
   congr 3; omega
 | .ret p :: us, vs, a => by
   show finU n (a + 1) (us ++ vs) = _
   rw [Z1n n us vs (a + 1), Z0y, finU]
   congr 2; omega
theorem Z56 {l : List Ky} {o : Opd} (h : oneP l o = 0) : isOp o := by
 obtain ⟨h1, h2, h3, h4, h5⟩ := Z1L h
 obtain ⟨k, n, r, s, p⟩ := o
 unfold Z4d at h1
 unfold Z1d at h2
 simp only at h1 h2
 by_cases k1 : k = 1
 ·subst k1
  rw [if_pos rfl] at h1
  have := of_decide_eq_true h1
  rw [if_neg (by decide)] at h2
  exact .inr (.inr ⟨rfl, h2, List.eq_nil_of_length_eq_zero this.1, List.eq_nil_of_length_eq_zero this.2⟩)
 ·rw [if_neg k1] at h1
  by_cases k3 : k = 3
  ·subst k3
   rw [if_pos rfl] at h1
   have := of_decide_eq_true h1
   rw [if_neg (by decide)] at h2
   exact .inr (.inl ⟨rfl, h2, List.eq_nil_of_length_eq_zero this.1.1, List.eq_nil_of_length_eq_zero this.1.2, List.eq_nil_of_length_eq_zero this.2⟩)
  ·rw [if_neg k3] at h1
   by_cases k2 : k = 2
   ·subst k2
    rw [if_pos rfl] at h1 h2
    have := of_decide_eq_true (Bool.and_eq_true_iff.1 h1).1
    exact .inl ⟨rfl, this.1, by intro e; simp only at e; subst e; simp at h2, List.eq_nil_of_length_eq_zero this.2⟩
   ·rw [if_neg k2] at h1; cases h1
theorem Z99 {l : List Ky} {o : Opd} (h : oneP l o = 0) (hk : o.k = 2) : ∀ r ∈ o.r, mayR r = true := by
 obtain ⟨h1, _⟩ := Z1L h
 unfold Z4d at h1
 rw [if_neg (by rw [hk]; decide), if_neg (by rw [hk]; decide), if_pos hk] at h1
 have := (Bool.and_eq_true_iff.1 h1).2
 intro r hr
 rw [Bool.not_eq_true', List.any_eq_false] at this
 simpa using this r hr
theorem Z9g {l : List Ky} {o : Opd} : oneP l o = 0 ↔ isOp o ∧ Z1d o ≤ 536870912 ∧ ∀ u ∈ Z0h o, mU l u := by
 constructor
 ·intro h
  obtain ⟨h1, h2, h3, h4, h5⟩ := Z1L h
  refine ⟨Z56 h, h3, fun u hu => ?_⟩
  rcases Z0q (Z56 h) with hk | hk | hk
  ·unfold Z0h at hu
   rw [if_pos hk] at hu
   obtain ⟨r, hr, rfl⟩ := List.mem_map.1 hu
   exact ⟨Z99 h hk r hr, h4⟩
  ·unfold Z0h at hu
   rw [if_neg (by rw [hk]; decide), if_neg (by rw [hk]; decide)] at hu
   rw [(List.mem_replicate.1 hu).2]; trivial
  ·unfold Z0h at hu
   rw [if_neg (by rw [hk]; decide), if_pos hk] at hu
   rw [(List.mem_replicate.1 hu).2]; exact h5
 ·rintro ⟨h1, h2, h3⟩
  have m0 : mayS l [] = 0 := by simp [mayS, Z1D, rise]
  have p0 : mayP l [] = 0 := by simp [mayP, Z1S, rise]
  rcases Z0q h1 with hk | hk | hk
  ·obtain ⟨e, hr⟩ := Z18 h1 hk
   obtain ⟨k, n, r, s, p⟩ := o
   rw [e] at h2 h3 ⊢
   simp only at hr
   have hu : ∀ x ∈ r, mayR x = true ∧ mayS l s = 0 := fun x hx => h3 (.ins x s) (by rw [Z1Y]; exact List.mem_map.2 ⟨x, hx, rfl⟩)
   obtain ⟨x, hx⟩ := List.exists_mem_of_ne_nil r hr
   have hform : Z4d (opI r s) = true := by
    have hany : r.any (fun r => !mayR r) = false := List.any_eq_false.2 (fun y hy => by simp [(hu y hy).1])
    show (if (2 : Int) = 1 then _ else if (2 : Int) = 3 then _ else if (2 : Int) = 2 then (decide ((0 : Int) = 0 ∧ ([] : List Ch).length = 0) && !r.any (fun r => !mayR r)) else false) = true
    rw [if_neg (by decide), if_neg (by decide), if_pos rfl, hany]
    rfl
   have hsz : 1 ≤ Z1d (opI r s) := by
    show 1 ≤ (if (2 : Int) = 2 then (r.length : Int) else 0)
    rw [if_pos rfl]
    have : r.length ≠ 0 := fun h0 => hr (List.eq_nil_of_length_eq_zero h0)
    omega
   unfold oneP
   rw [if_pos ⟨hform, hsz, h2⟩, if_pos (show mayS l (opI r s).s = 0 from (hu x hx).2)]
   exact p0
  ·obtain ⟨e, hn⟩ := Z2L h1 hk
   obtain ⟨k, n, r, s, p⟩ := o
   simp only at hn
   rw [e] at h2 ⊢
   unfold oneP
   rw [if_pos ⟨by simp [Z4d, opD], by unfold Z1d opD; simp only; rw [if_neg (by decide)]; exact hn, h2⟩, if_pos (show mayS l (opD n).s = 0 from m0)]
   exact p0
  ·obtain ⟨e, hn⟩ := Z2g h1 hk
   obtain ⟨k, n, r, s, p⟩ := o
   simp only at hn
   rw [e] at h2 h3 ⊢
   have hp : mayP l p = 0 := h3 (.ret p) (by
    rw [Z1p]
    simp only at hn ⊢
    exact List.mem_replicate.2 ⟨by omega, rfl⟩)
   unfold oneP
   rw [if_pos ⟨by simp [Z4d, opR], by unfold Z1d opR; simp only; rw [if_neg (by decide)]; exact hn, h2⟩, if_pos (show mayS l (opR n p).s = 0 from m0)]
   exact hp
theorem Z57 {o : Opd} (h : isOp o) : (Z0k (Z0h o) : Int) = tkI o ∧ (Z0l (Z0h o) : Int) = mkI o := by
 have hi : ∀ (r : List Int) (s : List At), Z0k (r.map (fun r => Un.ins r s)) = 0 ∧ Z0l (r.map (fun r => Un.ins r s)) = r.length := by
  intro r s
  induction r with
  | nil => exact ⟨rfl, rfl⟩
  | cons a r ih => exact ⟨ih.1, by show Z0l _ + 1 = _; rw [ih.2]; rfl⟩
 have hr : ∀ (k : Nat) (p : List Ch), Z0k (List.replicate k (.ret p)) = k ∧ Z0l (List.replicate k (.ret p)) = k := by
  intro k p
  induction k with
  | zero => exact ⟨rfl, rfl⟩
  | succ k ih => rw [List.replicate_succ]; exact ⟨by rw [Z0y, ih.1], by rw [Z1H, ih.2]⟩
 rcases Z0q h with hk | hk | hk
 ·obtain ⟨e, hr⟩ := Z18 h hk
  rw [e, Z1Y]
  exact ⟨by rw [(hi _ _).1]; rfl, by rw [(hi _ _).2]; rfl⟩
 ·obtain ⟨e, hn⟩ := Z2L h hk
  rw [e, Z3B, Z2M, Z4F]
  exact ⟨by show ((o.n.toNat : Nat) : Int) = o.n; omega, rfl⟩
 ·obtain ⟨e, hn⟩ := Z2g h hk
  rw [e, Z1p, (hr _ _).1, (hr _ _).2]
  exact ⟨by show ((o.n.toNat : Nat) : Int) = o.n; omega, by show ((o.n.toNat : Nat) : Int) = o.n; omega⟩
theorem Z08 : ∀ (x : List OpS), (∀ o ∈ x, isOp o.o) → (Z0k (Z0e (osOf x)) : Int) = sumT x ∧ (Z0l (Z0e (osOf x)) : Int) = sumM x
 | [], _ => ⟨rfl, rfl⟩
 | o :: x, h => by
   obtain ⟨h1, h2⟩ := Z08 x (fun z hz => h z (List.mem_cons_of_mem _ hz))
   obtain ⟨g1, g2⟩ := Z57 (h o (by simp))
   show ((Z0k (Z0e (o.o :: osOf x)) : Nat) : Int) = tkI o.o + sumT x ∧ ((Z0l (Z0e (o.o :: osOf x)) : Nat) : Int) = mkI o.o + sumM x
   rw [Z1j, Z0A, Z0I]
   omega
theorem Z0Y {l : List Ky} {x : List OpS} (h : goodO l x) : ∀ o ∈ x, isOp o.o := fun o ho => Z56 (h o ho)
theorem Z11 {x : List OpS} {u : Un} : u ∈ Z0e (osOf x) ↔ ∃ o ∈ x, u ∈ Z0h o.o := by
 unfold Z0e osOf
 rw [List.mem_flatMap]
 constructor
 ·rintro ⟨a, ha, hu⟩; obtain ⟨o, ho, rfl⟩ := List.mem_map.1 ha; exact ⟨o, ho, hu⟩
 ·rintro ⟨o, ho, hu⟩; exact ⟨o.o, List.mem_map.2 ⟨o, ho, rfl⟩, hu⟩
theorem Z7B {l : List Ky} {x : List OpS} (h : goodO l x) : ∀ u ∈ Z0e (osOf x), mU l u := fun u hu => by
 obtain ⟨o, ho, hu⟩ := Z11.1 hu
 exact (Z9g.1 (h o ho)).2.2 u hu
theorem Z58 (n k : Nat) (p : List Ch) : ∀ a, finU n a (List.replicate k (.ret p)) = true := by
 induction k with
 | zero => intro a; rfl
 | succ k ih => intro a; rw [List.replicate_succ, finU]; exact ih _
theorem Z8i (n : Nat) : ∀ (k a : Nat), a + (k + 1) ≤ n → (finU n a (List.replicate (k + 1) .del) = decide (a + (k + 1) ≠ n)) := by
 intro k
 induction k with
 | zero => intro a _; simp [finU]
 | succ k ih =>
   intro a h
   rw [List.replicate_succ]
   show (decide (a + 1 ≠ n) && finU n (a + 1) (List.replicate (k + 1) .del)) = _
   rw [ih (a + 1) (by omega)]
   have h1 : decide (a + 1 ≠ n) = true := decide_eq_true (by omega)
   rw [h1, Bool.true_and, show a + 1 + (k + 1) = a + (k + 1 + 1) by omega]
theorem Y2x (n : Nat) (r : List Int) (s : List At) : ∀ a, r ≠ [] → finU n a (r.map (fun r => Un.ins r s)) = decide (a ≠ n) := by
 intro a h
 induction r with
 | nil => exact absurd rfl h
 | cons b r ih =>
   show (decide (a ≠ n) && finU n a (r.map _)) = _
   cases r with
   | nil => simp [finU]
   | cons c r => rw [ih (by simp)]; simp
theorem Z2P {l : List Ky} (n : Nat) : ∀ (x : List OpS) (a : Nat), goodO l x → (a : Int) + sumT x ≤ n → finR n a x = finU n a (Z0e (osOf x))
 | [], a, _, _ => rfl
 | o :: x, a, h, hb => by
   have ho := Z56 (h o (by simp))
   have ht := h.tail
   obtain ⟨s1, _⟩ := Z08 x (Z0Y ht)
   obtain ⟨t1, t2⟩ := Z57 ho
   simp only [sumT] at hb
   have e : Z0e (osOf (o :: x)) = Z0h o.o ++ Z0e (osOf x) := rfl
   rw [e, Z1n]
   unfold finR
   rcases Z0q ho with hk | hk | hk
   ·obtain ⟨eo, hr⟩ := Z18 ho hk
    have hz : tkI o.o = 0 := by unfold tkI; rw [if_pos hk]
    rw [if_pos hk]
    have hu : finU n a (Z0h o.o) = decide (a ≠ n) := by rw [eo, Z1Y]; exact Y2x n _ _ a hr
    have hta : Z0k (Z0h o.o) = 0 := by omega
    rw [hu, hta, Nat.add_zero, Z2P n x a ht (by omega)]
    congr 2
    exact propext ⟨fun e h => e (by omega), fun e h => e (by omega)⟩
   ·obtain ⟨eo, hn⟩ := Z2L ho hk
    have hz : tkI o.o = o.o.n := by unfold tkI; rw [if_neg (by rw [hk]; decide)]
    rw [if_neg (by rw [hk]; decide)]
    have hta : (Z0k (Z0h o.o) : Int) = o.o.n := by rw [t1, hz]
    obtain ⟨k, hk2⟩ : ∃ k : Nat, o.o.n.toNat = k + 1 := ⟨o.o.n.toNat - 1, by omega⟩
    have hu : finU n a (Z0h o.o) = decide (a + (k + 1) ≠ n) := by rw [eo, Z3B, hk2]; exact Z8i n k a (by omega)
    rw [hu]
    by_cases hl : o.o.k = 3 ∧ (a : Int) + o.o.n = n
    ·rw [if_pos hl]
     have : decide (a + (k + 1) ≠ n) = false := decide_eq_false (by omega)
     rw [this]; rfl
    ·rw [if_neg hl]
     have hne : ¬ (a : Int) + o.o.n = n := fun e => hl ⟨hk, e⟩
     have : decide (a + (k + 1) ≠ n) = true := decide_eq_true (by omega)
     rw [this, Bool.true_and]
     have e2 : (a : Int) + o.o.n = ((a + Z0k (Z0h o.o) : Nat) : Int) := by omega
     rw [e2, Z2P n x _ ht (by omega)]
   ·obtain ⟨eo, hn⟩ := Z2g ho hk
    have hz : tkI o.o = o.o.n := by unfold tkI; rw [if_neg (by rw [hk]; decide)]
    rw [if_neg (by rw [hk]; decide), if_neg (by rw [hk]; rintro ⟨h1, _⟩; exact absurd h1 (by decide))]
    have hta : (Z0k (Z0h o.o) : Int) = o.o.n := by rw [t1, hz]
    have hu : finU n a (Z0h o.o) = true := by rw [eo, Z1p]; exact Z58 n _ _ a
    rw [hu, Bool.true_and]
    have e2 : (a : Int) + o.o.n = ((a + Z0k (Z0h o.o) : Nat) : Int) := by omega
    rw [e2, Z2P n x _ ht (by omega)]
theorem Y2y {r : List Int} : nlR r = r.length ↔ ∀ x ∈ r, x = 10 := by
 unfold nlR
 rw [List.countP_eq_length]
 simp
theorem Y0a {r : List Int} : nlR r = 0 ↔ ∀ x ∈ r, ¬ x = 10 := by
 unfold nlR
 rw [List.countP_eq_zero]
 simp
theorem Z8j {l : List Ky} {o : Opd} (h : oneP l o = 0) : Z2y l o = true ↔ ∀ u ∈ Z0h o, vU l u := by
 obtain ⟨g1, g2, g3⟩ := Z9g.1 h
 have hop := Z56 h
 rcases Z0q hop with hk | hk | hk
 ·obtain ⟨e, hr⟩ := Z18 hop hk
  have hm : mayS l o.s = 0 := (Z1L h).2.2.2.1
  have hu : (∀ u ∈ Z0h o, vU l u) ↔ ∀ r ∈ o.r, Z1T l (!(r == 10)) o.s = [] := by
   unfold Z0h
   rw [if_pos hk]
   constructor
   ·intro hh r hr; exact (hh _ (List.mem_map.2 ⟨r, hr, rfl⟩)).2.2
   ·intro hh u hu
    obtain ⟨r, hr, rfl⟩ := List.mem_map.1 hu
    exact ⟨Z99 h hk r hr, hm, hh r hr⟩
  rw [hu]
  have hl := Y2t (Z1K hm).2.2.2
  unfold Z2y
  by_cases hs : 0 < o.s.length
  ·rw [if_pos ⟨hk, hs⟩]
   have hne : 0 < o.r.length := List.length_pos_iff.2 hr
   have hle : nlR o.r ≤ o.r.length := by unfold nlR; exact List.countP_le_length
   constructor
   ·intro hh r hrm
    simp only [Bool.not_eq_true', Bool.and_eq_false_iff, Bool.or_eq_false_iff, decide_eq_false_iff_not] at hh
    rcases hh with ⟨h1, h2⟩ | ⟨h1, h2⟩
    ·have h3 := Y0a.1 (by omega : nlR o.r = 0) r hrm
     have hb : (r == 10) = false := beq_eq_false_iff_ne.2 h3
     rw [hb]
     exact List.eq_nil_of_length_eq_zero (by show (Z1T l true o.s).length = 0; omega)
    ·have h3 := Y2y.1 (by omega : nlR o.r = o.r.length) r hrm
     have hb : (r == 10) = true := beq_iff_eq.2 h3
     rw [hb]
     exact List.eq_nil_of_length_eq_zero (by show (Z1T l false o.s).length = 0; omega)
   ·intro hh
    simp only [Bool.not_eq_true', Bool.and_eq_false_iff, Bool.or_eq_false_iff, decide_eq_false_iff_not]
    by_cases h0 : (Z1T l true o.s).length = 0
    ·refine .inl ⟨by omega, ?_⟩
     have : nlR o.r = 0 := Y0a.2 (fun r hr h10 => by
      have := hh r hr
      rw [beq_iff_eq.2 h10] at this
      have h5 : (Z1T l false o.s).length = 0 := by show (Z1T l (!true) o.s).length = 0; rw [this]; rfl
      omega)
     omega
    ·refine .inr ?_
     have hall : ∀ r ∈ o.r, r = 10 := fun r hr => by
      rcases Decidable.em (r = 10) with h10 | h10
      ·exact h10
      ·exfalso
       have := hh r hr
       rw [beq_eq_false_iff_ne.2 h10] at this
       exact h0 (by show (Z1T l (!false) o.s).length = 0; rw [this]; rfl)
     have h7 := Y2y.2 hall
     obtain ⟨r, hr2⟩ := List.exists_mem_of_ne_nil o.r hr
     have := hh r hr2
     rw [beq_iff_eq.2 (hall r hr2)] at this
     have h5 : (Z1T l false o.s).length = 0 := by show (Z1T l (!true) o.s).length = 0; rw [this]; rfl
     constructor <;> omega
  ·rw [if_neg (by rintro ⟨_, h⟩; exact hs h)]
   have : o.s = [] := List.eq_nil_of_length_eq_zero (by omega)
   rw [this]
   simp [Z1T]
 ·have : Z2y l o = true := by unfold Z2y; rw [if_neg (by rintro ⟨h, _⟩; rw [hk] at h; exact absurd h (by decide))]
  simp only [this, true_iff]
  intro u hu
  unfold Z0h at hu
  rw [if_neg (by rw [hk]; decide), if_neg (by rw [hk]; decide)] at hu
  rw [(List.mem_replicate.1 hu).2]; trivial
 ·have : Z2y l o = true := by unfold Z2y; rw [if_neg (by rintro ⟨h, _⟩; rw [hk] at h; exact absurd h (by decide))]
  simp only [this, true_iff]
  intro u hu
  have := g3 u hu
  unfold Z0h at hu
  rw [if_neg (by rw [hk]; decide), if_pos hk] at hu
  rw [(List.mem_replicate.1 hu).2] at this ⊢; exact this
structure FitU (l : List Ky) (us : List Un) (n most : Nat) : Prop where
 v : ∀ u ∈ us, vU l u
 t : Z0k us ≤ n
 n1 : 1 ≤ n
 nm : n ≤ most
 f : finU n 0 us = true
 m : n + Z0l us ≤ most + Z0k us
 tb : Z0k us ≤ 536870912
 mb : Z0l us ≤ 536870912
theorem vU_mU {l : List Ky} {u : Un} (h : vU l u) : mU l u := by
 cases u with
 | ins r s => exact ⟨h.1, h.2.1⟩
 | del => trivial
 | ret p => exact h
theorem Z6V {l : List Ky} {x : List OpS} {n most : Nat} (hb : x.length ≤ 1048576) (hm : most ≤ 4294967296) (h : Z3g l x n most = 0) : goodO l x ∧ FitU l (Z0e (osOf x)) n most := by
 obtain ⟨h1, h2, h3, h4, h5, h6, h7⟩ := Z10 h
 obtain ⟨g1, g2, g3⟩ := Z1y h1
 obtain ⟨s1, s2⟩ := Z08 x (Z0Y g1)
 have ht := Z1m g1 hb
 have hmk := Z1M g1 hb
 have hl := Z5u (n := n) g1 hb (by omega) (by omega) g2 g3
 rw [hl] at h7
 rw [Y2w n g1 hb] at h5
 have hf := Z2P n x 0 g1 (by simp; omega)
 refine ⟨g1, fun u hu => ?_, by omega, by omega, by omega, by rw [← hf]; exact h5, by omega, by omega, by omega⟩
 obtain ⟨o, ho, hu⟩ := Z11.1 hu
 unfold Z2i at h6
 exact (Z8j (g1 o ho)).1 (List.all_eq_true.1 h6 o ho) u hu
theorem op_le {x : List OpS} (h : ∀ o ∈ x, isOp o.o) {o : OpS} (ho : o ∈ x) (ht : Z0k (Z0e (osOf x)) ≤ 536870912) (hm : Z0l (Z0e (osOf x)) ≤ 536870912) : Z1d o.o ≤ 536870912 := by
 induction x with
 | nil => cases ho
 | cons a x ih =>
   have e : Z0e (osOf (a :: x)) = Z0h a.o ++ Z0e (osOf x) := rfl
   rw [e, Z0A] at ht
   rw [e, Z0I] at hm
   rcases List.mem_cons.1 ho with rfl | hmem
   ·have hop := h o (by simp)
    obtain ⟨t1, t2⟩ := Z57 hop
    unfold tkI at t1
    unfold mkI at t2
    rcases Z0q hop with hk | hk | hk
    ·rw [if_neg (by rw [hk]; decide)] at t2; omega
    ·rw [if_neg (by rw [hk]; decide)] at t1
     have : Z1d o.o = o.o.n := by unfold Z1d; rw [if_neg (by rw [hk]; decide)]
     omega
    ·rw [if_neg (by rw [hk]; decide)] at t1
     have : Z1d o.o = o.o.n := by unfold Z1d; rw [if_neg (by rw [hk]; decide)]
     omega
   ·exact ih (fun z hz => h z (List.mem_cons_of_mem _ hz)) hmem (by omega) (by omega)
theorem Z4J {l : List Ky} {x : List OpS} (h : ∀ o ∈ x, isOp o.o) (hu : ∀ u ∈ Z0e (osOf x), mU l u) (ht : Z0k (Z0e (osOf x)) ≤ 536870912) (hm : Z0l (Z0e (osOf x)) ≤ 536870912) : goodO l x := fun o ho =>
 Z9g.2 ⟨h o ho, op_le h ho ht hm, fun u hu2 => hu u (Z11.2 ⟨o, ho, hu2⟩)⟩
theorem Z6W {l : List Ky} {x : List OpS} {n most : Nat} (hb : x.length ≤ 1048576) (hmo : most ≤ 4294967296) (h : ∀ o ∈ x, isOp o.o) (hf : FitU l (Z0e (osOf x)) n most) : Z3g l x n most = 0 := by
 have g := Z4J h (fun u hu => vU_mU (hf.v u hu)) hf.tb hf.mb
 obtain ⟨s1, s2⟩ := Z08 x h
 have h0 := hf.t; have h1 := hf.n1; have h2 := hf.nm; have h3 := hf.m; have h4 := hf.tb; have h5 := hf.mb
 have ht : Z1k x = sumT x := Z1m g hb
 have hm : Z1F x = sumM x := Z1M g hb
 refine Z55 (Y2v g (by omega) (by omega)) (by omega) (by omega) (by omega) ?_ ?_ ?_
 ·rw [Y2w n g hb]
  have := Z2P n x 0 g (by simp; omega)
  rw [show ((0 : Nat) : Int) = 0 from rfl] at this
  rw [this]; exact hf.f
 ·unfold Z2i
  exact List.all_eq_true.2 (fun o ho => (Z8j (g o ho)).2 (fun u hu => hf.v u (Z11.2 ⟨o, ho, hu⟩)))
 ·rw [Z5u g hb (by omega) (by omega) (by omega) (by omega)]; omega
open Go.RowKit
open Go.Lib (hid Utf8Tabs)
def badR (l : List Ky) (c : Cl) : Bool := !mayR c.r || decide (mayS l c.s = 3)
def badK (l : List Ky) (c : Cl) : Bool := !decide (mayS l c.s = 0)
def badP (l : List Ky) (c : Cl) : Bool := decide (0 < (Z1T l (!(c.r == 10)) c.s).length)
def mayD (l : List Ky) (d : List Cl) : Int :=
 if d.length < 1 ∨ 536870912 < d.length then 3 else if d.any (badR l) = true then 3 else if d.any (badK l) = true then 4
 else if (d.getLast?.map (fun c => decide (c.r = 10))) ≠ some true then 6 else if d.any (badP l) = true then 7 else 0
def Z0i (x : List ClS) : List Cl := x.map (·.c)
structure ClIn (w : World) (b1 s : Nat) (l : List Ky) (x : ClS) : Prop where
 hS : Sch w s l
 h1 : w.heap[b1]? = some (.cells #[.pointer (some ⟨s, 0, none⟩)] 29 (0, 0))
 rp : RdAt w w.heap.size x.As x.c.s
 hb : x.c.s.length ≤ 100000000
 hv : okVr x.c.s
 hT : Utf8Tabs 0 1 w
theorem ClIn.ext {w w' : World} {b1 s : Nat} {l : List Ky} {x : ClS} (h : ClIn w b1 s l x) (y : Below w.heap.size w w') : ClIn w' b1 s l x :=
 ⟨h.hS.ext y, (y.block b1 (Z0b h.h1)).trans h.h1, h.rp.ext y, h.hb, h.hv, Utf8Tabs_below h.hT y⟩
theorem Z8k (b1 s : Nat) (l : List Ky) (r : Int) (p : List At) (As : Option Addr) (cs : Nat) (w : World) (h : ClIn w b1 s l ⟨⟨r, p⟩, As, cs⟩) :
 Calls Tryz.prog 50 #[.agg #[.int .i32 r, .slice As p.length cs], .pointer (some ⟨b1, 0, none⟩)] w fun e w' => e = .returned (.bool (badR l ⟨r, p⟩)) ∧ Below w.heap.size w w' := by
 have y0 := Z0c w (.cells #[.int .i32 r, .slice As p.length cs] 41)
 obtain ⟨hS, h1, rp, hb, hv, hT⟩ := h.ext y0
 have c1 := Z2u h1
 have HS := hid hS
 have HRP := hid rp
 have HV := hid hv
 have HT := hid hT
 generalize hm : mayS l p = ms
 have HM := hid hm
 have HB : Hid (badR l ⟨r, p⟩ = (!mayR r || decide (ms = 3))) := hid (by unfold badR; simp only; rw [hm])
 rw [HB.out]
 clear h hS h1 rp hv hT hm
 go_enter Tryz.func50, Tryz.ntmps50
 cases hr : mayR r with
 | false =>
   have HR := hid hr
   clear hr
   go_wp2_with (go_at_call 51; refine (Z80 r _).mono ?_; rintro e w' ⟨rfl, rfl⟩; rw [HR.out])
   go_ret
   exact ⟨rfl, y0⟩
 | true =>
   have HR := hid hr
   clear hr
   go_wp2_with (first
    | (go_at_call 51; refine (Z80 r _).mono ?_; rintro e w' ⟨rfl, rfl⟩; rw [HR.out])
    | (go_at_call 52; refine (Z7y s l As p.length cs p _ rfl HRP.out (by omega) HS.out HV.out HT.out).mono ?_; rintro e w1 ⟨rfl, y1⟩; rw [HM.out]))
   go_ret
   exact ⟨Z0g (by by_cases h3 : ms = 3 <;> simp [h3]), Z0a y0 y1⟩
theorem Z8l (b1 s : Nat) (l : List Ky) (r : Int) (p : List At) (As : Option Addr) (cs : Nat) (w : World) (h : ClIn w b1 s l ⟨⟨r, p⟩, As, cs⟩) :
 Calls Tryz.prog 53 #[.agg #[.int .i32 r, .slice As p.length cs], .pointer (some ⟨b1, 0, none⟩)] w fun e w' => e = .returned (.bool (badK l ⟨r, p⟩)) ∧ Below w.heap.size w w' := by
 have y0 := Z0c w (.cells #[.int .i32 r, .slice As p.length cs] 41)
 obtain ⟨hS, h1, rp, hb, hv, hT⟩ := h.ext y0
 have c1 := Z2u h1
 have HS := hid hS
 have HRP := hid rp
 have HV := hid hv
 have HT := hid hT
 generalize hm : mayS l p = ms
 have HM := hid hm
 have HB : Hid (badK l ⟨r, p⟩ = !decide (ms = 0)) := hid (by unfold badK; simp only; rw [hm])
 rw [HB.out]
 clear h hS h1 rp hv hT hm
 go_enter Tryz.func53, Tryz.ntmps53
 go_wp2_with (go_at_call 52; refine (Z7y s l As p.length cs p _ rfl HRP.out (by omega) HS.out HV.out HT.out).mono ?_; rintro e w1 ⟨rfl, y1⟩; rw [HM.out])
 go_ret
 exact ⟨Z0g (by by_cases h3 : ms = 0 <;> simp [h3]), Z0a y0 y1⟩
theorem Z8m (b1 s : Nat) (l : List Ky) (r : Int) (p : List At) (As : Option Addr) (cs : Nat) (w : World) (h : ClIn w b1 s l ⟨⟨r, p⟩, As, cs⟩) :
 Calls Tryz.prog 54 #[.agg #[.int .i32 r, .slice As p.length cs], .pointer (some ⟨b1, 0, none⟩)] w fun e w' => e = .returned (.bool (badP l ⟨r, p⟩)) ∧ Below w.heap.size w w' := by
 have y0 := Z0c w (.cells #[.int .i32 r, .slice As p.length cs] 41)
 obtain ⟨hS, h1, rp, hb, hv, hT⟩ := h.ext y0
 have c1 := Z2u h1
 have HS := hid hS
 have HRP := hid rp
 have HV := hid hv
 have HT := hid hT
 obtain ⟨c2, c3⟩ := Z6P (heap_alloc_new w (.cells #[.int .i32 r, .slice As p.length cs] 41))
 generalize hm : Z1T l (!(r == 10)) p = ps
 have HM := hid hm
 have HB : Hid (badP l ⟨r, p⟩ = decide (0 < ps.length)) := hid (by unfold badP; simp only; rw [hm])
 have HL := hid hb
 rw [HB.out]
 clear h hS h1 rp hv hT hm hb
 have hne : (r != 10) = !(r == 10) := rfl
 go_enter Tryz.func54, Tryz.ntmps54
 go_wp2_with (go_at_call 55; refine Hid.out ?_)
 refine hid ?_
 refine (Z8h s l (!(r == 10)) As p.length cs p _ rfl HRP.out HL.out HS.out).mono ?_
 rw [HM.out]
 rintro e w1 ⟨A1, k1, rfl, _, y1⟩
 go_wp2_with (fail)
 go_ret
 exact ⟨Z0g (by by_cases h3 : 0 < ps.length <;> simp [h3]), Z0a y0 y1⟩
theorem Y2z (b1 s : Nat) (l : List Ky) (A : Option Addr) (n c : Nat) (d : List ClS) (w : World) (hn : n = d.length) (h : RdCs w w.heap.size A d) (hb : n ≤ 140737488355328) (hc : ∀ x ∈ d, ClIn w b1 s l x) :
 Calls Tryz.prog 120 #[.slice A n c, .func (.func 50) #[] #[.pointer (some ⟨b1, 0, none⟩)]] w fun e w' => ∃ i : Int, e = .returned (.int .i64 i) ∧ IdxOut (badR l) (Z0i d) i ∧ Below w.heap.size w w' := by
 have N := hid hn
 have HH := hid h
 have HC := hid hc
 have HCL : Hid (Z0i d = d.map (·.c)) := hid rfl
 clear hn h hc
 go_enter Tryz.func120, Tryz.ntmps120
 go_wp2_with (fail)
 go_loopg [8] n (fun g iv wr => ∃ i : Nat, i ≤ n ∧ g = n - i ∧ iv = .int .i64 i ∧ Below w.heap.size w wr ∧ Hid (∀ x ∈ (Z0i d).take i, badR l x = false))
 case atStart => exact ⟨0, by omega, rfl, rfl, Below.refl _ _, hid (by simp)⟩
 case round =>
  obtain ⟨i, hi, hg, rfl, y, HI⟩ := hrel
  have HG := hid hg
  clear hg
  by_cases hlt : i < n
  ·have hil : i < d.length := by have := N.out; omega
   obtain ⟨ad, x, rfl, _, _, hx, hc1⟩ := (HH.out.ext y).el hil
   have hxc : (Z0i d)[i]? = some x.c := by rw [HCL.out, List.getElem?_map, hx]; rfl
   have HT : Hid ((Z0i d).take (i + 1) = (Z0i d).take i ++ [x.c]) := hid (by rw [List.take_add_one, hxc]; rfl)
   have HX := hid hxc
   have hin := hid ((HC.out x (List.mem_of_getElem? hx)).ext y)
   obtain ⟨⟨r, p⟩, As, cs⟩ := x
   obtain ⟨r0, r1⟩ := Z1I hc1
   clear hx hil hc1 hxc
   have hw2 : IntKind.i64.wrap ((i:Int) + 1) = (i : Int) + 1 := IntWalk.i64_in _ (by omega)
   cases hp : badR l ⟨r, p⟩ with
   | true =>
     have HP := hid hp
     clear hp
     go_wp2_with (go_at_call 50; refine Hid.out ?_)
     refine hid ?_
     refine (Z8k b1 s l r p As cs _ hin.out).mono ?_
     rintro e w' ⟨rfl, y2⟩
     rw [HP.out]
     go_wp2_with (fail)
     go_ret
     exact ⟨i, rfl, .inr ⟨i, rfl, by rw [HCL.out, List.length_map]; have := N.out; omega, HI.out, _, HX.out, HP.out⟩, Z0a y y2⟩
   | false =>
     have HP := hid hp
     clear hp
     go_wp2_with (go_at_call 50; refine Hid.out ?_)
     refine hid ?_
     refine (Z8k b1 s l r p As cs _ hin.out).mono ?_
     rintro e w' ⟨rfl, y2⟩
     rw [HP.out]
     go_wp2_with (fail)
     go_roundg (n - (i + 1))
     case measure => have := HG.out; omega
     case rel =>
      refine ⟨i + 1, by omega, rfl, by go_num, Z0a y y2, hid ?_⟩
      intro z hz
      rw [HT.out] at hz
      rcases List.mem_append.1 hz with hz | hz
      ·exact HI.out z hz
      ·simp at hz; rw [hz]; exact HP.out
  ·go_wp2_with (fail)
   go_ret
   refine ⟨-1, rfl, .inl ⟨rfl, ?_⟩, y⟩
   have h1 := HI.out
   rw [List.take_of_length_le (by rw [HCL.out, List.length_map]; have := N.out; omega)] at h1
   exact h1
theorem Y2A (b1 s : Nat) (l : List Ky) (A : Option Addr) (n c : Nat) (d : List ClS) (w : World) (hn : n = d.length) (h : RdCs w w.heap.size A d) (hb : n ≤ 140737488355328) (hc : ∀ x ∈ d, ClIn w b1 s l x) :
 Calls Tryz.prog 49 #[.slice A n c, .func (.func 50) #[] #[.pointer (some ⟨b1, 0, none⟩)]] w fun e w' => e = .returned (.bool ((Z0i d).any (badR l))) ∧ Below w.heap.size w w' := by
 have N := hid hn
 have HH := hid h
 have HC := hid hc
 generalize hr : (Z0i d).any (badR l) = r
 have HR := hid hr
 clear hr hn h hc
 go_enter Tryz.func49, Tryz.ntmps49
 go_wp2_with (go_at_call 120; refine Hid.out ?_)
 refine hid ?_
 refine (Y2z b1 s l A n c d w N.out HH.out hb HC.out).mono ?_
 rintro e w1 ⟨i, rfl, hi, y⟩
 have hd := Z7z hi
 rw [HR.out] at hd
 clear hi
 go_wp2_with (fail)
 go_ret
 exact ⟨by first | rfl | exact Z0g hd, y⟩
theorem Y1f (b1 b0 s : Nat) (l : List Ky) (A : Option Addr) (n c : Nat) (d : List ClS) (w : World) (hn : n = d.length) (h : RdCs w w.heap.size A d) (hb : n ≤ 140737488355328) (hc : ∀ x ∈ d, ClIn w b1 s l x)
 (h0 : w.heap[b0]? = some (.cells #[.slice A n c] 23 (0, 0))) :
 Calls Tryz.prog 48 #[.func (.func 50) #[] #[.pointer (some ⟨b1, 0, none⟩)], .pointer (some ⟨b0, 0, none⟩)] w fun e w' => e = .returned (.bool ((Z0i d).any (badR l))) ∧ Below w.heap.size w w' := by
 have N := hid hn
 have HH := hid h
 have HC := hid hc
 have c0 := Z2u h0
 generalize hr : (Z0i d).any (badR l) = r
 have HR := hid hr
 clear hr hn h hc h0
 go_enter Tryz.func48, Tryz.ntmps48
 go_wp2_with (go_at_call 49; refine Hid.out ?_)
 refine hid ?_
 refine (Y2A b1 s l A n c d w N.out HH.out hb HC.out).mono ?_
 rw [HR.out]
 rintro e w1 ⟨rfl, y⟩
 go_wp2_with (fail)
 go_ret
 exact ⟨rfl, y⟩
theorem Y2B (b1 s : Nat) (l : List Ky) (A : Option Addr) (n c : Nat) (d : List ClS) (w : World) (hn : n = d.length) (h : RdCs w w.heap.size A d) (hb : n ≤ 140737488355328) (hc : ∀ x ∈ d, ClIn w b1 s l x) :
 Calls Tryz.prog 120 #[.slice A n c, .func (.func 53) #[] #[.pointer (some ⟨b1, 0, none⟩)]] w fun e w' => ∃ i : Int, e = .returned (.int .i64 i) ∧ IdxOut (badK l) (Z0i d) i ∧ Below w.heap.size w w' := by
 have N := hid hn
 have HH := hid h
 have HC := hid hc
 have HCL : Hid (Z0i d = d.map (·.c)) := hid rfl
 clear hn h hc
 go_enter Tryz.func120, Tryz.ntmps120
 go_wp2_with (fail)
 go_loopg [8] n (fun g iv wr => ∃ i : Nat, i ≤ n ∧ g = n - i ∧ iv = .int .i64 i ∧ Below w.heap.size w wr ∧ Hid (∀ x ∈ (Z0i d).take i, badK l x = false))
 case atStart => exact ⟨0, by omega, rfl, rfl, Below.refl _ _, hid (by simp)⟩
 case round =>
  obtain ⟨i, hi, hg, rfl, y, HI⟩ := hrel
  have HG := hid hg
  clear hg
  by_cases hlt : i < n
  ·have hil : i < d.length := by have := N.out; omega
   obtain ⟨ad, x, rfl, _, _, hx, hc1⟩ := (HH.out.ext y).el hil
   have hxc : (Z0i d)[i]? = some x.c := by rw [HCL.out, List.getElem?_map, hx]; rfl
   have HT : Hid ((Z0i d).take (i + 1) = (Z0i d).take i ++ [x.c]) := hid (by rw [List.take_add_one, hxc]; rfl)
   have HX := hid hxc
   have hin := hid ((HC.out x (List.mem_of_getElem? hx)).ext y)
   obtain ⟨⟨r, p⟩, As, cs⟩ := x
   obtain ⟨r0, r1⟩ := Z1I hc1
   clear hx hil hc1 hxc
   have hw2 : IntKind.i64.wrap ((i:Int) + 1) = (i : Int) + 1 := IntWalk.i64_in _ (by omega)
   cases hp : badK l ⟨r, p⟩ with
   | true =>
     have HP := hid hp
     clear hp
     go_wp2_with (go_at_call 53; refine Hid.out ?_)
     refine hid ?_
     refine (Z8l b1 s l r p As cs _ hin.out).mono ?_
     rintro e w' ⟨rfl, y2⟩
     rw [HP.out]
     go_wp2_with (fail)
     go_ret
     exact ⟨i, rfl, .inr ⟨i, rfl, by rw [HCL.out, List.length_map]; have := N.out; omega, HI.out, _, HX.out, HP.out⟩, Z0a y y2⟩
   | false =>
     have HP := hid hp
     clear hp
     go_wp2_with (go_at_call 53; refine Hid.out ?_)
     refine hid ?_
     refine (Z8l b1 s l r p As cs _ hin.out).mono ?_
     rintro e w' ⟨rfl, y2⟩
     rw [HP.out]
     go_wp2_with (fail)
     go_roundg (n - (i + 1))
     case measure => have := HG.out; omega
     case rel =>
      refine ⟨i + 1, by omega, rfl, by go_num, Z0a y y2, hid ?_⟩
      intro z hz
      rw [HT.out] at hz
      rcases List.mem_append.1 hz with hz | hz
      ·exact HI.out z hz
      ·simp at hz; rw [hz]; exact HP.out
  ·go_wp2_with (fail)
   go_ret
   refine ⟨-1, rfl, .inl ⟨rfl, ?_⟩, y⟩
   have h1 := HI.out
   rw [List.take_of_length_le (by rw [HCL.out, List.length_map]; have := N.out; omega)] at h1
   exact h1
theorem Y2C (b1 s : Nat) (l : List Ky) (A : Option Addr) (n c : Nat) (d : List ClS) (w : World) (hn : n = d.length) (h : RdCs w w.heap.size A d) (hb : n ≤ 140737488355328) (hc : ∀ x ∈ d, ClIn w b1 s l x) :
 Calls Tryz.prog 49 #[.slice A n c, .func (.func 53) #[] #[.pointer (some ⟨b1, 0, none⟩)]] w fun e w' => e = .returned (.bool ((Z0i d).any (badK l))) ∧ Below w.heap.size w w' := by
 have N := hid hn
 have HH := hid h
 have HC := hid hc
 generalize hr : (Z0i d).any (badK l) = r
 have HR := hid hr
 clear hr hn h hc
 go_enter Tryz.func49, Tryz.ntmps49
 go_wp2_with (go_at_call 120; refine Hid.out ?_)
 refine hid ?_
 refine (Y2B b1 s l A n c d w N.out HH.out hb HC.out).mono ?_
 rintro e w1 ⟨i, rfl, hi, y⟩
 have hd := Z7z hi
 rw [HR.out] at hd
 clear hi
 go_wp2_with (fail)
 go_ret
 exact ⟨by first | rfl | exact Z0g hd, y⟩
theorem Y1g (b1 b0 s : Nat) (l : List Ky) (A : Option Addr) (n c : Nat) (d : List ClS) (w : World) (hn : n = d.length) (h : RdCs w w.heap.size A d) (hb : n ≤ 140737488355328) (hc : ∀ x ∈ d, ClIn w b1 s l x)
 (h0 : w.heap[b0]? = some (.cells #[.slice A n c] 23 (0, 0))) :
 Calls Tryz.prog 48 #[.func (.func 53) #[] #[.pointer (some ⟨b1, 0, none⟩)], .pointer (some ⟨b0, 0, none⟩)] w fun e w' => e = .returned (.bool ((Z0i d).any (badK l))) ∧ Below w.heap.size w w' := by
 have N := hid hn
 have HH := hid h
 have HC := hid hc
 have c0 := Z2u h0
 generalize hr : (Z0i d).any (badK l) = r
 have HR := hid hr
 clear hr hn h hc h0
 go_enter Tryz.func48, Tryz.ntmps48
 go_wp2_with (go_at_call 49; refine Hid.out ?_)
 refine hid ?_
 refine (Y2C b1 s l A n c d w N.out HH.out hb HC.out).mono ?_
 rw [HR.out]
 rintro e w1 ⟨rfl, y⟩
 go_wp2_with (fail)
 go_ret
 exact ⟨rfl, y⟩
theorem Y2D (b1 s : Nat) (l : List Ky) (A : Option Addr) (n c : Nat) (d : List ClS) (w : World) (hn : n = d.length) (h : RdCs w w.heap.size A d) (hb : n ≤ 140737488355328) (hc : ∀ x ∈ d, ClIn w b1 s l x) :
 Calls Tryz.prog 120 #[.slice A n c, .func (.func 54) #[] #[.pointer (some ⟨b1, 0, none⟩)]] w fun e w' => ∃ i : Int, e = .returned (.int .i64 i) ∧ IdxOut (badP l) (Z0i d) i ∧ Below w.heap.size w w' := by
 have N := hid hn
 have HH := hid h
 have HC := hid hc
 have HCL : Hid (Z0i d = d.map (·.c)) := hid rfl
 clear hn h hc
 go_enter Tryz.func120, Tryz.ntmps120
 go_wp2_with (fail)
 go_loopg [8] n (fun g iv wr => ∃ i : Nat, i ≤ n ∧ g = n - i ∧ iv = .int .i64 i ∧ Below w.heap.size w wr ∧ Hid (∀ x ∈ (Z0i d).take i, badP l x = false))
 case atStart => exact ⟨0, by omega, rfl, rfl, Below.refl _ _, hid (by simp)⟩
 case round =>
  obtain ⟨i, hi, hg, rfl, y, HI⟩ := hrel
  have HG := hid hg
  clear hg
  by_cases hlt : i < n
  ·have hil : i < d.length := by have := N.out; omega
   obtain ⟨ad, x, rfl, _, _, hx, hc1⟩ := (HH.out.ext y).el hil
   have hxc : (Z0i d)[i]? = some x.c := by rw [HCL.out, List.getElem?_map, hx]; rfl
   have HT : Hid ((Z0i d).take (i + 1) = (Z0i d).take i ++ [x.c]) := hid (by rw [List.take_add_one, hxc]; rfl)
   have HX := hid hxc
   have hin := hid ((HC.out x (List.mem_of_getElem? hx)).ext y)
   obtain ⟨⟨r, p⟩, As, cs⟩ := x
   obtain ⟨r0, r1⟩ := Z1I hc1
   clear hx hil hc1 hxc
   have hw2 : IntKind.i64.wrap ((i:Int) + 1) = (i : Int) + 1 := IntWalk.i64_in _ (by omega)
   cases hp : badP l ⟨r, p⟩ with
   | true =>
     have HP := hid hp
     clear hp
     go_wp2_with (go_at_call 54; refine Hid.out ?_)
     refine hid ?_
     refine (Z8m b1 s l r p As cs _ hin.out).mono ?_
     rintro e w' ⟨rfl, y2⟩
     rw [HP.out]
     go_wp2_with (fail)
     go_ret
     exact ⟨i, rfl, .inr ⟨i, rfl, by rw [HCL.out, List.length_map]; have := N.out; omega, HI.out, _, HX.out, HP.out⟩, Z0a y y2⟩
   | false =>
     have HP := hid hp
     clear hp
     go_wp2_with (go_at_call 54; refine Hid.out ?_)
     refine hid ?_
     refine (Z8m b1 s l r p As cs _ hin.out).mono ?_
     rintro e w' ⟨rfl, y2⟩
     rw [HP.out]
     go_wp2_with (fail)
     go_roundg (n - (i + 1))
     case measure => have := HG.out; omega
     case rel =>
      refine ⟨i + 1, by omega, rfl, by go_num, Z0a y y2, hid ?_⟩
      intro z hz
      rw [HT.out] at hz
      rcases List.mem_append.1 hz with hz | hz
      ·exact HI.out z hz
      ·simp at hz; rw [hz]; exact HP.out
  ·go_wp2_with (fail)
   go_ret
   refine ⟨-1, rfl, .inl ⟨rfl, ?_⟩, y⟩
   have h1 := HI.out
   rw [List.take_of_length_le (by rw [HCL.out, List.length_map]; have := N.out; omega)] at h1
   exact h1
theorem Y2E (b1 s : Nat) (l : List Ky) (A : Option Addr) (n c : Nat) (d : List ClS) (w : World) (hn : n = d.length) (h : RdCs w w.heap.size A d) (hb : n ≤ 140737488355328) (hc : ∀ x ∈ d, ClIn w b1 s l x) :
 Calls Tryz.prog 49 #[.slice A n c, .func (.func 54) #[] #[.pointer (some ⟨b1, 0, none⟩)]] w fun e w' => e = .returned (.bool ((Z0i d).any (badP l))) ∧ Below w.heap.size w w' := by
 have N := hid hn
 have HH := hid h
 have HC := hid hc
 generalize hr : (Z0i d).any (badP l) = r
 have HR := hid hr
 clear hr hn h hc
 go_enter Tryz.func49, Tryz.ntmps49
 go_wp2_with (go_at_call 120; refine Hid.out ?_)
 refine hid ?_
 refine (Y2D b1 s l A n c d w N.out HH.out hb HC.out).mono ?_
 rintro e w1 ⟨i, rfl, hi, y⟩
 have hd := Z7z hi
 rw [HR.out] at hd
 clear hi
 go_wp2_with (fail)
 go_ret
 exact ⟨by first | rfl | exact Z0g hd, y⟩
theorem Y1h (b1 b0 s : Nat) (l : List Ky) (A : Option Addr) (n c : Nat) (d : List ClS) (w : World) (hn : n = d.length) (h : RdCs w w.heap.size A d) (hb : n ≤ 140737488355328) (hc : ∀ x ∈ d, ClIn w b1 s l x)
 (h0 : w.heap[b0]? = some (.cells #[.slice A n c] 23 (0, 0))) :
 Calls Tryz.prog 48 #[.func (.func 54) #[] #[.pointer (some ⟨b1, 0, none⟩)], .pointer (some ⟨b0, 0, none⟩)] w fun e w' => e = .returned (.bool ((Z0i d).any (badP l))) ∧ Below w.heap.size w w' := by
 have N := hid hn
 have HH := hid h
 have HC := hid hc
 have c0 := Z2u h0
 generalize hr : (Z0i d).any (badP l) = r
 have HR := hid hr
 clear hr hn h hc h0
 go_enter Tryz.func48, Tryz.ntmps48
 go_wp2_with (go_at_call 49; refine Hid.out ?_)
 refine hid ?_
 refine (Y2E b1 s l A n c d w N.out HH.out hb HC.out).mono ?_
 rw [HR.out]
 rintro e w1 ⟨rfl, y⟩
 go_wp2_with (fail)
 go_ret
 exact ⟨rfl, y⟩
section
variable {l : List Ky} {a b : List At} {p q : List Ch}
theorem Z8n (f : Ch → Bool) (vp : okVs p) : okVs (p.filter f) := fun c hc => vp c (List.mem_filter.1 hc).1
theorem Z3U (f : Ch → Bool) (hp : mayP l p = 0) : mayP l (p.filter f) = 0 := by
 obtain ⟨p0, p1, p2, p3⟩ := Z0X hp
 refine Y5Z (by have := List.length_filter_le f p; omega) (Z0G.2 ((Z0G.1 p1).filter Ch.key f)) (fun c hc => ?_) (fun c hc => ?_)
 ·exact List.all_eq_true.1 p2 c (List.mem_filter.1 hc).1
 ·exact List.all_eq_true.1 p3 c (List.mem_filter.1 hc).1
theorem Y1i (hl : l.length ≤ 64) (ha : mayS l a = 0) (hp : mayP l p = 0) : mayS l (Z0K p a) = 0 := by
 obtain ⟨_, a1, a2, a3⟩ := Z1K ha
 obtain ⟨_, p1, p2, p3⟩ := Z0X hp
 obtain ⟨d1, d2, _⟩ := Z1x (Z0G.1 p1) (Z0P.1 a1)
 refine stayA hl d1 fun c hc => ?_
 have h1 := Z5Z At.key d1 hc
 rw [d2] at h1
 cases hy : lk Ch.key p c.key with
 | none =>
   rw [hy] at h1
   have h1 : lk At.key a c.key = some c := h1
   have hm := Z5Y At.key h1
   exact ⟨a2 c hm, a3 c hm⟩
 | some y =>
   have hm := Z5Y Ch.key hy
   rw [hy] at h1
   simp only [Z2C] at h1
   by_cases hg : y.gone = true
   ·rw [if_pos hg] at h1; cases h1
   ·rw [if_neg hg] at h1
    simp only [Option.some.injEq] at h1
    have hok := List.all_eq_true.1 p2 y hm
    have hth := List.all_eq_true.1 p3 y hm
    have hg' : y.gone = false := by simpa using hg
    unfold okC at hok
    rw [if_neg hg] at hok
    unfold Z0B at hth
    rw [hg', Bool.false_or] at hth
    rw [← h1]
    exact ⟨hok, (Bool.and_eq_true_iff.1 hth).2⟩
end
end Go.Proofs.YtnmedachaeanbaaGreatDoor
