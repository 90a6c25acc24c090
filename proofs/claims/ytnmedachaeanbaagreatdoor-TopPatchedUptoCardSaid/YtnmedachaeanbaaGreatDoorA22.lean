/- Merged texts. -/
import Derived.Test.YtnmedachaeanbaaGreatDoorA21
namespace Go.Proofs.YtnmedachaeanbaaGreatDoor
set_option linter.unusedVariables false
set_option linter.unusedSimpArgs false
def Z0Q : List Un → List Int
 | [] => []
 | .ins r _ :: us => r :: Z0Q us
 | _ :: us => Z0Q us
def Z1w : List Un → Nat
 | [] => 0
 | .del :: us => Z1w us + 1
 | _ :: us => Z1w us
theorem Z1r (a b : List Un) : Z0Q (a ++ b) = Z0Q a ++ Z0Q b := by
 induction a with
 | nil => rfl
 | cons u a ih => cases u <;> simp [Z0Q, ih]
theorem Z13 (a b : List Un) : Z1w (a ++ b) = Z1w a + Z1w b := by
 induction a with
 | nil => simp [Z1w]
 | cons u a ih => cases u <;> simp [Z1w, ih] <;> omega
theorem Z6n (k : Nat) (p : List Ch) : Z0Q (List.replicate k (.ret p)) = [] := by induction k with | zero => rfl | succ k ih => rw [List.replicate_succ]; exact ih
theorem Z3X (k : Nat) : Z0Q (List.replicate k .del) = [] := by induction k with | zero => rfl | succ k ih => rw [List.replicate_succ]; exact ih
theorem Y1v (k : Nat) (p : List Ch) : Z1w (List.replicate k (.ret p)) = 0 := by induction k with | zero => rfl | succ k ih => rw [List.replicate_succ]; exact ih
theorem Z7a (k : Nat) : Z1w (List.replicate k .del) = k := by
 induction k with
 | zero => rfl
 | succ k ih => rw [List.replicate_succ]; show Z1w _ + 1 = _; rw [ih]
theorem Y1w (r : List Int) (s : List At) : Z0Q (r.map (fun r => Un.ins r s)) = r := by
 induction r with
 | nil => rfl
 | cons a r ih => show a :: Z0Q _ = _; rw [ih]
theorem Z5y : ∀ (us I : List Un) (g : Nat), Z0Q (cn us I g) = Z0Q I ++ Z0Q us ∧ Z1w (cn us I g) = Z1w I + g + Z1w us
 | [], I, g => by rw [cn, Z1r, Z13, Z3X, Z7a]; exact ⟨rfl, rfl⟩
 | .ins r s :: us, I, g => by
   obtain ⟨h1, h2⟩ := Z5y us (I ++ [.ins r s]) g
   rw [cn, h1, h2, Z1r, Z13]
   refine ⟨by simp [Z0Q], ?_⟩
   show Z1w I + 0 + g + Z1w us = Z1w I + g + Z1w us
   omega
 | .del :: us, I, g => by
   obtain ⟨h1, h2⟩ := Z5y us I (g + 1)
   rw [cn, h1, h2]
   refine ⟨rfl, ?_⟩
   show _ = Z1w I + g + (Z1w us + 1)
   omega
 | .ret p :: us, I, g => by
   obtain ⟨h1, h2⟩ := Z5y us [] 0
   rw [cn, Z1r, Z1r, Z13, Z13, Z3X, Z7a]
   refine ⟨?_, ?_⟩
   ·show Z0Q I ++ [] ++ Z0Q (cn us [] 0) = _
    rw [h1, List.append_nil]; rfl
   ·show Z1w I + g + Z1w (cn us [] 0) = Z1w I + g + Z1w us
    rw [h2]
    show Z1w I + g + (0 + 0 + Z1w us) = _
    omega
theorem Y0u (us : List Un) : Z0Q (nf us) = Z0Q us ∧ Z1w (nf us) = Z1w us := by
 obtain ⟨k, hk⟩ := Z4h (Z16 us)
 obtain ⟨h1, h2⟩ := Z5y us [] 0
 have h1' : Z0Q (Z16 us) = Z0Q us := h1
 have h2' : Z1w (Z16 us) = Z1w us := by show Z1w (cn us [] 0) = _; rw [h2]; show 0 + 0 + Z1w us = _; omega
 rw [hk, Z1r, Z6n, List.append_nil] at h1'
 rw [hk, Z13, Y1v] at h2'
 exact ⟨h1', h2'⟩
theorem Y3c (f : Bool) : ∀ vs us, Z0Q (traU f us vs) = Z0Q vs ∧ Z1w (traU f us vs) ≤ Z1w vs := by
 refine Z4m f ?_ ?_ ?_ ?_ ?_ ?_ ?_ ?_
 ·intro us; rw [Z19]; exact ⟨rfl, Nat.le_refl _⟩
 ·intro vs; rw [Z1q]; exact ⟨rfl, Nat.le_refl _⟩
 ·intro r s us v vs e ih; rw [e]; exact ih
 ·intro u us r s vs e ih; rw [e]; exact ⟨congrArg (List.cons r) ih.1, ih.2⟩
 ·intro us vs ih; rw [Z4M]; exact ⟨ih.1, Nat.le_trans ih.2 (Nat.le_succ _)⟩
 ·intro us q vs ih; rw [Z4N]; exact ih
 ·intro p us vs ih; rw [Z4O]; exact ⟨ih.1, Nat.succ_le_succ ih.2⟩
 ·intro p us q vs ih; rw [Z3V]; exact ih
theorem Z5z (us : List Un) : Z0l (nf us) ≤ Z0l us := by
 obtain ⟨k, hk⟩ := Z4h (Z16 us)
 have h1 := congrArg Z0l hk
 rw [Z0I, Z5V] at h1
 show Z0l (trim (Z16 us)) ≤ _
 omega
theorem Y3d {l : List Ky} {x : List OpS} {us : List Un} (hx : osOf x = mkU us) (hm : ∀ u ∈ us, mU l u) (ht : Z0k us ≤ 536870912) (hk : Z0l us ≤ 536870912) (hb : x.length ≤ 1048576) : Z1k x ≤ 536870912 ∧ Z1F x ≤ 536870912 ∧ Z1k x = Z0k (nf us) ∧ Z1F x = Z0l (nf us) := by
 have hi := Z7H hx
 have hu := Z2n hx
 have h1 := Z93 us
 have h2 := Z5z us
 have g : goodO l x := Z4J hi (by rw [hu]; exact Z6e (P := mU l) trivial hm) (by rw [hu]; omega) (by rw [hu]; omega)
 obtain ⟨s1, s2⟩ := Z08 x hi
 rw [hu] at s1 s2
 rw [Z1m g hb, Z1M g hb]
 omega
theorem Z26 : ∀ us : List Un, Z0l us ≤ (Z0Q us).length + Z0k us
 | [] => Nat.le_refl _
 | .ins r s :: us => by have := Z26 us; show Z0l us + 1 ≤ (Z0Q us).length + 1 + Z0k us; omega
 | .del :: us => by have := Z26 us; show Z0l us ≤ (Z0Q us).length + (Z0k us + 1); omega
 | .ret p :: us => by have := Z26 us; show Z0l us + 1 ≤ (Z0Q us).length + (Z0k us + 1); omega
theorem Y0v : ∀ x : List OpS, (Z0Q (Z0e (osOf x))).length ≤ szX x
 | [] => Nat.le_refl _
 | o :: x => by
   have ih := Y0v x
   have e : Z0e (osOf (o :: x)) = Z0h o.o ++ Z0e (osOf x) := rfl
   have e2 : szX (o :: x) = szO o.o + szX x := rfl
   rw [e, e2, Z1r, List.length_append]
   have h : (Z0Q (Z0h o.o)).length ≤ szO o.o := by
    unfold Z0h
    split
    ·rw [Y1w]; unfold szO; omega
    ·split
     ·rw [Z6n]; exact Nat.zero_le _
     ·rw [Z3X]; exact Nat.zero_le _
   omega
theorem Y3e (l : List Ky) {us : List Un} {d : List Cl} (h : Z0k us ≤ d.length) : (app l us d).length ≤ d.length + (Z0Q us).length := by
 have h1 := Z17 l us d h
 have h2 := Z26 us
 omega
theorem Z8A {l : List Ky} {z : List OpS} {us : List Un} {d : List Cl} {N : Nat} (hz : osOf z = mkU us) (hb : z.length ≤ 1048576) (hd : mayD l d = 0) (hf : FitU l us d.length N) (hN : N ≤ 536870912) (ha : (app l us d).length ≤ N) {most : Int} (hm : (d.length : Int) ≤ most) :
 ((((app l us d).length : Nat) : Int) ≤ most → ∃ N2 : Nat, N2 ≤ N ∧ Z00 l z d most = 0 ∧ Z00 l z d (N2 : Int) = 0 ∧ app l (Z0e (osOf z)) d = app l us d) ∧ (most < ((app l us d).length : Int) → Z00 l z d most = 8) := by
 have hl := Z17 l us d hf.t
 refine ⟨fun h => ?_, fun h => ?_⟩
 ·have hf2 : FitU l us d.length (max d.length (app l us d).length) := ⟨hf.v, hf.t, hf.n1, Nat.le_max_left _ _, hf.f, by have := Nat.le_max_right d.length (app l us d).length; omega, hf.tb, hf.mb⟩
  have hn := hf.nm
  obtain ⟨h1, h2, h3⟩ := Y22 (most := most) hz hb hd hf2 (Nat.max_le.2 ⟨by omega, by omega⟩) (by omega)
  exact ⟨_, Nat.max_le.2 ⟨hn, ha⟩, h1, h2, h3⟩
 ·obtain ⟨h1, _, h3⟩ := Y22 (N := N) (most := (N : Int)) hz hb hd hf hN (Int.le_refl _)
  obtain ⟨h4, h5⟩ := Z2j h1
  obtain ⟨g1, g2, g3, g4, g5, g6, g7⟩ := Z10 h5
  obtain ⟨m1, m2, m3⟩ := Z1y g1
  obtain ⟨s1, s2⟩ := Z08 z (Z0Y m1)
  have hn := hf.nm
  have hlo := Z5u (n := (d.length : Int)) m1 hb (by omega) (by omega) m2 m3
  have ht : Z0k (Z0e (osOf z)) ≤ d.length := by
   rw [Z1m m1 hb] at g4
   omega
  have hl2 := Z17 l (Z0e (osOf z)) d ht
  rw [h3] at hl2
  unfold Z00
  rw [if_neg (by simpa using g1), if_neg (by simpa using h4)]
  unfold Z3g
  rw [if_neg (by simp [g1]), if_neg (by omega), if_neg (by simp [g5]), if_neg (by simp [g6]), if_pos (by rw [hlo]; omega)]
theorem Y4V (f : Bool) {l : List Ky} {ua ub : List Un} {d : List Cl} {m1 m2 : Nat} (hf : FitU l ua d.length m1) (hg : FitU l ub d.length m2) (hx : (app l ua d).length + (Z0Q ub).length ≤ 10000) (hb : Z0l ua + Z0l ub ≤ 536870912) :
 FitU l (traU f (nf ua) (nf ub)) (app l ua d).length 10000 ∧ (app l (traU f (nf ua) (nf ub)) (app l ua d)).length ≤ 10000 := by
 have ht := Z8y l f (nf ub) (nf ua) d (Z8s hf).t (Z8s hg).t
 rw [Z8d] at ht
 have hr := Y3e l ht
 rw [(Y3c f (nf ub) (nf ua)).1, (Y0u ub).1] at hr
 have h := Y6k (N := 10000) f (Z8s hf) (Z8s hg) (by rw [Z8d]; omega) (by rw [Z8d]; omega) (by omega) (by have h1 := Z5z ua; have h2 := Z5z ub; omega)
 rw [Z8d] at h
 exact ⟨h, by omega⟩
theorem In.makes {l : List Ky} {x : List OpS} {d : List Cl} {most : Int} {N : Nat} (h : In l x d most N) : Z0l (Z0e (osOf x)) ≤ 10000 := by
 have h1 := Z17 l (Z0e (osOf x)) d h.fit.t
 have h2 := h.an
 have h3 := h.n
 have h4 := h.fit.t
 omega
def Z8B (i n : Nat) (p : List Ch) : List Un := List.replicate i (.ret []) ++ List.replicate n (.ret p)
theorem Y4W {l : List Ky} {i n N : Nat} {p : List Ch} (hp : mayP l p = 0) (hn : 1 ≤ N) (h : i + n ≤ N) (hb : N ≤ 536870912) : FitU l (Z8B i n p) N N := by
 refine ⟨fun u hu => ?_, ?_, hn, Nat.le_refl _, ?_, ?_, ?_, ?_⟩
 ·unfold Z8B at hu
  rcases List.mem_append.1 hu with hu | hu
  ·rw [(List.mem_replicate.1 hu).2]; exact Z7E l
  ·rw [(List.mem_replicate.1 hu).2]; exact hp
 ·unfold Z8B; rw [Z6c, Z1U]; exact h
 ·unfold Z8B; rw [Z1n, Z58, Z58]; rfl
 ·unfold Z8B; rw [Z6c, Z1U, Z8q, Z2Q]; omega
 ·unfold Z8B; rw [Z6c, Z1U]; omega
 ·unfold Z8B; rw [Z8q, Z2Q]; omega
def topX (n : Nat) (p : List Ch) (Ap : Option Addr) (c : Nat) : OpS := ⟨opR n p, none, 0, none, 0, Ap, c⟩
theorem Z6o (n : Nat) (p : List Ch) (Ap : Option Addr) (c : Nat) : Z0e (osOf [topX n p Ap c]) = List.replicate n (.ret p) := by
 show Z0e [opR n p] = _
 rw [Z04, Z1p]; rfl
theorem Z9x (p : List Ch) : ∀ n : Nat, cn (List.replicate n (.ret p)) [] 0 = List.replicate n (.ret p)
 | 0 => rfl
 | n + 1 => by
   rw [List.replicate_succ, cn, Z9x p n]; rfl
theorem Z9y {p : List Ch} (n : Nat) (h : p ≠ []) : nf (List.replicate n (.ret p)) = List.replicate n (.ret p) := by
 unfold nf Z16
 rw [Z9x]
 refine Z39 fun u hu => ?_
 rw [(List.mem_replicate.1 (List.mem_of_getLast? hu)).2]
 intro e
 exact h (by injection e)
theorem Y0w (n : Nat) : nf (List.replicate n (.ret [])) = [] := by
 unfold nf Z16
 rw [Z9x]
 have := Z75 (us := []) n
 rw [List.nil_append] at this
 rw [this]; rfl
theorem Y0x (p q : List Ch) : ∀ n : Nat, traU true (List.replicate n (.ret p)) (List.replicate n (.ret q)) = List.replicate n (.ret (Z3v q p))
 | 0 => Z19 true []
 | n + 1 => by
   rw [List.replicate_succ, List.replicate_succ, List.replicate_succ, Z3V, Y0x p q n]; rfl
theorem Z9z (l : List Ky) (p : List Ch) (d : List Cl) : app l (List.replicate d.length (.ret p)) d = d.map (fun c => actC l c p) := by
 rw [Y0b, List.take_length, List.drop_length, List.append_nil]
theorem Y4X {l : List Ky} {p q : List Ch} {d : List Cl} (hp : mayP l p = 0) (hq : mayP l q = 0) (hd : ∀ c ∈ d, Z1D c.s = true) :
 app l (traU true (nf (List.replicate d.length (.ret p))) (nf (List.replicate d.length (.ret q)))) (app l (List.replicate d.length (.ret p)) d) = d.map (fun c => actC l (actC l c q) p) := by
 rw [Z9z]
 by_cases h2 : q = []
 ·subst h2
  rw [Y0w, Z19]
  show d.map _ = _
  exact List.map_congr_left fun c _ => by rw [Z4c]
 by_cases h1 : p = []
 ·subst h1
  rw [Y0w, Z9y _ h2, Z1q]
  have e : d.map (fun c => actC l c []) = d := by
   conv => rhs; rw [← List.map_id d]
   exact List.map_congr_left fun c _ => Z4c l c
  rw [e, Z9z]
  exact List.map_congr_left fun c _ => by rw [Z4c]
 rw [Z9y _ h1, Z9y _ h2, Y0x]
 have h := Z9z l (Z3v q p) (d.map (fun c => actC l c p))
 rw [List.length_map] at h
 rw [h, List.map_map]
 exact List.map_congr_left fun c hc => Y4S hp hq (hd c hc)
theorem Y5H {α : Type} (f : α → Nat) (k : Nat) : ∀ l : List α, (∀ a ∈ l, f a ≤ k) → (l.map f).sum ≤ k * l.length
 | [], _ => Nat.le_refl _
 | a :: l, h => by
   have h1 := h a (by simp)
   have h2 := Y5H f k l (fun b hb => h b (List.mem_cons_of_mem _ hb))
   rw [List.map_cons, List.sum_cons, List.length_cons, Nat.mul_succ]; omega
theorem Y4Y {c : Ch} (h : okC c = true) : c.v.s.size ≤ 64 := by
 unfold okC at h
 split at h
 ·have e : c.v = V.zero := of_decide_eq_true h
  rw [e]; exact Nat.zero_le _
 ·exact Y2U h
theorem Z8C {l : List Ky} {n : Nat} {p : List Ch} {Ap : Option Addr} {c : Nat} (hp : mayP l p = 0) : szX [topX n p Ap c] ≤ 4161 ∧ szN [topX n p Ap c] = 1 := by
 obtain ⟨h1, _, h2, _⟩ := Z0X hp
 have h3 := Y5H (fun a : Ch => a.v.s.size) 64 p (fun a ha => Y4Y (List.all_eq_true.1 h2 a ha))
 refine ⟨?_, rfl⟩
 show szO (opR n p) + 0 ≤ 4161
 show (1 + 0 + 0 + p.length + 0 + szC p) + 0 ≤ 4161
 unfold szC
 omega
theorem Y5I {l : List Ky} {p : List Ch} {d : List Cl} {Ap : Option Addr} {c : Nat} (hp : mayP l p = 0) (hd : mayD l d = 0) (hn : d.length ≤ 5000) : ∃ N, In l [topX d.length p Ap c] d 536870912 N := by
 obtain ⟨hz, _⟩ := Z8C (n := d.length) (Ap := Ap) (c := c) hp
 have h1 : 1 ≤ d.length := by
  obtain ⟨_, _, t, z, e, _⟩ := Z3D.1 hd
  rw [e]; simp
 have hf := Y4W (l := l) (i := 0) (n := d.length) (N := d.length) hp h1 (by omega) (by omega)
 have hu : Z8B 0 d.length p = Z0e (osOf [topX d.length p Ap c]) := by rw [Z6o]; rfl
 rw [hu] at hf
 have hi : ∀ o ∈ [topX d.length p Ap c], isOp o.o := fun o ho => by
  rw [List.mem_singleton] at ho
  subst ho
  exact .inr (.inr ⟨rfl, by show (1 : Int) ≤ (d.length : Int); omega, rfl, rfl⟩)
 have h2 := Z2k hd (Z6W (by simp) (by omega) hi hf)
 exact Y4Q (by simp) (by omega) (Z6j h2 (by omega))
theorem Y4Z {l : List Ky} {p q : List Ch} {c : Cl} (hp : mayP l p = 0) (hq : mayP l q = 0) (hs : Z1D c.s = true) :
 Z2m (Z0T l (c.r == 10) p) (Z2m (Z0T l (c.r == 10) q) c.s) = (actC l (actC l c q) p).s := by
 have p1 : Z1S (Z0T l (c.r == 10) p) = true := Z0G.2 (Z5s (Z0G.1 (Z0X hp).2.1))
 have q1 : Z1S (Z0T l (c.r == 10) q) = true := Z0G.2 (Z5s (Z0G.1 (Z0X hq).2.1))
 rw [Z8w q1 hs, Z8w p1 (Y0Z q1 hs)]
 rfl
open Go.RowKit
def KeyRow (K : IntKind) (size : Nat) (e : TypeId) (w : World) (base : Nat) (A : Option Addr) (n : Nat) : Prop :=
 0 < n → ∃ g cur, A = some ⟨g, 0, none⟩ ∧ base ≤ g ∧ w.heap[g]? = some (.cells cur e (0, 0)) ∧ ∀ i, i < n → ∃ k, cur[i * size]? = some (.int K k)
section
variable {K : IntKind} {size : Nat} {e e' : TypeId} {w w' : World} {base : Nat} {A : Option Addr} {n g : Nat} {cur : Array Value}
theorem KeyRow.below (h : KeyRow K size e w base A n) (y : Below w.heap.size w w') : KeyRow K size e w' base A n := fun hn => by
 obtain ⟨g, cur, e1, e2, e3, e4⟩ := h hn
 exact ⟨g, cur, e1, e2, (y.block g (Z0b e3)).trans e3, e4⟩
theorem KeyRow.of {α : Type} {enc : α → List Value} {l : List α} {c : Nat} (hs : ∀ a, (enc a).length = size) (hk : ∀ a, ∃ k, (enc a)[0]? = some (.int K k))
 (h : Ow enc size e w base (.slice A n c) l) (hl : n = l.length) : KeyRow K size e w base A n := fun hn => by
 obtain ⟨g, cur, hA, _, hb, hg, h1, _, hc, ht⟩ := h.row (by omega)
 refine ⟨g, cur, hA, hb, hg, fun i hi => ?_⟩
 obtain ⟨k, hk⟩ := hk (l[i]'(by omega))
 have hf := Z3A hs l i 0 _ (by omega) hk
 refine ⟨k, ?_⟩
 rw [← ht, List.getElem?_take, Nat.add_zero] at hf
 split at hf
 ·rw [← Array.getElem?_toList]; exact hf
 ·cases hf
end
theorem Y6l (a : At) : ∃ k, (At.enc a)[0]? = some (.int .i64 k) := ⟨a.key, rfl⟩
theorem Y6m (a : Ch) : ∃ k, (Ch.enc a)[0]? = some (.int .i64 k) := ⟨a.key, rfl⟩
theorem Y40 (a : Int) : ∃ k, (Z33 a)[0]? = some (.int .i32 k) := ⟨a, rfl⟩
def WrO (w : World) (base : Nat) (A : Option Addr) (n c : Nat) (x : List OpS) : Prop :=
 n = x.length ∧ OwOs w base (.slice A n c) x ∧ ∀ z ∈ x, KeyRow .i32 1 21 w base z.Ar z.o.r.length ∧ KeyRow .i64 5 108 w base z.As z.o.s.length ∧ KeyRow .i64 6 75 w base z.Ap z.o.p.length
theorem WrO.of {w : World} {base : Nat} {A : Option Addr} {c : Nat} {x : List OpS} (ho : OwOs w base (.slice A x.length c) x) (hp : ∀ z ∈ x, ∃ g, PartN w base g z) : WrO w base A x.length c x :=
 ⟨rfl, ho, fun z hz => by
  obtain ⟨g, h1, h2, h3⟩ := hp z hz
  exact ⟨KeyRow.of Z1C Y40 h1.1 rfl, KeyRow.of At.enc_len Y6l h2.1 rfl, KeyRow.of Ch.enc_len Y6m h3.1 rfl⟩⟩
theorem WrO.below {w w' : World} {base : Nat} {A : Option Addr} {n c : Nat} {x : List OpS} (h : WrO w base A n c x) (y : Below w.heap.size w w') : WrO w' base A n c x :=
 ⟨h.1, h.2.1.below y (Nat.le_refl _), fun z hz => ⟨(h.2.2 z hz).1.below y, (h.2.2 z hz).2.1.below y, (h.2.2 z hz).2.2.below y⟩⟩
open Go.RowKit
set_option linter.unusedVariables false
theorem NewOps.opCV {m : Mk} {us : List Un} {K S : Nat} {w0 w w' : World} {e : Ending} (h : NewOps (Z1u m) w e w') (ht : Told m us) (hu : ∀ u ∈ us, okUn u) (hB : MkB m K S) (hK : K ≤ 900000) (hS : S ≤ 100000000) (hw : w0.heap.size ≤ w.heap.size) :
 ∃ A c x, e = .returned (.slice A x.length c) ∧ osOf x = mkU us ∧ OpsC w' A x.length c x ∧ WrO w' w0.heap.size A x.length c x ∧ Below w.heap.size w w' := by
 obtain ⟨A, c, x, he, hx, ho, hp, y⟩ := h
 obtain ⟨h1, h2⟩ := Y58 hx ht hu hB (by omega) hS
 obtain ⟨c1, c2⟩ := Z6k ho
 exact ⟨A, c, x, he, hx.trans (Y0q ht), ⟨⟨Y59 ho hp, rfl, h1, by omega⟩, c1, c2, fun z hz => by obtain ⟨g, hg⟩ := hp z hz; exact Y4R hg⟩, WrO.of (ho.base_le hw) (fun z hz => (hp z hz).imp fun g p => p.base_le hw), y⟩
set_option linter.unusedSimpArgs false
theorem Z7L {α : Type} {enc : α → List Value} {size B b : Nat} {w : World} {A : Option Addr} {l : List α} {cs : Array Value} {t : TypeId} (h : Rd enc size w B A l) (hb : w.heap[b]? = some (.cells cs t (0, 0)))
 (hbad : ∀ (a : α) (o : Nat), (∀ (j : Nat) (u : Value), (enc a)[j]? = some u → cs[o + j]? = some u) → False) : OffF (fun k => k = b) A l.length := fun ad e hl hk => by
 obtain ⟨ad', e', _, hc⟩ := h hl
 rw [e] at e'; injection e' with e'; subst e'
 refine hbad l[0] ad.off (fun j u hu => ?_)
 have h1 := hc 0 hl j u hu
 rw [Nat.zero_mul, Z0o] at h1
 unfold World.cell? at h1
 rw [Z0U, hk, hb] at h1
 simp only at h1
 have e2 : (ad.add j).off = ad.off + j := by unfold Addr.add; split <;> simp_all
 rw [e2] at h1
 split at h1
 ·cases h1
 ·exact h1
structure NoPart (cs : Array Value) : Prop where
 i : ∀ (r : Int) (o : Nat), cs[o]? ≠ some (.int .i32 r)
 s : cs.size < 3
theorem NoPart.one (A : Option Addr) (n c : Nat) : NoPart #[.slice A n c] := ⟨fun r o h => by
 match o with
 | 0 => simp at h
 | o + 1 => simp at h, by simp⟩
theorem NoPart.i32 {cs : Array Value} (h : NoPart cs) (a : Int) (o : Nat) (hh : ∀ (j : Nat) (u : Value), (Z33 a)[j]? = some u → cs[o + j]? = some u) : False := h.i a o (hh 0 _ rfl)
theorem NoPart.big {cs : Array Value} (h : NoPart cs) {l : List Value} (hl : 3 ≤ l.length) (o : Nat) (hh : ∀ (j : Nat) (u : Value), l[j]? = some u → cs[o + j]? = some u) : False := by
 have h1 := hh 2 l[2] (List.getElem?_eq_getElem (by omega))
 have h2 : o + 2 < cs.size := by
  rcases Nat.lt_or_ge (o + 2) cs.size with h3 | h3
  ·exact h3
  ·rw [Array.getElem?_eq_none h3] at h1; cases h1
 have := h.s
 omega
theorem Mkr.beside {w w' : World} {F : Nat → Prop} {b br : Nat} {m : Mk} {cs : Array Value} {t : TypeId} (h : Mkr w F b m) (hb : w.heap[br]? = some (.cells cs t (0, 0))) (hn : NoPart cs) (hF : ¬ F br)
 (g : Grow w (fun k => k = br) w' (fun k => k = br)) : Mkr w' F b m := by
 obtain ⟨vd, vi, D, I, h1, h2, h3, h4, h5, h6, h7, h8, h9, h10, h11, h12⟩ := h
 have oI : ∀ {A : Option Addr} {l : List Int}, Z3i w w.heap.size A l → OffF (fun k => k = br) A l.length := fun h => Z7L h hb (fun a o hh => hn.i32 a o hh)
 have oA : ∀ {A : Option Addr} {l : List At}, RdAt w w.heap.size A l → OffF (fun k => k = br) A l.length := fun h => Z7L h hb (fun a o hh => hn.big (l := At.enc a) (by simp [At.enc]) o hh)
 have oC : ∀ {A : Option Addr} {l : List Ch}, RdCh w w.heap.size A l → OffF (fun k => k = br) A l.length := fun h => Z7L h hb (fun a o hh => hn.big (l := Ch.enc a) (by simp [Ch.enc]) o hh)
 have hne : ∀ k, F k → k ≠ br := fun k hk e => hF (e ▸ hk)
 have part : ∀ x, PartF w F x → PartF w' F x := fun x hx => ⟨⟨hx.1.1.grow g (oI hx.1.1), hx.1.2⟩, ⟨hx.2.1.1.grow g (oA hx.2.1.1), hx.2.1.2⟩, ⟨hx.2.2.1.grow g (oC hx.2.2.1), hx.2.2.2⟩⟩
 refine ⟨vd, vi, D, I, (g.block b (h6 b h7) (hne b h7)).trans h1, h2.grow g (fun k hk => hne k (h8 k hk).1), h3.grow g (fun k hk => hne k (h9 k hk).1), h4, h5, fun k hk => Nat.lt_of_lt_of_le (h6 k hk) g.size, h7, h8, h9, fun x hx => part x (h10 x hx), fun x hx => part x (h11 x hx), fun x hx => ?_⟩
 obtain ⟨e1, e2, e3, e4⟩ := h12 x hx
 exact ⟨e1.grow g (fun k hk => hne k (e2 k hk).1), e2, ⟨e3.1.grow g (oA e3.1), e3.2⟩, ⟨e4.1.grow g (oC e4.1), e4.2⟩⟩
def OpS.val (x : OpS) : Value := .agg #[.int .u8 x.o.k, .int .i64 x.o.n, .slice x.Ar x.o.r.length x.cr, .slice x.As x.o.s.length x.cs, .slice x.Ap x.o.p.length x.cp]
theorem Grow.wide {w w' : World} {F F' G : Nat → Prop} (g : Grow w F w' F') (h : ∀ k, F k → G k) (h' : ∀ k, F' k → G k ∨ w.heap.size ≤ k) : Grow w G w' G :=
 ⟨g.os, g.tape, g.output, g.size, fun j hj hn => g.block j hj (fun hf => hn (h j hf)), fun k hk => .inl hk⟩
structure RdX (w : World) (G : Nat → Prop) (b : Nat) (X : List OpS) : Prop where
 box : ∃ A n c, w.heap[b]? = some (.cells #[.slice A n c] 182 (0, 0)) ∧ n = X.length ∧ n ≤ c ∧ c ≤ maxLen ∧ RdOs w w.heap.size A X ∧ OffF G A X.length
 parts : ∀ x ∈ X, PartF w G x
 b : X.length ≤ 1000000
theorem RdX.lt {w : World} {G : Nat → Prop} {b : Nat} {X : List OpS} (h : RdX w G b X) : b < w.heap.size := by
 obtain ⟨A, n, c, hb, _⟩ := h.box; exact Z0b hb
theorem RdX.keep {w w' : World} {F G F' G' : Nat → Prop} {b : Nat} {X : List OpS} (h : RdX w G b X) (g : Grow w F w' F') (hF : ∀ k, F k → G k) (hG : ∀ k, G' k → G k ∨ w.heap.size ≤ k) (hb : w'.heap[b]? = w.heap[b]?) : RdX w' G' b X := by
 have gw : Grow w G w' G' := ⟨g.os, g.tape, g.output, g.size, fun j hj hn => g.block j hj (fun hf => hn (hF j hf)), hG⟩
 obtain ⟨A, n, c, h1, h2, h3, h4, h5, h6⟩ := h.box
 exact ⟨⟨A, n, c, hb.trans h1, h2, h3, h4, h5.grow gw h6, h6.grow h5 gw⟩, fun x hx => (h.parts x hx).grow gw, h.b⟩
theorem RdX.ext {w w' : World} {G : Nat → Prop} {b : Nat} {X : List OpS} (h : RdX w G b X) (y : Below w.heap.size w w') : RdX w' G b X :=
 h.keep (Grow.of (F := G) y) (fun k hk => hk) (fun k hk => .inl hk) (y.block b h.lt)
def FB (F : Nat → Prop) (bu bv : Nat) : Nat → Prop := fun k => F k ∨ k = bu ∨ k = bv
structure TSt (w wr : World) (F : Nat → Prop) (b bu bv : Nat) (X Y : List OpS) (m : Mk) : Prop where
 m : Mkr wr F b m
 low : ∀ k, F k → w.heap.size ≤ k
 nu : ¬ F bu
 nv : ¬ F bv
 x : RdX wr (FB F bu bv) bu X
 y : RdX wr (FB F bu bv) bv Y
 ne : bu ≠ bv
 lu : w.heap.size ≤ bu
 lv : w.heap.size ≤ bv
 below : Below w.heap.size w wr
theorem TSt.more {w wr w2 : World} {F : Nat → Prop} {b bu bv : Nat} {X Y : List OpS} {m : Mk} (h : TSt w wr F b bu bv X Y m) (y : Below wr.heap.size wr w2) : TSt w w2 F b bu bv X Y m :=
 ⟨h.m.below y, h.low, h.nu, h.nv, h.x.ext y, h.y.ext y, h.ne, h.lu, h.lv, h.below.trans (y.mono h.below.size)⟩
theorem TSt.lt {w wr : World} {F : Nat → Prop} {b bu bv : Nat} {X Y : List OpS} {m : Mk} (h : TSt w wr F b bu bv X Y m) : ∀ k, FB F bu bv k → k < wr.heap.size := fun k hk => by
 rcases hk with hk | rfl | rfl
 ·exact h.m.lt k hk
 ·exact h.x.lt
 ·exact h.y.lt
theorem TSt.tookX {w wr w2 : World} {F : Nat → Prop} {b bu bv : Nat} {X Y X' : List OpS} {m : Mk} (h : TSt w wr F b bu bv X Y m) (hr : RdX w2 (FB F bu bv) bu X') (g : Grow wr (fun k => k = bu) w2 (fun k => k = bu)) : TSt w w2 F b bu bv X' Y m := by
 obtain ⟨A, n, c, hb, _⟩ := h.x.box
 exact ⟨h.m.beside hb (NoPart.one _ _ _) h.nu g, h.low, h.nu, h.nv, hr, h.y.keep g (fun k hk => .inr (.inl hk)) (fun k hk => .inl hk) (g.block bv h.y.lt (fun e => h.ne e.symm)), h.ne, h.lu, h.lv, h.below.trans (g.below (fun k hk => by have := h.lu; omega) h.below.size)⟩
theorem TSt.tookY {w wr w2 : World} {F : Nat → Prop} {b bu bv : Nat} {X Y Y' : List OpS} {m : Mk} (h : TSt w wr F b bu bv X Y m) (hr : RdX w2 (FB F bu bv) bv Y') (g : Grow wr (fun k => k = bv) w2 (fun k => k = bv)) : TSt w w2 F b bu bv X Y' m := by
 obtain ⟨A, n, c, hb, _⟩ := h.y.box
 exact ⟨h.m.beside hb (NoPart.one _ _ _) h.nv g, h.low, h.nu, h.nv, h.x.keep g (fun k hk => .inr (.inr hk)) (fun k hk => .inl hk) (g.block bu h.x.lt (fun e => h.ne e)), hr, h.ne, h.lu, h.lv, h.below.trans (g.below (fun k hk => by have := h.lv; omega) h.below.size)⟩
theorem RdX.told {w w2 : World} {F F2 : Nat → Prop} {b bu bv : Nat} {X : List OpS} (h : RdX w (FB F bu bv) b X) (g : Grow w F w2 F2) (nb : ¬ F b) : RdX w2 (FB F2 bu bv) b X :=
 h.keep g (fun k hk => .inl hk) (fun k hk => by
  rcases hk with hk | hk
  ·rcases g.foot k hk with h1 | h1
   ·exact .inl (.inl h1)
   ·exact .inr h1
  ·exact .inl (.inr hk)) (g.block b h.lt nb)
theorem TSt.told {w wr w2 : World} {F F2 : Nat → Prop} {b bu bv : Nat} {X Y : List OpS} {m m2 : Mk} (h : TSt w wr F b bu bv X Y m) (hm : Mkr w2 F2 b m2) (g : Grow wr F w2 F2) : TSt w w2 F2 b bu bv X Y m2 :=
 ⟨hm, g.low h.low h.below.size, g.out h.x.lt h.nu, g.out h.y.lt h.nv, h.x.told g h.nu, h.y.told g h.nv, h.ne, h.lu, h.lv, h.below.trans (g.below h.low h.below.size)⟩
theorem PartF.took {w w2 : World} {F : Nat → Prop} {bu bv b : Nat} {o : OpS} (h : PartF w (FB F bu bv) o) (hb : b = bu ∨ b = bv) (g : Grow w (fun k => k = b) w2 (fun k => k = b)) : PartF w2 (FB F bu bv) o :=
 h.grow (g.wide (fun k hk => .inr (by subst hk; exact hb)) (fun k hk => .inl (.inr (by subst hk; exact hb))))
def Y3f (b : Nat) (X : List OpS) (R : OpS → List OpS → Prop) (w : World) (e : Ending) (w' : World) : Prop :=
 ∃ (o : OpS) (X' : List OpS), e = .returned o.val ∧ R o X' ∧ Grow w (fun k => k = b) w' (fun k => k = b) ∧
   ∀ G : Nat → Prop, G b → (∀ k, G k → k < w.heap.size) → RdX w G b X → RdX w' G b X' ∧ PartF w' G o
theorem Ow.new {α : Type} {enc : α → List Value} {size : Nat} (hs : ∀ a, (enc a).length = size) (w : World) (e : TypeId) (l : List α) {cs : Array Value} (hc : cs.toList = l.flatMap enc) {n b B : Nat} (hn : n = l.length) (hm : n ≤ maxLen) (hB : B ≤ w.heap.size) (hb : b = w.heap.size) :
 Ow enc size e (w.alloc (.cells cs e)) B (.slice (some ⟨b, 0, none⟩) n n) l := by
 subst hb
 subst hn
 refine .inr ⟨by rw [Z2v hs], .inr ⟨w.heap.size, l.length, cs, rfl, hB, heap_alloc_new w (.cells cs e), Nat.le_refl _, hm, ?_, ?_⟩⟩
 ·rw [← Array.length_toList, hc, Z2v hs]
 ·rw [hc]
  exact List.take_of_length_le (by rw [Z2v hs]; exact Nat.le_refl _)
end Go.Proofs.YtnmedachaeanbaaGreatDoor
