/- Merged texts. -/
import Derived.Test.YtnmedachaeanbaaGreatDoorA20
namespace Go.Proofs.YtnmedachaeanbaaGreatDoor
set_option linter.unusedVariables false
set_option linter.unusedSimpArgs false
def mkU (us : List Un) : List Opd := enc (nf us)
theorem Y0o (u : Un) : isOp (op1 u) := by
 cases u with
 | ins r s => exact .inl ⟨rfl, rfl, by simp [op1, opI], rfl⟩
 | del => exact .inr (.inl ⟨rfl, by show (1 : Int) ≤ 1; decide, rfl, rfl, rfl⟩)
 | ret p => exact .inr (.inr ⟨rfl, by show (1 : Int) ≤ 1; decide, rfl, rfl⟩)
theorem Z65 (u : Un) : Z0h (op1 u) = [u] := by cases u <;> rfl
theorem Y6f {u : Un} {b : Opd} (hb : isOp b) (h : Z0n (op1 u) b = true) : isOp (into u b) ∧ Z0h (into u b) = u :: Z0h b ∧ ∀ c, Z0n (into u b) c = Z0n b c := by
 obtain ⟨k, n, r, s, p⟩ := b
 rcases Z0q hb with hk | hk | hk
 ·obtain ⟨e, hr⟩ := Z18 hb hk
  simp only at hk hr e
  subst hk
  rw [e] at h ⊢
  cases u with
  | del => simp [Z0n, op1, opI, opD] at h
  | ret q => simp [Z0n, op1, opI, opR] at h
  | ins r2 s2 =>
    have hs : s2 = s := by simp [Z0n, op1, opI] at h; exact of_decide_eq_true h
    subst hs
    exact ⟨.inl ⟨rfl, rfl, by simp [into, opI], rfl⟩, rfl, fun c => rfl⟩
 ·obtain ⟨e, hn⟩ := Z2L hb hk
  simp only at hk hn e
  subst hk
  rw [e] at h ⊢
  cases u with
  | ins r2 s2 => simp [Z0n, op1, opI, opD] at h
  | ret q => simp [Z0n, op1, opD, opR] at h
  | del =>
    refine ⟨.inr (.inl ⟨rfl, by show 1 ≤ n + 1; omega, rfl, rfl, rfl⟩), ?_, fun c => rfl⟩
    show List.replicate (n + 1).toNat Un.del = .del :: List.replicate n.toNat .del
    rw [show (n + 1).toNat = n.toNat + 1 by omega, List.replicate_succ]
 ·obtain ⟨e, hn⟩ := Z2g hb hk
  simp only at hk hn e
  subst hk
  rw [e] at h ⊢
  cases u with
  | ins r2 s2 => simp [Z0n, op1, opI, opR] at h
  | del => simp [Z0n, op1, opD, opR] at h
  | ret q =>
    have hq : q = p := by simp [Z0n, op1, opR] at h; exact of_decide_eq_true h
    subst hq
    refine ⟨.inr (.inr ⟨rfl, by show 1 ≤ n + 1; omega, rfl, rfl⟩), ?_, fun c => rfl⟩
    show List.replicate (n + 1).toNat (Un.ret q) = .ret q :: List.replicate n.toNat (.ret q)
    rw [show (n + 1).toNat = n.toNat + 1 by omega, List.replicate_succ]
theorem Y4P (u : Un) {x : List Opd} (h : Z1t x) : Z1t (Z3n u x) ∧ Z0e (Z3n u x) = u :: Z0e x := by
 cases x with
 | nil => exact ⟨⟨Y0o u, trivial, trivial⟩, by show Z0e [op1 u] = _; rw [Z04, Z65]; rfl⟩
 | cons b t =>
   obtain ⟨h1, h2, h3⟩ := h
   have ec : Z3n u (b :: t) = if Z0n (op1 u) b = true then into u b :: t else op1 u :: b :: t := rfl
   rw [ec]
   by_cases hm : Z0n (op1 u) b = true
   ·rw [if_pos hm]
    obtain ⟨g1, g2, g3⟩ := Y6f h1 hm
    refine ⟨⟨g1, ?_, h3⟩, by rw [Z1j, g2, Z1j]; rfl⟩
    cases t with
    | nil => trivial
    | cons c t => show Z0n (into u b) c = false; rw [g3]; exact h2
   ·rw [if_neg hm]
    exact ⟨⟨Y0o u, by simpa using hm, h1, h2, h3⟩, by rw [Z1j, Z65]; rfl⟩
theorem Y5D : ∀ us : List Un, Z1t (enc us) ∧ Z0e (enc us) = us
 | [] => ⟨trivial, rfl⟩
 | u :: us => by
   obtain ⟨h1, h2⟩ := Y5D us
   obtain ⟨g1, g2⟩ := Y4P u h1
   exact ⟨g1, by show Z0e (Z3n u (enc us)) = _; rw [g2, h2]⟩
theorem Y0p (us : List Un) : Z1t (mkU us) ∧ Z0e (mkU us) = nf us := Y5D (nf us)
theorem Y0q {m : Mk} {us : List Un} (h : Told m us) : Z1u m = mkU us := Y19 h.ops.1 (Y0p us).1 (by rw [h.ops.2, (Y0p us).2])
theorem Z7H {x : List OpS} {us : List Un} (hx : osOf x = mkU us) : ∀ o ∈ x, isOp o.o := fun o ho => Z4L (by rw [hx]; exact (Y0p us).1 : Z1t (osOf x)) o.o (by unfold osOf; exact List.mem_map_of_mem ho)
theorem Z2n {x : List OpS} {us : List Un} (hx : osOf x = mkU us) : Z0e (osOf x) = nf us := by rw [hx]; exact (Y0p us).2
theorem Z9s {l : List Ky} {x : List OpS} {us : List Un} {d : List Cl} {most : Nat} (hx : osOf x = mkU us) (hb : x.length ≤ 1048576) (hmo : most ≤ 4294967296) (hd : mayD l d = 0) (hf : FitU l us d.length most) :
 Z00 l x d (most : Int) = 0 ∧ app l (Z0e (osOf x)) d = app l us d := by
 have h2 := Z2n hx
 refine ⟨Z2k hd (Z6W hb hmo (Z7H hx) (by rw [h2]; exact Z8s hf)), ?_⟩
 rw [h2, Z8d]
theorem Y7b (us : List Un) : ∀ (I : List Un) (g : Nat), (cn us I g).length = us.length + I.length + g := by
 induction us with
 | nil => intro I g; simp [cn]
 | cons u us ih =>
   intro I g
   cases u with
   | ins r s => rw [cn, ih]; simp; omega
   | del => rw [cn, ih]; simp; omega
   | ret p => rw [cn, List.length_append, List.length_append, List.length_cons, ih]; simp; omega
theorem Y5E (us : List Un) : (nf us).length ≤ us.length := by
 have h1 : (Z16 us).length = us.length := by unfold Z16; rw [Y7b]; rfl
 obtain ⟨k, hk⟩ := Z4h (Z16 us)
 have := congrArg List.length hk
 rw [List.length_append] at this
 show (trim (Z16 us)).length ≤ _
 omega
theorem Z9t (l : List Ky) (us : List Un) (d : List Cl) (n a : Nat) (hd : 1 ≤ d.length) (h1 : Z0k us ≤ d.length) (h2 : finU n a us = true) (h3 : n = a + d.length) : 1 ≤ (app l us d).length := by
 rcases List.eq_nil_or_concat d with rfl | ⟨t, c, rfl⟩
 ·simp at hd
 ·rw [List.concat_eq_append] at *
  obtain ⟨t', c', e, _⟩ := Z4g l us t c n a (by simpa using h1) h2 (by simpa using h3)
  rw [e]; simp
structure In (l : List Ky) (x : List OpS) (d : List Cl) (most : Int) (N : Nat) : Prop where
 n : N ≤ 10000
 le : (N : Int) ≤ most
 at_ : Z00 l x d (N : Int) = 0
 may : mayO l x = 0
 isop : ∀ o ∈ x, isOp o.o
 fit : FitU l (Z0e (osOf x)) d.length N
 mu : ∀ u ∈ Z0e (osOf x), mU l u
 len : (app l (Z0e (osOf x)) d).length ≤ d.length + szX x
 dn : d.length ≤ N
 an : (app l (Z0e (osOf x)) d).length ≤ N
 doc : mayD l d = 0
 ul : (Z0e (osOf x)).length ≤ 2 * d.length + szX x
theorem Y4Q {l : List Ky} {x : List OpS} {d : List Cl} {most : Int} (hx : x.length ≤ 1048576) (hz : d.length + szX x ≤ 10000) (h : Z00 l x d most = 0) : ∃ N : Nat, In l x d most N := by
 obtain ⟨h1, h2⟩ := Z2j h
 obtain ⟨g1, g2, g3, g4, g5, g6, g7⟩ := Z10 h2
 obtain ⟨m1, m2, m3⟩ := Z1y g1
 obtain ⟨s1, s2⟩ := Z08 x (Z0Y m1)
 have ht := Z1m m1 hx
 have hm := Z1M m1 hx
 have hl := Z5u (n := (d.length : Int)) m1 hx (by omega) (by omega) m2 m3
 have hs := Y4O (Z0Y m1)
 rw [hl] at g7
 have hN : Z00 l x d ((max d.length (d.length + Z0l (Z0e (osOf x)) - Z0k (Z0e (osOf x))) : Nat) : Int) = 0 := Z2k h1 (Y21 h2 (by omega) (by rw [hl]; omega))
 obtain ⟨hg, hf⟩ := Z6V (most := max d.length (d.length + Z0l (Z0e (osOf x)) - Z0k (Z0e (osOf x)))) hx (by omega) (Z2j hN).2
 have hal := Z17 l (Z0e (osOf x)) d hf.t
 have hul := Z3w (us := Z0e (osOf x))
 exact ⟨_, by omega, by omega, hN, g1, Z0Y m1, hf, Z7B m1, by omega, by omega, by have := hf.m; omega, h1, by have := hf.t; omega⟩
theorem Y22 {l : List Ky} {z : List OpS} {us : List Un} {d : List Cl} {N : Nat} (hz : osOf z = mkU us) (hb : z.length ≤ 1048576) (hd : mayD l d = 0) (hf : FitU l us d.length N) (hN : N ≤ 536870912) {most : Int} (hm : (N : Int) ≤ most) :
 Z00 l z d most = 0 ∧ Z00 l z d (N : Int) = 0 ∧ app l (Z0e (osOf z)) d = app l us d := by
 obtain ⟨h1, h2⟩ := Z9s hz hb (by omega) hd hf
 exact ⟨Z6j h1 hm, h1, h2⟩
open Go.RowKit
def capO (o : OpS) : Prop := (o.o.r.length ≤ o.cr ∧ o.cr ≤ maxLen) ∧ (o.o.s.length ≤ o.cs ∧ o.cs ≤ maxLen) ∧ (o.o.p.length ≤ o.cp ∧ o.cp ≤ maxLen)
theorem Z6k {α : Type} {enc : α → List Value} {size : Nat} {e : TypeId} {w : World} {B : Nat} {A : Option Addr} {n c : Nat} {l : List α} (h : Ow enc size e w B (.slice A n c) l) : l.length ≤ c ∧ c ≤ maxLen := by
 obtain ⟨A', c', hv, h1, h2⟩ := h.form
 injection hv with _ _ hcc
 subst hcc
 exact ⟨h1, h2⟩
theorem Y4R {w : World} {B g : Nat} {x : OpS} (h : PartN w B g x) : capO x := ⟨Z6k h.1.1, Z6k h.2.1.1, Z6k h.2.2.1⟩
structure OpsC (w : World) (A : Option Addr) (n c : Nat) (x : List OpS) : Prop where
 at_ : OpsAt w A n x
 cap : n ≤ c
 cm : c ≤ maxLen
 caps : ∀ o ∈ x, capO o
theorem OpsC.ext {w w' : World} {A : Option Addr} {n c : Nat} {x : List OpS} (h : OpsC w A n c x) (y : Below w.heap.size w w') : OpsC w' A n c x := ⟨h.at_.ext y, h.cap, h.cm, h.caps⟩
def Y6g (o : List Opd) (w : World) (e : Ending) (w' : World) : Prop :=
 ∃ A c x, e = .returned (.tuple #[.slice A x.length c, .int .i64 0]) ∧ osOf x = o ∧ OpsC w' A x.length c x ∧ Below w.heap.size w w'
theorem Y5F (u : World) (l : List OpS) (hs : Sub u u.heap.size l) {cs : Array Value} (hc : cs.toList = l.flatMap OpS.enc) {b : Nat} (hb : b = u.heap.size) :
 RdOp (u.alloc (.cells cs 36)) (u.alloc (.cells cs 36)).heap.size (some ⟨b, 0, none⟩) l :=
 ⟨Rd.new (enc := OpS.enc) (size := 5) OpS.enc_len u 36 l hc hb, hs.ext (Z0c u _)⟩
def Z4l : Un → Bool
 | .ins _ _ => true
 | _ => false
def Z2o (first : Bool) (q p : List Ch) : List Ch := if first = true then Z3v q p else q
def traU (first : Bool) : List Un → List Un → List Un
 | _, [] => []
 | us, .ins r s :: vs => if first = true then List.replicate (us.takeWhile Z4l).length (.ret []) ++ .ins r s :: traU first (us.dropWhile Z4l) vs else .ins r s :: traU first us vs
 | us, .del :: vs => List.replicate (us.takeWhile Z4l).length (.ret []) ++ (match us.dropWhile Z4l with
   | [] => .del :: traU first [] vs
   | .ret _ :: us' => .del :: traU first us' vs
   | _ :: us' => traU first us' vs)
 | us, .ret q :: vs => List.replicate (us.takeWhile Z4l).length (.ret []) ++ (match us.dropWhile Z4l with
   | [] => .ret (Z2o first q []) :: traU first [] vs
   | .ret p :: us' => .ret (Z2o first q p) :: traU first us' vs
   | _ :: us' => traU first us' vs)
section
variable (f : Bool) (us vs : List Un) (r : Int) (s : List At) (r' : Int) (s' : List At) (p q : List Ch)
theorem Z19 : traU f us [] = [] := by unfold traU; rfl
theorem Y23 : traU true (.ins r s :: us) (.ins r' s' :: vs) = .ret [] :: traU true us (.ins r' s' :: vs) := by rw [traU, traU, if_pos rfl, if_pos rfl]; rfl
theorem Y24 : traU f (.ins r s :: us) (.del :: vs) = .ret [] :: traU f us (.del :: vs) := by rw [traU, traU]; rfl
theorem Y25 : traU f (.ins r s :: us) (.ret q :: vs) = .ret [] :: traU f us (.ret q :: vs) := by rw [traU, traU]; rfl
theorem Y26 : traU false us (.ins r s :: vs) = .ins r s :: traU false us vs := by rw [traU, if_neg (by decide)]
theorem Y27 : traU f [] (.ins r s :: vs) = .ins r s :: traU f [] vs := by
 rw [traU]
 cases f with
 | true => rw [if_pos rfl]; rfl
 | false => rw [if_neg (by decide)]
theorem Y28 : traU f (.del :: us) (.ins r s :: vs) = .ins r s :: traU f (.del :: us) vs := by
 rw [traU]
 cases f with
 | true => rw [if_pos rfl]; rfl
 | false => rw [if_neg (by decide)]
theorem Y29 : traU f (.ret p :: us) (.ins r s :: vs) = .ins r s :: traU f (.ret p :: us) vs := by
 rw [traU]
 cases f with
 | true => rw [if_pos rfl]; rfl
 | false => rw [if_neg (by decide)]
theorem Y6h : traU f [] (.del :: vs) = .del :: traU f [] vs := by rw [traU]; rfl
theorem Y6i : traU f [] (.ret q :: vs) = .ret q :: traU f [] vs := by
 rw [traU]
 have : Z2o f q [] = q := by unfold Z2o; split; exact List.filter_eq_self.2 (fun c _ => rfl); rfl
 show [] ++ .ret (Z2o f q []) :: traU f [] vs = _
 rw [this]; rfl
theorem Z4M : traU f (.del :: us) (.del :: vs) = traU f us vs := by rw [traU]; rfl
theorem Z4N : traU f (.del :: us) (.ret q :: vs) = traU f us vs := by rw [traU]; rfl
theorem Z4O : traU f (.ret p :: us) (.del :: vs) = .del :: traU f us vs := by rw [traU]; rfl
theorem Z3V : traU f (.ret p :: us) (.ret q :: vs) = .ret (Z2o f q p) :: traU f us vs := by rw [traU]; rfl
end
theorem Z1q (f : Bool) : ∀ vs, traU f [] vs = vs
 | [] => Z19 f []
 | .ins r s :: vs => by rw [Y27, Z1q f vs]
 | .del :: vs => by rw [Y6h, Z1q f vs]
 | .ret q :: vs => by rw [Y6i, Z1q f vs]
theorem Y3a {l : List Ky} {b : Bool} {p q : List Ch} (hp : Z1S p = true) (hq : Z1S q = true) : Z0T l b (Z3v q p) = Z3v (Z0T l b q) (Z0T l b p) := by
 unfold Z0T Z3v
 rw [List.filter_filter, List.filter_filter]
 refine List.filter_congr fun c hc => ?_
 cases hk : Z1v l b c.key with
 | false => simp
 | true =>
   simp only [Bool.true_and, Bool.and_true]
   congr 1
   unfold Z6h
   rw [List.any_filter]
   congr 1
   funext x
   by_cases hx : x.key = c.key
   ·simp [hx, hk]
   ·simp [hx]
theorem Y4S {l : List Ky} {c : Cl} {p q : List Ch} (hp : mayP l p = 0) (hq : mayP l q = 0) (hs : Z1D c.s = true) : actC l (actC l c p) (Z3v q p) = actC l (actC l c q) p := by
 have p1 := (Z0X hp).2.1
 have q1 := (Z0X hq).2.1
 have p2 : Z1S (Z0T l (c.r == 10) p) = true := Z0G.2 (Z5s (Z0G.1 p1))
 have q2 : Z1S (Z0T l (c.r == 10) q) = true := Z0G.2 (Z5s (Z0G.1 q1))
 show (⟨c.r, Z0K (Z0T l (c.r == 10) (Z3v q p)) (Z0K (Z0T l (c.r == 10) p) c.s)⟩ : Cl) = ⟨c.r, Z0K (Z0T l (c.r == 10) p) (Z0K (Z0T l (c.r == 10) q) c.s)⟩
 rw [Y3a p1 q1, Y4K hs p2 q2]
theorem Z3Q {P : Un → Prop} {u : Un} {us : List Un} (h : ∀ x ∈ u :: us, P x) : ∀ x ∈ us, P x := fun x hx => h x (List.mem_cons_of_mem _ hx)
set_option linter.unusedVariables false
set_option linter.unusedSimpArgs false
theorem Z4m (f : Bool) {P : List Un → List Un → Prop} (nil : ∀ us, P us []) (non : ∀ vs, P [] vs)
 (iv : ∀ r s us v vs, traU f (.ins r s :: us) (v :: vs) = .ret [] :: traU f us (v :: vs) → P us (v :: vs) → P (.ins r s :: us) (v :: vs))
 (vi : ∀ u us r s vs, traU f (u :: us) (.ins r s :: vs) = .ins r s :: traU f (u :: us) vs → P (u :: us) vs → P (u :: us) (.ins r s :: vs))
 (dd : ∀ us vs, P us vs → P (.del :: us) (.del :: vs)) (dr : ∀ us q vs, P us vs → P (.del :: us) (.ret q :: vs))
 (rd : ∀ p us vs, P us vs → P (.ret p :: us) (.del :: vs)) (rr : ∀ p us q vs, P us vs → P (.ret p :: us) (.ret q :: vs)) : ∀ vs us, P us vs := by
 intro vs
 induction vs with
 | nil => exact nil
 | cons v vs ih =>
   intro us
   induction us with
   | nil => exact non _
   | cons u us ihu =>
     cases u with
     | ins r s =>
       cases v with
       | ins r' s' =>
         cases f with
         | true => exact iv r s us _ vs (Y23 us vs r s r' s') ihu
         | false => exact vi _ us r' s' vs (Y26 _ vs r' s') (ih _)
       | del => exact iv r s us _ vs (Y24 f us vs r s) ihu
       | ret q => exact iv r s us _ vs (Y25 f us vs r s q) ihu
     | del =>
       cases v with
       | ins r s => exact vi _ us r s vs (Y28 f us vs r s) (ih _)
       | del => exact dd us vs (ih us)
       | ret q => exact dr us q vs (ih us)
     | ret p =>
       cases v with
       | ins r s => exact vi _ us r s vs (Y29 f us vs r s p) (ih _)
       | del => exact rd p us vs (ih us)
       | ret q => exact rr p us q vs (ih us)
theorem Z9u (f : Bool) {P : Un → Prop} (hd : P .del) (h0 : P (.ret [])) (hr : ∀ p q, P (.ret p) → P (.ret q) → P (.ret (Z2o f q p))) :
 ∀ vs us, (∀ u ∈ us, P u) → (∀ v ∈ vs, P v) → ∀ x ∈ traU f us vs, P x := by
 have cons : ∀ {u : Un} {t : List Un}, P u → (∀ x ∈ t, P x) → ∀ x ∈ u :: t, P x := fun h1 h2 x hx => by
  rcases List.mem_cons.1 hx with rfl | hx
  ·exact h1
  ·exact h2 x hx
 refine Z4m f ?_ ?_ ?_ ?_ ?_ ?_ ?_ ?_
 ·intro us _ _ x hx; rw [Z19] at hx; cases hx
 ·intro vs _ h2; rw [Z1q]; exact h2
 ·intro r s us v vs e ih h1 h2; rw [e]; exact cons h0 (ih (Z3Q h1) h2)
 ·intro u us r s vs e ih h1 h2; rw [e]; exact cons (h2 _ (by simp)) (ih h1 (Z3Q h2))
 ·intro us vs ih h1 h2; rw [Z4M]; exact ih (Z3Q h1) (Z3Q h2)
 ·intro us q vs ih h1 h2; rw [Z4N]; exact ih (Z3Q h1) (Z3Q h2)
 ·intro p us vs ih h1 h2; rw [Z4O]; exact cons hd (ih (Z3Q h1) (Z3Q h2))
 ·intro p us q vs ih h1 h2; rw [Z3V]; exact cons (hr p q (h1 _ (by simp)) (h2 _ (by simp))) (ih (Z3Q h1) (Z3Q h2))
theorem Z6l {l : List Ky} {f : Bool} {p q : List Ch} (h : mayP l q = 0) : mayP l (Z2o f q p) = 0 := by
 unfold Z2o
 split
 ·exact Z3U _ h
 ·exact h
theorem Y7c {l : List Ky} (f : Bool) {us vs : List Un} (h1 : ∀ u ∈ us, vU l u) (h2 : ∀ v ∈ vs, vU l v) : ∀ x ∈ traU f us vs, vU l x :=
 Z9u f trivial (Z7E l) (fun p q _ h => Z6l h) vs us h1 h2
theorem Y7d {l : List Ky} (f : Bool) {us vs : List Un} (h1 : ∀ u ∈ us, mU l u) (h2 : ∀ v ∈ vs, mU l v) : ∀ x ∈ traU f us vs, mU l x :=
 Z9u f trivial (Z7E l) (fun p q _ h => Z6l h) vs us h1 h2
theorem Y4T (f : Bool) {us vs : List Un} (h1 : ∀ u ∈ us, okUn u) (h2 : ∀ v ∈ vs, okUn v) : ∀ x ∈ traU f us vs, okUn x :=
 Z9u f trivial (fun c hc => by cases hc) (fun p q _ h => by
  show okVs (Z2o f q p)
  unfold Z2o
  split
  ·exact Z8n _ h
  ·exact h) vs us h1 h2
theorem Y0r (f : Bool) : ∀ vs us, Z0k (traU f us vs) ≤ Z0k vs + Z0l us ∧ Z0l (traU f us vs) ≤ Z0l vs + Z0l us ∧ (traU f us vs).length ≤ us.length + vs.length := by
 refine Z4m f ?_ ?_ ?_ ?_ ?_ ?_ ?_ ?_
 ·intro us; rw [Z19]; exact ⟨Nat.zero_le _, Nat.zero_le _, Nat.zero_le _⟩
 ·intro vs; rw [Z1q]; exact ⟨Nat.le_add_right _ _, Nat.le_add_right _ _, Nat.le_add_left _ _⟩
 ·intro r s us v vs e ⟨h1, h2, h3⟩; rw [e, Z0y, Z1H, Z4b, List.length_cons, List.length_cons]; omega
 ·intro u us r s vs e ⟨h1, h2, h3⟩; rw [e, Z06, Z06, Z4b, Z4b, List.length_cons, List.length_cons (a := Un.ins r s)]; omega
 ·intro us vs ⟨h1, h2, h3⟩; rw [Z4M, Z0S, Z2x, Z2x, List.length_cons, List.length_cons]; omega
 ·intro us q vs ⟨h1, h2, h3⟩; rw [Z4N, Z0y, Z2x, Z1H, List.length_cons, List.length_cons]; omega
 ·intro p us vs ⟨h1, h2, h3⟩; rw [Z4O, Z0S, Z0S, Z2x, Z2x, Z1H, List.length_cons, List.length_cons, List.length_cons]; omega
 ·intro p us q vs ⟨h1, h2, h3⟩; rw [Z3V, Z0y, Z0y, Z1H, Z1H, Z1H, List.length_cons, List.length_cons, List.length_cons]; omega
theorem Z8y (l : List Ky) (f : Bool) : ∀ vs us, ∀ d : List Cl, Z0k us ≤ d.length → Z0k vs ≤ d.length → Z0k (traU f us vs) ≤ (app l us d).length := by
 refine Z4m f ?_ ?_ ?_ ?_ ?_ ?_ ?_ ?_
 ·intro us d _ _; rw [Z19]; exact Nat.zero_le _
 ·intro vs d _ h2; rw [Z1q]; exact h2
 ·intro r s us v vs e ih d h1 h2
  rw [Z06] at h1
  rw [e, Z0y]
  show _ ≤ (app l us d).length + 1
  have := ih d h1 h2; omega
 ·intro u us r s vs e ih d h1 h2
  rw [Z06] at h2
  rw [e, Z06]; exact ih d h1 h2
 ·intro us vs ih d h1 h2
  rw [Z0S] at h1 h2
  rw [Z4M]
  exact ih (d.drop 1) (by rw [List.length_drop]; omega) (by rw [List.length_drop]; omega)
 ·intro us q vs ih d h1 h2
  rw [Z0S] at h1
  rw [Z0y] at h2
  rw [Z4N]
  exact ih (d.drop 1) (by rw [List.length_drop]; omega) (by rw [List.length_drop]; omega)
 ·intro p us vs ih d h1 h2
  rw [Z0y] at h1
  rw [Z0S] at h2
  cases d with
  | nil => simp at h1
  | cons c d =>
    rw [Z4O, Z0S]
    show _ ≤ (app l us d).length + 1
    have := ih d (by simp at h1; omega) (by simp at h2; omega); omega
 ·intro p us q vs ih d h1 h2
  rw [Z0y] at h1 h2
  cases d with
  | nil => simp at h1
  | cons c d =>
    rw [Z3V, Z0y]
    show _ ≤ (app l us d).length + 1
    have := ih d (by simp at h1; omega) (by simp at h2; omega); omega
theorem Z4n {k : Nat} : ∀ (us : List Un) (n a n' a' : Nat), n = a + k → n' = a' + k → finU n a us = true → Z0k us ≤ k → finU n' a' us = true
 | [], _, _, _, _, _, _, _, _ => rfl
 | .ins r s :: us, n, a, n', a', h1, h2, h3, h4 => by
   simp only [finU, Bool.and_eq_true, decide_eq_true_eq] at h3
   rw [Z06] at h4
   show (decide (a' ≠ n') && finU n' a' us) = true
   rw [Z4n us n a n' a' h1 h2 h3.2 h4, Bool.and_true]
   exact decide_eq_true (by omega)
 | .del :: us, n, a, n', a', h1, h2, h3, h4 => by
   simp only [finU, Bool.and_eq_true, decide_eq_true_eq] at h3
   rw [Z0S] at h4
   show (decide (a' + 1 ≠ n') && finU n' (a' + 1) us) = true
   rw [Z4n (k := k - 1) us n (a + 1) n' (a' + 1) (by omega) (by omega) h3.2 (by omega), Bool.and_true]
   exact decide_eq_true (by omega)
 | .ret p :: us, n, a, n', a', h1, h2, h3, h4 => by
   simp only [finU] at h3
   rw [Z0y] at h4
   exact Z4n (k := k - 1) us n (a + 1) n' (a' + 1) (by omega) (by omega) h3 (by omega)
theorem Y6j (l : List Ky) (f : Bool) : ∀ vs us, ∀ (d : List Cl) (n a n' a' : Nat), Z0k us ≤ d.length → Z0k vs ≤ d.length → finU n a us = true → finU n a vs = true → n = a + d.length → n' = a' + (app l us d).length → finU n' a' (traU f us vs) = true := by
 refine Z4m f ?_ ?_ ?_ ?_ ?_ ?_ ?_ ?_
 ·intro us d n a n' a' _ _ _ _ _ _; rw [Z19]; rfl
 ·intro vs d n a n' a' _ h2 _ h4 h5 h6
  rw [Z1q]
  exact Z4n (k := d.length) vs n a n' a' h5 h6 h4 h2
 ·intro r s us v vs e ih d n a n' a' h1 h2 h3 h4 h5 h6
  rw [Z06] at h1
  simp only [finU, Bool.and_eq_true] at h3
  have h6 : n' = a' + ((app l us d).length + 1) := h6
  rw [e]
  exact ih d n a n' (a' + 1) h1 h2 h3.2 h4 h5 (by omega)
 ·intro u us r s vs e ih d n a n' a' h1 h2 h3 h4 h5 h6
  rw [Z06] at h2
  simp only [finU, Bool.and_eq_true, decide_eq_true_eq] at h4
  rw [e]
  show (decide (a' ≠ n') && finU n' a' (traU f (u :: us) vs)) = true
  rw [ih d n a n' a' h1 h2 h3 h4.2 h5 h6, Bool.and_true]
  have := Z9t l (u :: us) d n a (by omega) h1 h3 h5
  exact decide_eq_true (by omega)
 ·intro us vs ih d n a n' a' h1 h2 h3 h4 h5 h6
  rw [Z0S] at h1 h2
  simp only [finU, Bool.and_eq_true] at h3 h4
  rw [Z4M]
  exact ih (d.drop 1) n (a + 1) n' a' (by rw [List.length_drop]; omega) (by rw [List.length_drop]; omega) h3.2 h4.2 (by rw [List.length_drop]; omega) h6
 ·intro us q vs ih d n a n' a' h1 h2 h3 h4 h5 h6
  rw [Z0S] at h1
  rw [Z0y] at h2
  simp only [finU, Bool.and_eq_true] at h3 h4
  rw [Z4N]
  exact ih (d.drop 1) n (a + 1) n' a' (by rw [List.length_drop]; omega) (by rw [List.length_drop]; omega) h3.2 h4 (by rw [List.length_drop]; omega) h6
 ·intro p us vs ih d n a n' a' h1 h2 h3 h4 h5 h6
  rw [Z0y] at h1
  rw [Z0S] at h2
  simp only [finU, Bool.and_eq_true, decide_eq_true_eq] at h3 h4
  cases d with
  | nil => simp at h1
  | cons c d =>
    simp only [List.length_cons] at h1 h2 h5
    have h6 : n' = a' + ((app l us d).length + 1) := h6
    rw [Z4O]
    show (decide (a' + 1 ≠ n') && finU n' (a' + 1) (traU f us vs)) = true
    rw [ih d n (a + 1) n' (a' + 1) (by omega) (by omega) h3 h4.2 (by omega) (by omega), Bool.and_true]
    have := Z9t l us d n (a + 1) (by omega) (by omega) h3 (by omega)
    exact decide_eq_true (by omega)
 ·intro p us q vs ih d n a n' a' h1 h2 h3 h4 h5 h6
  rw [Z0y] at h1 h2
  simp only [finU] at h3 h4
  cases d with
  | nil => simp at h1
  | cons c d =>
    simp only [List.length_cons] at h1 h2 h5
    have h6 : n' = a' + ((app l us d).length + 1) := h6
    rw [Z3V]
    exact ih d n (a + 1) n' (a' + 1) (by omega) (by omega) h3 h4 (by omega) (by omega)
theorem Y4U (f : Bool) (q : List Ch) : Z2o f q [] = q := by unfold Z2o; split; exact List.filter_eq_self.2 (fun c _ => rfl); rfl
theorem Y6k {l : List Ky} (f : Bool) {us vs : List Un} {d : List Cl} {m1 m2 N : Nat} (hf : FitU l us d.length m1) (hg : FitU l vs d.length m2) (h1 : (app l us d).length ≤ N)
 (h2 : (app l (traU f us vs) (app l us d)).length ≤ N) (hN : N ≤ 536870912) (hb : Z0l us + Z0l vs ≤ 536870912) : FitU l (traU f us vs) (app l us d).length N := by
 obtain ⟨s1, s2, s3⟩ := Y0r f vs us
 have ht := Z8y l f vs us d hf.t hg.t
 have hl := Z17 l (traU f us vs) (app l us d) ht
 have hp := Z9t l us d d.length 0 hf.n1 hf.t hf.f (by omega)
 exact ⟨Y7c f hf.v hg.v, ht, hp, h1, Y6j l f vs us d d.length 0 _ 0 hf.t hg.t hf.f hg.f (by omega) (by omega), by omega, by omega, by omega⟩
def cutO (o : Opd) (a n : Nat) : Opd := if o.k = 2 then { o with r := (o.r.drop a).take n } else { o with n := n }
def lenO (o : Opd) : Nat := (Z1d o).toNat
theorem Z3W {o : Opd} (h : isOp o) : 1 ≤ lenO o ∧ (lenO o : Int) = Z1d o := by
 unfold lenO
 rcases Z0q h with hk | hk | hk
 ·obtain ⟨e, hr⟩ := Z18 h hk
  have h1 : Z1d o = o.r.length := by unfold Z1d; rw [if_pos hk]
  have := List.length_pos_iff.2 hr
  omega
 ·obtain ⟨e, hn⟩ := Z2L h hk
  have h1 : Z1d o = o.n := by unfold Z1d; rw [if_neg (by rw [hk]; decide)]
  omega
 ·obtain ⟨e, hn⟩ := Z2g h hk
  have h1 : Z1d o = o.n := by unfold Z1d; rw [if_neg (by rw [hk]; decide)]
  omega
def tookV (X : List OpS) (a n : Nat) (o : Opd) (X' : List OpS) (a' : Nat) : Prop :=
 match X with
 | [] => o = opR n [] ∧ X' = [] ∧ a' = 0
 | x :: t => o = cutO x.o a (min n (lenO x.o - a)) ∧ ((a + min n (lenO x.o - a) = lenO x.o ∧ X' = t ∧ a' = 0) ∨ (a + min n (lenO x.o - a) < lenO x.o ∧ X' = x :: t ∧ a' = a + min n (lenO x.o - a)))
def Z9v (X : List OpS) : Int := match X with
 | [] => 1
 | o :: _ => o.o.k
theorem Z66 {o : Opd} (h : isOp o) : (Z0h o).length = lenO o := by
 obtain ⟨_, h1⟩ := Z3W h
 rcases Z0q h with hk | hk | hk
 ·have h2 : (Z0h o).length = o.r.length := by unfold Z0h; rw [if_pos hk, List.length_map]
  have h3 : Z1d o = o.r.length := by unfold Z1d; rw [if_pos hk]
  omega
 ·have h2 : (Z0h o).length = o.n.toNat := by unfold Z0h; rw [if_neg (by rw [hk]; decide), if_neg (by rw [hk]; decide), List.length_replicate]
  have h3 : Z1d o = o.n := by unfold Z1d; rw [if_neg (by rw [hk]; decide)]
  omega
 ·have h2 : (Z0h o).length = o.n.toNat := by unfold Z0h; rw [if_neg (by rw [hk]; decide), if_pos hk, List.length_replicate]
  have h3 : Z1d o = o.n := by unfold Z1d; rw [if_neg (by rw [hk]; decide)]
  omega
def insN : List Un → Nat
 | [] => 0
 | .ins _ _ :: us => insN us + 1
 | _ :: us => insN us
theorem Z2p (a b : List Un) : insN (a ++ b) = insN a + insN b := by
 induction a with
 | nil => simp [insN]
 | cons u a ih => cases u <;> simp [insN, ih] <;> omega
theorem Z7I (r : List Int) (s : List At) : insN (r.map (fun r => Un.ins r s)) = r.length := by
 induction r with
 | nil => rfl
 | cons a r ih => show insN _ + 1 = _; rw [ih]; rfl
theorem Y5G (x : List OpS) (h : ∀ o ∈ x, isOp o.o) : x.length + insN (Z0e (osOf x)) ≤ szN x := by
 induction x with
 | nil => exact Nat.le_refl _
 | cons a x ih =>
   have h1 := ih (fun o ho => h o (List.mem_cons_of_mem _ ho))
   have e : Z0e (osOf (a :: x)) = Z0h a.o ++ Z0e (osOf x) := rfl
   rw [e, Z2p, Z5x, List.length_cons]
   have : insN (Z0h a.o) ≤ a.o.r.length := by
    rcases Z0q (h a (by simp)) with hk | hk | hk
    ·unfold Z0h; rw [if_pos hk, Z7I]; exact Nat.le_refl _
    ·have : ∀ k, insN (List.replicate k .del) = 0 := fun k => by
      induction k with
      | zero => rfl
      | succ k ih => rw [List.replicate_succ]; exact ih
     unfold Z0h; rw [if_neg (by rw [hk]; decide), if_neg (by rw [hk]; decide), this]; exact Nat.zero_le _
    ·have : ∀ k p, insN (List.replicate k (.ret p)) = 0 := fun k p => by
      induction k with
      | zero => rfl
      | succ k ih => rw [List.replicate_succ]; exact ih
     unfold Z0h; rw [if_neg (by rw [hk]; decide), if_pos hk, this]; exact Nat.zero_le _
   omega
theorem Z4P {o : Opd} (h : o.k = 2) : Z0h o = o.r.map (fun r => Un.ins r o.s) := by unfold Z0h; rw [if_pos h]
theorem Z3F {o : Opd} (h : o.k = 3) : Z0h o = List.replicate (Z0h o).length .del := by
 have e : Z0h o = List.replicate o.n.toNat .del := by unfold Z0h; rw [if_neg (by rw [h]; decide), if_neg (by rw [h]; decide)]
 rw [e, List.length_replicate]
theorem Z3G {o : Opd} (h : o.k = 1) : Z0h o = List.replicate (Z0h o).length (.ret o.p) := by
 have e : Z0h o = List.replicate o.n.toNat (.ret o.p) := by unfold Z0h; rw [if_neg (by rw [h]; decide), if_pos h]
 rw [e, List.length_replicate]
theorem Y0s (f : Bool) (A B : List Un) (s : List At) (v : Un) (hv : f = true ∨ Z4l v = false) : ∀ r : List Int, traU f (r.map (fun r => Un.ins r s) ++ A) (v :: B) = List.replicate r.length (.ret []) ++ traU f A (v :: B)
 | [] => rfl
 | a :: r => by
   rw [List.length_cons, List.replicate_succ]
   show traU f (.ins a s :: (r.map (fun r => Un.ins r s) ++ A)) (v :: B) = _
   have e : traU f (.ins a s :: (r.map (fun r => Un.ins r s) ++ A)) (v :: B) = .ret [] :: traU f (r.map (fun r => Un.ins r s) ++ A) (v :: B) := by
    cases v with
    | ins r' s' =>
      rcases hv with rfl | hv
      ·exact Y23 _ B a s r' s'
      ·cases hv
    | del => exact Y24 f _ B a s
    | ret q => exact Y25 f _ B a s q
   rw [e, Y0s f A B s v hv r]; rfl
theorem Y0t (f : Bool) (A B : List Un) (s : List At) (hA : f = false ∨ ∀ u t, A = u :: t → Z4l u = false) : ∀ r : List Int, traU f A (r.map (fun r => Un.ins r s) ++ B) = r.map (fun r => Un.ins r s) ++ traU f A B
 | [] => rfl
 | a :: r => by
   show traU f A (.ins a s :: (r.map (fun r => Un.ins r s) ++ B)) = _
   have e : traU f A (.ins a s :: (r.map (fun r => Un.ins r s) ++ B)) = .ins a s :: traU f A (r.map (fun r => Un.ins r s) ++ B) := by
    rcases hA with rfl | hA
    ·exact Y26 A _ a s
    ·cases A with
     | nil => exact Y27 f _ a s
     | cons u t =>
       cases u with
       | ins r' s' => have := hA _ _ rfl; cases this
       | del => exact Y28 f t _ a s
       | ret p => exact Y29 f t _ a s p
   rw [e, Y0t f A B s hA r]; rfl
theorem Z7J (f : Bool) (A B : List Un) (v : Un) (hv : v = .del ∨ ∃ q, v = .ret q) : ∀ k, traU f (List.replicate k .del ++ A) (List.replicate k v ++ B) = traU f A B
 | 0 => rfl
 | k + 1 => by
   rw [List.replicate_succ, List.replicate_succ]
   show traU f (.del :: (List.replicate k .del ++ A)) (v :: (List.replicate k v ++ B)) = _
   rcases hv with rfl | ⟨q, rfl⟩
   ·rw [Z4M, Z7J f A B _ (.inl rfl) k]
   ·rw [Z4N, Z7J f A B _ (.inr ⟨q, rfl⟩) k]
theorem Z67 (f : Bool) (A B : List Un) (p : List Ch) : ∀ k, traU f (List.replicate k (.ret p) ++ A) (List.replicate k .del ++ B) = List.replicate k .del ++ traU f A B
 | 0 => rfl
 | k + 1 => by
   rw [List.replicate_succ, List.replicate_succ]
   show traU f (.ret p :: (List.replicate k (.ret p) ++ A)) (.del :: (List.replicate k .del ++ B)) = _
   rw [Z4O, Z67 f A B p k]; rfl
theorem Z68 (f : Bool) (A B : List Un) (p q : List Ch) : ∀ k, traU f (List.replicate k (.ret p) ++ A) (List.replicate k (.ret q) ++ B) = List.replicate k (.ret (Z2o f q p)) ++ traU f A B
 | 0 => rfl
 | k + 1 => by
   rw [List.replicate_succ, List.replicate_succ, List.replicate_succ]
   show traU f (.ret p :: (List.replicate k (.ret p) ++ A)) (.ret q :: (List.replicate k (.ret q) ++ B)) = _
   rw [Z3V, Z68 f A B p q k]; rfl
def Z8z (l : List Ky) (o : Opd) : Prop := isOp o ∧ lenO o ≤ 536870912 ∧ mayS l o.s = 0 ∧ mayP l o.p = 0
structure TQ (l : List Ky) (f : Bool) (T : List Un) (P : Nat) (X Y : List OpS) (m : Mk) (us : List Un) (K : Nat) : Prop where
 told : Told m us
 b : MkB m K 64
 k : K + 2 * (X.length + Y.length) + insN (Z0e (osOf X)) + insN (Z0e (osOf Y)) ≤ P
 eq : us ++ traU f (Z0e (osOf X)) (Z0e (osOf Y)) = T
 gx : ∀ o ∈ X, Z8z l o.o
 gy : ∀ o ∈ Y, Z8z l o.o
def Z9w (X : List OpS) (n : Nat) (o : OpS) (X' : List OpS) : Prop :=
 match X with
 | [] => o.o = opR n [] ∧ X' = []
 | x :: t => o = { x with o := { x.o with n := (n : Int) } } ∧ ((x.o.n = (n : Int) ∧ X' = t) ∨ ((n : Int) < x.o.n ∧ X' = { x with o := { x.o with n := x.o.n - n } } :: t))
theorem Z09 (x : OpS) (t : List OpS) : Z0e (osOf (x :: t)) = Z0h x.o ++ Z0e (osOf t) := rfl
theorem Z7K {o : Opd} (h : isOp o) (hk : o.k ≠ 2) {n : Int} (hn : 1 ≤ n) : isOp { o with n := n } ∧ (o.k = 3 → Z0h { o with n := n } = List.replicate n.toNat .del) ∧ (o.k = 1 → Z0h { o with n := n } = List.replicate n.toNat (.ret o.p)) ∧ lenO { o with n := n } = n.toNat := by
 rcases Z0q h with h2 | h3 | h1
 ·exact absurd h2 hk
 ·obtain ⟨e, _⟩ := Z2L h h3
  refine ⟨?_, fun _ => ?_, fun h1 => (by rw [h3] at h1; cases h1), ?_⟩
  ·rw [e]; exact Z9Z hn
  ·rw [e]; rfl
  ·rw [e]; rfl
 ·obtain ⟨e, _⟩ := Z2g h h1
  refine ⟨?_, fun h3 => (by rw [h1] at h3; cases h3), fun _ => ?_, ?_⟩
  ·rw [e]; exact Z5r hn
  ·rw [e]; rfl
  ·rw [e]; rfl
theorem Z6m {l : List Ky} {x o : OpS} {t X' : List OpS} {n : Nat} (h : ∀ z ∈ x :: t, Z8z l z.o) (hk : x.o.k ≠ 2) (hn : 1 ≤ n) (ht : Z9w (x :: t) n o X') :
 Z0e (osOf (x :: t)) = Z0h o.o ++ Z0e (osOf X') ∧ isOp o.o ∧ (Z0h o.o).length = n ∧ o.o.k = x.o.k ∧ o.o.p = x.o.p ∧ o.o.n = (n : Int) ∧ (∀ z ∈ X', Z8z l z.o) ∧ X'.length ≤ (x :: t).length ∧ (x.o.n = (n : Int) → X'.length + 1 = (x :: t).length) := by
 obtain ⟨e, hc⟩ := ht
 subst e
 obtain ⟨x1, x2, x3, x4⟩ := h x (by simp)
 obtain ⟨p1, p2, p3, p4⟩ := Z7K x1 hk (n := (n : Int)) (by omega)
 have hl : (Z0h ({ x with o := { x.o with n := (n : Int) } } : OpS).o).length = n := by
  rw [Z66 p1, p4]; omega
 have hx : Z0h x.o = List.replicate x.o.n.toNat (if x.o.k = 3 then .del else .ret x.o.p) := by
  rcases Z0q x1 with h2 | h3 | h1
  ·exact absurd h2 hk
  ·unfold Z0h; rw [if_neg hk, if_neg (by rw [h3]; decide), if_pos h3]
  ·unfold Z0h; rw [if_neg hk, if_pos h1, if_neg (by rw [h1]; decide)]
 have hy : ∀ m : Int, 1 ≤ m → Z0h { x.o with n := m } = List.replicate m.toNat (if x.o.k = 3 then .del else .ret x.o.p) := fun m hm => by
  obtain ⟨q1, q2, q3, q4⟩ := Z7K x1 hk (n := m) hm
  rcases Z0q x1 with h2 | h3 | h1
  ·exact absurd h2 hk
  ·rw [if_pos h3]; exact q2 h3
  ·rw [if_neg (by rw [h1]; decide)]; exact q3 h1
 refine ⟨?_, p1, hl, rfl, rfl, rfl, ?_, ?_, ?_⟩
 ·rcases hc with ⟨h1, rfl⟩ | ⟨h1, rfl⟩
  ·rw [Z09]
   have : ({ x with o := { x.o with n := (n : Int) } } : OpS).o = x.o := by show ({ x.o with n := (n : Int) } : Opd) = x.o; rw [← h1]
   rw [this]
  ·rw [Z09, Z09]
   show Z0h x.o ++ _ = Z0h { x.o with n := (n : Int) } ++ (Z0h { x.o with n := x.o.n - n } ++ _)
   rw [hx, hy _ (by omega), hy _ (by omega), ← List.append_assoc, List.replicate_append_replicate]
   congr 2
   omega
 ·intro z hz
  rcases hc with ⟨h1, rfl⟩ | ⟨h1, rfl⟩
  ·exact h z (List.mem_cons_of_mem _ hz)
  ·rcases List.mem_cons.1 hz with rfl | hz
   ·obtain ⟨q1, q2, q3, q4⟩ := Z7K x1 hk (n := x.o.n - n) (by omega)
    refine ⟨q1, ?_, x3, x4⟩
    show lenO { x.o with n := x.o.n - n } ≤ _
    rw [q4]
    have : lenO x.o = x.o.n.toNat := by
     obtain ⟨r1, r2, r3, r4⟩ := Z7K x1 hk (n := x.o.n) (by omega)
     exact r4
    omega
   ·exact h z (List.mem_cons_of_mem _ hz)
 ·rcases hc with ⟨h1, rfl⟩ | ⟨h1, rfl⟩
  ·simp
  ·exact Nat.le_refl _
 ·intro he
  rcases hc with ⟨h1, rfl⟩ | ⟨h1, rfl⟩
  ·rfl
  ·omega
theorem Z69 {l : List Ky} {y : OpS} {t : List OpS} (h : ∀ z ∈ y :: t, Z8z l z.o) : ∃ v B, Z0e (osOf (y :: t)) = v :: B ∧ (Z4l v = true ↔ y.o.k = 2) := by
 obtain ⟨h1, _⟩ := h y (by simp)
 have hl := Z66 h1
 obtain ⟨h2, _⟩ := Z3W h1
 rw [Z09]
 cases hu : Z0h y.o with
 | nil => rw [hu] at hl; simp at hl; omega
 | cons v B =>
   refine ⟨v, B ++ Z0e (osOf t), rfl, ?_⟩
   have hv : v ∈ Z0h y.o := by rw [hu]; simp
   rcases Z0q h1 with k | k | k
   ·rw [Z4P k] at hv
    obtain ⟨r, _, rfl⟩ := List.mem_map.1 hv
    simp [Z4l, k]
   ·rw [Z3F k] at hv
    rw [(List.mem_replicate.1 hv).2]
    simp [Z4l, k]
   ·rw [Z3G k] at hv
    rw [(List.mem_replicate.1 hv).2]
    simp [Z4l, k]
theorem TQ.insX {l : List Ky} {f : Bool} {T : List Un} {P : Nat} {x y : OpS} {s t : List OpS} {m : Mk} {us : List Un} {K : Nat} (h : TQ l f T P (x :: s) (y :: t) m us K) (hk : x.o.k = 2) (hy : f = true ∨ y.o.k ≠ 2) (hT : T.length ≤ 4000000000) :
 ∃ us', TQ l f T P s (y :: t) (Z0s m (x.o.r.length : Int) []) us' (K + 2) ∧ K + 2 ≤ P := by
 obtain ⟨h1, _⟩ := h.gx x (by simp)
 have e1 := Z4P hk
 obtain ⟨v, B, hv, hvi⟩ := Z69 h.gy
 have heq := h.eq
 rw [Z09, e1, hv, Y0s f _ _ _ _ (by
  rcases hy with hy | hy
  ·exact .inl hy
  ·exact .inr (by cases hi : Z4l v with
    | false => rfl
    | true => exact absurd (hvi.1 hi) hy)), ← hv, ← List.append_assoc] at heq
 have hll := congrArg List.length heq
 rw [List.length_append, List.length_append, List.length_replicate] at hll
 have hkk := h.k
 rw [Z09, Z2p, e1, Z7I, List.length_cons] at hkk
 refine ⟨_, ⟨?_, h.b.retain _ (Nat.zero_le _), by omega, heq, fun o ho => h.gx o (List.mem_cons_of_mem _ ho), h.gy⟩, by omega⟩
 have := h.told.retain (x.o.r.length : Int) [] (by omega)
 rwa [Int.toNat_natCast] at this
theorem TQ.insY {l : List Ky} {f : Bool} {T : List Un} {P : Nat} {X t : List OpS} {y : OpS} {m : Mk} {us : List Un} {K : Nat} (h : TQ l f T P X (y :: t) m us K) (hk : y.o.k = 2) (hX : f = false ∨ ∀ x s, X = x :: s → x.o.k ≠ 2) :
 ∃ us', TQ l f T P X t (Z0F m y.o.r y.o.s) us' (K + y.o.r.length) ∧ K + y.o.r.length ≤ P ∧ y.o.s.length ≤ 64 := by
 have hy := h.gy y (by simp)
 have e1 := Z4P hk
 have heq := h.eq
 have hs := (Z1K hy.2.2.1).1
 rw [Z09, e1, Y0t f _ _ _ (by
  rcases hX with hX | hX
  ·exact .inl hX
  ·refine .inr fun u t' hu => ?_
   cases X with
   | nil => cases hu
   | cons x s =>
     obtain ⟨v, B, hv, hvi⟩ := Z69 h.gx
     rw [hv] at hu
     injection hu with hu _
     subst hu
     cases hi : Z4l v with
     | false => rfl
     | true => exact absurd (hvi.1 hi) (hX x s rfl)), ← List.append_assoc] at heq
 have hkk := h.k
 rw [Z09, Z2p, e1, Z7I, List.length_cons] at hkk
 exact ⟨_, ⟨h.told.insert _ _, h.b.insert _ hs, by omega, heq, h.gx, fun o ho => h.gy o (List.mem_cons_of_mem _ ho)⟩, by omega, hs⟩
def Z3N (f : Bool) (m : Mk) (n : Nat) (o q : Opd) : Mk :=
 if o.k = 3 then m else if q.k = 3 then Z1G m n else Z0s m n (Z2o f q.p o.p)
theorem Y3b (l : List Ky) : mayP l [] = 0 := by simp [mayP, Z1S, rise]
theorem TQ.both {l : List Ky} {f : Bool} {T : List Un} {P : Nat} {X t X' Y' : List OpS} {y o q : OpS} {n : Nat} {m : Mk} {us : List Un} {K : Nat} (h : TQ l f T P X (y :: t) m us K)
 (hX : ∀ x s, X = x :: s → x.o.k ≠ 2 ∧ (n : Int) ≤ x.o.n) (hy : y.o.k ≠ 2) (hn : 1 ≤ n) (hny : (n : Int) ≤ y.o.n) (hmin : y.o.n = (n : Int) ∨ ∃ x s, X = x :: s ∧ x.o.n = (n : Int))
 (tx : Z9w X n o X') (ty : Z9w (y :: t) n q Y') (hT : T.length ≤ 4000000000) :
 ∃ us' K', TQ l f T P X' Y' (Z3N f m n o.o q.o) us' K' ∧ X'.length + Y'.length < X.length + (y :: t).length ∧ (o.o.k = 1 ∨ o.o.k = 3) ∧ (q.o.k = 1 ∨ q.o.k = 3) ∧ K + 2 ≤ P ∧ o.o.p.length ≤ 64 ∧ q.o.p.length ≤ 64 ∧ (Z2o f q.o.p o.o.p).length ≤ 64 := by
 obtain ⟨y1, y2, y3, y4, y5, y6, y7, y8, y9⟩ := Z6m h.gy hy hn ty
 have hyr := h.gy y (by simp)
 have mq : mayP l q.o.p = 0 := by rw [y5]; exact hyr.2.2.2
 have hqk : q.o.k = 1 ∨ q.o.k = 3 := by
  rw [y4]
  rcases Z0q hyr.1 with hk | hk | hk
  ·exact absurd hk hy
  ·exact .inr hk
  ·exact .inl hk
 have key : (Z0e (osOf X) = Z0h o.o ++ Z0e (osOf X') ∨ (X = [] ∧ X' = [] ∧ o.o = opR n [])) ∧ (Z0h o.o).length = n ∧ (o.o.k = 1 ∨ o.o.k = 3) ∧ mayP l o.o.p = 0 ∧ (∀ z ∈ X', Z8z l z.o) ∧ X'.length ≤ X.length ∧ (∀ x s, X = x :: s → x.o.n = (n : Int) → X'.length + 1 = X.length) := by
  cases X with
  | nil =>
    obtain ⟨e1, e2⟩ := tx
    subst e2
    refine ⟨.inr ⟨rfl, rfl, e1⟩, by rw [e1, Z1p, List.length_replicate]; omega, .inl (by rw [e1]; rfl), by rw [e1]; exact Y3b l, fun z hz => (by cases hz), Nat.le_refl _, fun x s e => by cases e⟩
  | cons x s =>
    obtain ⟨x1, x2⟩ := hX x s rfl
    obtain ⟨z1, z2, z3, z4, z5, z6, z7, z8, z9⟩ := Z6m h.gx x1 hn tx
    have hxr := h.gx x (by simp)
    refine ⟨.inl z1, z3, ?_, by rw [z5]; exact hxr.2.2.2, z7, z8, fun x' s' e => by injection e with e1 _; subst e1; exact z9⟩
    rw [z4]
    rcases Z0q hxr.1 with hk | hk | hk
    ·exact absurd hk x1
    ·exact .inr hk
    ·exact .inl hk
 obtain ⟨hXu, hol, hok, mo, gx', xl, xd⟩ := key
 have hdec : X'.length + Y'.length < X.length + (y :: t).length := by
  rcases hmin with hm | ⟨x, s, e, hm⟩
  ·have := y9 hm; omega
  ·have := xd x s e hm; omega
 have hpast : mayP l (Z2o f q.o.p o.o.p) = 0 := Z6l mq
 have heq := h.eq
 rw [y1] at heq
 have hkk := h.k
 rw [y1, Z2p] at hkk
 have hcnt : K + 2 * (X'.length + Y'.length) + 2 + insN (Z0e (osOf X')) + insN (Z0e (osOf Y')) ≤ P := by
  have : insN (Z0e (osOf X')) ≤ insN (Z0e (osOf X)) := by
   rcases hXu with hX | ⟨rfl, rfl, _⟩
   ·rw [hX, Z2p]; omega
   ·exact Nat.le_refl _
  omega
 have main : ∃ W, Told (Z3N f m n o.o q.o) (us ++ W) ∧ us ++ W ++ traU f (Z0e (osOf X')) (Z0e (osOf Y')) = T := by
  have hW : ∀ W, traU f (Z0e (osOf X)) (Z0h q.o ++ Z0e (osOf Y')) = W ++ traU f (Z0e (osOf X')) (Z0e (osOf Y')) → us ++ W ++ traU f (Z0e (osOf X')) (Z0e (osOf Y')) = T ∧ us.length + W.length ≤ T.length := fun W hW => by
   rw [hW, ← List.append_assoc] at heq
   refine ⟨heq, ?_⟩
   have := congrArg List.length heq
   rw [List.length_append, List.length_append] at this; omega
  have hone : ∃ v, Z0h q.o = List.replicate n v ∧ (v = .del ∨ ∃ q, v = .ret q) := by
   rcases hqk with k | k
   ·have e := Z3G k; rw [y3] at e; exact ⟨_, e, .inr ⟨_, rfl⟩⟩
   ·have e := Z3F k; rw [y3] at e; exact ⟨_, e, .inl rfl⟩
  rcases hok with ok | ok
  ·have er := Z3G ok
   rw [hol] at er
   have hn3 : ¬ o.o.k = 3 := by rw [ok]; decide
   rcases hqk with k | k
   ·have eq := Z3G k
    rw [y3] at eq
    have hm : Z3N f m n o.o q.o = Z0s m n (Z2o f q.o.p o.o.p) := by unfold Z3N; rw [if_neg hn3, if_neg (by rw [k]; decide)]
    have hh : traU f (Z0e (osOf X)) (Z0h q.o ++ Z0e (osOf Y')) = List.replicate n (.ret (Z2o f q.o.p o.o.p)) ++ traU f (Z0e (osOf X')) (Z0e (osOf Y')) := by
     rcases hXu with hX | ⟨rfl, rfl, e⟩
     ·rw [hX, er, eq, Z68]
     ·rw [e, eq, show Z0e (osOf []) = [] from rfl, Z1q, Z1q]
      show _ = List.replicate n (Un.ret (Z2o f q.o.p [])) ++ _
      rw [Y4U]
    obtain ⟨h1, h2⟩ := hW _ hh
    rw [List.length_replicate] at h2
    refine ⟨_, ?_, h1⟩
    rw [hm]
    have := h.told.retain (n : Int) (Z2o f q.o.p o.o.p) (by omega)
    rwa [Int.toNat_natCast] at this
   ·have eq := Z3F k
    rw [y3] at eq
    have hm : Z3N f m n o.o q.o = Z1G m n := by unfold Z3N; rw [if_neg hn3, if_pos k]
    have hh : traU f (Z0e (osOf X)) (Z0h q.o ++ Z0e (osOf Y')) = List.replicate n .del ++ traU f (Z0e (osOf X')) (Z0e (osOf Y')) := by
     rcases hXu with hX | ⟨rfl, rfl, e⟩
     ·rw [hX, er, eq, Z67]
     ·rw [eq, show Z0e (osOf []) = [] from rfl, Z1q, Z1q]
    obtain ⟨h1, h2⟩ := hW _ hh
    rw [List.length_replicate] at h2
    refine ⟨_, ?_, h1⟩
    rw [hm]
    have := h.told.delete (n : Int) (by omega) (by omega)
    rwa [Int.toNat_natCast] at this
  ·have er := Z3F ok
   rw [hol] at er
   obtain ⟨v, hv, hv2⟩ := hone
   have hm : Z3N f m n o.o q.o = m := by unfold Z3N; rw [if_pos ok]
   have hX : Z0e (osOf X) = Z0h o.o ++ Z0e (osOf X') := by
    rcases hXu with hX | ⟨_, _, e⟩
    ·exact hX
    ·rw [e] at ok; cases ok
   have hh : traU f (Z0e (osOf X)) (Z0h q.o ++ Z0e (osOf Y')) = [] ++ traU f (Z0e (osOf X')) (Z0e (osOf Y')) := by
    rw [hX, er, hv, Z7J f _ _ v hv2]; rfl
   obtain ⟨h1, h2⟩ := hW _ hh
   refine ⟨[], ?_, h1⟩
   rw [hm, List.append_nil]; exact h.told
 obtain ⟨W, m1, m2⟩ := main
 have hB : MkB (Z3N f m n o.o q.o) (K + 2) 64 := by
  unfold Z3N
  split
  ·exact h.b.mono (by omega) (Nat.le_refl _)
  ·split
   ·exact (h.b.delete _).mono (by omega) (Nat.le_refl _)
   ·exact h.b.retain _ (Z0X hpast).1
 exact ⟨us ++ W, K + 2, ⟨m1, hB, by omega, m2, gx', y7⟩, hdec, hok, hqk, by omega, (Z0X mo).1, (Z0X mq).1, (Z0X hpast).1⟩
theorem TQ.end_ {l : List Ky} {f : Bool} {T : List Un} {P : Nat} {X : List OpS} {m : Mk} {us : List Un} {K : Nat} (h : TQ l f T P X [] m us K) : us = T := by
 have := h.eq
 rw [show Z0e (osOf []) = [] from rfl, Z19, List.append_nil] at this
 exact this
end Go.Proofs.YtnmedachaeanbaaGreatDoor
