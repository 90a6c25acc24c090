/- Merged texts. -/
import Derived.Test.YtfnkjcodcoehcaaGreatDoorX30
namespace Go.Proofs.YtfnkjcodcoehcaaGreatDoor
open Go.RowKit Go.MapKept
set_option linter.unusedVariables false
set_option linter.unusedSimpArgs false
theorem Z9r (x : List OpS) : Z0u x = Z0k (Z0d (osOf x)) := by
 induction x with
 | nil => rfl
 | cons z t ih =>
   have e : Z0d (osOf (z :: t)) = Z0h z.o ++ Z0d (osOf t) := rfl
   rw [Z0u, e, Z0y, ih]
   congr 1
   unfold Z0h
   by_cases h2 : z.o.k = 2
   ·rw [if_pos h2, if_pos h2]
    induction z.o.r with
    | nil => rfl
    | cons a r ihr => rw [List.map_cons]; exact ihr
   ·rw [if_neg h2, if_neg h2]
    have hd : ∀ n, Z0k (List.replicate n Un.del) = n := fun n => by
     induction n with
     | zero => rfl
     | succ n ih => rw [List.replicate_succ]; show Z0k _ + 1 = _; rw [ih]
    have hr : ∀ n, Z0k (List.replicate n (Un.ret z.o.p)) = n := fun n => by
     induction n with
     | zero => rfl
     | succ n ih => rw [List.replicate_succ]; show Z0k _ + 1 = _; rw [ih]
    split
    ·exact (hr _).symm
    ·exact (hd _).symm
def PlanAt (w : World) (bI bG bP : Nat) (y : List OpS) : Prop := ∃ kvI kvG kvP, MapV w bI kvI ∧ MapV w bG kvG ∧ MapV w bP kvP ∧
 (∀ g : Nat, ∃ A n c, (Z12 kvI (g : Int)).getD (.slice none 0 0) = .slice A n c ∧ n = (Z1n y g).length ∧ n ≤ c ∧ c ≤ maxLen ∧ RdOs w w.heap.size A (Z1n y g)) ∧ PlanGone kvG y ∧ PlanPat kvP y
theorem PlanAt.ext {w w' : World} {bI bG bP : Nat} {y : List OpS} (h : PlanAt w bI bG bP y) (b : Below w.heap.size w w') : PlanAt w' bI bG bP y := by
 obtain ⟨kI, kG, kP, h1, h2, h3, h4, h5, h6⟩ := h
 refine ⟨kI, kG, kP, h1.ext b, h2.ext b, h3.ext b, fun g => ?_, h5, h6⟩
 obtain ⟨A, n, c, e1, e2, e3, e4, e5⟩ := h4 g
 exact ⟨A, n, c, e1, e2, e3, e4, e5.ext b⟩
def Z6H : Array Value := #[.int .i64 0, .map none, .map none, .map none]
def Z4g (s N : Nat) : Array Value := #[.int .i64 (N : Int), .map (some (s + 1)), .map (some (s + 2)), .map (some (s + 3))]
def PlanInv (w wy wr : World) (X : List OpS) : Prop :=
 Below w.heap.size w wr ∧ w.heap.size + 5 ≤ wy.heap.size ∧ wy.heap.size ≤ wr.heap.size ∧ (∀ k, w.heap.size + 5 ≤ k → k < wy.heap.size → wr.heap[k]? = wy.heap[k]?) ∧
 wr.heap[w.heap.size]? = some (.cells Z6H 161 (0, 0)) ∧ wr.heap[w.heap.size + 4]? = some (.cells (Z4g w.heap.size (Z0u X)) 161 (0, 0)) ∧
 ∃ kvI kvG kvP lo, MapV wr (w.heap.size + 1) kvI ∧ MapV wr (w.heap.size + 2) kvG ∧ MapV wr (w.heap.size + 3) kvP ∧ lo ≤ wr.heap.size ∧ PlanRows wr wy.heap.size lo (Z0u X) kvI X ∧ PlanGone kvG X ∧ PlanPat kvP X
section
variable {w wy wr w' : World} {X : List OpS} {z : OpS} {k : Nat}
theorem PlanInv.ext (h : PlanInv w wy wr X) (y : Below wr.heap.size wr w') : PlanInv w wy w' X := by
 obtain ⟨h1, h0, h2, h3, h4, h5, kI, kG, kP, lo, m1, m2, m3, m4, m5, m6, m7⟩ := h
 refine ⟨h1.trans (y.mono h1.size), h0, Nat.le_trans h2 y.size, fun k a b => (y.block k (by omega)).trans (h3 k a b), (y.block _ (Z0c h4)).trans h4, (y.block _ (Z0c h5)).trans h5, kI, kG, kP, lo, m1.ext y, m2.ext y, m3.ext y, Nat.le_trans m4 y.size, m5.keep fun k _ hk => y.block k hk, m6, m7⟩
theorem PlanInv.zero (h : PlanInv w wy wr X) (hz : ¬ z.o.k = 2) : PlanInv w wy wr (X ++ [zk z 0]) := by
 obtain ⟨h1, h0, h2, h3, h4, h5, kI, kG, kP, lo, m1, m2, m3, m4, m5, m6, m7⟩ := h
 have e : Z0u (X ++ [zk z 0]) = Z0u X := by rw [Z3i hz]; omega
 refine ⟨h1, h0, h2, h3, h4, by rw [e]; exact h5, kI, kG, kP, lo, m1, m2, m3, m4, ?_, m6.zero hz, m7.zero hz⟩
 rw [e]
 exact m5.same fun g => Z4K hz g
theorem Z7R {b : Nat} {w1 : World} {N : Nat} (h1 : Below w.heap.size w wr) (hb : w.heap.size ≤ b) (s1 : ∀ j, j ≠ b → w1.heap[j]? = wr.heap[j]?) (s2 : w1.heap.size = wr.heap.size) (s3 : w1.os = wr.os) (s4 : w1.tape = wr.tape) (s5 : w1.output = wr.output) : Below w.heap.size w w1 :=
 h1.trans ⟨s3, s4, s5, by omega, fun k hk => s1 k (by omega)⟩
theorem Y0u {w1 : World} {s N M : Nat} (h : w1.heap[s + 4]? = some (.cells (Z4g s N) 161 (0, 0))) : (w1.setCell ⟨s + 4, 0, none⟩ (.int .i64 (M : Int))).heap[s + 4]? = some (.cells (Z4g s M) 161 (0, 0)) := by
 rw [Z0i h]; rfl
theorem PlanInv.gone (h : PlanInv w wy wr (X ++ [zk z k])) (hz : z.o.k = 3) :
 ∃ kvG, MapV wr (w.heap.size + 2) kvG ∧ ∀ w1, MapV w1 (w.heap.size + 2) (putV kvG ((Z0u X + k : Nat) : Int) (.int .i64 1)) → (∀ j, j ≠ w.heap.size + 2 → w1.heap[j]? = wr.heap[j]?) → w1.heap.size = wr.heap.size → w1.os = wr.os → w1.tape = wr.tape → w1.output = wr.output →
   PlanInv w wy (w1.setCell ⟨w.heap.size + 4, 0, none⟩ (.int .i64 ((Z0u X + k + 1 : Nat) : Int))) (X ++ [zk z (k + 1)]) := by
 have hz2 : ¬ z.o.k = 2 := by rw [hz]; decide
 obtain ⟨h1, h0, h2, h3, h4, h5, kI, kG, kP, lo, m1, m2, m3, m4, m5, m6, m7⟩ := h
 refine ⟨kG, m2, fun w1 g1 g2 g3 g4 g5 g6 => ?_⟩
 have e0 : Z0u (X ++ [zk z k]) = Z0u X + k := Z3i hz2
 have e1 : Z0u (X ++ [zk z (k + 1)]) = Z0u X + k + 1 := by rw [Z3i hz2]; omega
 have hs : ∀ j, j ≠ w.heap.size + 4 → (w1.setCell ⟨w.heap.size + 4, 0, none⟩ (.int .i64 ((Z0u X + k + 1 : Nat) : Int))).heap[j]? = w1.heap[j]? := fun j hj => Below.heap_setCell w1 _ _ j hj
 have hsz : (w1.setCell ⟨w.heap.size + 4, 0, none⟩ (.int .i64 ((Z0u X + k + 1 : Nat) : Int))).heap.size = w1.heap.size := by simp [World.setCell]
 have hl := Z0c h5
 refine ⟨(Z7R (N := 0) h1 (by omega) g2 g3 g4 g5 g6).setCell (show w.heap.size ≤ w.heap.size + 4 by omega) _, h0, by rw [hsz, g3]; exact h2, fun j a b => by rw [hs j (by omega), g2 j (by omega)]; exact h3 j a b, by rw [hs _ (by omega), g2 _ (by omega)]; exact h4, ?_, kI, _, kP, (w1.setCell ⟨w.heap.size + 4, 0, none⟩ (.int .i64 ((Z0u X + k + 1 : Nat) : Int))).heap.size, ?_, ?_, ?_, Nat.le_refl _, ?_, m6.put hz, m7.skip hz⟩
 ·rw [e1]; exact Y0u ((g2 _ (by omega)).trans h5)
 ·exact m1.keep (by rw [hs _ (by omega), g2 _ (by omega)])
 ·exact g1.keep (hs _ (by omega))
 ·exact m3.keep (by rw [hs _ (by omega), g2 _ (by omega)])
 ·rw [e1]
  rw [e0] at m5
  have := m5.adv m4
  rw [hsz, g3]
  exact (this.keep fun j a b => by rw [hs j (by omega), g2 j (by omega)]).same fun g => by rw [Z4K hz2, Z4K hz2]
theorem PlanInv.pat (h : PlanInv w wy wr (X ++ [zk z k])) (hz2 : ¬ z.o.k = 2) (hz3 : ¬ z.o.k = 3) :
 ∃ kvP, MapV wr (w.heap.size + 3) kvP ∧ ∀ w1, MapV w1 (w.heap.size + 3) (putV kvP ((Z0u X + k : Nat) : Int) (.slice z.Ap z.o.p.length z.cp)) → (∀ j, j ≠ w.heap.size + 3 → w1.heap[j]? = wr.heap[j]?) → w1.heap.size = wr.heap.size → w1.os = wr.os → w1.tape = wr.tape → w1.output = wr.output →
   PlanInv w wy (w1.setCell ⟨w.heap.size + 4, 0, none⟩ (.int .i64 ((Z0u X + k + 1 : Nat) : Int))) (X ++ [zk z (k + 1)]) := by
 obtain ⟨h1, h0, h2, h3, h4, h5, kI, kG, kP, lo, m1, m2, m3, m4, m5, m6, m7⟩ := h
 refine ⟨kP, m3, fun w1 g1 g2 g3 g4 g5 g6 => ?_⟩
 have e0 : Z0u (X ++ [zk z k]) = Z0u X + k := Z3i hz2
 have e1 : Z0u (X ++ [zk z (k + 1)]) = Z0u X + k + 1 := by rw [Z3i hz2]; omega
 have hs : ∀ j, j ≠ w.heap.size + 4 → (w1.setCell ⟨w.heap.size + 4, 0, none⟩ (.int .i64 ((Z0u X + k + 1 : Nat) : Int))).heap[j]? = w1.heap[j]? := fun j hj => Below.heap_setCell w1 _ _ j hj
 have hsz : (w1.setCell ⟨w.heap.size + 4, 0, none⟩ (.int .i64 ((Z0u X + k + 1 : Nat) : Int))).heap.size = w1.heap.size := by simp [World.setCell]
 have hl := Z0c h5
 refine ⟨(Z7R (N := 0) h1 (by omega) g2 g3 g4 g5 g6).setCell (show w.heap.size ≤ w.heap.size + 4 by omega) _, h0, by rw [hsz, g3]; exact h2, fun j a b => by rw [hs j (by omega), g2 j (by omega)]; exact h3 j a b, by rw [hs _ (by omega), g2 _ (by omega)]; exact h4, ?_, kI, kG, _, (w1.setCell ⟨w.heap.size + 4, 0, none⟩ (.int .i64 ((Z0u X + k + 1 : Nat) : Int))).heap.size, ?_, ?_, ?_, Nat.le_refl _, ?_, m6.skip hz2 hz3, m7.put hz2 hz3⟩
 ·rw [e1]; exact Y0u ((g2 _ (by omega)).trans h5)
 ·exact m1.keep (by rw [hs _ (by omega), g2 _ (by omega)])
 ·exact m2.keep (by rw [hs _ (by omega), g2 _ (by omega)])
 ·exact g1.keep (hs _ (by omega))
 ·rw [e1]
  rw [e0] at m5
  have := m5.adv m4
  rw [hsz, g3]
  exact (this.keep fun j a b => by rw [hs j (by omega), g2 j (by omega)]).same fun g => by rw [Z4K hz2, Z4K hz2]
theorem PlanInv.push (h : PlanInv w wy wr X) (hz : z.o.k = 2) :
 ∃ kvI A n c, MapV wr (w.heap.size + 1) kvI ∧ (Z12 kvI (Z0u X : Int)).getD (.slice none 0 0) = .slice A n c ∧ OwOs wr wy.heap.size (.slice A n c) (Z1n X (Z0u X)) ∧
   ∀ wa w5 v' w7, Below wr.heap.size wr wa → OwOs w5 wy.heap.size v' (Z1n X (Z0u X) ++ [z]) → wa.grownBy w5 (wb (.slice A n c)) → (v' = .slice A n c ∧ w5 = wa ∨ wb v' = wb (.slice A n c) ∨ wb v' = some wa.heap.size) →
   MapV w7 (w.heap.size + 1) (putV kvI (Z0u X : Int) v') → (∀ j, j ≠ w.heap.size + 1 → w7.heap[j]? = w5.heap[j]?) → w7.heap.size = w5.heap.size → w7.os = w5.os → w7.tape = w5.tape → w7.output = w5.output → PlanInv w wy w7 (X ++ [z]) := by
 obtain ⟨h1, h0, h2, h3, h4, h5, kI, kG, kP, lo, m1, m2, m3, m4, m5, m6, m7⟩ := h
 obtain ⟨A, n, c, e1, e2, e3, e4, e5⟩ := m5.2 (Z0u X)
 refine ⟨kI, A, n, c, m1, e1, e3, fun wa w5 v' w7 hab ho hg hv g1 g2 g3 g4 g5 g6 => ?_⟩
 have ha := hab.size
 have e : Z0u (X ++ [z]) = Z0u X := by rw [Z7c, if_pos hz]; omega
 have hl := Z0c h5
 have hrow : ∀ k, wb (.slice A n c) = some k → wy.heap.size ≤ k := fun k hk => (e3.wb_lt k hk).1
 have hlow : ∀ k, k < wy.heap.size → k ≠ w.heap.size + 1 → w7.heap[k]? = wr.heap[k]? := fun k hk hne => by
  rw [g2 k hne]
  exact (hg.block k (by omega) (fun e => by have := hrow k e.symm; omega)).trans (hab.block k (by omega))
 refine ⟨?_, h0, by have := hg.size; omega, fun k a b => (hlow k b (by omega)).trans (h3 k a b), (hlow _ (by omega) (by omega)).trans h4, ?_, putV kI (Z0u X : Int) v', kG, kP, lo, g1, m2.keep (hlow _ (by omega) (by omega)), m3.keep (hlow _ (by omega) (by omega)), by have := hg.size; omega, ?_, m6.ins hz, m7.ins hz⟩
 ·have b1 : Below w.heap.size w wa := h1.trans (hab.mono h1.size)
  have b2 : Below w.heap.size w w5 := b1.grown hg (by omega) (fun k hk => by have := hrow k hk; omega)
  exact b2.trans ⟨g4, g5, g6, by omega, fun k hk => g2 k (by omega)⟩
 ·rw [e]; exact (hlow _ (by omega) (by omega)).trans h5
 ·rw [e]
  exact m5.push rfl hz m4 e1 ha (fun k hk => hab.block k hk) ho hg hv (fun k hk => g2 k (by omega))
end
open Go.RowKit
set_option linter.unusedVariables false
set_option linter.unusedSimpArgs false
theorem Y4H (us : List Un) : ∀ n, nf (us ++ rets n) = nf us
 | 0 => by rw [show rets 0 = [] from rfl, List.append_nil]
 | n + 1 => by
   have e : rets (n + 1) = rets n ++ [.ret []] := by unfold rets; rw [List.replicate_succ']
   rw [e, ← List.append_assoc]
   unfold nf
   rw [Z6B, Z73]
   exact Y4H us n
def skO (P : List OpS) (g : Nat) : Nat := (Z0d (osOf (Z1n P g))).length
theorem Z6v (a b : List OpS) : Z0d (osOf (a ++ b)) = Z0d (osOf a) ++ Z0d (osOf b) := by unfold osOf; rw [List.map_append, Z0G]
theorem Y0v (us : List Un) : ∀ g, (gapD us g).length ≤ us.length
 | 0 => Nat.le_refl _
 | g + 1 => by
   show (((gapD us g).dropWhile Z0n).tail).length ≤ _
   rw [List.length_tail]
   have h1 : ((gapD us g).dropWhile Z0n).length ≤ (gapD us g).length := (List.dropWhile_sublist _).length_le
   have := Y0v us g
   omega
theorem Y3c (P : List OpS) (g : Nat) : skO P g ≤ (Z0d (osOf P)).length := by
 unfold skO
 rw [← (Z0Y P g).1]
 exact Nat.le_trans (List.takeWhile_sublist _).length_le (Y0v _ _)
theorem Z7h {P : List OpS} {g : Nat} : ∀ z ∈ Z1n P g, z.o.k = 2 := fun z hz => (Z26 P g z hz).2
def bndU (b : Nat) : Un → Prop
 | .ins _ s => s.length ≤ b
 | .ret p => p.length ≤ b
 | .del => True
theorem Y0w {b : Nat} {x y : List OpS} (hx : ∀ o ∈ x, o.o.s.length ≤ b ∧ o.o.p.length ≤ b) (hy : osOf y = mkU (Z0d (osOf x))) : ∀ z ∈ y, z.o.s.length ≤ b ∧ z.o.p.length ≤ b := by
 have h1 : ∀ u ∈ Z0d (osOf x), bndU b u := fun u hu => by
  obtain ⟨o, ho, hu⟩ := Z1C.1 hu
  unfold Z0h at hu
  split at hu
  ·obtain ⟨r, _, rfl⟩ := List.mem_map.1 hu; exact (hx o ho).1
  ·split at hu
   ·have := List.eq_of_mem_replicate hu; subst this; exact (hx o ho).2
   ·have := List.eq_of_mem_replicate hu; subst this; trivial
 have h2 := Z3m (P := bndU b) trivial h1
 rw [← Z1v hy] at h2
 intro z hz
 have hi := Z2N hy z hz
 have hm : ∀ u ∈ Z0h z.o, bndU b u := fun u hu => h2 u (Z1C.2 ⟨z, hz, hu⟩)
 rcases hi with ⟨h3, h4, h5, h6⟩ | ⟨h3, h4, h5, h6, h7⟩ | ⟨h3, h4, h5, h6⟩
 ·rw [h6]
  refine ⟨?_, Nat.zero_le _⟩
  cases hr : z.o.r with
  | nil => exact absurd hr h5
  | cons a t => exact hm (.ins a z.o.s) (by unfold Z0h; rw [if_pos h3, hr]; exact List.mem_cons_self)
 ·rw [h6, h7]; exact ⟨Nat.zero_le _, Nat.zero_le _⟩
 ·rw [h6]
  refine ⟨Nat.zero_le _, hm (.ret z.o.p) ?_⟩
  unfold Z0h
  rw [if_neg (by rw [h3]; decide), if_pos h3]
  exact List.mem_replicate.2 ⟨by omega, rfl⟩
def insC : List Un → List Cl
 | [] => []
 | .ins r s :: us => ⟨r, s⟩ :: insC us
 | _ :: us => insC us
def patU : Option Un → List Ch
 | some (.ret p) => p
 | _ => []
def Z5f : Option Un → Bool
 | some .del => true
 | _ => false
def Z5g (l : List Ky) (u v : Option Un) (c : Cl) : List Cl := if Z5f u = true ∨ Z5f v = true then [] else [actC l (actC l c (patU v)) (patU u)]
def mrgU (l : List Ky) (us vs : List Un) : List Cl → List Cl
 | [] => []
 | c :: d => insC (us.takeWhile Z0n) ++ (insC (vs.takeWhile Z0n) ++ (Z5g l (us.dropWhile Z0n).head? (vs.dropWhile Z0n).head? c ++ mrgU l (us.dropWhile Z0n).tail (vs.dropWhile Z0n).tail d))
theorem Z5N (l : List Ky) (vs : List Un) (d : List Cl) : ∀ {us : List Un}, (∀ u ∈ us, Z0n u = true) → app l (us ++ vs) d = insC us ++ app l vs d
 | [], _ => rfl
 | .ins r s :: us, h => by
   have := Z5N l vs d (us := us) (fun u hu => h u (List.mem_cons_of_mem _ hu))
   show (⟨r, s⟩ : Cl) :: app l (us ++ vs) d = _
   rw [this]; rfl
 | .del :: us, h => by have := h .del (by simp); cases this
 | .ret p :: us, h => by have := h (.ret p) (by simp); cases this
theorem Z3W : ∀ {us : List Un}, (∀ u ∈ us, Z0n u = true) → (insC us).length = us.length
 | [], _ => rfl
 | .ins r s :: us, h => by have := Z3W (us := us) (fun u hu => h u (List.mem_cons_of_mem _ hu)); show (insC us).length + 1 = us.length + 1; rw [this]
 | .del :: us, h => by have := h .del (by simp); cases this
 | .ret p :: us, h => by have := h (.ret p) (by simp); cases this
theorem Z8G (us : List Un) : ∀ u ∈ us.takeWhile Z0n, Z0n u = true := by
 induction us with
 | nil => intro u hu; cases hu
 | cons x us ih =>
   intro u hu
   cases hx : Z0n x
   ·rw [List.takeWhile_cons_of_neg (by rw [hx]; decide)] at hu; cases hu
   ·rw [List.takeWhile_cons_of_pos hx] at hu
    rcases List.mem_cons.1 hu with h | h
    ·rw [h]; exact hx
    ·exact ih u h
theorem Z8H (l : List Ky) (vs : List Un) (x y : List Cl) : app l (rets x.length ++ vs) (x ++ y) = x ++ app l vs y := by
 induction x with
 | nil => rfl
 | cons c x ih =>
   show ([c].map (fun c => actC l c [])) ++ app l (rets x.length ++ vs) (x ++ y) = _
   rw [ih, List.map_cons, List.map_nil, Z2I]; rfl
theorem Z6w (l : List Ky) : ∀ (n : Nat) (d : List Cl), app l (rets n) d = d
 | 0, d => rfl
 | n + 1, [] => by show [] ++ app l (rets n) [] = []; rw [Z6w l n]; rfl
 | n + 1, c :: d => by show [actC l c []] ++ app l (rets n) d = _; rw [Z6w l n, Z2I]; rfl
theorem Z4L (l : List Ky) (n : Nat) : ∀ (us : List Un) (d : List Cl), app l (us ++ rets n) d = app l us d
 | [], d => Z6w l n d
 | .ins r s :: us, d => by show (⟨r, s⟩ : Cl) :: app l (us ++ rets n) d = _; rw [Z4L l n us]; rfl
 | .del :: us, d => by show app l (us ++ rets n) (d.drop 1) = _; rw [Z4L l n us]; rfl
 | .ret p :: us, d => by show (d.take 1).map _ ++ app l (us ++ rets n) (d.drop 1) = _; rw [Z4L l n us]; rfl
theorem Y0x (us : List Un) : Z0k (us.takeWhile Z0n) = 0 := by
 have h := Z8G us
 generalize us.takeWhile Z0n = x at h
 induction x with
 | nil => rfl
 | cons u x ih =>
   cases u with
   | ins r s => exact ih (fun u hu => h u (List.mem_cons_of_mem _ hu))
   | del => have := h .del (by simp); cases this
   | ret p => have := h (.ret p) (by simp); cases this
theorem Y0y {n a : Nat} {us : List Un} (h : finU n a us = true) : finU n (a + 1) (us.dropWhile Z0n).tail = true := by
 have e := List.takeWhile_append_dropWhile (p := Z0n) (l := us)
 rw [← e, Z1B, Bool.and_eq_true, Y0x, Nat.add_zero] at h
 cases hd : us.dropWhile Z0n with
 | nil => rfl
 | cons u t =>
   have h2 := h.2
   rw [hd] at h2
   have hi := Z3G hd
   cases u with
   | ins r s => cases hi
   | del => have h3 : (decide (a + 1 ≠ n) && finU n (a + 1) t) = true := h2; rw [Bool.and_eq_true] at h3; exact h3.2
   | ret p => exact h2
theorem Z7i {k : Nat} {us : List Un} (h : Z0k us ≤ k + 1) : Z0k (us.dropWhile Z0n).tail ≤ k := by
 have e := List.takeWhile_append_dropWhile (p := Z0n) (l := us)
 rw [← e, Z0y, Y0x, Nat.zero_add] at h
 cases hd : us.dropWhile Z0n with
 | nil => exact Nat.zero_le _
 | cons u t =>
   rw [hd] at h
   have hi := Z3G hd
   cases u with
   | ins r s => cases hi
   | del => have h3 : Z0k t + 1 ≤ k + 1 := h; exact Nat.le_of_succ_le_succ h3
   | ret p => have h3 : Z0k t + 1 ≤ k + 1 := h; exact Nat.le_of_succ_le_succ h3
theorem Y0z {P : Un → Prop} {us : List Un} (h : ∀ u ∈ us, P u) : ∀ u ∈ us.dropWhile Z0n, P u := fun u hu => h u ((List.dropWhile_suffix Z0n).subset hu)
theorem Y0A {P : Un → Prop} {us : List Un} (h : ∀ u ∈ us, P u) : ∀ u ∈ us.tail, P u := fun u hu => h u (List.mem_of_mem_tail hu)
theorem Y3d (l : List Ky) : ∀ (d : List Cl) (us vs : List Un) (n a : Nat), n = a + d.length → Z0k us ≤ d.length → Z0k vs ≤ d.length → finU n a us = true → finU n a vs = true →
 (∀ u ∈ us, mU l u) → (∀ u ∈ vs, mU l u) → (∀ c ∈ d, Z1H c.s = true) → app l (traU true us vs) (app l us d) = mrgU l us vs d
 | [], us, vs, n, a, hn, h1, h2, h3, h4, _, _, _ => by
   have ha : a = n := by rw [hn]; rfl
   subst ha
   rw [Z7C h3 (Nat.le_zero.1 h1), Z7C h4 (Nat.le_zero.1 h2), Z2d]; rfl
 | c :: d, us, vs, n, a, hn, h1, h2, h3, h4, h5, h6, h7 => by
   have ih := Y3d l d (us.dropWhile Z0n).tail (vs.dropWhile Z0n).tail n (a + 1) (by rw [hn, List.length_cons]; omega) (Z7i h1) (Z7i h2) (Y0y h3) (Y0y h4) (Y0A (Y0z h5)) (Y0A (Y0z h6)) (fun x hx => h7 x (List.mem_cons_of_mem _ hx))
   have hc := h7 c (by simp)
   have e1 := List.takeWhile_append_dropWhile (p := Z0n) (l := us)
   have e2 := List.takeWhile_append_dropWhile (p := Z0n) (l := vs)
   have ti := Z8G us
   have tj := Z8G vs
   have h5' := Y0z h5
   have h6' := Y0z h6
   have X1 : app l us (c :: d) = insC (us.takeWhile Z0n) ++ app l (us.dropWhile Z0n) (c :: d) := by
    have h := Z5N l (us.dropWhile Z0n) (c :: d) ti
    rw [e1] at h; exact h
   have LI := Z3W ti
   rw [X1]
   cases hv : vs.dropWhile Z0n with
   | nil =>
     obtain ⟨m, hm⟩ := Z7Q true vs us hv
     rw [if_pos rfl] at hm
     rw [← Z4L l m, ← hm, ← LI, Z8H, show vs.takeWhile Z0n = vs.takeWhile Z0n ++ [] from (List.append_nil _).symm, Z5N l [] _ tj]
     show _ ++ (_ ++ app l (us.dropWhile Z0n) (c :: d)) = _
     rw [hv] at ih
     have ih' : app l (us.dropWhile Z0n).tail d = mrgU l (us.dropWhile Z0n).tail [] d := by
      have : traU true (us.dropWhile Z0n).tail ([] : List Un).tail = [] := Z2d _ _
      rw [this] at ih; exact ih
     unfold mrgU
     rw [hv]
     congr 2
     rw [List.tail_nil, ← ih']
     cases hu : us.dropWhile Z0n with
     | nil => show c :: d = [actC l (actC l c []) []] ++ d; rw [Z2I, Z2I]; rfl
     | cons u t =>
       have hi := Z3G hu
       cases u with
       | ins r s => cases hi
       | del => rfl
       | ret p => show [actC l c p] ++ app l t d = [actC l (actC l c []) p] ++ app l t d; rw [Z2I]
   | cons v t =>
     rw [Z9q true vs us hv, if_pos rfl, List.append_assoc, ← LI, Z8H, Z5N l _ _ tj]
     unfold mrgU
     congr 2
     rw [hv] at ih ⊢
     rw [← ih]
     have hvi := Z3G hv
     have hvm := h6' v (by rw [hv]; simp)
     cases hu : us.dropWhile Z0n with
     | nil =>
       cases v with
       | ins r s => cases hvi
       | del => rfl
       | ret q => show [actC l c q] ++ app l (traU true [] t) d = [actC l (actC l c q) []] ++ app l (traU true [] t) d; rw [Z2I]
     | cons u us' =>
       have hui := Z3G hu
       have hum := h5' u (by rw [hu]; simp)
       cases u with
       | ins r s => cases hui
       | del =>
         cases v with
         | ins r s => cases hvi
         | del => rfl
         | ret q => rfl
       | ret p =>
         cases v with
         | ins r s => cases hvi
         | del => rfl
         | ret q =>
           show [actC l (actC l c p) (Z30 q p)] ++ app l (traU true us' t) (app l us' d) = [actC l (actC l c q) p] ++ app l (traU true us' t) (app l us' d)
           rw [Y4w hum hvm hc]
def MrgI (l : List Ky) (us vs : List Un) (d D : List Cl) (g : Nat) : Prop := D ++ mrgU l (gapD us g) (gapD vs g) (d.drop g) = mrgU l us vs d
theorem MrgI.new (l : List Ky) (us vs : List Un) (d : List Cl) : MrgI l us vs d [] 0 := rfl
theorem MrgI.step {l : List Ky} {us vs : List Un} {d D : List Cl} {g : Nat} {c : Cl} (h : MrgI l us vs d D g) (hc : d[g]? = some c) :
 MrgI l us vs d (D ++ (insC ((gapD us g).takeWhile Z0n) ++ (insC ((gapD vs g).takeWhile Z0n) ++ Z5g l ((gapD us g).dropWhile Z0n).head? ((gapD vs g).dropWhile Z0n).head? c))) (g + 1) := by
 unfold MrgI at h ⊢
 rw [← h]
 have hd : d.drop g = c :: d.drop (g + 1) := by
  obtain ⟨hl, e⟩ := List.getElem?_eq_some_iff.1 hc
  rw [← e]; exact List.drop_eq_getElem_cons hl
 rw [hd]
 show _ = D ++ (insC _ ++ (insC _ ++ (Z5g l _ _ c ++ mrgU l (gapD us (g + 1)) (gapD vs (g + 1)) (d.drop (g + 1)))))
 simp only [List.append_assoc]
theorem MrgI.done {l : List Ky} {us vs : List Un} {d D : List Cl} {g : Nat} (h : MrgI l us vs d D g) (hg : d.length ≤ g) : D = mrgU l us vs d := by
 unfold MrgI at h
 rw [List.drop_eq_nil_of_le hg] at h
 have e : mrgU l (gapD us g) (gapD vs g) [] = [] := rfl
 rw [e, List.append_nil] at h
 exact h
theorem Y3e (us : List Un) : ((us.takeWhile Z0n).length + ((us.dropWhile Z0n).tail).length) ≤ us.length := by
 have e := congrArg List.length (List.takeWhile_append_dropWhile (p := Z0n) (l := us))
 rw [List.length_append] at e
 have := List.length_tail (l := us.dropWhile Z0n)
 omega
theorem Y3f (l : List Ky) : ∀ (d : List Cl) (us vs : List Un), (mrgU l us vs d).length ≤ d.length + us.length + vs.length
 | [], us, vs => Nat.zero_le _
 | c :: d, us, vs => by
   have ih := Y3f l d (us.dropWhile Z0n).tail (vs.dropWhile Z0n).tail
   have a1 := Y3e us
   have a2 := Y3e vs
   have i1 := Z3W (Z8G us)
   have i2 := Z3W (Z8G vs)
   have k : (Z5g l (us.dropWhile Z0n).head? (vs.dropWhile Z0n).head? c).length ≤ 1 := by unfold Z5g; split <;> simp
   unfold mrgU
   simp only [List.length_append, List.length_cons]
   omega
theorem MrgI.len {l : List Ky} {us vs : List Un} {d D : List Cl} {g : Nat} (h : MrgI l us vs d D g) : D.length ≤ d.length + us.length + vs.length := by
 have e := congrArg List.length h
 rw [List.length_append] at e
 have := Y3f l d us vs
 omega
theorem Y4I (us vs : List Un) : insC (us ++ vs) = insC us ++ insC vs := by
 induction us with
 | nil => rfl
 | cons u us ih =>
   cases u with
   | ins r s => show (⟨r, s⟩ : Cl) :: insC (us ++ vs) = _; rw [ih]; rfl
   | del => exact ih
   | ret p => exact ih
theorem Y0B (s : List At) : ∀ r : List Int, insC (r.map (fun r => Un.ins r s)) = r.map (fun r => (⟨r, s⟩ : Cl))
 | [] => rfl
 | x :: r => by show (⟨x, s⟩ : Cl) :: insC (r.map _) = _; rw [Y0B s r]; rfl
theorem Y4J {z : OpS} (h : z.o.k = 2) : insC (Z0h z.o) = z.o.r.map (fun r => (⟨r, z.o.s⟩ : Cl)) := by
 unfold Z0h; rw [if_pos h]; exact Y0B _ _
theorem Z8I {L : List OpS} {m : Nat} {z : OpS} (h : L[m]? = some z) (hk : z.o.k = 2) : insC (Z0d (osOf (L.take (m + 1)))) = insC (Z0d (osOf (L.take m))) ++ z.o.r.map (fun r => (⟨r, z.o.s⟩ : Cl)) := by
 rw [List.take_add_one, h]
 show insC (Z0d (osOf (L.take m ++ [z]))) = _
 rw [Z6v, Y4I]
 congr 1
 show insC (Z0h z.o ++ []) = _
 rw [List.append_nil, Y4J hk]
end Go.Proofs.YtfnkjcodcoehcaaGreatDoor
