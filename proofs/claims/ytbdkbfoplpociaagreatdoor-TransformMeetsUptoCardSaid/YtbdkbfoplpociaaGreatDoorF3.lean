/- Merged texts: TrSt. -/
import Derived.Test.YtbdkbfoplpociaaGreatDoorK31
import Derived.Test.YtbdkbfoplpociaaGreatDoorF1
import Derived.Test.YtbdkbfoplpociaaGreatDoorK30
import Derived.Test.YtbdkbfoplpociaaGreatDoorK7
import Derived.Test.YtbdkbfoplpociaaGreatDoorF2
namespace Go.Proofs.YtbdkbfoplpociaaGreatDoor
open Go.RowKit
set_option linter.unusedVariables false
set_option linter.unusedSimpArgs false

theorem Grow.wide {w w' : World} {F F' G : Nat → Prop} (g : Grow w F w' F') (h : ∀ k, F k → G k) (h' : ∀ k, F' k → G k ∨ w.heap.size ≤ k) : Grow w G w' G :=
  ⟨g.os, g.tape, g.output, g.size, fun j hj hn => g.block j hj (fun hf => hn (h j hf)), fun k hk => .inl hk⟩
/-- transform's reader: what is left to read, off what may be written -/
structure RdX (w : World) (G : Nat → Prop) (b : Nat) (X : List OpS) : Prop where
  box : ∃ A n c, w.heap[b]? = some (.cells #[.slice A n c] 167 (0, 0)) ∧ n = X.length ∧ n ≤ c ∧ c ≤ maxLen ∧ RdOs w w.heap.size A X ∧ OffF G A X.length
  parts : ∀ x ∈ X, PartF w G x
  b : X.length ≤ 1000000
theorem RdX.lt {w : World} {G : Nat → Prop} {b : Nat} {X : List OpS} (h : RdX w G b X) : b < w.heap.size := by
  obtain ⟨A, n, c, hb, _⟩ := h.box; exact lt_of_some hb
/-- the reader stays while its box stays, and what it reads is off what is written -/
theorem RdX.keep {w w' : World} {F G F' G' : Nat → Prop} {b : Nat} {X : List OpS} (h : RdX w G b X) (g : Grow w F w' F') (hF : ∀ k, F k → G k) (hG : ∀ k, G' k → G k ∨ w.heap.size ≤ k) (hb : w'.heap[b]? = w.heap[b]?) : RdX w' G' b X := by
  have gw : Grow w G w' G' := ⟨g.os, g.tape, g.output, g.size, fun j hj hn => g.block j hj (fun hf => hn (hF j hf)), hG⟩
  obtain ⟨A, n, c, h1, h2, h3, h4, h5, h6⟩ := h.box
  exact ⟨⟨A, n, c, hb.trans h1, h2, h3, h4, h5.grow gw h6, h6.grow h5 gw⟩, fun x hx => (h.parts x hx).grow gw, h.b⟩
theorem RdX.ext {w w' : World} {G : Nat → Prop} {b : Nat} {X : List OpS} (h : RdX w G b X) (y : Below w.heap.size w w') : RdX w' G b X :=
  h.keep (Grow.of (F := G) y) (fun k hk => hk) (fun k hk => .inl hk) (y.block b h.lt)
/-- what may be written: the maker's, and both readers' boxes -/
def FB (F : Nat → Prop) (bu bv : Nat) : Nat → Prop := fun k => F k ∨ k = bu ∨ k = bv
/-- both readers and the maker -/
structure TSt (w wr : World) (F : Nat → Prop) (b bu bv : Nat) (X Y : List OpS) (m : Mk) : Prop where
  m : Mkr wr F b m
  low : ∀ k, F k → w.heap.size ≤ k
  nu : ¬ F bu
  nv : ¬ F bv
  x : RdX wr (FB F bu bv) bu X
  y : RdX wr (FB F bu bv) bv Y
  ne : bu ≠ bv
  lu : w.heap.size ≤ bu
  lv : w.heap.size ≤ bv
  below : Below w.heap.size w wr
theorem TSt.more {w wr w2 : World} {F : Nat → Prop} {b bu bv : Nat} {X Y : List OpS} {m : Mk} (h : TSt w wr F b bu bv X Y m) (y : Below wr.heap.size wr w2) : TSt w w2 F b bu bv X Y m :=
  ⟨h.m.below y, h.low, h.nu, h.nv, h.x.ext y, h.y.ext y, h.ne, h.lu, h.lv, h.below.trans (y.mono h.below.size)⟩
theorem TSt.lt {w wr : World} {F : Nat → Prop} {b bu bv : Nat} {X Y : List OpS} {m : Mk} (h : TSt w wr F b bu bv X Y m) : ∀ k, FB F bu bv k → k < wr.heap.size := fun k hk => by
  rcases hk with hk | rfl | rfl
  · exact h.m.lt k hk
  · exact h.x.lt
  · exact h.y.lt
/-- behind a call on the first reader -/
theorem TSt.tookX {w wr w2 : World} {F : Nat → Prop} {b bu bv : Nat} {X Y X' : List OpS} {m : Mk} (h : TSt w wr F b bu bv X Y m) (hr : RdX w2 (FB F bu bv) bu X') (g : Grow wr (fun k => k = bu) w2 (fun k => k = bu)) : TSt w w2 F b bu bv X' Y m := by
  obtain ⟨A, n, c, hb, _⟩ := h.x.box
  exact ⟨h.m.beside hb (NoPart.one _ _ _) h.nu g, h.low, h.nu, h.nv, hr, h.y.keep g (fun k hk => .inr (.inl hk)) (fun k hk => .inl hk) (g.block bv h.y.lt (fun e => h.ne e.symm)), h.ne, h.lu, h.lv, h.below.trans (g.below (fun k hk => by have := h.lu; omega) h.below.size)⟩
theorem TSt.tookY {w wr w2 : World} {F : Nat → Prop} {b bu bv : Nat} {X Y Y' : List OpS} {m : Mk} (h : TSt w wr F b bu bv X Y m) (hr : RdX w2 (FB F bu bv) bv Y') (g : Grow wr (fun k => k = bv) w2 (fun k => k = bv)) : TSt w w2 F b bu bv X Y' m := by
  obtain ⟨A, n, c, hb, _⟩ := h.y.box
  exact ⟨h.m.beside hb (NoPart.one _ _ _) h.nv g, h.low, h.nu, h.nv, h.x.keep g (fun k hk => .inr (.inr hk)) (fun k hk => .inl hk) (g.block bu h.x.lt (fun e => h.ne e)), hr, h.ne, h.lu, h.lv, h.below.trans (g.below (fun k hk => by have := h.lv; omega) h.below.size)⟩
/-- behind a call on the maker -/
theorem RdX.told {w w2 : World} {F F2 : Nat → Prop} {b bu bv : Nat} {X : List OpS} (h : RdX w (FB F bu bv) b X) (g : Grow w F w2 F2) (nb : ¬ F b) : RdX w2 (FB F2 bu bv) b X :=
  h.keep g (fun k hk => .inl hk) (fun k hk => by
    rcases hk with hk | hk
    · rcases g.foot k hk with h1 | h1
      · exact .inl (.inl h1)
      · exact .inr h1
    · exact .inl (.inr hk)) (g.block b h.lt nb)
theorem TSt.told {w wr w2 : World} {F F2 : Nat → Prop} {b bu bv : Nat} {X Y : List OpS} {m m2 : Mk} (h : TSt w wr F b bu bv X Y m) (hm : Mkr w2 F2 b m2) (g : Grow wr F w2 F2) : TSt w w2 F2 b bu bv X Y m2 :=
  ⟨hm, g.low h.low h.below.size, g.out h.x.lt h.nu, g.out h.y.lt h.nv, h.x.told g h.nu, h.y.told g h.nv, h.ne, h.lu, h.lv, h.below.trans (g.below h.low h.below.size)⟩
/-- an op's parts, behind a call on a reader -/
theorem PartF.took {w w2 : World} {F : Nat → Prop} {bu bv b : Nat} {o : OpS} (h : PartF w (FB F bu bv) o) (hb : b = bu ∨ b = bv) (g : Grow w (fun k => k = b) w2 (fun k => k = b)) : PartF w2 (FB F bu bv) o :=
  h.grow (g.wide (fun k hk => .inr (by subst hk; exact hb)) (fun k hk => .inl (.inr (by subst hk; exact hb))))
/-- what a reader's call that takes answers -/
def TookX (b : Nat) (X : List OpS) (R : OpS → List OpS → Prop) (w : World) (e : Ending) (w' : World) : Prop :=
  ∃ (o : OpS) (X' : List OpS), e = .returned o.val ∧ R o X' ∧ Grow w (fun k => k = b) w' (fun k => k = b) ∧
    ∀ G : Nat → Prop, G b → (∀ k, G k → k < w.heap.size) → RdX w G b X → RdX w' G b X' ∧ PartF w' G o
end Go.Proofs.YtbdkbfoplpociaaGreatDoor
