/- Merged texts. -/
import Derived.Test.YtfnkjcodcoehcaaGreatDoorX23
namespace Go.Proofs.YtfnkjcodcoehcaaGreatDoor
open Go.RowKit
set_option linter.unusedVariables false
set_option linter.unusedSimpArgs false
theorem Z7N {α : Type} {enc : α → List Value} {size B b : Nat} {w : World} {A : Option Addr} {l : List α} {cs : Array Value} {t : TypeId} (h : Rd enc size w B A l) (hb : w.heap[b]? = some (.cells cs t (0, 0)))
 (hbad : ∀ (a : α) (o : Nat), (∀ (j : Nat) (u : Value), (enc a)[j]? = some u → cs[o + j]? = some u) → False) : OffF (fun k => k = b) A l.length := fun ad e hl hk => by
 obtain ⟨ad', e', _, hc⟩ := h hl
 rw [e] at e'; injection e' with e'; subst e'
 refine hbad l[0] ad.off (fun j u hu => ?_)
 have h1 := hc 0 hl j u hu
 rw [Nat.zero_mul, Z0v] at h1
 unfold World.cell? at h1
 rw [Z0q, hk, hb] at h1
 simp only at h1
 have e2 : (ad.add j).off = ad.off + j := by unfold Addr.add; split <;> simp_all
 rw [e2] at h1
 split at h1
 ·cases h1
 ·exact h1
structure NoPart (cs : Array Value) : Prop where
 i : ∀ (r : Int) (o : Nat), cs[o]? ≠ some (.int .i32 r)
 s : cs.size < 3
theorem NoPart.one (A : Option Addr) (n c : Nat) : NoPart #[.slice A n c] := ⟨fun r o h => by
 match o with
 | 0 => simp at h
 | o + 1 => simp at h, by simp⟩
theorem NoPart.i32 {cs : Array Value} (h : NoPart cs) (a : Int) (o : Nat) (hh : ∀ (j : Nat) (u : Value), (Z3l a)[j]? = some u → cs[o + j]? = some u) : False := h.i a o (hh 0 _ rfl)
theorem NoPart.big {cs : Array Value} (h : NoPart cs) {l : List Value} (hl : 3 ≤ l.length) (o : Nat) (hh : ∀ (j : Nat) (u : Value), l[j]? = some u → cs[o + j]? = some u) : False := by
 have h1 := hh 2 l[2] (List.getElem?_eq_getElem (by omega))
 have h2 : o + 2 < cs.size := by
  rcases Nat.lt_or_ge (o + 2) cs.size with h3 | h3
  ·exact h3
  ·rw [Array.getElem?_eq_none h3] at h1; cases h1
 have := h.s
 omega
theorem Mkr.beside {w w' : World} {F : Nat → Prop} {b br : Nat} {m : Mk} {cs : Array Value} {t : TypeId} (h : Mkr w F b m) (hb : w.heap[br]? = some (.cells cs t (0, 0))) (hn : NoPart cs) (hF : ¬ F br)
 (g : Grow w (fun k => k = br) w' (fun k => k = br)) : Mkr w' F b m := by
 obtain ⟨vd, vi, D, I, h1, h2, h3, h4, h5, h6, h7, h8, h9, h10, h11, h12⟩ := h
 have oI : ∀ {A : Option Addr} {l : List Int}, Z1V w w.heap.size A l → OffF (fun k => k = br) A l.length := fun h => Z7N h hb (fun a o hh => hn.i32 a o hh)
 have oA : ∀ {A : Option Addr} {l : List At}, RdAt w w.heap.size A l → OffF (fun k => k = br) A l.length := fun h => Z7N h hb (fun a o hh => hn.big (l := At.enc a) (by simp [At.enc]) o hh)
 have oC : ∀ {A : Option Addr} {l : List Ch}, RdCh w w.heap.size A l → OffF (fun k => k = br) A l.length := fun h => Z7N h hb (fun a o hh => hn.big (l := Ch.enc a) (by simp [Ch.enc]) o hh)
 have hne : ∀ k, F k → k ≠ br := fun k hk e => hF (e ▸ hk)
 have part : ∀ x, PartF w F x → PartF w' F x := fun x hx => ⟨⟨hx.1.1.grow g (oI hx.1.1), hx.1.2⟩, ⟨hx.2.1.1.grow g (oA hx.2.1.1), hx.2.1.2⟩, ⟨hx.2.2.1.grow g (oC hx.2.2.1), hx.2.2.2⟩⟩
 refine ⟨vd, vi, D, I, (g.block b (h6 b h7) (hne b h7)).trans h1, h2.grow g (fun k hk => hne k (h8 k hk).1), h3.grow g (fun k hk => hne k (h9 k hk).1), h4, h5, fun k hk => Nat.lt_of_lt_of_le (h6 k hk) g.size, h7, h8, h9, fun x hx => part x (h10 x hx), fun x hx => part x (h11 x hx), fun x hx => ?_⟩
 obtain ⟨e1, e2, e3, e4⟩ := h12 x hx
 exact ⟨e1.grow g (fun k hk => hne k (e2 k hk).1), e2, ⟨e3.1.grow g (oA e3.1), e3.2⟩, ⟨e4.1.grow g (oC e4.1), e4.2⟩⟩
theorem Grow.wide {w w' : World} {F F' G : Nat → Prop} (g : Grow w F w' F') (h : ∀ k, F k → G k) (h' : ∀ k, F' k → G k ∨ w.heap.size ≤ k) : Grow w G w' G :=
 ⟨g.os, g.tape, g.output, g.size, fun j hj hn => g.block j hj (fun hf => hn (h j hf)), fun k hk => .inl hk⟩
structure RdX (w : World) (G : Nat → Prop) (b : Nat) (X : List OpS) : Prop where
 box : ∃ A n c, w.heap[b]? = some (.cells #[.slice A n c] 154 (0, 0)) ∧ n = X.length ∧ n ≤ c ∧ c ≤ maxLen ∧ RdOs w w.heap.size A X ∧ OffF G A X.length
 parts : ∀ x ∈ X, PartF w G x
 b : X.length ≤ 1000000
theorem RdX.lt {w : World} {G : Nat → Prop} {b : Nat} {X : List OpS} (h : RdX w G b X) : b < w.heap.size := by
 obtain ⟨A, n, c, hb, _⟩ := h.box; exact Z0c hb
theorem RdX.keep {w w' : World} {F G F' G' : Nat → Prop} {b : Nat} {X : List OpS} (h : RdX w G b X) (g : Grow w F w' F') (hF : ∀ k, F k → G k) (hG : ∀ k, G' k → G k ∨ w.heap.size ≤ k) (hb : w'.heap[b]? = w.heap[b]?) : RdX w' G' b X := by
 have gw : Grow w G w' G' := ⟨g.os, g.tape, g.output, g.size, fun j hj hn => g.block j hj (fun hf => hn (hF j hf)), hG⟩
 obtain ⟨A, n, c, h1, h2, h3, h4, h5, h6⟩ := h.box
 exact ⟨⟨A, n, c, hb.trans h1, h2, h3, h4, h5.grow gw h6, h6.grow h5 gw⟩, fun x hx => (h.parts x hx).grow gw, h.b⟩
theorem RdX.ext {w w' : World} {G : Nat → Prop} {b : Nat} {X : List OpS} (h : RdX w G b X) (y : Below w.heap.size w w') : RdX w' G b X :=
 h.keep (Grow.of (F := G) y) (fun k hk => hk) (fun k hk => .inl hk) (y.block b h.lt)
def FB (F : Nat → Prop) (bu bv : Nat) : Nat → Prop := fun k => F k ∨ k = bu ∨ k = bv
structure TSt (w wr : World) (F : Nat → Prop) (b bu bv : Nat) (X Y : List OpS) (m : Mk) : Prop where
 m : Mkr wr F b m
 low : ∀ k, F k → w.heap.size ≤ k
 nu : ¬ F bu
 nv : ¬ F bv
 x : RdX wr (FB F bu bv) bu X
 y : RdX wr (FB F bu bv) bv Y
 ne : bu ≠ bv
 lu : w.heap.size ≤ bu
 lv : w.heap.size ≤ bv
 below : Below w.heap.size w wr
theorem TSt.more {w wr w2 : World} {F : Nat → Prop} {b bu bv : Nat} {X Y : List OpS} {m : Mk} (h : TSt w wr F b bu bv X Y m) (y : Below wr.heap.size wr w2) : TSt w w2 F b bu bv X Y m :=
 ⟨h.m.below y, h.low, h.nu, h.nv, h.x.ext y, h.y.ext y, h.ne, h.lu, h.lv, h.below.trans (y.mono h.below.size)⟩
theorem TSt.lt {w wr : World} {F : Nat → Prop} {b bu bv : Nat} {X Y : List OpS} {m : Mk} (h : TSt w wr F b bu bv X Y m) : ∀ k, FB F bu bv k → k < wr.heap.size := fun k hk => by
 rcases hk with hk | rfl | rfl
 ·exact h.m.lt k hk
 ·exact h.x.lt
 ·exact h.y.lt
theorem TSt.tookX {w wr w2 : World} {F : Nat → Prop} {b bu bv : Nat} {X Y X' : List OpS} {m : Mk} (h : TSt w wr F b bu bv X Y m) (hr : RdX w2 (FB F bu bv) bu X') (g : Grow wr (fun k => k = bu) w2 (fun k => k = bu)) : TSt w w2 F b bu bv X' Y m := by
 obtain ⟨A, n, c, hb, _⟩ := h.x.box
 exact ⟨h.m.beside hb (NoPart.one _ _ _) h.nu g, h.low, h.nu, h.nv, hr, h.y.keep g (fun k hk => .inr (.inl hk)) (fun k hk => .inl hk) (g.block bv h.y.lt (fun e => h.ne e.symm)), h.ne, h.lu, h.lv, h.below.trans (g.below (fun k hk => by have := h.lu; omega) h.below.size)⟩
theorem TSt.tookY {w wr w2 : World} {F : Nat → Prop} {b bu bv : Nat} {X Y Y' : List OpS} {m : Mk} (h : TSt w wr F b bu bv X Y m) (hr : RdX w2 (FB F bu bv) bv Y') (g : Grow wr (fun k => k = bv) w2 (fun k => k = bv)) : TSt w w2 F b bu bv X Y' m := by
 obtain ⟨A, n, c, hb, _⟩ := h.y.box
 exact ⟨h.m.beside hb (NoPart.one _ _ _) h.nv g, h.low, h.nu, h.nv, h.x.keep g (fun k hk => .inr (.inr hk)) (fun k hk => .inl hk) (g.block bu h.x.lt (fun e => h.ne e)), hr, h.ne, h.lu, h.lv, h.below.trans (g.below (fun k hk => by have := h.lv; omega) h.below.size)⟩
theorem RdX.told {w w2 : World} {F F2 : Nat → Prop} {b bu bv : Nat} {X : List OpS} (h : RdX w (FB F bu bv) b X) (g : Grow w F w2 F2) (nb : ¬ F b) : RdX w2 (FB F2 bu bv) b X :=
 h.keep g (fun k hk => .inl hk) (fun k hk => by
  rcases hk with hk | hk
  ·rcases g.foot k hk with h1 | h1
   ·exact .inl (.inl h1)
   ·exact .inr h1
  ·exact .inl (.inr hk)) (g.block b h.lt nb)
theorem TSt.told {w wr w2 : World} {F F2 : Nat → Prop} {b bu bv : Nat} {X Y : List OpS} {m m2 : Mk} (h : TSt w wr F b bu bv X Y m) (hm : Mkr w2 F2 b m2) (g : Grow wr F w2 F2) : TSt w w2 F2 b bu bv X Y m2 :=
 ⟨hm, g.low h.low h.below.size, g.out h.x.lt h.nu, g.out h.y.lt h.nv, h.x.told g h.nu, h.y.told g h.nv, h.ne, h.lu, h.lv, h.below.trans (g.below h.low h.below.size)⟩
theorem PartF.took {w w2 : World} {F : Nat → Prop} {bu bv b : Nat} {o : OpS} (h : PartF w (FB F bu bv) o) (hb : b = bu ∨ b = bv) (g : Grow w (fun k => k = b) w2 (fun k => k = b)) : PartF w2 (FB F bu bv) o :=
 h.grow (g.wide (fun k hk => .inr (by subst hk; exact hb)) (fun k hk => .inl (.inr (by subst hk; exact hb))))
def Y22 (b : Nat) (X : List OpS) (R : OpS → List OpS → Prop) (w : World) (e : Ending) (w' : World) : Prop :=
 ∃ (o : OpS) (X' : List OpS), e = .returned o.val ∧ R o X' ∧ Grow w (fun k => k = b) w' (fun k => k = b) ∧
   ∀ G : Nat → Prop, G b → (∀ k, G k → k < w.heap.size) → RdX w G b X → RdX w' G b X' ∧ PartF w' G o
end Go.Proofs.YtfnkjcodcoehcaaGreatDoor
