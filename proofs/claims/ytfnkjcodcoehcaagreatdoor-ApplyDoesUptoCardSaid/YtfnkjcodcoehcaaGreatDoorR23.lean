/- Merged texts: DocKit, KeyRow, LawKit, StepParts, OpsCap, Copy18, Same06, SameOs. -/
import Derived.Test.YtfnkjcodcoehcaaGreatDoorR22
import Derived.Test.YtfnkjcodcoehcaaGreatDoorR17
import Derived.Test.YtfnkjcodcoehcaaGreatDoorR15
import Derived.Test.YtfnkjcodcoehcaaGreatDoorR18
import Derived.Test.YtfnkjcodcoehcaaGreatDoorR19
import Derived.Test.YtfnkjcodcoehcaaGreatDoorR21
import Derived.BigQuiet
import Derived.Deep.QuietTactic
import Derived.Test.YtfnkjcodcoehcaaGreatDoorR9
import Derived.Test.YtfnkjcodcoehcaaGreatDoorR7
import Derived.Deep.RegionHeld3
import Derived.Deep.RegionHeldLaw
import Derived.Test.YtfnkjcodcoehcaaGreatDoorR2
import Derived.Test.YtfnkjcodcoehcaaGreatDoorR8
namespace Go.Proofs.YtfnkjcodcoehcaaGreatDoor
open Go.RowKit
set_option linter.unusedVariables false
set_option linter.unusedSimpArgs false

/-- cells at hand -/
structure DocAt (w : World) (A : Option Addr) (n c : Nat) (L : List ClS) : Prop where
  rd : RdCl w w.heap.size A L
  len : n = L.length
  cap : n ≤ c
  caps : ∀ z ∈ L, z.c.s.length ≤ z.cs ∧ z.cs ≤ maxLen
  vr : ∀ z ∈ L, z.c.s.length ≤ 1000000 ∧ okVr z.c.s
  b : n ≤ 20000
/-- ops at hand -/
structure OpsAt (w : World) (A : Option Addr) (n : Nat) (x : List OpS) : Prop where
  rd : RdOp w w.heap.size A x
  len : n = x.length
  ok : ∀ o ∈ x, okOp o.o
  b : n ≤ 1000000
theorem DocAt.ext {w w' : World} {A : Option Addr} {n c : Nat} {L : List ClS} (h : DocAt w A n c L) (y : Below w.heap.size w w') : DocAt w' A n c L := ⟨h.rd.ext y, h.len, h.cap, h.caps, h.vr, h.b⟩
theorem OpsAt.ext {w w' : World} {A : Option Addr} {n : Nat} {x : List OpS} (h : OpsAt w A n x) (y : Below w.heap.size w w') : OpsAt w' A n x := ⟨h.rd.ext y, h.len, h.ok, h.b⟩
theorem mem_cls {L : List ClS} {z : ClS} (h : z ∈ L) : z.c ∈ clsOf L := by unfold clsOf; exact List.mem_map_of_mem h
theorem cls_mem {L : List ClS} {c : Cl} (h : c ∈ clsOf L) : ∃ z ∈ L, z.c = c := by
  obtain ⟨z, hz, e⟩ := List.mem_map.1 h
  exact ⟨z, hz, e⟩
theorem DocAt.cvr {w : World} {A : Option Addr} {n c : Nat} {L : List ClS} (h : DocAt w A n c L) : ∀ x ∈ clsOf L, okVr x.s := fun x hx => by
  obtain ⟨z, hz, rfl⟩ := cls_mem hx
  exact (h.vr z hz).2
theorem DocAt.clen {w : World} {A : Option Addr} {n c : Nat} {L : List ClS} (h : DocAt w A n c L) : (clsOf L).length = n := by rw [clsOf_len, ← h.len]
theorem DocAt.take {w : World} {A : Option Addr} {n c k : Nat} {L : List ClS} (h : DocAt w A n c L) (hk : k ≤ n) : DocAt w A k c (L.take k) :=
  ⟨h.rd.take k, by rw [List.length_take, ← h.len]; omega, by have := h.cap; omega, fun z hz => h.caps z (List.mem_of_mem_take hz), fun z hz => h.vr z (List.mem_of_mem_take hz), by have := h.b; omega⟩
theorem DocAt.drop {w : World} {A A' : Option Addr} {n c k n' c' : Nat} {L : List ClS} (h : DocAt w A n c L) (hA : advS A c k 2 = A') (hk : k ≤ n) (hn : n - k = n') (hc : c - k = c') : DocAt w A' n' c' (L.drop k) :=
  ⟨h.rd.from hA (by rw [← h.len]; exact hk) (by rw [← h.len]; exact h.cap), by rw [List.length_drop, ← h.len]; omega, by have := h.cap; omega, fun z hz => h.caps z (List.mem_of_mem_drop hz), fun z hz => h.vr z (List.mem_of_mem_drop hz), by have := h.b; omega⟩
/-- cells of the call's own are at hand -/
theorem DocAt.made {w : World} {B B2 : Nat} {A : Option Addr} {c : Nat} {v : Value} {L : List ClS} (ho : OwCs w B (.slice A L.length c) L) (hp : ∀ z ∈ L, PartC w B2 v z) (hv : ∀ x ∈ clsOf L, x.s.length ≤ 1000000 ∧ okVr x.s) (hb : L.length ≤ 20000) : DocAt w A L.length c L := by
  obtain ⟨h1, h2, h3⟩ := rd_cells ho hp
  exact ⟨h1, rfl, h3, h2, fun z hz => hv _ (mem_cls hz), hb⟩
/-- cells behind cells, appended to a row of the call's own -/
theorem DocAt.append {wn wa : World} {B : Nat} {A A' A4 : Option Addr} {n c c' n4 c4 : Nat} {P G : List ClS} (ho : OwCs wa B (.slice A' (P ++ G).length c') (P ++ G)) (hp : ∀ z ∈ P, PartC wn B (.slice A n c) z) (hg : DocAt wa A4 n4 c4 G) (hv : ∀ x ∈ clsOf P, x.s.length ≤ 1000000 ∧ okVr x.s)
    (hgr : wn.grownBy wa (wb (.slice A n c))) (hv' : Value.slice A' (P ++ G).length c' = .slice A n c ∧ wa = wn ∨ wb (.slice A' (P ++ G).length c') = wb (.slice A n c) ∨ wb (.slice A' (P ++ G).length c') = some wn.heap.size) (hb : (P ++ G).length ≤ 20000) : DocAt wa A' (P ++ G).length c' (P ++ G) := by
  have hP : ∀ z ∈ P, RdAt wa wa.heap.size z.As z.c.s ∧ z.c.s.length ≤ z.cs ∧ z.cs ≤ maxLen := fun z hz => by
    have h1 := ((hp z hz).app hgr hv').1
    refine ⟨h1.rd At.enc_len, ?_⟩
    obtain ⟨_, _, hv, hc1, hc2⟩ := h1.form
    injection hv with _ _ hcc
    subst hcc
    exact ⟨hc1, hc2⟩
  refine ⟨⟨ho.rd ClS.enc_len, fun z hz => ?_⟩, rfl, ho.cap.1, fun z hz => ?_, fun z hz => ?_, hb⟩
  · rcases List.mem_append.1 hz with hz | hz
    · exact (hP z hz).1
    · exact hg.rd.2 z hz
  · rcases List.mem_append.1 hz with hz | hz
    · exact (hP z hz).2
    · exact hg.caps z hz
  · rcases List.mem_append.1 hz with hz | hz
    · exact hv _ (mem_cls hz)
    · exact hg.vr z hz
/-- what a call answers that makes cells -/
def NewDoc (o : List Cl) (w : World) (e : Ending) (w' : World) : Prop :=
  ∃ A c L, e = .returned (.slice A L.length c) ∧ clsOf L = o ∧ DocAt w' A L.length c L ∧ Below w.heap.size w w'
theorem NewCls.doc {o : List Cl} {w w' : World} {e : Ending} (h : NewCls o w e w') (hv : ∀ x ∈ o, x.s.length ≤ 1000000 ∧ okVr x.s) (hb : o.length ≤ 20000) : NewDoc o w e w' := by
  obtain ⟨A, c, L, he, hL, ho, hp, y⟩ := h
  exact ⟨A, c, L, he, hL, DocAt.made ho hp (by rw [hL]; exact hv) (by rw [← clsOf_len, hL]; exact hb), y⟩
/-- what a call answers that makes ops -/
def NewOp (o : List Opd) (w : World) (e : Ending) (w' : World) : Prop :=
  ∃ A c x, e = .returned (.slice A x.length c) ∧ osOf x = o ∧ OpsAt w' A x.length x ∧ Below w.heap.size w w'
theorem NewOps.op {m : Mk} {us : List Un} {K S : Nat} {w w' : World} {e : Ending} (h : NewOps (mkOps m) w e w') (ht : Told m us) (hu : ∀ u ∈ us, okUn u) (hB : MkB m K S) (hK : K ≤ 900000) (hS : S ≤ 100000000) : NewOp (mkOps m) w e w' := by
  obtain ⟨A, c, x, he, hx, ho, hp, y⟩ := h
  obtain ⟨h1, h2⟩ := ok_made hx ht hu hB (by omega) hS
  exact ⟨A, c, x, he, hx, ⟨rd_made ho hp, rfl, h1, by omega⟩, y⟩
section
variable {w : World} {A B : Option Addr} {n c n2 c2 : Nat} {L M : List ClS}
theorem applyBad {s : Nat} {l : List Ky} {most : Int} {x : List OpS} (h : DocAt w A n c L) (hx : OpsAt w B n2 x) (hS : Sch w s l) (hT : Lib.Utf8Tabs 1 2 w) {r : Int} (hr : applyN l x (clsOf L) most = r) (hz : r ≠ 0) :
    Calls Tryz.prog 33 #[.pointer (some ⟨s, 0, none⟩), .slice A n c, .slice B n2 c2, .int .i64 most] w (fun e w' => e = .returned (.tuple #[.slice none 0 0, .int .i64 r]) ∧ Below w.heap.size w w') := by
  refine (applyD_any s l A B n c n2 c2 L x most w h.len hx.len h.cap (by have := h.b; omega) (by have := hx.b; omega) h.rd hx.rd hS (fun z hz => ⟨by have := (h.vr z hz).1; omega, (h.vr z hz).2⟩) h.caps hx.ok hT).mono ?_
  rintro e w' ⟨y, ⟨_, rfl⟩ | ⟨h0, _⟩⟩
  · exact ⟨by rw [hr], y⟩
  · exact absurd (hr.symm.trans h0) hz
end
end Go.Proofs.YtfnkjcodcoehcaaGreatDoor
namespace Go.Proofs.YtfnkjcodcoehcaaGreatDoor
open Go.RowKit
set_option linter.unusedVariables false
set_option linter.unusedSimpArgs false

/-- a row of n elements in a block from base on, each of which begins with an int -/
def KeyRow (K : IntKind) (size : Nat) (e : TypeId) (w : World) (base : Nat) (A : Option Addr) (n : Nat) : Prop :=
  0 < n → ∃ g cur, A = some ⟨g, 0, none⟩ ∧ base ≤ g ∧ w.heap[g]? = some (.cells cur e (0, 0)) ∧ ∀ i, i < n → ∃ k, cur[i * size]? = some (.int K k)
section
variable {K : IntKind} {size : Nat} {e e' : TypeId} {w w' : World} {base : Nat} {A : Option Addr} {n g : Nat} {cur : Array Value}
theorem KeyRow.below (h : KeyRow K size e w base A n) (y : Below w.heap.size w w') : KeyRow K size e w' base A n := fun hn => by
  obtain ⟨g, cur, e1, e2, e3, e4⟩ := h hn
  exact ⟨g, cur, e1, e2, (y.block g (lt_of_some e3)).trans e3, e4⟩
theorem KeyRow.base_le (h : KeyRow K size e w base A n) {B : Nat} (hb : B ≤ base) : KeyRow K size e w B A n := fun hn => by
  obtain ⟨g, cur, e1, e2, e3, e4⟩ := h hn
  exact ⟨g, cur, e1, by omega, e3, e4⟩
theorem KeyRow.of {α : Type} {enc : α → List Value} {l : List α} {c : Nat} (hs : ∀ a, (enc a).length = size) (hk : ∀ a, ∃ k, (enc a)[0]? = some (.int K k))
    (h : Ow enc size e w base (.slice A n c) l) (hl : n = l.length) : KeyRow K size e w base A n := fun hn => by
  obtain ⟨g, cur, hA, _, hb, hg, h1, _, hc, ht⟩ := h.row (by omega)
  refine ⟨g, cur, hA, hb, hg, fun i hi => ?_⟩
  obtain ⟨k, hk⟩ := hk (l[i]'(by omega))
  have hf := flat_get hs l i 0 _ (by omega) hk
  refine ⟨k, ?_⟩
  rw [← ht, List.getElem?_take, Nat.add_zero] at hf
  split at hf
  · rw [← Array.getElem?_toList]; exact hf
  · cases hf
theorem KeyRow.set (h : KeyRow K size e w base A n) (hg : w.heap[g]? = some (.cells cur e (0, 0))) (i : Nat) (v : Int) : KeyRow K size e (w.setCell ⟨g, i * size, none⟩ (.int K v)) base A n := fun hn => by
  obtain ⟨g', cur', e1, e2, e3, e4⟩ := h hn
  by_cases hgg : g' = g
  · subst hgg
    rw [hg] at e3
    injection e3 with e3
    injection e3 with e3 _ _
    subst e3
    refine ⟨g', _, e1, e2, heap_setCell_self hg _, fun j hj => ?_⟩
    obtain ⟨k, hk⟩ := e4 j hj
    rw [Array.getElem?_setIfInBounds]
    split
    · rename_i hij
      have hlt : i * size < cur.size := by
        rw [hij]
        rcases Nat.lt_or_ge (j * size) cur.size with hlt | hge
        · exact hlt
        · rw [Array.getElem?_eq_none hge] at hk; cases hk
      rw [if_pos hlt]
      exact ⟨v, rfl⟩
    · exact ⟨k, hk⟩
  · exact ⟨g', cur', e1, e2, (Below.heap_setCell w ⟨g, i * size, none⟩ (.int K v) g' hgg).trans e3, e4⟩
theorem KeyRow.other (h : KeyRow K size e w base A n) (hg : w.heap[g]? = some (.cells cur e' (0, 0))) (he : e' ≠ e) (j : Nat) (u : Value) : KeyRow K size e (w.setCell ⟨g, j, none⟩ u) base A n := fun hn => by
  obtain ⟨g', cur', e1, e2, e3, e4⟩ := h hn
  have hgg : g' ≠ g := by
    intro hgg
    subst hgg
    rw [hg] at e3
    injection e3 with e3
    injection e3 with _ e3 _
    exact he e3
  exact ⟨g', cur', e1, e2, (Below.heap_setCell w ⟨g, j, none⟩ u g' hgg).trans e3, e4⟩
theorem KeyRow.at_ (h : KeyRow K size e w base A n) {i : Nat} (hi : i < n) : ∃ g cur k, A = some ⟨g, 0, none⟩ ∧ base ≤ g ∧ w.heap[g]? = some (.cells cur e (0, 0)) ∧ w.cell? ⟨g, i * size, none⟩ = some (.int K k) := by
  obtain ⟨g, cur, e1, e2, e3, e4⟩ := h (by omega)
  obtain ⟨k, hk⟩ := e4 i hi
  exact ⟨g, cur, k, e1, e2, e3, by simp [World.cell?, e3, hk]⟩
/-- a row stays along a write into a block of another type -/
theorem Ow.other {α : Type} {enc : α → List Value} {l : List α} {v : Value} (h : Ow enc size e w base v l) (hg : w.heap[g]? = some (.cells cur e' (0, 0))) (he : e' ≠ e) (j : Nat) (u : Value) : Ow enc size e (w.setCell ⟨g, j, none⟩ u) base v l :=
  h.setCell (p := ⟨g, j, none⟩) (fun hw => by
    rcases h with ⟨rfl, A, rfl⟩ | ⟨_, ⟨rfl, _⟩ | ⟨g', cap, cur', rfl, _, hg', _⟩⟩
    · cases A <;> cases hw
    · cases hw
    · cases cap with
      | zero => cases hw
      | succ c =>
        injection hw with hw
        subst hw
        rw [hg] at hg'
        injection hg' with hg'
        injection hg' with _ hg' _
        exact he hg') u
end
theorem at_head (a : At) : ∃ k, (At.enc a)[0]? = some (.int .i64 k) := ⟨a.key, rfl⟩
theorem ch_head (a : Ch) : ∃ k, (Ch.enc a)[0]? = some (.int .i64 k) := ⟨a.key, rfl⟩
theorem i32_head (a : Int) : ∃ k, (encI32 a)[0]? = some (.int .i32 k) := ⟨a, rfl⟩
/-- cells of the call's own whose sets may be written over -/
def WrC (w : World) (base : Nat) (A : Option Addr) (n c : Nat) (l : List ClS) : Prop :=
  n = l.length ∧ OwCs w base (.slice A n c) l ∧ ∀ x ∈ l, KeyRow .i64 5 43 w base x.As x.c.s.length
theorem WrC.of {w : World} {base : Nat} {A : Option Addr} {c : Nat} {l : List ClS} {v : Value} (ho : OwCs w base (.slice A l.length c) l) (hp : ∀ x ∈ l, PartC w base v x) : WrC w base A l.length c l :=
  ⟨rfl, ho, fun x hx => KeyRow.of At.enc_len at_head (hp x hx).1 rfl⟩
theorem WrC.below {w w' : World} {base : Nat} {A : Option Addr} {n c : Nat} {l : List ClS} (h : WrC w base A n c l) (y : Below w.heap.size w w') : WrC w' base A n c l :=
  ⟨h.1, h.2.1.below y (Nat.le_refl _), fun x hx => (h.2.2 x hx).below y⟩
theorem WrC.el {w : World} {base : Nat} {A : Option Addr} {n c : Nat} {l : List ClS} (h : WrC w base A n c l) {i : Nat} (hi : i < n) :
    ∃ ad x, A = some ad ∧ l[i]? = some x ∧ CellsAt w (ad.add (i * 2)) (ClS.enc x) := by
  obtain ⟨ad, x, e1, _, _, e2, e3⟩ := (h.2.1.rd ClS.enc_len).el (i := i) (by have := h.1; omega)
  exact ⟨ad, x, e1, e2, e3⟩
theorem WrC.key {w : World} {base : Nat} {A : Option Addr} {n c : Nat} {l : List ClS} (h : WrC w base A n c l) {i j : Nat} {x : ClS} (hx : l[i]? = some x) (hj : j < x.c.s.length) :
    ∃ g k, x.As = some ⟨g, 0, none⟩ ∧ base ≤ g ∧ w.cell? ⟨g, j * 5, none⟩ = some (.int .i64 k) ∧ w.frozen? ⟨g, j * 5, none⟩ = false ∧ ∀ v, WrC (w.setCell ⟨g, j * 5, none⟩ (.int .i64 v)) base A n c l := by
  obtain ⟨g, cur, k, e1, e2, e3, e4⟩ := (h.2.2 x (List.mem_of_getElem? hx)).at_ hj
  exact ⟨g, k, e1, e2, e4, box_thaw e3 _, fun v => ⟨h.1, h.2.1.other e3 (by decide) _ _, fun z hz => (h.2.2 z hz).set e3 j v⟩⟩
/-- ops of the call's own whose parts may be written over -/
def WrO (w : World) (base : Nat) (A : Option Addr) (n c : Nat) (x : List OpS) : Prop :=
  n = x.length ∧ OwOs w base (.slice A n c) x ∧ ∀ z ∈ x, KeyRow .i32 1 21 w base z.Ar z.o.r.length ∧ KeyRow .i64 5 43 w base z.As z.o.s.length ∧ KeyRow .i64 6 77 w base z.Ap z.o.p.length
theorem WrO.of {w : World} {base : Nat} {A : Option Addr} {c : Nat} {x : List OpS} (ho : OwOs w base (.slice A x.length c) x) (hp : ∀ z ∈ x, ∃ g, PartN w base g z) : WrO w base A x.length c x :=
  ⟨rfl, ho, fun z hz => by
    obtain ⟨g, h1, h2, h3⟩ := hp z hz
    exact ⟨KeyRow.of encI32_len i32_head h1.1 rfl, KeyRow.of At.enc_len at_head h2.1 rfl, KeyRow.of Ch.enc_len ch_head h3.1 rfl⟩⟩
theorem WrO.below {w w' : World} {base : Nat} {A : Option Addr} {n c : Nat} {x : List OpS} (h : WrO w base A n c x) (y : Below w.heap.size w w') : WrO w' base A n c x :=
  ⟨h.1, h.2.1.below y (Nat.le_refl _), fun z hz => ⟨(h.2.2 z hz).1.below y, (h.2.2 z hz).2.1.below y, (h.2.2 z hz).2.2.below y⟩⟩
theorem WrO.el {w : World} {base : Nat} {A : Option Addr} {n c : Nat} {x : List OpS} (h : WrO w base A n c x) {i : Nat} (hi : i < n) :
    ∃ ad z, A = some ad ∧ x[i]? = some z ∧ CellsAt w (ad.add (i * 5)) (OpS.enc z) := by
  obtain ⟨ad, z, e1, _, _, e2, e3⟩ := (h.2.1.rd OpS.enc_len).el (i := i) (by have := h.1; omega)
  exact ⟨ad, z, e1, e2, e3⟩
end Go.Proofs.YtfnkjcodcoehcaaGreatDoor
namespace Go.Proofs.YtfnkjcodcoehcaaGreatDoor
open Go.RowKit
set_option linter.unusedVariables false
set_option linter.unusedSimpArgs false

/-- cells of a block that is there -/
def CellsIn (w : World) (p : Addr) (cs : List Value) : Prop := p.block < w.heap.size ∧ CellsAt w p cs
theorem CellsIn.ext {w w' : World} {p : Addr} {cs : List Value} (h : CellsIn w p cs) (y : Below w.heap.size w w') : CellsIn w' p cs :=
  ⟨Nat.lt_of_lt_of_le h.1 y.size, h.2.keep fun q hq => y.cell (by rw [hq]; exact h.1)⟩
theorem Rd.elIn {α : Type} {enc : α → List Value} {size : Nat} {w : World} {A : Option Addr} {l : List α} (h : Rd enc size w w.heap.size A l) {i : Nat} (hi : i < l.length) :
    ∃ ad a, A = some ad ∧ l.drop i = a :: l.drop (i + 1) ∧ l[i]? = some a ∧ CellsIn w (ad.add (i * size)) (enc a) := by
  obtain ⟨ad, a, h1, h2, h3, h4, h5⟩ := h.el hi
  exact ⟨ad, a, h1, h3, h4, by rw [add_block]; exact h2, h5⟩

theorem drew_ext {w w' : World} {d : Nat} (h : w' = w.drewN d) : Below w.heap.size w w' := by subst h; exact ext_drew w d
end Go.Proofs.YtfnkjcodcoehcaaGreatDoor
namespace Go.Proofs.YtfnkjcodcoehcaaGreatDoor
open Go.RowKit
set_option linter.unusedVariables false
set_option linter.unusedSimpArgs false

section
variable {ops : Array Oper} {rest : List Oper} {o : Oper} {a : Act} {Q : Exit → Act → World → Prop} {w : World} {base : Nat} {v : Value} {K : Act → World → Prop} {E : Prop}
theorem step_at {l m : List At} (hgd : o.guard = none) (s x : Operand)
    (ho : o.op = .call { callee := .builtin .append, args := #[s, x], argTypes := #[36, 36] })
    (hsv : a.eval s = v) (hown : OwAt w base v l) (B : Nat) (A : Option Addr) (c n : Nat) (hx : a.eval x = .slice A n c) (hn : n = m.length) (hr : RdAt w B A m)
    (hb : l.length + m.length ≤ 1000000000000) (hbase : base ≤ w.heap.size)
    (h : ∀ v' w', OwAt w' base v' (l ++ m) → w.grownBy w' (wb v) → (v' = v ∧ w' = w ∨ wb v' = wb v ∨ wb v' = some w.heap.size) → K (a.put o.dst v') w') :
    if Region.wanted o (yielded ops a.tmps) = true then Oper.wp Tryz.prog o a w K Q else E := by
  have hw : Region.wanted o (yielded ops a.tmps) = true := by simp [Region.wanted, hgd]
  rw [if_pos hw]
  obtain ⟨i0, hi0, hz0, hz1, hz2⟩ := info_parts Tryz.infoAt
  exact wp_app s x _ ho i0 _ 48 Tryz.slAt hi0 hz0 hz1 hz2 rfl (by omega) At.enc_len At.enc_one hsv hown B A c n hx hn hr (by simp only [maxLen]; omega) (by omega) hbase h
theorem step_ch {l m : List Ch} (hgd : o.guard = none) (s x : Operand)
    (ho : o.op = .call { callee := .builtin .append, args := #[s, x], argTypes := #[48, 48] })
    (hsv : a.eval s = v) (hown : OwCh w base v l) (B : Nat) (A : Option Addr) (c n : Nat) (hx : a.eval x = .slice A n c) (hn : n = m.length) (hr : RdCh w B A m)
    (hb : l.length + m.length ≤ 1000000000000) (hbase : base ≤ w.heap.size)
    (h : ∀ v' w', OwCh w' base v' (l ++ m) → w.grownBy w' (wb v) → (v' = v ∧ w' = w ∨ wb v' = wb v ∨ wb v' = some w.heap.size) → K (a.put o.dst v') w') :
    if Region.wanted o (yielded ops a.tmps) = true then Oper.wp Tryz.prog o a w K Q else E := by
  have hw : Region.wanted o (yielded ops a.tmps) = true := by simp [Region.wanted, hgd]
  rw [if_pos hw]
  obtain ⟨i0, hi0, hz0, hz1, hz2⟩ := info_parts Tryz.infoCh
  exact wp_app s x _ ho i0 _ 56 Tryz.slCh hi0 hz0 hz1 hz2 rfl (by omega) Ch.enc_len Ch.enc_one hsv hown B A c n hx hn hr (by simp only [maxLen]; omega) (by omega) hbase h
theorem step_i32_0 {m : List Int} (hgd : o.guard = none) (s x : Operand)
    (ho : o.op = .call { callee := .builtin .append, args := #[s, x], argTypes := #[47, 47] })
    (hsv : ∃ A0, a.eval s = .slice A0 0 0) (base B : Nat) (A : Option Addr) (c n : Nat) (hx : a.eval x = .slice A n c) (hn : n = m.length) (hr : RdI32 w B A m)
    (hb : m.length ≤ 1000000000) (hbase : base ≤ w.heap.size)
    (h : ∀ v' w', OwI32 w' base v' m → w.grownBy w' none → K (a.put o.dst v') w') :
    if Region.wanted o (yielded ops a.tmps) = true then Oper.wp Tryz.prog o a w K Q else E := by
  obtain ⟨A0, e⟩ := hsv
  refine step_i32 (l := []) (m := m) hgd s x ho e (Ow.empty _ base _) B A c n hx hn hr (by simp only [List.length_nil]; omega) hbase ?_
  intro v' w' h1 h2 _
  have e2 : wb (.slice A0 0 0) = none := by cases A0 <;> rfl
  rw [e2] at h2
  exact h v' w' h1 h2
theorem step_at_0 {m : List At} (hgd : o.guard = none) (s x : Operand)
    (ho : o.op = .call { callee := .builtin .append, args := #[s, x], argTypes := #[36, 36] })
    (hsv : ∃ A0, a.eval s = .slice A0 0 0) (base B : Nat) (A : Option Addr) (c n : Nat) (hx : a.eval x = .slice A n c) (hn : n = m.length) (hr : RdAt w B A m)
    (hb : m.length ≤ 1000000000) (hbase : base ≤ w.heap.size)
    (h : ∀ v' w', OwAt w' base v' m → w.grownBy w' none → K (a.put o.dst v') w') :
    if Region.wanted o (yielded ops a.tmps) = true then Oper.wp Tryz.prog o a w K Q else E := by
  obtain ⟨A0, e⟩ := hsv
  refine step_at (l := []) (m := m) hgd s x ho e (Ow.empty _ base _) B A c n hx hn hr (by simp only [List.length_nil]; omega) hbase ?_
  intro v' w' h1 h2 _
  have e2 : wb (.slice A0 0 0) = none := by cases A0 <;> rfl
  rw [e2] at h2
  exact h v' w' h1 h2
theorem step_ch_0 {m : List Ch} (hgd : o.guard = none) (s x : Operand)
    (ho : o.op = .call { callee := .builtin .append, args := #[s, x], argTypes := #[48, 48] })
    (hsv : ∃ A0, a.eval s = .slice A0 0 0) (base B : Nat) (A : Option Addr) (c n : Nat) (hx : a.eval x = .slice A n c) (hn : n = m.length) (hr : RdCh w B A m)
    (hb : m.length ≤ 1000000000) (hbase : base ≤ w.heap.size)
    (h : ∀ v' w', OwCh w' base v' m → w.grownBy w' none → K (a.put o.dst v') w') :
    if Region.wanted o (yielded ops a.tmps) = true then Oper.wp Tryz.prog o a w K Q else E := by
  obtain ⟨A0, e⟩ := hsv
  refine step_ch (l := []) (m := m) hgd s x ho e (Ow.empty _ base _) B A c n hx hn hr (by simp only [List.length_nil]; omega) hbase ?_
  intro v' w' h1 h2 _
  have e2 : wb (.slice A0 0 0) = none := by cases A0 <;> rfl
  rw [e2] at h2
  exact h v' w' h1 h2
end
end Go.Proofs.YtfnkjcodcoehcaaGreatDoor
namespace Go.Proofs.YtfnkjcodcoehcaaGreatDoor
open Go.RowKit
set_option linter.unusedVariables false
set_option linter.unusedSimpArgs false

/-- an op's parts have room for what they hold -/
def capO (o : OpS) : Prop := (o.o.r.length ≤ o.cr ∧ o.cr ≤ maxLen) ∧ (o.o.s.length ≤ o.cs ∧ o.cs ≤ maxLen) ∧ (o.o.p.length ≤ o.cp ∧ o.cp ≤ maxLen)
theorem cap_own {α : Type} {enc : α → List Value} {size : Nat} {e : TypeId} {w : World} {B : Nat} {A : Option Addr} {n c : Nat} {l : List α} (h : Ow enc size e w B (.slice A n c) l) : l.length ≤ c ∧ c ≤ maxLen := by
  obtain ⟨A', c', hv, h1, h2⟩ := h.form
  injection hv with _ _ hcc
  subst hcc
  exact ⟨h1, h2⟩
theorem cap_part {w : World} {B g : Nat} {x : OpS} (h : PartN w B g x) : capO x := ⟨cap_own h.1.1, cap_own h.2.1.1, cap_own h.2.2.1⟩
/-- ops at hand with their rooms -/
structure OpsC (w : World) (A : Option Addr) (n c : Nat) (x : List OpS) : Prop where
  at_ : OpsAt w A n x
  cap : n ≤ c
  cm : c ≤ maxLen
  caps : ∀ o ∈ x, capO o
theorem OpsC.ext {w w' : World} {A : Option Addr} {n c : Nat} {x : List OpS} (h : OpsC w A n c x) (y : Below w.heap.size w w') : OpsC w' A n c x := ⟨h.at_.ext y, h.cap, h.cm, h.caps⟩
theorem OpsC.nil (w : World) : OpsC w none 0 0 [] := ⟨⟨⟨Rd.nil, fun z hz => by cases hz⟩, rfl, (fun z hz => by cases hz), by omega⟩, Nat.le_refl _, by unfold maxLen; omega, fun z hz => by cases hz⟩
/-- ops of the call's own -/
def NewOpC (o : List Opd) (w : World) (e : Ending) (w' : World) : Prop :=
  ∃ A c x, e = .returned (.slice A x.length c) ∧ osOf x = o ∧ OpsC w' A x.length c x ∧ Below w.heap.size w w'
end Go.Proofs.YtfnkjcodcoehcaaGreatDoor
namespace Go.Proofs.YtfnkjcodcoehcaaGreatDoor
open Go.RowKit
set_option linter.unusedVariables false
set_option linter.unusedSimpArgs false

theorem grown0C {w w1 w2 : World} (h : Below w.heap.size w w1) (hg : w1.grownBy w2 none) : Below w.heap.size w w2 := h.grown hg h.size (fun k hk => by cases hk)
section
variable {ops : Array Oper} {rest : List Oper} {o : Oper} {a : Act} {Q : Exit → Act → World → Prop} {w : World} {base : Nat} {v : Value} {K : Act → World → Prop} {E : Prop}
/-- an append of cells at a step of a region that draws -/
theorem step_cl {l m : List ClS} (hgd : o.guard = none) (s x : Operand)
    (ho : o.op = .call { callee := .builtin .append, args := #[s, x], argTypes := #[23, 23] })
    (hsv : a.eval s = v) (hown : OwCs w base v l) (B : Nat) (A : Option Addr) (c n : Nat) (hx : a.eval x = .slice A n c) (hn : n = m.length) (hr : RdCs w B A m)
    (hb : l.length + m.length ≤ 1000000000000) (hbase : base ≤ w.heap.size)
    (h : ∀ v' w', OwCs w' base v' (l ++ m) → w.grownBy w' (wb v) → (v' = v ∧ w' = w ∨ wb v' = wb v ∨ wb v' = some w.heap.size) → K (a.put o.dst v') w') :
    if Region.wanted o (yielded ops a.tmps) = true then Oper.wp Tryz.prog o a w K Q else E := by
  have hw : Region.wanted o (yielded ops a.tmps) = true := by simp [Region.wanted, hgd]
  rw [if_pos hw]
  obtain ⟨i0, hi0, hz0, hz1, hz2⟩ := info_parts Tryz.infoCl
  exact wp_app s x _ ho i0 _ 32 Tryz.slCl hi0 hz0 hz1 hz2 rfl (by omega) ClS.enc_len ClS.enc_one hsv hown B A c n hx hn hr (by simp only [maxLen]; omega) (by omega) hbase h
end
/-- one cell copied and appended -/
theorem copy18_step {w wr w6 wc w9 : World} {ov v9 : Value} {D : List ClS} {x' : ClS} {O : Obj} (y : Below w.heap.size w wr)
    (how : OwCs wr w.heap.size ov D) (hp : ∀ x ∈ D, PartC wr w.heap.size ov x)
    (o6 : OwAt w6 wr.heap.size (.slice x'.As x'.c.s.length x'.cs) x'.c.s) (z6 : Below w6.heap.size w6 wc) (yw : Below wr.heap.size wr wc)
    (g9 : (wc.alloc O).grownBy w9 (wb ov)) (hv : v9 = ov ∧ w9 = wc.alloc O ∨ wb v9 = wb ov ∨ wb v9 = some (wc.alloc O).heap.size) :
    (∀ x ∈ D ++ [x'], PartC w9 w.heap.size v9 x) ∧ Below w.heap.size w w9 := by
  have s0 := y.size
  have ya := ext_trans yw (ext_alloc wc O)
  refine ⟨fun x hx => ?_, ?_⟩
  · rcases List.mem_append.1 hx with hx | hx
    · exact ((hp x hx).below ya).app g9 hv
    · rw [List.mem_singleton] at hx
      subst hx
      have p : PartC (wc.alloc O) w.heap.size ov x := ⟨((o6.below z6 (Nat.le_refl _)).below (ext_alloc wc O) (Nat.le_refl _)).base_le (by omega), fun k hk he => by
        have h1 := (o6.wb_lt k hk).1
        have h2 := (how.wb_lt k he).2
        omega⟩
      exact p.app g9 hv
  · have yy := ext_trans y ya
    exact yy.grown g9 yy.size (fun k hk => (how.wb_lt k hk).1)
set_option maxRecDepth 100000 in
set_option maxHeartbeats 4000000 in
theorem copy18_any (A : Option Addr) (n c : Nat) (l : List ClS) (w : World) (hn : n = l.length) (h : RdCl w w.heap.size A l) (hb : n ≤ 100000000) (hs : ∀ x ∈ l, x.c.s.length ≤ 100000000) :
    Calls Tryz.prog 15 #[.slice A n c] w (NewCls (clsOf l) w) := by
  have N := Lib.hid hn
  have HS := Lib.hid hs
  have HX := Lib.hid h
  clear hn hs h
  go_enter Tryz.func15, Tryz.ntmps15
  go_wp2_with (fail)
  go_loopg [3, 4] n (fun g ov iv wr => ∃ (m : Nat) (D : List ClS), m ≤ n ∧ g = n - m ∧ iv = .int .i64 (m : Int) ∧ clsOf D = clsOf (l.take m) ∧ D.length = m ∧ OwCs wr w.heap.size ov D ∧ Hid (∀ x ∈ D, PartC wr w.heap.size ov x) ∧ Below w.heap.size w wr)
  case atStart => exact ⟨0, [], by omega, rfl, rfl, rfl, rfl, Ow.nil _ _, Lib.hid (fun x hx => by cases hx), Below.refl _ _⟩
  case round =>
    obtain ⟨m, D, hm, hg, rfl, hDo, hD, hown, HP, y⟩ := hrel
    have HG := Lib.hid hg
    clear hg
    by_cases hlt : m < n
    · have hl1 : m < l.length := by have := N.out; omega
      have hlt' : (m : Int) < (n : Int) := by omega
      obtain ⟨ad, o, had0, hd0, hd1, hx1, hc0⟩ := (HX.out.ext y).1.el hl1
      subst had0
      have HM := Lib.hid hx1
      have g2 := (HX.out.ext y).2 o (List.mem_of_getElem? hx1)
      have v4 := HS.out o (List.mem_of_getElem? hx1)
      have HAD : Hid (ad.block < w.heap.size) := Lib.hid (by
        obtain ⟨ad', e', hb', _⟩ := HX.out.1 (by omega)
        injection e' with e'; subst e'; exact hb')
      obtain ⟨⟨r, s⟩, As, cs⟩ := o
      simp only at g2 v4
      have HC := Lib.hid hc0
      obtain ⟨r0, r1⟩ := cl_cells HC.out
      have G2 := Lib.hid g2
      have hw2 : IntKind.i64.wrap ((m:Int) + 1) = (m : Int) + 1 := IntWalk.i64_in _ (by omega)
      clear hc0 hd1 hx1 g2 hd0
      have HOW := Lib.hid hown
      go_wp2_with (fail)
      have opb : ∀ {W : World}, Below wr.heap.size wr W → W.cell? (ad.add (m * 2)) = some (.int .i32 r) ∧ W.cell? { block := (ad.add (m * 2)).block, off := (ad.add (m * 2)).off + 1 } = some (.slice As s.length cs) := fun {W} yw =>
        cl_cells (HC.out.keep (w' := W) fun q hq => yw.cell (by rw [hq, add_block]; have := HAD.out; have := y.size; omega))
      have YW : Hid (Below wr.heap.size wr wr.drew) := Lib.hid (up_drew (Below.refl _ _))
      have YB : Hid (Below wr.heap.size wr wr) := Lib.hid (Below.refl _ _)
      have Cw := opb YB.out
      go_region_held_law (fun w' => w'.cell? (ad.add (m * 2)) = some (.int .i32 r) ∧ w'.cell? { block := (ad.add (m * 2)).block, off := (ad.add (m * 2)).off + 1 } = some (.slice As s.length cs)) (first | exact C9 | exact opb (by repeat (first | exact YW.out | exact YB.out | refine ext_trans ?_ (ext_alloc _ _) | refine up_drew ?_))) (first
        | (refine step_at_0 (m := s) rfl (.tmp 17) (.tmp 22) (by rfl) ⟨_, rfl⟩ wr.heap.size _ As cs s.length (by rfl) rfl (G2.out.ext (by repeat (first | exact YW.out | exact YB.out | refine ext_trans ?_ (ext_alloc _ _) | refine up_drew ?_))) (by omega) (by exact ((by repeat (first | exact YW.out | exact YB.out | refine ext_trans ?_ (ext_alloc _ _) | refine up_drew ?_)) : Below wr.heap.size wr _).size) ?_
           intro vAt w6 hoAt hgrAt
           obtain ⟨A6, k6, hv6, _, _⟩ := hoAt.form
           subst hv6
           have OAt := Lib.hid hoAt
           have YW : Hid (Below wr.heap.size wr w6) := Lib.hid (grown0C (by repeat (first | exact YW.out | exact YB.out | refine ext_trans ?_ (ext_alloc _ _) | refine up_drew ?_)) hgrAt)
           have CAt := opb YW.out
           clear hoAt hgrAt)
        | (refine step_cl (l := D) (m := [(⟨⟨r, s⟩, A6, k6⟩ : ClS)]) rfl (.tmp 11) (.tmp 25) (by rfl) (by rfl) (HOW.out.below (ext_trans YW.out (ext_alloc _ _)) (Nat.le_refl _)) _ _ 1 1 (by rfl) rfl (rd_one (enc := ClS.enc) (size := 2) w6 _ (⟨⟨r, s⟩, A6, k6⟩ : ClS) rfl) (by simp only [List.length_singleton]; omega) (Nat.le_trans y.size (ext_trans YW.out (ext_alloc _ _)).size) ?_
           intro v9 w9 ho9 hgr9 hw9
           have O9 := Lib.hid ho9
           have HW9 := Lib.hid hw9
           have HG9 := Lib.hid hgr9
           have Y9 : Hid (Below w.heap.size w w9) := Lib.hid (below_app (y.trans ((ext_trans YW.out (ext_alloc _ _)).mono y.size)) (Nat.le_trans y.size (ext_trans YW.out (ext_alloc _ _)).size) (HOW.out.below (ext_trans YW.out (ext_alloc _ _)) (Nat.le_refl _)) (Nat.le_refl _) hgr9)
           have C9 : w9.cell? (ad.add (m * 2)) = some (.int .i32 r) ∧ w9.cell? { block := (ad.add (m * 2)).block, off := (ad.add (m * 2)).off + 1 } = some (.slice As s.length cs) := cl_cells (HC.out.keep (w' := w9) fun q hq => (Y9.out.cell (by rw [hq, add_block]; exact HAD.out)).trans (y.cell (by rw [hq, add_block]; exact HAD.out)).symm)
           clear ho9 hgr9 hw9))
      all_goals
        have r := copy18_step (x' := ⟨⟨r, s⟩, A6, k6⟩) y HOW.out HP.out OAt.out (Below.refl _ _) YW.out HG9.out HW9.out
        have R1 := Lib.hid r.1
        have R2 := Lib.hid r.2
        clear r
        go_wp2_with (fail)
        go_roundg (n - (m + 1))
      all_goals first
        | (have := HG.out; omega)
        | (refine ⟨m + 1, D ++ [⟨⟨r, s⟩, A6, k6⟩], by omega, rfl, by go_num, ?_, by simp [hD], O9.out, R1, R2.out⟩
           rw [List.take_add_one, HM.out]
           unfold clsOf at hDo ⊢
           rw [List.map_append, List.map_append, hDo]; rfl)
    · have hml : m = n := by omega
      subst hml
      have hlt' : ¬ (m : Int) < (m : Int) := by omega
      have HO := Lib.hid hown
      have HD := Lib.hid hD
      have HDO := Lib.hid hDo
      clear hown hD hDo
      obtain ⟨A1, k1, hv1, _, _⟩ := HO.out.form
      subst hv1
      go_wp2_with (fail)
      go_ret
      exact ⟨A1, k1, D, rfl, by rw [HDO.out, N.out, List.take_length], HO.out, HP.out, y⟩
end Go.Proofs.YtfnkjcodcoehcaaGreatDoor
namespace Go.Proofs.YtfnkjcodcoehcaaGreatDoor
open Go.RowKit
set_option linter.unusedVariables false
set_option linter.unusedSimpArgs false

set_option maxRecDepth 100000 in
set_option maxHeartbeats 400000 in
theorem sameR6_any (A B : Option Addr) (n m c d : Nat) (l k : List Ch) (w : World) (hn : n = l.length) (hm : m = k.length) (h1 : RdCh w w.heap.size A l) (h2 : RdCh w w.heap.size B k) (hb : n ≤ 140737488355328) (hb2 : m ≤ 140737488355328) :
    Calls Tryz.prog 78 #[.slice A n c, .slice B m d] w (Quiet (.bool (decide (l = k))) w) := by
  have N := Lib.hid hn
  have M := Lib.hid hm
  generalize hR : decide (l = k) = R
  have HR := Lib.hid hR
  clear hn hR hm
  by_cases hnm : (n : Int) = m
  · have hnm' : n = m := by omega
    subst hnm'
    clear hnm
    go_enter Tryz.func78, Tryz.ntmps78
    go_wp2_with (fail)
    go_loopg [5] n (fun g iv wr => ∃ i : Nat, i ≤ n ∧ g = n - i ∧ iv = .int .i64 (i : Int) ∧ (∃ d, wr = w.drewN d) ∧ Hid (decide (l.drop i = k.drop i) = R))
    case atStart => exact ⟨0, by omega, rfl, rfl, ⟨0, rfl⟩, Lib.hid (by rw [List.drop_zero, List.drop_zero]; exact HR.out)⟩
    case round =>
      obtain ⟨i, hi, hg, rfl, ⟨q, rfl⟩, HI⟩ := hrel
      have HG := Lib.hid hg
      clear hg HR
      by_cases hlt : i < n
      · have hl1 : i < l.length := by have := N.out; omega
        have hl2 : i < k.length := by have := M.out; omega
        obtain ⟨ad, x, rfl, _, hd1, _, hc1⟩ := h1.el hl1
        obtain ⟨ad2, y, rfl, _, hd2, _, hc2⟩ := h2.el hl2
        have HI' : Hid (decide (x :: l.drop (i + 1) = y :: k.drop (i + 1)) = R) := Lib.hid (by rw [← HI.out, hd1, hd2])
        clear HI hd1 hd2
        obtain ⟨x1, x6, x2, x3, x4, x5⟩ := x
        obtain ⟨y1, y6, y2, y3, y4, y5⟩ := y
        obtain ⟨r0, r1, r2, r3, r4, r5⟩ := ch_cells hc1
        obtain ⟨s0, s1, s2, s3, s4, s5⟩ := ch_cells hc2
        by_cases hxy : (⟨x1, x6, ⟨x2, x3, x4, x5⟩⟩ : Ch) = ⟨y1, y6, ⟨y2, y3, y4, y5⟩⟩
        · have hq := beqCh_eq hxy
          have HXY := Lib.hid hxy
          clear hxy
          go_wp2_with (go_quiet (fail))
          go_roundg (n - (i + 1))
          case measure => have := HG.out; omega
          case rel => exact ⟨i + 1, by omega, rfl, by go_num, ⟨_, rfl⟩, Lib.hid (by rw [← HI'.out]; simp only [List.cons.injEq, HXY.out, true_and])⟩
        · have hq := beqCh_ne hxy
          have HXY := Lib.hid hxy
          clear hxy
          go_wp2_with (go_quiet (fail))
          go_ret
          exact ⟨ret_bool (by rw [← HI'.out]; exact (decide_eq_false fun e => HXY.out (List.cons.inj e).1).symm), _, World.drewN_drewN _ _ _⟩
      · go_wp2_with (fail)
        go_ret
        exact ⟨ret_bool (by rw [← HI.out, List.drop_eq_nil_of_le (by have := N.out; omega), List.drop_eq_nil_of_le (by have := M.out; omega)]; rfl), _, rfl⟩
  · have hne : ((n : Int) == m) = false := beq_eq_false_iff_ne.2 hnm
    go_enter Tryz.func78, Tryz.ntmps78
    go_wp2_with (fail)
    go_ret
    refine ⟨ret_bool ?_, 0, rfl⟩
    rw [← HR.out]
    refine (decide_eq_false fun e => ?_).symm
    have h3 := N.out
    have h4 := M.out
    rw [e] at h3
    omega

end Go.Proofs.YtfnkjcodcoehcaaGreatDoor
namespace Go.Proofs.YtfnkjcodcoehcaaGreatDoor
open Go.RowKit
set_option linter.unusedVariables false
set_option linter.unusedSimpArgs false

def OpIn (w : World) (x : OpS) : Prop :=
  RdI32 w w.heap.size x.Ar x.o.r ∧ RdAt w w.heap.size x.As x.o.s ∧ RdCh w w.heap.size x.Ap x.o.p ∧ x.o.r.length ≤ 140737488355328 ∧ x.o.s.length ≤ 140737488355328 ∧ x.o.p.length ≤ 140737488355328
theorem OpIn.ext {w w' : World} {x : OpS} (h : OpIn w x) (y : Below w.heap.size w w') : OpIn w' x := ⟨h.1.ext y, h.2.1.ext y, h.2.2.1.ext y, h.2.2.2⟩
theorem box_op {w : World} {b : Nat} {t : TypeId} {c0 c1 c2 c3 c4 : Value} (h : w.heap[b]? = some (.cells #[c0, c1, c2, c3, c4] t (0, 0))) :
    w.cell? ⟨b, 0, none⟩ = some c0 ∧ w.cell? ⟨b, 1, none⟩ = some c1 ∧ w.cell? ⟨b, 2, none⟩ = some c2 ∧ w.cell? ⟨b, 3, none⟩ = some c3 ∧ w.cell? ⟨b, 4, none⟩ = some c4 := by
  simp [World.cell?, h]

def OpS.val (x : OpS) : Value := .agg #[.int .u8 x.o.k, .int .i64 x.o.n, .slice x.Ar x.o.r.length x.cr, .slice x.As x.o.s.length x.cs, .slice x.Ap x.o.p.length x.cp]
end Go.Proofs.YtfnkjcodcoehcaaGreatDoor
