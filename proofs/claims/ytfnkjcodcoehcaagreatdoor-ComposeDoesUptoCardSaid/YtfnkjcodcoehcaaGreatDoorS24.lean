/- Merged texts: DocKit, KeyRow, LawKit, StepParts, UMade, OpsCap, Same06, SameOs. -/
import Derived.Test.YtfnkjcodcoehcaaGreatDoorS19
import Derived.Test.YtfnkjcodcoehcaaGreatDoorS23
import Derived.Test.YtfnkjcodcoehcaaGreatDoorS16
import Derived.Test.YtfnkjcodcoehcaaGreatDoorS15
import Derived.Test.YtfnkjcodcoehcaaGreatDoorS20
import Derived.Test.YtfnkjcodcoehcaaGreatDoorS21
import Derived.Test.YtfnkjcodcoehcaaGreatDoorS18
import Derived.Test.YtfnkjcodcoehcaaGreatDoorS22
import Derived.BigQuiet
import Derived.Deep.QuietTactic
import Derived.Test.YtfnkjcodcoehcaaGreatDoorS10
import Derived.Test.YtfnkjcodcoehcaaGreatDoorS8
import Derived.Test.YtfnkjcodcoehcaaGreatDoorS2
import Derived.Test.YtfnkjcodcoehcaaGreatDoorS9
namespace Go.Proofs.YtfnkjcodcoehcaaGreatDoor
open Go.RowKit
set_option linter.unusedVariables false
set_option linter.unusedSimpArgs false

theorem Tryz.elOpD : Tryz.prog.elem 44 = 50 := by kernel_rfl
theorem Tryz.szOpD : (Tryz.prog.info? 50).map (·.size) = some 5 := by kernel_rfl
theorem size_opD (W : World) : (sizeOf 50).run Tryz.prog W = .ok 5 W := by
  cases h : Tryz.prog.info? 50 with
  | none => have := Tryz.szOpD; rw [h] at this; cases this
  | some i => have := Tryz.szOpD; rw [h] at this; simp at this; simp [sizeOf, typeInfo, h, this]
/-- cells at hand -/
structure DocAt (w : World) (A : Option Addr) (n c : Nat) (L : List ClS) : Prop where
  rd : RdCl w w.heap.size A L
  len : n = L.length
  cap : n ≤ c
  caps : ∀ z ∈ L, z.c.s.length ≤ z.cs ∧ z.cs ≤ maxLen
  vr : ∀ z ∈ L, z.c.s.length ≤ 1000000 ∧ okVr z.c.s
  b : n ≤ 20000
/-- ops at hand -/
structure OpsAt (w : World) (A : Option Addr) (n : Nat) (x : List OpS) : Prop where
  rd : RdOp w w.heap.size A x
  len : n = x.length
  ok : ∀ o ∈ x, okOp o.o
  b : n ≤ 1000000
theorem DocAt.ext {w w' : World} {A : Option Addr} {n c : Nat} {L : List ClS} (h : DocAt w A n c L) (y : Below w.heap.size w w') : DocAt w' A n c L := ⟨h.rd.ext y, h.len, h.cap, h.caps, h.vr, h.b⟩
theorem OpsAt.ext {w w' : World} {A : Option Addr} {n : Nat} {x : List OpS} (h : OpsAt w A n x) (y : Below w.heap.size w w') : OpsAt w' A n x := ⟨h.rd.ext y, h.len, h.ok, h.b⟩
theorem mem_cls {L : List ClS} {z : ClS} (h : z ∈ L) : z.c ∈ clsOf L := by unfold clsOf; exact List.mem_map_of_mem h
theorem DocAt.take {w : World} {A : Option Addr} {n c k : Nat} {L : List ClS} (h : DocAt w A n c L) (hk : k ≤ n) : DocAt w A k c (L.take k) :=
  ⟨h.rd.take k, by rw [List.length_take, ← h.len]; omega, by have := h.cap; omega, fun z hz => h.caps z (List.mem_of_mem_take hz), fun z hz => h.vr z (List.mem_of_mem_take hz), by have := h.b; omega⟩
theorem DocAt.drop {w : World} {A A' : Option Addr} {n c k n' c' : Nat} {L : List ClS} (h : DocAt w A n c L) (hA : advS A c k 2 = A') (hk : k ≤ n) (hn : n - k = n') (hc : c - k = c') : DocAt w A' n' c' (L.drop k) :=
  ⟨h.rd.from hA (by rw [← h.len]; exact hk) (by rw [← h.len]; exact h.cap), by rw [List.length_drop, ← h.len]; omega, by have := h.cap; omega, fun z hz => h.caps z (List.mem_of_mem_drop hz), fun z hz => h.vr z (List.mem_of_mem_drop hz), by have := h.b; omega⟩
/-- cells of the call's own are at hand -/
theorem DocAt.made {w : World} {B B2 : Nat} {A : Option Addr} {c : Nat} {v : Value} {L : List ClS} (ho : OwCs w B (.slice A L.length c) L) (hp : ∀ z ∈ L, PartC w B2 v z) (hv : ∀ x ∈ clsOf L, x.s.length ≤ 1000000 ∧ okVr x.s) (hb : L.length ≤ 20000) : DocAt w A L.length c L := by
  obtain ⟨h1, h2, h3⟩ := rd_cells ho hp
  exact ⟨h1, rfl, h3, h2, fun z hz => hv _ (mem_cls hz), hb⟩
/-- cells behind cells, appended to a row of the call's own -/
theorem DocAt.append {wn wa : World} {B : Nat} {A A' A4 : Option Addr} {n c c' n4 c4 : Nat} {P G : List ClS} (ho : OwCs wa B (.slice A' (P ++ G).length c') (P ++ G)) (hp : ∀ z ∈ P, PartC wn B (.slice A n c) z) (hg : DocAt wa A4 n4 c4 G) (hv : ∀ x ∈ clsOf P, x.s.length ≤ 1000000 ∧ okVr x.s)
    (hgr : wn.grownBy wa (wb (.slice A n c))) (hv' : Value.slice A' (P ++ G).length c' = .slice A n c ∧ wa = wn ∨ wb (.slice A' (P ++ G).length c') = wb (.slice A n c) ∨ wb (.slice A' (P ++ G).length c') = some wn.heap.size) (hb : (P ++ G).length ≤ 20000) : DocAt wa A' (P ++ G).length c' (P ++ G) := by
  have hP : ∀ z ∈ P, RdAt wa wa.heap.size z.As z.c.s ∧ z.c.s.length ≤ z.cs ∧ z.cs ≤ maxLen := fun z hz => by
    have h1 := ((hp z hz).app hgr hv').1
    refine ⟨h1.rd At.enc_len, ?_⟩
    obtain ⟨_, _, hv, hc1, hc2⟩ := h1.form
    injection hv with _ _ hcc
    subst hcc
    exact ⟨hc1, hc2⟩
  refine ⟨⟨ho.rd ClS.enc_len, fun z hz => ?_⟩, rfl, ho.cap.1, fun z hz => ?_, fun z hz => ?_, hb⟩
  · rcases List.mem_append.1 hz with hz | hz
    · exact (hP z hz).1
    · exact hg.rd.2 z hz
  · rcases List.mem_append.1 hz with hz | hz
    · exact (hP z hz).2
    · exact hg.caps z hz
  · rcases List.mem_append.1 hz with hz | hz
    · exact hv _ (mem_cls hz)
    · exact hg.vr z hz
/-- what a call answers that makes cells -/
def NewDoc (o : List Cl) (w : World) (e : Ending) (w' : World) : Prop :=
  ∃ A c L, e = .returned (.slice A L.length c) ∧ clsOf L = o ∧ DocAt w' A L.length c L ∧ Below w.heap.size w w'
theorem NewCls.doc {o : List Cl} {w w' : World} {e : Ending} (h : NewCls o w e w') (hv : ∀ x ∈ o, x.s.length ≤ 1000000 ∧ okVr x.s) (hb : o.length ≤ 20000) : NewDoc o w e w' := by
  obtain ⟨A, c, L, he, hL, ho, hp, y⟩ := h
  exact ⟨A, c, L, he, hL, DocAt.made ho hp (by rw [hL]; exact hv) (by rw [← clsOf_len, hL]; exact hb), y⟩
/-- what a call answers that makes ops -/
def NewOp (o : List Opd) (w : World) (e : Ending) (w' : World) : Prop :=
  ∃ A c x, e = .returned (.slice A x.length c) ∧ osOf x = o ∧ OpsAt w' A x.length x ∧ Below w.heap.size w w'
theorem NewOps.op {m : Mk} {us : List Un} {K S : Nat} {w w' : World} {e : Ending} (h : NewOps (mkOps m) w e w') (ht : Told m us) (hu : ∀ u ∈ us, okUn u) (hB : MkB m K S) (hK : K ≤ 900000) (hS : S ≤ 100000000) : NewOp (mkOps m) w e w' := by
  obtain ⟨A, c, x, he, hx, ho, hp, y⟩ := h
  obtain ⟨h1, h2⟩ := ok_made hx ht hu hB (by omega) hS
  exact ⟨A, c, x, he, hx, ⟨rd_made ho hp, rfl, h1, by omega⟩, y⟩
section
variable {w : World} {A B : Option Addr} {n c n2 c2 : Nat} {L M : List ClS}
end
end Go.Proofs.YtfnkjcodcoehcaaGreatDoor
namespace Go.Proofs.YtfnkjcodcoehcaaGreatDoor
open Go.RowKit
set_option linter.unusedVariables false
set_option linter.unusedSimpArgs false

/-- a row of n elements in a block from base on, each of which begins with an int -/
def KeyRow (K : IntKind) (size : Nat) (e : TypeId) (w : World) (base : Nat) (A : Option Addr) (n : Nat) : Prop :=
  0 < n → ∃ g cur, A = some ⟨g, 0, none⟩ ∧ base ≤ g ∧ w.heap[g]? = some (.cells cur e (0, 0)) ∧ ∀ i, i < n → ∃ k, cur[i * size]? = some (.int K k)
section
variable {K : IntKind} {size : Nat} {e e' : TypeId} {w w' : World} {base : Nat} {A : Option Addr} {n g : Nat} {cur : Array Value}
theorem KeyRow.below (h : KeyRow K size e w base A n) (y : Below w.heap.size w w') : KeyRow K size e w' base A n := fun hn => by
  obtain ⟨g, cur, e1, e2, e3, e4⟩ := h hn
  exact ⟨g, cur, e1, e2, (y.block g (lt_of_some e3)).trans e3, e4⟩
theorem KeyRow.base_le (h : KeyRow K size e w base A n) {B : Nat} (hb : B ≤ base) : KeyRow K size e w B A n := fun hn => by
  obtain ⟨g, cur, e1, e2, e3, e4⟩ := h hn
  exact ⟨g, cur, e1, by omega, e3, e4⟩
theorem KeyRow.of {α : Type} {enc : α → List Value} {l : List α} {c : Nat} (hs : ∀ a, (enc a).length = size) (hk : ∀ a, ∃ k, (enc a)[0]? = some (.int K k))
    (h : Ow enc size e w base (.slice A n c) l) (hl : n = l.length) : KeyRow K size e w base A n := fun hn => by
  obtain ⟨g, cur, hA, _, hb, hg, h1, _, hc, ht⟩ := h.row (by omega)
  refine ⟨g, cur, hA, hb, hg, fun i hi => ?_⟩
  obtain ⟨k, hk⟩ := hk (l[i]'(by omega))
  have hf := flat_get hs l i 0 _ (by omega) hk
  refine ⟨k, ?_⟩
  rw [← ht, List.getElem?_take, Nat.add_zero] at hf
  split at hf
  · rw [← Array.getElem?_toList]; exact hf
  · cases hf
theorem KeyRow.set (h : KeyRow K size e w base A n) (hg : w.heap[g]? = some (.cells cur e (0, 0))) (i : Nat) (v : Int) : KeyRow K size e (w.setCell ⟨g, i * size, none⟩ (.int K v)) base A n := fun hn => by
  obtain ⟨g', cur', e1, e2, e3, e4⟩ := h hn
  by_cases hgg : g' = g
  · subst hgg
    rw [hg] at e3
    injection e3 with e3
    injection e3 with e3 _ _
    subst e3
    refine ⟨g', _, e1, e2, heap_setCell_self hg _, fun j hj => ?_⟩
    obtain ⟨k, hk⟩ := e4 j hj
    rw [Array.getElem?_setIfInBounds]
    split
    · rename_i hij
      have hlt : i * size < cur.size := by
        rw [hij]
        rcases Nat.lt_or_ge (j * size) cur.size with hlt | hge
        · exact hlt
        · rw [Array.getElem?_eq_none hge] at hk; cases hk
      rw [if_pos hlt]
      exact ⟨v, rfl⟩
    · exact ⟨k, hk⟩
  · exact ⟨g', cur', e1, e2, (Below.heap_setCell w ⟨g, i * size, none⟩ (.int K v) g' hgg).trans e3, e4⟩
theorem KeyRow.other (h : KeyRow K size e w base A n) (hg : w.heap[g]? = some (.cells cur e' (0, 0))) (he : e' ≠ e) (j : Nat) (u : Value) : KeyRow K size e (w.setCell ⟨g, j, none⟩ u) base A n := fun hn => by
  obtain ⟨g', cur', e1, e2, e3, e4⟩ := h hn
  have hgg : g' ≠ g := by
    intro hgg
    subst hgg
    rw [hg] at e3
    injection e3 with e3
    injection e3 with _ e3 _
    exact he e3
  exact ⟨g', cur', e1, e2, (Below.heap_setCell w ⟨g, j, none⟩ u g' hgg).trans e3, e4⟩
theorem KeyRow.at_ (h : KeyRow K size e w base A n) {i : Nat} (hi : i < n) : ∃ g cur k, A = some ⟨g, 0, none⟩ ∧ base ≤ g ∧ w.heap[g]? = some (.cells cur e (0, 0)) ∧ w.cell? ⟨g, i * size, none⟩ = some (.int K k) := by
  obtain ⟨g, cur, e1, e2, e3, e4⟩ := h (by omega)
  obtain ⟨k, hk⟩ := e4 i hi
  exact ⟨g, cur, k, e1, e2, e3, by simp [World.cell?, e3, hk]⟩
/-- a row stays along a write into a block of another type -/
theorem Ow.other {α : Type} {enc : α → List Value} {l : List α} {v : Value} (h : Ow enc size e w base v l) (hg : w.heap[g]? = some (.cells cur e' (0, 0))) (he : e' ≠ e) (j : Nat) (u : Value) : Ow enc size e (w.setCell ⟨g, j, none⟩ u) base v l :=
  h.setCell (p := ⟨g, j, none⟩) (fun hw => by
    rcases h with ⟨rfl, A, rfl⟩ | ⟨_, ⟨rfl, _⟩ | ⟨g', cap, cur', rfl, _, hg', _⟩⟩
    · cases A <;> cases hw
    · cases hw
    · cases cap with
      | zero => cases hw
      | succ c =>
        injection hw with hw
        subst hw
        rw [hg] at hg'
        injection hg' with hg'
        injection hg' with _ hg' _
        exact he hg') u
end
theorem at_head (a : At) : ∃ k, (At.enc a)[0]? = some (.int .i64 k) := ⟨a.key, rfl⟩
theorem ch_head (a : Ch) : ∃ k, (Ch.enc a)[0]? = some (.int .i64 k) := ⟨a.key, rfl⟩
theorem i32_head (a : Int) : ∃ k, (encI32 a)[0]? = some (.int .i32 k) := ⟨a, rfl⟩
/-- cells of the call's own whose sets may be written over -/
def WrC (w : World) (base : Nat) (A : Option Addr) (n c : Nat) (l : List ClS) : Prop :=
  n = l.length ∧ OwCs w base (.slice A n c) l ∧ ∀ x ∈ l, KeyRow .i64 5 43 w base x.As x.c.s.length
theorem WrC.of {w : World} {base : Nat} {A : Option Addr} {c : Nat} {l : List ClS} {v : Value} (ho : OwCs w base (.slice A l.length c) l) (hp : ∀ x ∈ l, PartC w base v x) : WrC w base A l.length c l :=
  ⟨rfl, ho, fun x hx => KeyRow.of At.enc_len at_head (hp x hx).1 rfl⟩
theorem WrC.below {w w' : World} {base : Nat} {A : Option Addr} {n c : Nat} {l : List ClS} (h : WrC w base A n c l) (y : Below w.heap.size w w') : WrC w' base A n c l :=
  ⟨h.1, h.2.1.below y (Nat.le_refl _), fun x hx => (h.2.2 x hx).below y⟩
theorem WrC.el {w : World} {base : Nat} {A : Option Addr} {n c : Nat} {l : List ClS} (h : WrC w base A n c l) {i : Nat} (hi : i < n) :
    ∃ ad x, A = some ad ∧ l[i]? = some x ∧ CellsAt w (ad.add (i * 2)) (ClS.enc x) := by
  obtain ⟨ad, x, e1, _, _, e2, e3⟩ := (h.2.1.rd ClS.enc_len).el (i := i) (by have := h.1; omega)
  exact ⟨ad, x, e1, e2, e3⟩
theorem WrC.key {w : World} {base : Nat} {A : Option Addr} {n c : Nat} {l : List ClS} (h : WrC w base A n c l) {i j : Nat} {x : ClS} (hx : l[i]? = some x) (hj : j < x.c.s.length) :
    ∃ g k, x.As = some ⟨g, 0, none⟩ ∧ base ≤ g ∧ w.cell? ⟨g, j * 5, none⟩ = some (.int .i64 k) ∧ w.frozen? ⟨g, j * 5, none⟩ = false ∧ ∀ v, WrC (w.setCell ⟨g, j * 5, none⟩ (.int .i64 v)) base A n c l := by
  obtain ⟨g, cur, k, e1, e2, e3, e4⟩ := (h.2.2 x (List.mem_of_getElem? hx)).at_ hj
  exact ⟨g, k, e1, e2, e4, box_thaw e3 _, fun v => ⟨h.1, h.2.1.other e3 (by decide) _ _, fun z hz => (h.2.2 z hz).set e3 j v⟩⟩
/-- ops of the call's own whose parts may be written over -/
def WrO (w : World) (base : Nat) (A : Option Addr) (n c : Nat) (x : List OpS) : Prop :=
  n = x.length ∧ OwOs w base (.slice A n c) x ∧ ∀ z ∈ x, KeyRow .i32 1 21 w base z.Ar z.o.r.length ∧ KeyRow .i64 5 43 w base z.As z.o.s.length ∧ KeyRow .i64 6 77 w base z.Ap z.o.p.length
theorem WrO.of {w : World} {base : Nat} {A : Option Addr} {c : Nat} {x : List OpS} (ho : OwOs w base (.slice A x.length c) x) (hp : ∀ z ∈ x, ∃ g, PartN w base g z) : WrO w base A x.length c x :=
  ⟨rfl, ho, fun z hz => by
    obtain ⟨g, h1, h2, h3⟩ := hp z hz
    exact ⟨KeyRow.of encI32_len i32_head h1.1 rfl, KeyRow.of At.enc_len at_head h2.1 rfl, KeyRow.of Ch.enc_len ch_head h3.1 rfl⟩⟩
theorem WrO.below {w w' : World} {base : Nat} {A : Option Addr} {n c : Nat} {x : List OpS} (h : WrO w base A n c x) (y : Below w.heap.size w w') : WrO w' base A n c x :=
  ⟨h.1, h.2.1.below y (Nat.le_refl _), fun z hz => ⟨(h.2.2 z hz).1.below y, (h.2.2 z hz).2.1.below y, (h.2.2 z hz).2.2.below y⟩⟩
theorem WrO.el {w : World} {base : Nat} {A : Option Addr} {n c : Nat} {x : List OpS} (h : WrO w base A n c x) {i : Nat} (hi : i < n) :
    ∃ ad z, A = some ad ∧ x[i]? = some z ∧ CellsAt w (ad.add (i * 5)) (OpS.enc z) := by
  obtain ⟨ad, z, e1, _, _, e2, e3⟩ := (h.2.1.rd OpS.enc_len).el (i := i) (by have := h.1; omega)
  exact ⟨ad, z, e1, e2, e3⟩
theorem WrO.keyS {w : World} {base : Nat} {A : Option Addr} {n c : Nat} {x : List OpS} (h : WrO w base A n c x) {i j : Nat} {z : OpS} (hz : x[i]? = some z) (hj : j < z.o.s.length) :
    ∃ g k, z.As = some ⟨g, 0, none⟩ ∧ base ≤ g ∧ w.cell? ⟨g, j * 5, none⟩ = some (.int .i64 k) ∧ w.frozen? ⟨g, j * 5, none⟩ = false ∧ ∀ v, WrO (w.setCell ⟨g, j * 5, none⟩ (.int .i64 v)) base A n c x := by
  obtain ⟨g, cur, k, e1, e2, e3, e4⟩ := (h.2.2 z (List.mem_of_getElem? hz)).2.1.at_ hj
  exact ⟨g, k, e1, e2, e4, box_thaw e3 _, fun v => ⟨h.1, h.2.1.other e3 (by decide) _ _, fun y hy => ⟨(h.2.2 y hy).1.other e3 (by decide) _ _, (h.2.2 y hy).2.1.set e3 j v, (h.2.2 y hy).2.2.other e3 (by decide) _ _⟩⟩⟩
theorem WrO.keyP {w : World} {base : Nat} {A : Option Addr} {n c : Nat} {x : List OpS} (h : WrO w base A n c x) {i j : Nat} {z : OpS} (hz : x[i]? = some z) (hj : j < z.o.p.length) :
    ∃ g k, z.Ap = some ⟨g, 0, none⟩ ∧ base ≤ g ∧ w.cell? ⟨g, j * 6, none⟩ = some (.int .i64 k) ∧ w.frozen? ⟨g, j * 6, none⟩ = false ∧ ∀ v, WrO (w.setCell ⟨g, j * 6, none⟩ (.int .i64 v)) base A n c x := by
  obtain ⟨g, cur, k, e1, e2, e3, e4⟩ := (h.2.2 z (List.mem_of_getElem? hz)).2.2.at_ hj
  exact ⟨g, k, e1, e2, e4, box_thaw e3 _, fun v => ⟨h.1, h.2.1.other e3 (by decide) _ _, fun y hy => ⟨(h.2.2 y hy).1.other e3 (by decide) _ _, (h.2.2 y hy).2.1.other e3 (by decide) _ _, (h.2.2 y hy).2.2.set e3 j v⟩⟩⟩
theorem WrO.keyR {w : World} {base : Nat} {A : Option Addr} {n c : Nat} {x : List OpS} (h : WrO w base A n c x) {i j : Nat} {z : OpS} (hz : x[i]? = some z) (hj : j < z.o.r.length) :
    ∃ g k, z.Ar = some ⟨g, 0, none⟩ ∧ base ≤ g ∧ w.cell? ⟨g, j, none⟩ = some (.int .i32 k) ∧ w.frozen? ⟨g, j, none⟩ = false ∧ ∀ v, WrO (w.setCell ⟨g, j, none⟩ (.int .i32 v)) base A n c x := by
  obtain ⟨g, cur, k, e1, e2, e3, e4⟩ := (h.2.2 z (List.mem_of_getElem? hz)).1.at_ hj
  rw [Nat.mul_one] at e4
  refine ⟨g, k, e1, e2, e4, box_thaw e3 _, fun v => ⟨h.1, h.2.1.other e3 (by decide) _ _, fun y hy => ⟨?_, (h.2.2 y hy).2.1.other e3 (by decide) _ _, (h.2.2 y hy).2.2.other e3 (by decide) _ _⟩⟩⟩
  have := (h.2.2 y hy).1.set e3 j v
  rwa [Nat.mul_one] at this
end Go.Proofs.YtfnkjcodcoehcaaGreatDoor
namespace Go.Proofs.YtfnkjcodcoehcaaGreatDoor
open Go.RowKit
set_option linter.unusedVariables false
set_option linter.unusedSimpArgs false

/-- cells of a block that is there -/
def CellsIn (w : World) (p : Addr) (cs : List Value) : Prop := p.block < w.heap.size ∧ CellsAt w p cs
theorem CellsIn.ext {w w' : World} {p : Addr} {cs : List Value} (h : CellsIn w p cs) (y : Below w.heap.size w w') : CellsIn w' p cs :=
  ⟨Nat.lt_of_lt_of_le h.1 y.size, h.2.keep fun q hq => y.cell (by rw [hq]; exact h.1)⟩
theorem Rd.elIn {α : Type} {enc : α → List Value} {size : Nat} {w : World} {A : Option Addr} {l : List α} (h : Rd enc size w w.heap.size A l) {i : Nat} (hi : i < l.length) :
    ∃ ad a, A = some ad ∧ l.drop i = a :: l.drop (i + 1) ∧ l[i]? = some a ∧ CellsIn w (ad.add (i * size)) (enc a) := by
  obtain ⟨ad, a, h1, h2, h3, h4, h5⟩ := h.el hi
  exact ⟨ad, a, h1, h3, h4, by rw [add_block]; exact h2, h5⟩

theorem drew_ext {w w' : World} {d : Nat} (h : w' = w.drewN d) : Below w.heap.size w w' := by subst h; exact ext_drew w d
end Go.Proofs.YtfnkjcodcoehcaaGreatDoor
namespace Go.Proofs.YtfnkjcodcoehcaaGreatDoor
open Go.RowKit
set_option linter.unusedVariables false
set_option linter.unusedSimpArgs false

section
variable {ops : Array Oper} {rest : List Oper} {o : Oper} {a : Act} {Q : Exit → Act → World → Prop} {w : World} {base : Nat} {v : Value} {K : Act → World → Prop} {E : Prop}
theorem step_at {l m : List At} (hgd : o.guard = none) (s x : Operand)
    (ho : o.op = .call { callee := .builtin .append, args := #[s, x], argTypes := #[36, 36] })
    (hsv : a.eval s = v) (hown : OwAt w base v l) (B : Nat) (A : Option Addr) (c n : Nat) (hx : a.eval x = .slice A n c) (hn : n = m.length) (hr : RdAt w B A m)
    (hb : l.length + m.length ≤ 1000000000000) (hbase : base ≤ w.heap.size)
    (h : ∀ v' w', OwAt w' base v' (l ++ m) → w.grownBy w' (wb v) → (v' = v ∧ w' = w ∨ wb v' = wb v ∨ wb v' = some w.heap.size) → K (a.put o.dst v') w') :
    if Region.wanted o (yielded ops a.tmps) = true then Oper.wp Tryz.prog o a w K Q else E := by
  have hw : Region.wanted o (yielded ops a.tmps) = true := by simp [Region.wanted, hgd]
  rw [if_pos hw]
  obtain ⟨i0, hi0, hz0, hz1, hz2⟩ := info_parts Tryz.infoAt
  exact wp_app s x _ ho i0 _ 48 Tryz.slAt hi0 hz0 hz1 hz2 rfl (by omega) At.enc_len At.enc_one hsv hown B A c n hx hn hr (by simp only [maxLen]; omega) (by omega) hbase h
theorem step_ch {l m : List Ch} (hgd : o.guard = none) (s x : Operand)
    (ho : o.op = .call { callee := .builtin .append, args := #[s, x], argTypes := #[48, 48] })
    (hsv : a.eval s = v) (hown : OwCh w base v l) (B : Nat) (A : Option Addr) (c n : Nat) (hx : a.eval x = .slice A n c) (hn : n = m.length) (hr : RdCh w B A m)
    (hb : l.length + m.length ≤ 1000000000000) (hbase : base ≤ w.heap.size)
    (h : ∀ v' w', OwCh w' base v' (l ++ m) → w.grownBy w' (wb v) → (v' = v ∧ w' = w ∨ wb v' = wb v ∨ wb v' = some w.heap.size) → K (a.put o.dst v') w') :
    if Region.wanted o (yielded ops a.tmps) = true then Oper.wp Tryz.prog o a w K Q else E := by
  have hw : Region.wanted o (yielded ops a.tmps) = true := by simp [Region.wanted, hgd]
  rw [if_pos hw]
  obtain ⟨i0, hi0, hz0, hz1, hz2⟩ := info_parts Tryz.infoCh
  exact wp_app s x _ ho i0 _ 56 Tryz.slCh hi0 hz0 hz1 hz2 rfl (by omega) Ch.enc_len Ch.enc_one hsv hown B A c n hx hn hr (by simp only [maxLen]; omega) (by omega) hbase h
theorem step_i32_0 {m : List Int} (hgd : o.guard = none) (s x : Operand)
    (ho : o.op = .call { callee := .builtin .append, args := #[s, x], argTypes := #[47, 47] })
    (hsv : ∃ A0, a.eval s = .slice A0 0 0) (base B : Nat) (A : Option Addr) (c n : Nat) (hx : a.eval x = .slice A n c) (hn : n = m.length) (hr : RdI32 w B A m)
    (hb : m.length ≤ 1000000000) (hbase : base ≤ w.heap.size)
    (h : ∀ v' w', OwI32 w' base v' m → w.grownBy w' none → K (a.put o.dst v') w') :
    if Region.wanted o (yielded ops a.tmps) = true then Oper.wp Tryz.prog o a w K Q else E := by
  obtain ⟨A0, e⟩ := hsv
  refine step_i32 (l := []) (m := m) hgd s x ho e (Ow.empty _ base _) B A c n hx hn hr (by simp only [List.length_nil]; omega) hbase ?_
  intro v' w' h1 h2 _
  have e2 : wb (.slice A0 0 0) = none := by cases A0 <;> rfl
  rw [e2] at h2
  exact h v' w' h1 h2
theorem step_at_0 {m : List At} (hgd : o.guard = none) (s x : Operand)
    (ho : o.op = .call { callee := .builtin .append, args := #[s, x], argTypes := #[36, 36] })
    (hsv : ∃ A0, a.eval s = .slice A0 0 0) (base B : Nat) (A : Option Addr) (c n : Nat) (hx : a.eval x = .slice A n c) (hn : n = m.length) (hr : RdAt w B A m)
    (hb : m.length ≤ 1000000000) (hbase : base ≤ w.heap.size)
    (h : ∀ v' w', OwAt w' base v' m → w.grownBy w' none → K (a.put o.dst v') w') :
    if Region.wanted o (yielded ops a.tmps) = true then Oper.wp Tryz.prog o a w K Q else E := by
  obtain ⟨A0, e⟩ := hsv
  refine step_at (l := []) (m := m) hgd s x ho e (Ow.empty _ base _) B A c n hx hn hr (by simp only [List.length_nil]; omega) hbase ?_
  intro v' w' h1 h2 _
  have e2 : wb (.slice A0 0 0) = none := by cases A0 <;> rfl
  rw [e2] at h2
  exact h v' w' h1 h2
theorem step_ch_0 {m : List Ch} (hgd : o.guard = none) (s x : Operand)
    (ho : o.op = .call { callee := .builtin .append, args := #[s, x], argTypes := #[48, 48] })
    (hsv : ∃ A0, a.eval s = .slice A0 0 0) (base B : Nat) (A : Option Addr) (c n : Nat) (hx : a.eval x = .slice A n c) (hn : n = m.length) (hr : RdCh w B A m)
    (hb : m.length ≤ 1000000000) (hbase : base ≤ w.heap.size)
    (h : ∀ v' w', OwCh w' base v' m → w.grownBy w' none → K (a.put o.dst v') w') :
    if Region.wanted o (yielded ops a.tmps) = true then Oper.wp Tryz.prog o a w K Q else E := by
  obtain ⟨A0, e⟩ := hsv
  refine step_ch (l := []) (m := m) hgd s x ho e (Ow.empty _ base _) B A c n hx hn hr (by simp only [List.length_nil]; omega) hbase ?_
  intro v' w' h1 h2 _
  have e2 : wb (.slice A0 0 0) = none := by cases A0 <;> rfl
  rw [e2] at h2
  exact h v' w' h1 h2
end
end Go.Proofs.YtfnkjcodcoehcaaGreatDoor
namespace Go.Proofs.YtfnkjcodcoehcaaGreatDoor
set_option linter.unusedVariables false
set_option linter.unusedSimpArgs false

/-- the ops of units in their normal form -/
def mkU (us : List Un) : List Opd := enc (nf us)
theorem isOp_one (u : Un) : isOp (op1 u) := by
  cases u with
  | ins r s => exact .inl ⟨rfl, rfl, by simp [op1, opI], rfl⟩
  | del => exact .inr (.inl ⟨rfl, by show (1 : Int) ≤ 1; decide, rfl, rfl, rfl⟩)
  | ret p => exact .inr (.inr ⟨rfl, by show (1 : Int) ≤ 1; decide, rfl, rfl⟩)
theorem unitsO_one (u : Un) : unitsO (op1 u) = [u] := by cases u <;> rfl
theorem into_ok {u : Un} {b : Opd} (hb : isOp b) (h : canMerge (op1 u) b = true) : isOp (into u b) ∧ unitsO (into u b) = u :: unitsO b ∧ ∀ c, canMerge (into u b) c = canMerge b c := by
  obtain ⟨k, n, r, s, p⟩ := b
  rcases isOp_kind hb with hk | hk | hk
  · obtain ⟨e, hr⟩ := opI_of hb hk
    simp only at hk hr e
    subst hk
    rw [e] at h ⊢
    cases u with
    | del => simp [canMerge, op1, opI, opD] at h
    | ret q => simp [canMerge, op1, opI, opR] at h
    | ins r2 s2 =>
      have hs : s2 = s := by simp [canMerge, op1, opI] at h; exact of_decide_eq_true h
      subst hs
      exact ⟨.inl ⟨rfl, rfl, by simp [into, opI], rfl⟩, rfl, fun c => rfl⟩
  · obtain ⟨e, hn⟩ := opD_of hb hk
    simp only at hk hn e
    subst hk
    rw [e] at h ⊢
    cases u with
    | ins r2 s2 => simp [canMerge, op1, opI, opD] at h
    | ret q => simp [canMerge, op1, opD, opR] at h
    | del =>
      refine ⟨.inr (.inl ⟨rfl, by show 1 ≤ n + 1; omega, rfl, rfl, rfl⟩), ?_, fun c => rfl⟩
      show List.replicate (n + 1).toNat Un.del = .del :: List.replicate n.toNat .del
      rw [show (n + 1).toNat = n.toNat + 1 by omega, List.replicate_succ]
  · obtain ⟨e, hn⟩ := opR_of hb hk
    simp only at hk hn e
    subst hk
    rw [e] at h ⊢
    cases u with
    | ins r2 s2 => simp [canMerge, op1, opI, opR] at h
    | del => simp [canMerge, op1, opD, opR] at h
    | ret q =>
      have hq : q = p := by simp [canMerge, op1, opR] at h; exact of_decide_eq_true h
      subst hq
      refine ⟨.inr (.inr ⟨rfl, by show 1 ≤ n + 1; omega, rfl, rfl⟩), ?_, fun c => rfl⟩
      show List.replicate (n + 1).toNat (Un.ret q) = .ret q :: List.replicate n.toNat (.ret q)
      rw [show (n + 1).toNat = n.toNat + 1 by omega, List.replicate_succ]
theorem cons1_ok (u : Un) {x : List Opd} (h : tight x) : tight (cons1 u x) ∧ units (cons1 u x) = u :: units x := by
  cases x with
  | nil => exact ⟨⟨isOp_one u, trivial, trivial⟩, by show units [op1 u] = _; rw [units_one, unitsO_one]; rfl⟩
  | cons b t =>
    obtain ⟨h1, h2, h3⟩ := h
    have ec : cons1 u (b :: t) = if canMerge (op1 u) b = true then into u b :: t else op1 u :: b :: t := rfl
    rw [ec]
    by_cases hm : canMerge (op1 u) b = true
    · rw [if_pos hm]
      obtain ⟨g1, g2, g3⟩ := into_ok h1 hm
      refine ⟨⟨g1, ?_, h3⟩, by rw [units_cons, g2, units_cons]; rfl⟩
      cases t with
      | nil => trivial
      | cons c t => show canMerge (into u b) c = false; rw [g3]; exact h2
    · rw [if_neg hm]
      exact ⟨⟨isOp_one u, by simpa using hm, h1, h2, h3⟩, by rw [units_cons, unitsO_one]; rfl⟩
theorem enc_ok : ∀ us : List Un, tight (enc us) ∧ units (enc us) = us
  | [] => ⟨trivial, rfl⟩
  | u :: us => by
    obtain ⟨h1, h2⟩ := enc_ok us
    obtain ⟨g1, g2⟩ := cons1_ok u h1
    exact ⟨g1, by show units (cons1 u (enc us)) = _; rw [g2, h2]⟩
theorem mkU_ok (us : List Un) : tight (mkU us) ∧ units (mkU us) = nf us := enc_ok (nf us)
theorem told_mkU {m : Mk} {us : List Un} (h : Told m us) : mkOps m = mkU us := tight_ext h.ops.1 (mkU_ok us).1 (by rw [h.ops.2, (mkU_ok us).2])
theorem mkU_isOp {x : List OpS} {us : List Un} (hx : osOf x = mkU us) : ∀ o ∈ x, isOp o.o := fun o ho => tight_isOp (by rw [hx]; exact (mkU_ok us).1 : tight (osOf x)) o.o (by unfold osOf; exact List.mem_map_of_mem ho)
theorem mkU_units {x : List OpS} {us : List Un} (hx : osOf x = mkU us) : units (osOf x) = nf us := by rw [hx]; exact (mkU_ok us).2
end Go.Proofs.YtfnkjcodcoehcaaGreatDoor
namespace Go.Proofs.YtfnkjcodcoehcaaGreatDoor
open Go.RowKit
set_option linter.unusedVariables false
set_option linter.unusedSimpArgs false

/-- an op's parts have room for what they hold -/
def capO (o : OpS) : Prop := (o.o.r.length ≤ o.cr ∧ o.cr ≤ maxLen) ∧ (o.o.s.length ≤ o.cs ∧ o.cs ≤ maxLen) ∧ (o.o.p.length ≤ o.cp ∧ o.cp ≤ maxLen)
theorem cap_own {α : Type} {enc : α → List Value} {size : Nat} {e : TypeId} {w : World} {B : Nat} {A : Option Addr} {n c : Nat} {l : List α} (h : Ow enc size e w B (.slice A n c) l) : l.length ≤ c ∧ c ≤ maxLen := by
  obtain ⟨A', c', hv, h1, h2⟩ := h.form
  injection hv with _ _ hcc
  subst hcc
  exact ⟨h1, h2⟩
theorem cap_part {w : World} {B g : Nat} {x : OpS} (h : PartN w B g x) : capO x := ⟨cap_own h.1.1, cap_own h.2.1.1, cap_own h.2.2.1⟩
/-- ops at hand with their rooms -/
structure OpsC (w : World) (A : Option Addr) (n c : Nat) (x : List OpS) : Prop where
  at_ : OpsAt w A n x
  cap : n ≤ c
  cm : c ≤ maxLen
  caps : ∀ o ∈ x, capO o
theorem OpsC.ext {w w' : World} {A : Option Addr} {n c : Nat} {x : List OpS} (h : OpsC w A n c x) (y : Below w.heap.size w w') : OpsC w' A n c x := ⟨h.at_.ext y, h.cap, h.cm, h.caps⟩
theorem OpsC.nil (w : World) : OpsC w none 0 0 [] := ⟨⟨⟨Rd.nil, fun z hz => by cases hz⟩, rfl, (fun z hz => by cases hz), by omega⟩, Nat.le_refl _, by unfold maxLen; omega, fun z hz => by cases hz⟩
/-- no error, and ops of the call's own -/
def NewOpOk (o : List Opd) (w : World) (e : Ending) (w' : World) : Prop :=
  ∃ A c x, e = .returned (.tuple #[.slice A x.length c, .int .i64 0]) ∧ osOf x = o ∧ OpsC w' A x.length c x ∧ Below w.heap.size w w'
/-- ops of the call's own -/
def NewOpC (o : List Opd) (w : World) (e : Ending) (w' : World) : Prop :=
  ∃ A c x, e = .returned (.slice A x.length c) ∧ osOf x = o ∧ OpsC w' A x.length c x ∧ Below w.heap.size w w'
end Go.Proofs.YtfnkjcodcoehcaaGreatDoor
namespace Go.Proofs.YtfnkjcodcoehcaaGreatDoor
open Go.RowKit
set_option linter.unusedVariables false
set_option linter.unusedSimpArgs false

set_option maxRecDepth 100000 in
set_option maxHeartbeats 400000 in
theorem sameR6_any (A B : Option Addr) (n m c d : Nat) (l k : List Ch) (w : World) (hn : n = l.length) (hm : m = k.length) (h1 : RdCh w w.heap.size A l) (h2 : RdCh w w.heap.size B k) (hb : n ≤ 140737488355328) (hb2 : m ≤ 140737488355328) :
    Calls Tryz.prog 78 #[.slice A n c, .slice B m d] w (Quiet (.bool (decide (l = k))) w) := by
  have N := Lib.hid hn
  have M := Lib.hid hm
  generalize hR : decide (l = k) = R
  have HR := Lib.hid hR
  clear hn hR hm
  by_cases hnm : (n : Int) = m
  · have hnm' : n = m := by omega
    subst hnm'
    clear hnm
    go_enter Tryz.func78, Tryz.ntmps78
    go_wp2_with (fail)
    go_loopg [5] n (fun g iv wr => ∃ i : Nat, i ≤ n ∧ g = n - i ∧ iv = .int .i64 (i : Int) ∧ (∃ d, wr = w.drewN d) ∧ Hid (decide (l.drop i = k.drop i) = R))
    case atStart => exact ⟨0, by omega, rfl, rfl, ⟨0, rfl⟩, Lib.hid (by rw [List.drop_zero, List.drop_zero]; exact HR.out)⟩
    case round =>
      obtain ⟨i, hi, hg, rfl, ⟨q, rfl⟩, HI⟩ := hrel
      have HG := Lib.hid hg
      clear hg HR
      by_cases hlt : i < n
      · have hl1 : i < l.length := by have := N.out; omega
        have hl2 : i < k.length := by have := M.out; omega
        obtain ⟨ad, x, rfl, _, hd1, _, hc1⟩ := h1.el hl1
        obtain ⟨ad2, y, rfl, _, hd2, _, hc2⟩ := h2.el hl2
        have HI' : Hid (decide (x :: l.drop (i + 1) = y :: k.drop (i + 1)) = R) := Lib.hid (by rw [← HI.out, hd1, hd2])
        clear HI hd1 hd2
        obtain ⟨x1, x6, x2, x3, x4, x5⟩ := x
        obtain ⟨y1, y6, y2, y3, y4, y5⟩ := y
        obtain ⟨r0, r1, r2, r3, r4, r5⟩ := ch_cells hc1
        obtain ⟨s0, s1, s2, s3, s4, s5⟩ := ch_cells hc2
        by_cases hxy : (⟨x1, x6, ⟨x2, x3, x4, x5⟩⟩ : Ch) = ⟨y1, y6, ⟨y2, y3, y4, y5⟩⟩
        · have hq := beqCh_eq hxy
          have HXY := Lib.hid hxy
          clear hxy
          go_wp2_with (go_quiet (fail))
          go_roundg (n - (i + 1))
          case measure => have := HG.out; omega
          case rel => exact ⟨i + 1, by omega, rfl, by go_num, ⟨_, rfl⟩, Lib.hid (by rw [← HI'.out]; simp only [List.cons.injEq, HXY.out, true_and])⟩
        · have hq := beqCh_ne hxy
          have HXY := Lib.hid hxy
          clear hxy
          go_wp2_with (go_quiet (fail))
          go_ret
          exact ⟨ret_bool (by rw [← HI'.out]; exact (decide_eq_false fun e => HXY.out (List.cons.inj e).1).symm), _, World.drewN_drewN _ _ _⟩
      · go_wp2_with (fail)
        go_ret
        exact ⟨ret_bool (by rw [← HI.out, List.drop_eq_nil_of_le (by have := N.out; omega), List.drop_eq_nil_of_le (by have := M.out; omega)]; rfl), _, rfl⟩
  · have hne : ((n : Int) == m) = false := beq_eq_false_iff_ne.2 hnm
    go_enter Tryz.func78, Tryz.ntmps78
    go_wp2_with (fail)
    go_ret
    refine ⟨ret_bool ?_, 0, rfl⟩
    rw [← HR.out]
    refine (decide_eq_false fun e => ?_).symm
    have h3 := N.out
    have h4 := M.out
    rw [e] at h3
    omega

end Go.Proofs.YtfnkjcodcoehcaaGreatDoor
namespace Go.Proofs.YtfnkjcodcoehcaaGreatDoor
open Go.RowKit
set_option linter.unusedVariables false
set_option linter.unusedSimpArgs false

def OpIn (w : World) (x : OpS) : Prop :=
  RdI32 w w.heap.size x.Ar x.o.r ∧ RdAt w w.heap.size x.As x.o.s ∧ RdCh w w.heap.size x.Ap x.o.p ∧ x.o.r.length ≤ 140737488355328 ∧ x.o.s.length ≤ 140737488355328 ∧ x.o.p.length ≤ 140737488355328
theorem OpIn.ext {w w' : World} {x : OpS} (h : OpIn w x) (y : Below w.heap.size w w') : OpIn w' x := ⟨h.1.ext y, h.2.1.ext y, h.2.2.1.ext y, h.2.2.2⟩
theorem box_op {w : World} {b : Nat} {t : TypeId} {c0 c1 c2 c3 c4 : Value} (h : w.heap[b]? = some (.cells #[c0, c1, c2, c3, c4] t (0, 0))) :
    w.cell? ⟨b, 0, none⟩ = some c0 ∧ w.cell? ⟨b, 1, none⟩ = some c1 ∧ w.cell? ⟨b, 2, none⟩ = some c2 ∧ w.cell? ⟨b, 3, none⟩ = some c3 ∧ w.cell? ⟨b, 4, none⟩ = some c4 := by
  simp [World.cell?, h]

def OpS.val (x : OpS) : Value := .agg #[.int .u8 x.o.k, .int .i64 x.o.n, .slice x.Ar x.o.r.length x.cr, .slice x.As x.o.s.length x.cs, .slice x.Ap x.o.p.length x.cp]
end Go.Proofs.YtfnkjcodcoehcaaGreatDoor
