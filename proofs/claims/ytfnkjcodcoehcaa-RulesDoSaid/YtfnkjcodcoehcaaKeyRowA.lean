/- Rows of the call's own whose elements begin with an int may be written over: what stays along such writes. -/
import Derived.Test.YtfnkjcodcoehcaaRefSet
namespace Go.Proofs.Ytfnkjcodcoehcaa
open Go.RowKit
set_option linter.unusedVariables false
set_option linter.unusedSimpArgs false

theorem heap_setCell_self {w : World} {b j : Nat} {cs : Array Value} {t : TypeId} (h : w.heap[b]? = some (.cells cs t (0, 0))) (u : Value) : (w.setCell ⟨b, j, none⟩ u).heap[b]? = some (.cells (cs.setIfInBounds j u) t (0, 0)) := by
  have hb := blk_lt h
  have he : w.heap[b] = .cells cs t (0, 0) := by
    have := h
    rw [Array.getElem?_eq_getElem hb] at this
    injection this
  unfold World.setCell
  rw [Array.getElem?_eq_getElem (by simpa using hb), Array.getElem_modify]
  simp [he]
theorem box_thaw {w : World} {b : Nat} {cs : Array Value} {t : TypeId} (h : w.heap[b]? = some (.cells cs t (0, 0))) (j : Nat) : w.frozen? ⟨b, j, none⟩ = false := by simp [World.frozen?, h]
/-- a row of n elements in a block from base on, each of which begins with an int -/
def KeyRow (K : IntKind) (size : Nat) (e : TypeId) (w : World) (base : Nat) (A : Option Addr) (n : Nat) : Prop :=
  0 < n → ∃ g cur, A = some ⟨g, 0, none⟩ ∧ base ≤ g ∧ w.heap[g]? = some (.cells cur e (0, 0)) ∧ ∀ i, i < n → ∃ k, cur[i * size]? = some (.int K k)
section
variable {K : IntKind} {size : Nat} {e e' : TypeId} {w w' : World} {base : Nat} {A : Option Addr} {n g : Nat} {cur : Array Value}
theorem KeyRow.below (h : KeyRow K size e w base A n) (y : Below w.heap.size w w') : KeyRow K size e w' base A n := fun hn => by
  obtain ⟨g, cur, e1, e2, e3, e4⟩ := h hn
  exact ⟨g, cur, e1, e2, (y.block g (lt_of_some e3)).trans e3, e4⟩
theorem KeyRow.base_le (h : KeyRow K size e w base A n) {B : Nat} (hb : B ≤ base) : KeyRow K size e w B A n := fun hn => by
  obtain ⟨g, cur, e1, e2, e3, e4⟩ := h hn
  exact ⟨g, cur, e1, by omega, e3, e4⟩
theorem KeyRow.of {α : Type} {enc : α → List Value} {l : List α} {c : Nat} (hs : ∀ a, (enc a).length = size) (hk : ∀ a, ∃ k, (enc a)[0]? = some (.int K k))
    (h : Ow enc size e w base (.slice A n c) l) (hl : n = l.length) : KeyRow K size e w base A n := fun hn => by
  obtain ⟨g, cur, hA, _, hb, hg, h1, _, hc, ht⟩ := h.row (by omega)
  refine ⟨g, cur, hA, hb, hg, fun i hi => ?_⟩
  obtain ⟨k, hk⟩ := hk (l[i]'(by omega))
  have hf := flat_get hs l i 0 _ (by omega) hk
  refine ⟨k, ?_⟩
  rw [← ht, List.getElem?_take, Nat.add_zero] at hf
  split at hf
  · rw [← Array.getElem?_toList]; exact hf
  · cases hf
theorem KeyRow.set (h : KeyRow K size e w base A n) (hg : w.heap[g]? = some (.cells cur e (0, 0))) (i : Nat) (v : Int) : KeyRow K size e (w.setCell ⟨g, i * size, none⟩ (.int K v)) base A n := fun hn => by
  obtain ⟨g', cur', e1, e2, e3, e4⟩ := h hn
  by_cases hgg : g' = g
  · subst hgg
    rw [hg] at e3
    injection e3 with e3
    injection e3 with e3 _ _
    subst e3
    refine ⟨g', _, e1, e2, heap_setCell_self hg _, fun j hj => ?_⟩
    obtain ⟨k, hk⟩ := e4 j hj
    rw [Array.getElem?_setIfInBounds]
    split
    · rename_i hij
      have hlt : i * size < cur.size := by
        rw [hij]
        rcases Nat.lt_or_ge (j * size) cur.size with hlt | hge
        · exact hlt
        · rw [Array.getElem?_eq_none hge] at hk; cases hk
      rw [if_pos hlt]
      exact ⟨v, rfl⟩
    · exact ⟨k, hk⟩
  · exact ⟨g', cur', e1, e2, (Below.heap_setCell w ⟨g, i * size, none⟩ (.int K v) g' hgg).trans e3, e4⟩
theorem KeyRow.other (h : KeyRow K size e w base A n) (hg : w.heap[g]? = some (.cells cur e' (0, 0))) (he : e' ≠ e) (j : Nat) (u : Value) : KeyRow K size e (w.setCell ⟨g, j, none⟩ u) base A n := fun hn => by
  obtain ⟨g', cur', e1, e2, e3, e4⟩ := h hn
  have hgg : g' ≠ g := by
    intro hgg
    subst hgg
    rw [hg] at e3
    injection e3 with e3
    injection e3 with _ e3 _
    exact he e3
  exact ⟨g', cur', e1, e2, (Below.heap_setCell w ⟨g, j, none⟩ u g' hgg).trans e3, e4⟩
theorem KeyRow.at_ (h : KeyRow K size e w base A n) {i : Nat} (hi : i < n) : ∃ g cur k, A = some ⟨g, 0, none⟩ ∧ base ≤ g ∧ w.heap[g]? = some (.cells cur e (0, 0)) ∧ w.cell? ⟨g, i * size, none⟩ = some (.int K k) := by
  obtain ⟨g, cur, e1, e2, e3, e4⟩ := h (by omega)
  obtain ⟨k, hk⟩ := e4 i hi
  exact ⟨g, cur, k, e1, e2, e3, by simp [World.cell?, e3, hk]⟩
/-- a row stays along a write into a block of another type -/
theorem Ow.other {α : Type} {enc : α → List Value} {l : List α} {v : Value} (h : Ow enc size e w base v l) (hg : w.heap[g]? = some (.cells cur e' (0, 0))) (he : e' ≠ e) (j : Nat) (u : Value) : Ow enc size e (w.setCell ⟨g, j, none⟩ u) base v l :=
  h.setCell (p := ⟨g, j, none⟩) (fun hw => by
    rcases h with ⟨rfl, A, rfl⟩ | ⟨_, ⟨rfl, _⟩ | ⟨g', cap, cur', rfl, _, hg', _⟩⟩
    · cases A <;> cases hw
    · cases hw
    · cases cap with
      | zero => cases hw
      | succ c =>
        injection hw with hw
        subst hw
        rw [hg] at hg'
        injection hg' with hg'
        injection hg' with _ hg' _
        exact he hg') u
end
theorem at_head (a : At) : ∃ k, (At.enc a)[0]? = some (.int .i64 k) := ⟨a.key, rfl⟩
theorem ch_head (a : Ch) : ∃ k, (Ch.enc a)[0]? = some (.int .i64 k) := ⟨a.key, rfl⟩
end Go.Proofs.Ytfnkjcodcoehcaa
