/- Merged texts: KeyRowA, FiveRows. -/
import Derived.Test.YthhjjaoppacnmaaDoorA13
import Derived.Test.YthhjjaoppacnmaaDoorA12
namespace Go.Proofs.YthhjjaoppacnmaaDoor
open Go.RowKit
set_option linter.unusedVariables false
set_option linter.unusedSimpArgs false

theorem heap_setCell_self {w : World} {b j : Nat} {cs : Array Value} {t : TypeId} (h : w.heap[b]? = some (.cells cs t (0, 0))) (u : Value) : (w.setCell ⟨b, j, none⟩ u).heap[b]? = some (.cells (cs.setIfInBounds j u) t (0, 0)) := by
  have hb := blk_lt h
  have he : w.heap[b] = .cells cs t (0, 0) := by
    have := h
    rw [Array.getElem?_eq_getElem hb] at this
    injection this
  unfold World.setCell
  rw [Array.getElem?_eq_getElem (by simpa using hb), Array.getElem_modify]
  simp [he]
theorem box_thaw {w : World} {b : Nat} {cs : Array Value} {t : TypeId} (h : w.heap[b]? = some (.cells cs t (0, 0))) (j : Nat) : w.frozen? ⟨b, j, none⟩ = false := by simp [World.frozen?, h]
/-- a row of n elements in a block from base on, each of which begins with an int -/
def KeyRow (K : IntKind) (size : Nat) (e : TypeId) (w : World) (base : Nat) (A : Option Addr) (n : Nat) : Prop :=
  0 < n → ∃ g cur, A = some ⟨g, 0, none⟩ ∧ base ≤ g ∧ w.heap[g]? = some (.cells cur e (0, 0)) ∧ ∀ i, i < n → ∃ k, cur[i * size]? = some (.int K k)
section
variable {K : IntKind} {size : Nat} {e e' : TypeId} {w w' : World} {base : Nat} {A : Option Addr} {n g : Nat} {cur : Array Value}
theorem KeyRow.below (h : KeyRow K size e w base A n) (y : Below w.heap.size w w') : KeyRow K size e w' base A n := fun hn => by
  obtain ⟨g, cur, e1, e2, e3, e4⟩ := h hn
  exact ⟨g, cur, e1, e2, (y.block g (lt_of_some e3)).trans e3, e4⟩
theorem KeyRow.base_le (h : KeyRow K size e w base A n) {B : Nat} (hb : B ≤ base) : KeyRow K size e w B A n := fun hn => by
  obtain ⟨g, cur, e1, e2, e3, e4⟩ := h hn
  exact ⟨g, cur, e1, by omega, e3, e4⟩
theorem KeyRow.of {α : Type} {enc : α → List Value} {l : List α} {c : Nat} (hs : ∀ a, (enc a).length = size) (hk : ∀ a, ∃ k, (enc a)[0]? = some (.int K k))
    (h : Ow enc size e w base (.slice A n c) l) (hl : n = l.length) : KeyRow K size e w base A n := fun hn => by
  obtain ⟨g, cur, hA, _, hb, hg, h1, _, hc, ht⟩ := h.row (by omega)
  refine ⟨g, cur, hA, hb, hg, fun i hi => ?_⟩
  obtain ⟨k, hk⟩ := hk (l[i]'(by omega))
  have hf := flat_get hs l i 0 _ (by omega) hk
  refine ⟨k, ?_⟩
  rw [← ht, List.getElem?_take, Nat.add_zero] at hf
  split at hf
  · rw [← Array.getElem?_toList]; exact hf
  · cases hf
theorem KeyRow.set (h : KeyRow K size e w base A n) (hg : w.heap[g]? = some (.cells cur e (0, 0))) (i : Nat) (v : Int) : KeyRow K size e (w.setCell ⟨g, i * size, none⟩ (.int K v)) base A n := fun hn => by
  obtain ⟨g', cur', e1, e2, e3, e4⟩ := h hn
  by_cases hgg : g' = g
  · subst hgg
    rw [hg] at e3
    injection e3 with e3
    injection e3 with e3 _ _
    subst e3
    refine ⟨g', _, e1, e2, heap_setCell_self hg _, fun j hj => ?_⟩
    obtain ⟨k, hk⟩ := e4 j hj
    rw [Array.getElem?_setIfInBounds]
    split
    · rename_i hij
      have hlt : i * size < cur.size := by
        rw [hij]
        rcases Nat.lt_or_ge (j * size) cur.size with hlt | hge
        · exact hlt
        · rw [Array.getElem?_eq_none hge] at hk; cases hk
      rw [if_pos hlt]
      exact ⟨v, rfl⟩
    · exact ⟨k, hk⟩
  · exact ⟨g', cur', e1, e2, (Below.heap_setCell w ⟨g, i * size, none⟩ (.int K v) g' hgg).trans e3, e4⟩
theorem KeyRow.other (h : KeyRow K size e w base A n) (hg : w.heap[g]? = some (.cells cur e' (0, 0))) (he : e' ≠ e) (j : Nat) (u : Value) : KeyRow K size e (w.setCell ⟨g, j, none⟩ u) base A n := fun hn => by
  obtain ⟨g', cur', e1, e2, e3, e4⟩ := h hn
  have hgg : g' ≠ g := by
    intro hgg
    subst hgg
    rw [hg] at e3
    injection e3 with e3
    injection e3 with _ e3 _
    exact he e3
  exact ⟨g', cur', e1, e2, (Below.heap_setCell w ⟨g, j, none⟩ u g' hgg).trans e3, e4⟩
theorem KeyRow.at_ (h : KeyRow K size e w base A n) {i : Nat} (hi : i < n) : ∃ g cur k, A = some ⟨g, 0, none⟩ ∧ base ≤ g ∧ w.heap[g]? = some (.cells cur e (0, 0)) ∧ w.cell? ⟨g, i * size, none⟩ = some (.int K k) := by
  obtain ⟨g, cur, e1, e2, e3, e4⟩ := h (by omega)
  obtain ⟨k, hk⟩ := e4 i hi
  exact ⟨g, cur, k, e1, e2, e3, by simp [World.cell?, e3, hk]⟩
/-- a row stays along a write into a block of another type -/
theorem Ow.other {α : Type} {enc : α → List Value} {l : List α} {v : Value} (h : Ow enc size e w base v l) (hg : w.heap[g]? = some (.cells cur e' (0, 0))) (he : e' ≠ e) (j : Nat) (u : Value) : Ow enc size e (w.setCell ⟨g, j, none⟩ u) base v l :=
  h.setCell (p := ⟨g, j, none⟩) (fun hw => by
    rcases h with ⟨rfl, A, rfl⟩ | ⟨_, ⟨rfl, _⟩ | ⟨g', cap, cur', rfl, _, hg', _⟩⟩
    · cases A <;> cases hw
    · cases hw
    · cases cap with
      | zero => cases hw
      | succ c =>
        injection hw with hw
        subst hw
        rw [hg] at hg'
        injection hg' with hg'
        injection hg' with _ hg' _
        exact he hg') u
end
theorem at_head (a : At) : ∃ k, (At.enc a)[0]? = some (.int .i64 k) := ⟨a.key, rfl⟩
end Go.Proofs.YthhjjaoppacnmaaDoor
namespace Go.Proofs.YthhjjaoppacnmaaDoor
open Go.RowKit
set_option linter.unusedVariables false
set_option linter.unusedSimpArgs false

/-- a slice in a row of slices -/
structure SlN where
  A : Option Addr
  n : Nat
  c : Nat
def SlN.enc (s : SlN) : List Value := [.slice s.A s.n s.c]
theorem SlN.enc_len (s : SlN) : s.enc.length = 1 := rfl
/-- only the row's block may have turned -/
def OnlyG (A : Option Addr) (n : Nat) (w w' : World) : Prop :=
  w'.heap.size = w.heap.size ∧ w'.os = w.os ∧ w'.tape = w.tape ∧ w'.output = w.output ∧ ∀ k, (∀ ad, A = some ad → 0 < n → k ≠ ad.block) → w'.heap[k]? = w.heap[k]?
theorem OnlyG.refl (A : Option Addr) (n : Nat) (w : World) : OnlyG A n w w := ⟨rfl, rfl, rfl, rfl, fun _ _ => rfl⟩
theorem OnlyG.drew (A : Option Addr) (n : Nat) (w : World) (k : Nat) : OnlyG A n w (w.drewN k) := ⟨rfl, (ext_drew w k).os, (ext_drew w k).tape, (ext_drew w k).output, fun _ _ => rfl⟩
theorem OnlyG.set {A : Option Addr} {n : Nat} {w w' : World} (h : OnlyG A n w w') {g : Nat} (hA : A = some ⟨g, 0, none⟩) (hn : 0 < n) (j : Nat) (u : Value) : OnlyG A n w (w'.setCell ⟨g, j, none⟩ u) := by
  obtain ⟨h1, h2, h3, h4, h5⟩ := h
  have hb := Below.setCell (Below.refl 0 w') (p := ⟨g, j, none⟩) (Nat.zero_le _) u
  refine ⟨?_, hb.os.trans h2, hb.tape.trans h3, hb.output.trans h4, fun k hk => ?_⟩
  · rw [← h1]; simp [World.setCell]
  · exact (Below.heap_setCell w' ⟨g, j, none⟩ u k (show k ≠ g from hk _ hA hn)).trans (h5 k hk)
/-- what is known of the rows from number m on, and of those that they are held against -/
def Rows5 (w : World) (b : Nat → Nat) (m : Nat) (xs ys : List SlN) : Prop :=
  ∀ j, m ≤ j → j < 5 → ∃ (x y : SlN) (L : List At), xs[j]? = some x ∧ ys[j]? = some y ∧ x.n = L.length ∧ y.n = L.length ∧ L.length ≤ 200 ∧ OwAt w (b j) (.slice x.A x.n x.c) L ∧
    (∀ k, wb (.slice x.A x.n x.c) = some k → k < b (j + 1)) ∧ RdAt w w.heap.size y.A L ∧ (∀ ad, y.A = some ad → 0 < L.length → ad.block < b 0 ∨ b 5 ≤ ad.block)
theorem own_block {w : World} {b c n : Nat} {A : Option Addr} {L : List At} (h : OwAt w b (.slice A n c) L) (hn : 0 < L.length) : ∃ g, A = some ⟨g, 0, none⟩ ∧ wb (.slice A n c) = some g ∧ b ≤ g := by
  obtain ⟨g, cur, hA, _, hb, hg, h1, h2, hc, ht⟩ := h.row hn
  refine ⟨g, hA, ?_, hb⟩
  have hcap := h.cap
  subst hA
  cases c with
  | zero => omega
  | succ c => rfl
theorem own_high {w : World} {b c n : Nat} {A : Option Addr} {L : List At} (h : OwAt w b (.slice A n c) L) : ∀ ad, A = some ad → 0 < L.length → b ≤ ad.block := fun ad hA hn => by
  obtain ⟨g, g1, _, g3⟩ := own_block h hn
  rw [hA] at g1; injection g1 with g1; subst g1; exact g3
theorem sameA_true (A B : Option Addr) (n m c d : Nat) (l : List At) (w : World) (hn : n = l.length) (hm : m = l.length) (h1 : RdAt w w.heap.size A l) (h2 : RdAt w w.heap.size B l) (hb : l.length ≤ 200) :
    Calls Tryd.prog 12 #[.slice A n c, .slice B m d] w (Quiet (.bool true) w) := by
  have h := sameA_any A B n m c d l l w hn hm h1 h2 (by omega) (by omega)
  rwa [decide_eq_true rfl] at h
section
variable {w w' : World} {b : Nat → Nat} {m : Nat} {xs ys : List SlN} {x : SlN}
/-- where the row that is written over lies -/
theorem Rows5.where_ (h : Rows5 w b m xs ys) (hm : m < 5) (hx : xs[m]? = some x) : ∀ ad, x.A = some ad → 0 < x.n → b m ≤ ad.block ∧ ad.block < b (m + 1) := by
  intro ad hA hn
  obtain ⟨x', y, L, e1, _, e3, _, _, e6, e7, _⟩ := h m (Nat.le_refl _) hm
  rw [hx] at e1; injection e1 with e1; subst e1
  obtain ⟨g, g1, g2, g3⟩ := own_block e6 (by omega)
  rw [hA] at g1; injection g1 with g1; subst g1
  exact ⟨g3, e7 _ g2⟩
theorem Rows5.next (h : Rows5 w b m xs ys) (hm : m < 5) (hx : xs[m]? = some x) (hg : OnlyG x.A x.n w w') (mono : ∀ i j, i ≤ j → j ≤ 5 → b i ≤ b j) : Rows5 w' b (m + 1) xs ys := by
  have hw := h.where_ hm hx
  obtain ⟨h1, _, _, _, h5⟩ := hg
  intro j hj hj5
  obtain ⟨x', y, L, e1, e2, e3, e4, e5, e6, e7, e8, e9⟩ := h j (by omega) hj5
  refine ⟨x', y, L, e1, e2, e3, e4, e5, e6.keep fun k hk => h5 k fun ad hA hn => ?_, e7, ?_, e9⟩
  · have := (e6.wb_lt k hk).1
    have h2 := (hw ad hA hn).2
    have h3 := mono (m + 1) j hj (by omega)
    omega
  · intro hl
    obtain ⟨ad, e, hb, hc⟩ := e8 hl
    refine ⟨ad, e, by rw [h1]; exact hb, fun i hi => (hc i hi).keep fun q hq => ?_⟩
    rw [add_block] at hq
    have hh : w'.heap[q.block]? = w.heap[q.block]? := h5 _ fun ad2 hA hn => by
      rw [hq]
      have h2 := hw ad2 hA hn
      have h3 := mono 0 m (by omega) (by omega)
      have h4 := mono (m + 1) 5 (by omega) (by omega)
      rcases e9 ad e hl with h6 | h6 <;> omega
    simp only [World.cell?, hh]
theorem Rows5.below (h : Rows5 w b m xs ys) (hm : m < 5) (hx : xs[m]? = some x) (hg : OnlyG x.A x.n w w') (mono : ∀ i j, i ≤ j → j ≤ 5 → b i ≤ b j) {wz : World} (hb : Below (b 0) wz w) : Below (b 0) wz w' := by
  have hw := h.where_ hm hx
  obtain ⟨h1, h2, h3, h4, h5⟩ := hg
  refine hb.trans ⟨h2, h3, h4, by omega, fun k hk => h5 k fun ad hA hn => ?_⟩
  have := (hw ad hA hn).1
  have := mono 0 m (by omega) (by omega)
  omega
theorem Rows5.high (h : Rows5 w b m xs ys) (hm : m < 5) (hx : xs[m]? = some x) (hg : OnlyG x.A x.n w w') (mono : ∀ i j, i ≤ j → j ≤ 5 → b i ≤ b j) (k : Nat) (hk : b 5 ≤ k) : w'.heap[k]? = w.heap[k]? :=
  hg.2.2.2.2 k fun ad hA hn => by
    have := (h.where_ hm hx ad hA hn).2
    have := mono (m + 1) 5 (by omega) (by omega)
    omega
end
/-- the stretches' bounds -/
def b6 (a0 a1 a2 a3 a4 a5 : Nat) (j : Nat) : Nat := if j = 0 then a0 else if j = 1 then a1 else if j = 2 then a2 else if j = 3 then a3 else if j = 4 then a4 else a5
theorem b6_mono {a0 a1 a2 a3 a4 a5 : Nat} (h0 : a0 ≤ a1) (h1 : a1 ≤ a2) (h2 : a2 ≤ a3) (h3 : a3 ≤ a4) (h4 : a4 ≤ a5) : ∀ i j, i ≤ j → j ≤ 5 → b6 a0 a1 a2 a3 a4 a5 i ≤ b6 a0 a1 a2 a3 a4 a5 j := by
  intro i j hij hj
  unfold b6
  repeat' split
  all_goals omega
end Go.Proofs.YthhjjaoppacnmaaDoor
