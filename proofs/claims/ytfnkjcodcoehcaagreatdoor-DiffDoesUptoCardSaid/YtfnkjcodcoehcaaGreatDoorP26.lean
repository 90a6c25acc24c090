/- Merged texts: RowF, OpGreat, OpSize, NormLaw, OfLaw. -/
import Derived.Test.YtfnkjcodcoehcaaGreatDoorP15
import Derived.Test.YtfnkjcodcoehcaaGreatDoorP16
import Derived.Deep.RegionHeld3
import Derived.Test.YtfnkjcodcoehcaaGreatDoorP13
import Derived.Test.YtfnkjcodcoehcaaGreatDoorP14
import Derived.Test.YtfnkjcodcoehcaaGreatDoorP3
import Derived.Test.YtfnkjcodcoehcaaGreatDoorP21
import Derived.Test.YtfnkjcodcoehcaaGreatDoorP23
namespace Go.Proofs.YtfnkjcodcoehcaaGreatDoor
open Go.RowKit
set_option linter.unusedVariables false
set_option linter.unusedSimpArgs false

/-- what may be written: F, and the row -/
def RowG (F : Nat → Prop) (v : Value) : Nat → Prop := fun k => F k ∨ wb v = some k
structure RowF (w : World) (F : Nat → Prop) (B : Nat) (v : Value) (D : List OpS) : Prop where
  own : OwOs w B v D
  parts : ∀ x ∈ D, PartF w (RowG F v) x
section
variable {w w' : World} {F : Nat → Prop} {B : Nat} {v v' : Value} {D M : List OpS}
theorem RowF.nil (w : World) (F : Nat → Prop) (B : Nat) : RowF w F B (.slice none 0 0) [] := ⟨Ow.nil _ _, fun x hx => by cases hx⟩
theorem RowF.ext (h : RowF w F B v D) (y : Below w.heap.size w w') : RowF w' F B v D := ⟨h.own.below y (Nat.le_refl _), fun x hx => (h.parts x hx).grow (Grow.of y)⟩
theorem row_grow (g : w.grownBy w' (wb v)) (hv : v' = v ∧ w' = w ∨ wb v' = wb v ∨ wb v' = some w.heap.size) : Grow w (RowG F v) w' (RowG F v') :=
  ⟨g.os, g.tape, g.output, g.size, fun j hj hn => g.block j hj (fun e => hn (.inr e.symm)), fun k hk => by
    rcases hk with hk | hk
    · exact .inl (.inl hk)
    · rcases hv with ⟨rfl, _⟩ | h | h
      · exact .inl (.inr hk)
      · exact .inl (.inr (h ▸ hk))
      · rw [h] at hk; injection hk with hk; exact .inr (by omega)⟩
theorem RowF.app (h : RowF w F B v D) (hm : ∀ x ∈ M, PartF w (RowG F v) x) (ho : OwOs w' B v' (D ++ M)) (g : w.grownBy w' (wb v)) (hv : v' = v ∧ w' = w ∨ wb v' = wb v ∨ wb v' = some w.heap.size) : RowF w' F B v' (D ++ M) :=
  ⟨ho, fun x hx => by
    rcases List.mem_append.1 hx with hx | hx
    · exact (h.parts x hx).grow (row_grow g hv)
    · exact (hm x hx).grow (row_grow g hv)⟩
/-- parts that were there ahead of the row are off it -/
theorem PartF.fresh {w0 : World} {x : OpS} (h : PartF w0 F x) (y : Below w0.heap.size w0 w) (hv : ∀ k, wb v = some k → w0.heap.size ≤ k) : PartF w (RowG F v) x := by
  have p := h.grow (Grow.of (F := F) y)
  have off : ∀ {α : Type} {enc : α → List Value} {size : Nat} {A : Option Addr} {l : List α}, Rd enc size w0 w0.heap.size A l → OffF F A l.length → OffF (RowG F v) A l.length := fun hr h1 ad e hl hk => by
    rcases hk with hk | hk
    · exact h1 ad e hl hk
    · obtain ⟨ad', e', hb, _⟩ := hr hl
      rw [e] at e'; injection e' with e'; subst e'
      have := hv _ hk; omega
  exact ⟨⟨p.1.1, off h.1.1 h.1.2⟩, ⟨p.2.1.1, off h.2.1.1 h.2.1.2⟩, ⟨p.2.2.1, off h.2.2.1 h.2.2.2⟩⟩
/-- a row new to what was there -/
theorem RowF.low (h : RowF w F B v D) : ∀ k, wb v = some k → B ≤ k := fun k hk => (h.own.wb_lt k hk).1
theorem RowF.set {g n c i j : Nat} {u : Value} {x' : OpS} (h : RowF w F B (.slice (some ⟨g, 0, none⟩) n c) D) (hi : i < D.length) (hj : j < 5) (he : x'.enc = D[i].enc.set j u) (hp : PartF w (RowG F (.slice (some ⟨g, 0, none⟩) n c)) x') :
    RowF (w.setCell ⟨g, i * 5 + j, none⟩ u) F B (.slice (some ⟨g, 0, none⟩) n c) (D.set i x') := by
  have hc : ∃ c', c = c' + 1 := by
    obtain ⟨A', c', hv, h1, _⟩ := h.own.form
    injection hv with _ hn hcc
    exact ⟨c - 1, by omega⟩
  obtain ⟨c', rfl⟩ := hc
  have gr : Grow w (RowG F (.slice (some ⟨g, 0, none⟩) n (c' + 1))) (w.setCell ⟨g, i * 5 + j, none⟩ u) (RowG F (.slice (some ⟨g, 0, none⟩) n (c' + 1))) := setCell_below g (i * 5 + j) u (.inr rfl) 0
  exact ⟨Ow.setEl OpS.enc_len h.own hi hj he, fun x hx => by
    rcases List.mem_or_eq_of_mem_set hx with hx | rfl
    · exact (h.parts x hx).grow gr
    · exact hp.grow gr⟩
end
end Go.Proofs.YtfnkjcodcoehcaaGreatDoor
namespace Go.Proofs.YtfnkjcodcoehcaaGreatDoor
open Go.RowKit
set_option linter.unusedVariables false
set_option linter.unusedSimpArgs false

structure SX where
  A : Option Addr
  c : Nat
  l : List OpS
def SX.enc (s : SX) : List Value := [.slice s.A s.l.length s.c]
end Go.Proofs.YtfnkjcodcoehcaaGreatDoor
namespace Go.Proofs.YtfnkjcodcoehcaaGreatDoor
open Go.RowKit
set_option linter.unusedVariables false
set_option linter.unusedSimpArgs false

theorem sum_take_le {α : Type} (f : α → Nat) (l : List α) (i : Nat) : ((l.take i).map f).sum ≤ (l.map f).sum := by
  conv => rhs; rw [← List.take_append_drop i l]
  rw [List.map_append, List.sum_append]; omega
end Go.Proofs.YtfnkjcodcoehcaaGreatDoor
namespace Go.Proofs.YtfnkjcodcoehcaaGreatDoor
set_option linter.unusedVariables false
set_option linter.unusedSimpArgs false

def tellO (m : Mk) (o : Opd) : Mk := if o.k = 1 then mkRetain m o.n o.p else if o.k = 2 then mkInsert m o.r o.s else mkDelete m o.n
def ofM (x : List Opd) : Mk := x.foldl tellO Mk.new
theorem ofM_snoc (x : List Opd) (o : Opd) : ofM (x ++ [o]) = tellO (ofM x) o := by unfold ofM; rw [List.foldl_append]; rfl
theorem MkB.tellO {m : Mk} {K S : Nat} (h : MkB m K S) {o : Opd} (hs : o.s.length ≤ S) (hp : o.p.length ≤ S) : MkB (tellO m o) (K + 2 * (1 + o.r.length)) S := by
  unfold Go.Proofs.YtfnkjcodcoehcaaGreatDoor.tellO
  split
  · exact (h.retain o.n hp).mono (by omega) (Nat.le_refl _)
  · split
    · exact (h.insert o.r hs).mono (by omega) (Nat.le_refl _)
    · exact (h.delete o.n).mono (by omega) (Nat.le_refl _)
/-- ops and their runes, counted -/
def szN (x : List OpS) : Nat := (x.map (fun o => 1 + o.o.r.length)).sum
theorem szN_cons (o : OpS) (x : List OpS) : szN (o :: x) = 1 + o.o.r.length + szN x := rfl
theorem szN_len (x : List OpS) : x.length ≤ szN x := by
  induction x with
  | nil => exact Nat.zero_le _
  | cons a x ih => rw [szN_cons, List.length_cons]; omega
theorem szN_mem {x : List OpS} {o : OpS} (h : o ∈ x) : o.o.r.length ≤ szN x := by
  induction x with
  | nil => cases h
  | cons a x ih =>
    rw [szN_cons]
    rcases List.mem_cons.1 h with rfl | h
    · omega
    · have := ih h; omega
theorem szN_take (x : List OpS) (i : Nat) : szN (x.take i) ≤ szN x := sum_take_le (fun o : OpS => 1 + o.o.r.length) x i
theorem ofM_B {S : Nat} : ∀ (x : List OpS) {m : Mk} {K : Nat}, MkB m K S → (∀ o ∈ x, o.o.s.length ≤ S ∧ o.o.p.length ≤ S) → MkB ((osOf x).foldl tellO m) (K + 2 * szN x) S
  | [], m, K, h, _ => h
  | o :: x, m, K, h, hs => by
    have h1 := h.tellO (hs o (by simp)).1 (hs o (by simp)).2
    have h2 := ofM_B x h1 (fun z hz => hs z (List.mem_cons_of_mem _ hz))
    rw [szN_cons]
    exact h2.mono (by omega) (Nat.le_refl _)
theorem ofM_bndN {S : Nat} (x : List OpS) (hs : ∀ o ∈ x, o.o.s.length ≤ S ∧ o.o.p.length ≤ S) : MkB (ofM (osOf x)) (2 * szN x) S := by
  have := ofM_B x (MkB.new S) hs
  rwa [Nat.zero_add] at this
theorem tellO_told {m : Mk} {us : List Un} (h : Told m us) {o : Opd} (ho : isOp o) (hb : (us.length : Int) + o.n ≤ 4611686018427387904) (hb2 : us.length ≤ 4611686018427387904) : Told (tellO m o) (us ++ unitsO o) := by
  unfold tellO unitsO
  rcases isOp_kind ho with hk | hk | hk
  · rw [if_neg (by rw [hk]; decide), if_pos hk, if_pos hk]; exact h.insert _ _
  · rw [if_neg (by rw [hk]; decide), if_neg (by rw [hk]; decide), if_neg (by rw [hk]; decide), if_neg (by rw [hk]; decide)]; exact h.delete _ hb hb2
  · rw [if_pos hk, if_neg (by rw [hk]; decide), if_pos hk]; exact h.retain _ _ hb
theorem ofM_told' : ∀ (x : List Opd) {m : Mk} {us : List Un}, Told m us → (∀ o ∈ x, isOp o) → us.length + (units x).length ≤ 4000000000 → Told (x.foldl tellO m) (us ++ units x)
  | [], m, us, h, _, _ => by rw [units_nil, List.append_nil]; exact h
  | o :: x, m, us, h, hi, hb => by
    rw [units_cons, List.length_append] at hb
    have ho := hi o (by simp)
    have hn : o.n ≤ (unitsO o).length := by
      unfold unitsO
      rcases isOp_kind ho with hk | hk | hk
      · obtain ⟨e, hr⟩ := opI_of ho hk
        rw [if_pos hk, e]
        show (0 : Int) ≤ _
        omega
      · rw [if_neg (by rw [hk]; decide), if_neg (by rw [hk]; decide), List.length_replicate]; omega
      · rw [if_neg (by rw [hk]; decide), if_pos hk, List.length_replicate]; omega
    have h1 := tellO_told h ho (by omega) (by omega)
    have h2 := ofM_told' x h1 (fun z hz => hi z (List.mem_cons_of_mem _ hz)) (by rw [List.length_append]; omega)
    rw [List.append_assoc] at h2
    rw [units_cons]
    exact h2
end Go.Proofs.YtfnkjcodcoehcaaGreatDoor
namespace Go.Proofs.YtfnkjcodcoehcaaGreatDoor
set_option linter.unusedVariables false
set_option linter.unusedSimpArgs false

/-- what is told without a retain leaves alone what is done -/
theorem tell_gap : ∀ (g : List Opd) (m : Mk) (D : List Opd), (∀ o ∈ g, o.k ≠ 1) → g.foldl tellO ⟨D, m.ins, m.gone⟩ = ⟨D, (g.foldl tellO m).ins, (g.foldl tellO m).gone⟩
  | [], m, D, _ => rfl
  | o :: g, m, D, h => by
    rw [List.foldl_cons, List.foldl_cons]
    have h1 : o.k ≠ 1 := h o (by simp)
    have e : tellO ⟨D, m.ins, m.gone⟩ o = ⟨D, (tellO m o).ins, (tellO m o).gone⟩ := by
      unfold tellO
      rw [if_neg h1, if_neg h1]
      split
      · unfold mkInsert; split <;> rfl
      · rfl
    rw [e]
    exact tell_gap g (tellO m o) D (fun z hz => h z (List.mem_cons_of_mem _ hz))
/-- the ops of a gap, as rubricref16.gap makes them -/
def gapP (g : List Opd) : List Opd := mkGap (ofM g)
theorem of_gap {pre g : List Opd} (hi : (ofM pre).ins = []) (hz : (ofM pre).gone = 0) (hg : ∀ o ∈ g, o.k ≠ 1) : ofM (pre ++ g) = ⟨(ofM pre).done, (ofM g).ins, (ofM g).gone⟩ := by
  have e : ofM (pre ++ g) = g.foldl tellO (ofM pre) := by unfold ofM; rw [List.foldl_append]
  rw [e]
  have e2 : ofM pre = ⟨(ofM pre).done, Mk.new.ins, Mk.new.gone⟩ := by
    show ofM pre = ⟨(ofM pre).done, [], 0⟩
    rw [← hi, ← hz]
  rw [e2]
  exact tell_gap g Mk.new _ hg
theorem gap_ends {pre g : List Opd} (hi : (ofM pre).ins = []) (hz : (ofM pre).gone = 0) (hg : ∀ o ∈ g, o.k ≠ 1) : (ofM (pre ++ g)).done ++ mkGap (ofM (pre ++ g)) = (ofM pre).done ++ gapP g := by
  rw [of_gap hi hz hg]; rfl
/-- behind a retain -/
theorem of_ret {pre g : List Opd} {o : Opd} (hi : (ofM pre).ins = []) (hz : (ofM pre).gone = 0) (hg : ∀ z ∈ g, z.k ≠ 1) (hk : o.k = 1) (hn : 1 ≤ o.n) :
    ofM (pre ++ g ++ [o]) = ⟨addR ((ofM pre).done ++ gapP g) o.n o.p, [], 0⟩ := by
  rw [ofM_snoc]
  unfold tellO
  rw [if_pos hk]
  unfold mkRetain
  rw [if_neg (by omega), gap_ends hi hz hg]
/-- at the end -/
theorem of_end {pre g : List Opd} (hi : (ofM pre).ins = []) (hz : (ofM pre).gone = 0) (hg : ∀ z ∈ g, z.k ≠ 1) : mkOps (ofM (pre ++ g)) = cutR ((ofM pre).done ++ gapP g) := by
  unfold mkOps; rw [gap_ends hi hz hg]
/-- what Of answers -/
theorem of_is {x : List Opd} (h : ∀ o ∈ x, isOp o) (hb : (units x).length ≤ 4000000000) : mkOps (ofM x) = mkU (units x) := by
  have ht := ofM_told' x Told.new h (by simpa using hb)
  rw [List.nil_append] at ht
  exact told_mkU ht
theorem gap_ins {g : List Opd} {o : Opd} (ho : isOp o) (hk : o.k = 2) : ofM (g ++ [o]) = { ofM g with ins := addI (ofM g).ins o.r o.s } := by
  obtain ⟨_, hr⟩ := opI_of ho hk
  rw [ofM_snoc]; unfold tellO; rw [if_neg (by rw [hk]; decide), if_pos hk]
  unfold mkInsert; rw [if_neg hr]
/-- the gap grows: at its end into the last insert, or behind it -/
theorem addI_last {d : List Opd} {a : Opd} {r : List Int} : addI (d ++ [a]) r a.s = d ++ [{ a with r := a.r ++ r }] := by
  unfold addI; simp
theorem addI_new {d : List Opd} {o : Opd} (ho : isOp o) (hk : o.k = 2) (h : ∀ a, d.getLast? = some a → a.s ≠ o.s) : addI d o.r o.s = d ++ [o] := by
  obtain ⟨e, _⟩ := opI_of ho hk
  unfold addI
  cases hd : d.getLast? with
  | none => simp only; rw [← e]
  | some a => simp only; rw [if_neg (h a hd), ← e]
theorem addR_last {d : List Opd} {a : Opd} {n : Int} (hk : a.k = 1) : addR (d ++ [a]) n a.p = d ++ [{ a with n := IntKind.i64.wrap (a.n + n) }] := by
  unfold addR; simp [hk]
theorem addR_new {d : List Opd} {o : Opd} (ho : isOp o) (hk : o.k = 1) (h : ∀ a, d.getLast? = some a → ¬ (a.k = 1 ∧ a.p = o.p)) : addR d o.n o.p = d ++ [o] := by
  obtain ⟨e, _⟩ := opR_of ho hk
  unfold addR
  cases hd : d.getLast? with
  | none => simp only; rw [← e]
  | some a => simp only; rw [if_neg (h a hd), ← e]
end Go.Proofs.YtfnkjcodcoehcaaGreatDoor
