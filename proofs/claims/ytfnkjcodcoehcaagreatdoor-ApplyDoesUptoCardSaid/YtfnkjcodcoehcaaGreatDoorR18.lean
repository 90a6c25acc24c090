/- Merged texts: OpTypes, SliceCl, Foot, OwSet, StepFn, MkCat, Mkr, DelPart. -/
import Derived.Lib.Overlaps
import Derived.Test.YtfnkjcodcoehcaaGreatDoorR9
import Derived.Test.YtfnkjcodcoehcaaGreatDoorR15
import Derived.Test.YtfnkjcodcoehcaaGreatDoorR11
import Derived.IntWalk
import Derived.Test.YtfnkjcodcoehcaaGreatDoorR6
import Derived.Test.YtfnkjcodcoehcaaGreatDoorR17
import Derived.Test.YtfnkjcodcoehcaaGreatDoorR1
import Derived.Deep.RegionLaw
import Derived.KernelRfl
import Derived.Lib.AppendZerosOnto
import Derived.Lib.Walk
import Derived.Lib.SliceRun
import Derived.Deep.RegionHeld3
import Derived.Test.YtfnkjcodcoehcaaGreatDoorR14
import Derived.Test.YtfnkjcodcoehcaaGreatDoorR13
namespace Go.Proofs.YtfnkjcodcoehcaaGreatDoor
open Go.RowKit
set_option linter.unusedVariables false
set_option linter.unusedSimpArgs false

theorem OpS.enc_one (x : OpS) : ∀ u ∈ x.enc, u.oneCell' = true := by intro u hu; simp [OpS.enc] at hu; rcases hu with rfl | rfl | rfl | rfl | rfl <;> rfl
abbrev OwOs := @Ow OpS OpS.enc 5 50
theorem Tryz.infoOp : (Tryz.prog.info? 50).map (fun i => (i.zero, i.size, i.bytes)) = some (some (.agg #[.int .u8 0, .int .i64 0, .slice none 0 0, .slice none 0 0, .slice none 0 0]), 5, 88) := by kernel_rfl
theorem Tryz.slOp : Tryz.prog.underlying 44 = some (.slice 50) := by kernel_rfl
abbrev OwCs := @Ow ClS ClS.enc 2 38
theorem Tryz.infoCl : (Tryz.prog.info? 38).map (fun i => (i.zero, i.size, i.bytes)) = some (some (.agg #[.int .i32 0, .slice none 0 0]), 2, 32) := by kernel_rfl
theorem Tryz.slCl : Tryz.prog.underlying 23 = some (.slice 38) := by kernel_rfl
section
variable {ops : Array Oper} {rest : List Oper} {o : Oper} {a : Act} {Q : Exit → Act → World → Prop} {w : World} {base : Nat} {v : Value} {K : Act → World → Prop} {E : Prop}
/-- the same at a step of a region that draws -/
theorem step_os {l m : List OpS} (hgd : o.guard = none) (s x : Operand)
    (ho : o.op = .call { callee := .builtin .append, args := #[s, x], argTypes := #[44, 44] })
    (hsv : a.eval s = v) (hown : OwOs w base v l) (B : Nat) (A : Option Addr) (c n : Nat) (hx : a.eval x = .slice A n c) (hn : n = m.length) (hr : RdOs w B A m)
    (hb : l.length + m.length ≤ 1000000000000) (hbase : base ≤ w.heap.size)
    (h : ∀ v' w', OwOs w' base v' (l ++ m) → w.grownBy w' (wb v) → (v' = v ∧ w' = w ∨ wb v' = wb v ∨ wb v' = some w.heap.size) → K (a.put o.dst v') w') :
    if Region.wanted o (yielded ops a.tmps) = true then Oper.wp Tryz.prog o a w K Q else E := by
  have hw : Region.wanted o (yielded ops a.tmps) = true := by simp [Region.wanted, hgd]
  rw [if_pos hw]
  obtain ⟨i0, hi0, hz0, hz1, hz2⟩ := info_parts Tryz.infoOp
  exact wp_app s x _ ho i0 _ 88 Tryz.slOp hi0 hz0 hz1 hz2 rfl (by omega) OpS.enc_len OpS.enc_one hsv hown B A c n hx hn hr (by simp only [maxLen]; omega) (by omega) hbase h
theorem step_i32 {l m : List Int} (hgd : o.guard = none) (s x : Operand)
    (ho : o.op = .call { callee := .builtin .append, args := #[s, x], argTypes := #[47, 47] })
    (hsv : a.eval s = v) (hown : OwI32 w base v l) (B : Nat) (A : Option Addr) (c n : Nat) (hx : a.eval x = .slice A n c) (hn : n = m.length) (hr : RdI32 w B A m)
    (hb : l.length + m.length ≤ 1000000000000) (hbase : base ≤ w.heap.size)
    (h : ∀ v' w', OwI32 w' base v' (l ++ m) → w.grownBy w' (wb v) → (v' = v ∧ w' = w ∨ wb v' = wb v ∨ wb v' = some w.heap.size) → K (a.put o.dst v') w') :
    if Region.wanted o (yielded ops a.tmps) = true then Oper.wp Tryz.prog o a w K Q else E := by
  have hw : Region.wanted o (yielded ops a.tmps) = true := by simp [Region.wanted, hgd]
  rw [if_pos hw]
  obtain ⟨i0, hi0, hz0, hz1, hz2⟩ := info_parts Tryz.infoI32
  exact wp_app s x _ ho i0 _ 4 Tryz.slI32 hi0 hz0 hz1 hz2 rfl (by omega) encI32_len encI32_one hsv hown B A c n hx hn hr (by simp only [maxLen]; omega) (by omega) hbase h
theorem app_cs {l m : List ClS} (hgd : o.guard = none) (s x : Operand)
    (ho : o.op = .call { callee := .builtin .append, args := #[s, x], argTypes := #[23, 23] })
    (hsv : a.eval s = v) (hown : OwCs w base v l) (B : Nat) (A : Option Addr) (c n : Nat) (hx : a.eval x = .slice A n c) (hn : n = m.length) (hr : RdCs w B A m)
    (hb : l.length + m.length ≤ 2000000000000) (hbase : base ≤ w.heap.size)
    (h : ∀ v' w', OwCs w' base v' (l ++ m) → w.grownBy w' (wb v) → (v' = v ∧ w' = w ∨ wb v' = wb v ∨ wb v' = some w.heap.size) → wpList Tryz.prog ops Q rest (a.put o.dst v') w') : wpList Tryz.prog ops Q (o :: rest) a w := by
  obtain ⟨i0, hi0, hz0, hz1, hz2⟩ := info_parts Tryz.infoCl
  exact wpList_app hgd s x _ ho i0 _ 32 Tryz.slCl hi0 hz0 hz1 hz2 rfl (by omega) ClS.enc_len ClS.enc_one hsv hown B A c n hx hn hr (by simp only [maxLen]; omega) (by omega) hbase h
end
def NewCs (r : List ClS) (w : World) (e : Ending) (w' : World) : Prop :=
  ∃ A c, e = .returned (.slice A r.length c) ∧ OwCs w' w.heap.size (.slice A r.length c) r ∧ Below w.heap.size w w'
set_option maxRecDepth 100000 in
set_option maxHeartbeats 400000 in
theorem cloneCs_any (A : Option Addr) (n c : Nat) (l : List ClS) (w : World) (hn : n = l.length) (h : RdCs w w.heap.size A l) (hb : n ≤ 100000000) :
    Calls Tryz.prog 142 #[.slice A n c] w (NewCs l w) := by
  cases A with
  | none =>
    have hl : l = [] := by
      cases l with
      | nil => rfl
      | cons a l => obtain ⟨ad, e, _⟩ := h (by simp); cases e
    subst hl
    have hn0 : n = 0 := by simpa using hn
    subst hn0
    clear hn
    have hq := fun (w : World) => Lib.run_eql_slice_nil (P := Tryz.prog) w 23 38 none 0 c 0 0 Tryz.slCl
    go_enter Tryz.func142, Tryz.ntmps142
    go_wp2_with (fail)
    go_ret
    exact ⟨none, 0, rfl, Ow.nil _ _, Below.refl _ _⟩
  | some ad =>
    have N := Lib.hid hn
    clear hn
    have hq := fun (w : World) => Lib.run_eql_slice_nil (P := Tryz.prog) w 23 38 (some ad) n c 0 0 Tryz.slCl
    go_enter Tryz.func142, Tryz.ntmps142
    go_wp2_with (first
      | (at_builtin; refine app_cs (m := l) rfl (.tmp 5) (.tmp 6) rfl rfl (by exact Ow.empty _ w.heap.size _) _ _ _ _ rfl N.out (by exact h.ext (ext_alloc w _)) (by have := N.out; simp only [List.length_nil]; omega) (by simp) ?_; intro v' w' hown' hgr hv'))
    rw [List.nil_append] at hown'
    obtain ⟨A', c', rfl, _, _⟩ := hown'.form
    go_ret
    exact ⟨A', c', rfl, hown', (ext_alloc w _).grown hgr (by simp) (fun k hk => by cases hk)⟩

end Go.Proofs.YtfnkjcodcoehcaaGreatDoor
namespace Go.Proofs.YtfnkjcodcoehcaaGreatDoor
open Go.RowKit
set_option linter.unusedVariables false
set_option linter.unusedSimpArgs false

theorem Tryz.elCl : Tryz.prog.elem 23 = 38 := by kernel_rfl
theorem Tryz.szCl : (Tryz.prog.info? 38).map (·.size) = some 2 := by kernel_rfl
theorem size_cl (W : World) : (sizeOf 38).run Tryz.prog W = .ok 2 W := by
  cases h : Tryz.prog.info? 38 with
  | none => have := Tryz.szCl; rw [h] at this; cases this
  | some i => have := Tryz.szCl; rw [h] at this; simp at this; simp [sizeOf, typeInfo, h, this]
theorem RdCl.take {w : World} {B : Nat} {A : Option Addr} {l : List ClS} (h : RdCl w B A l) (k : Nat) : RdCl w B A (l.take k) := ⟨h.1.take k, fun x hx => h.2 x (List.mem_of_mem_take hx)⟩
theorem RdCl.from {w : World} {B k c : Nat} {A A' : Option Addr} {l : List ClS} (h : RdCl w B A l) (hA : advS A c k 2 = A') (hk : k ≤ l.length) (hc : l.length ≤ c) : RdCl w B A' (l.drop k) := ⟨hA ▸ h.1.advS hk hc, fun x hx => h.2 x (List.mem_of_mem_drop hx)⟩
theorem clsOf_take (l : List ClS) (k : Nat) : clsOf (l.take k) = (clsOf l).take k := by unfold clsOf; rw [List.map_take]
theorem clsOf_drop (l : List ClS) (k : Nat) : clsOf (l.drop k) = (clsOf l).drop k := by unfold clsOf; rw [List.map_drop]
theorem clsOf_len (l : List ClS) : (clsOf l).length = l.length := by unfold clsOf; simp
theorem clsOf_at {l : List ClS} {i : Nat} {x : ClS} (h : l[i]? = some x) : (clsOf l)[i]? = some x.c := by unfold clsOf; rw [List.getElem?_map, h]; rfl
end Go.Proofs.YtfnkjcodcoehcaaGreatDoor
namespace Go.Proofs.YtfnkjcodcoehcaaGreatDoor
open Go.RowKit
set_option linter.unusedVariables false
set_option linter.unusedSimpArgs false

/-- from w to w' only blocks of F were written, and what may be written then is of F or new -/
structure Grow (w : World) (F : Nat → Prop) (w' : World) (F' : Nat → Prop) : Prop where
  os : w'.os = w.os
  tape : w'.tape = w.tape
  output : w'.output = w.output
  size : w.heap.size ≤ w'.heap.size
  block : ∀ j, j < w.heap.size → ¬ F j → w'.heap[j]? = w.heap[j]?
  foot : ∀ k, F' k → F k ∨ w.heap.size ≤ k
theorem Grow.refl (w : World) (F : Nat → Prop) : Grow w F w F := ⟨rfl, rfl, rfl, Nat.le_refl _, fun _ _ _ => rfl, fun _ h => .inl h⟩
theorem Grow.trans {a b c : World} {F G H : Nat → Prop} (h : Grow a F b G) (h' : Grow b G c H) : Grow a F c H :=
  ⟨h'.os.trans h.os, h'.tape.trans h.tape, h'.output.trans h.output, Nat.le_trans h.size h'.size,
    fun j hj hn => (h'.block j (Nat.lt_of_lt_of_le hj h.size) (fun hg => by rcases h.foot j hg with h1 | h1; exact hn h1; omega)).trans (h.block j hj hn),
    fun k hk => by
      rcases h'.foot k hk with h1 | h1
      · exact h.foot k h1
      · have := h.size; exact .inr (by omega)⟩
theorem Grow.of {w w' : World} {F : Nat → Prop} (y : Below w.heap.size w w') : Grow w F w' F := ⟨y.os, y.tape, y.output, y.size, fun j hj _ => y.block j hj, fun _ h => .inl h⟩
theorem Grow.less {w w' : World} {F G H : Nat → Prop} (h : Grow w F w' G) (hs : ∀ k, H k → G k ∨ w.heap.size ≤ k) : Grow w F w' H :=
  ⟨h.os, h.tape, h.output, h.size, h.block, fun k hk => by rcases hs k hk with h1 | h1; exact h.foot k h1; exact .inr h1⟩
theorem Grow.below {w w' : World} {F G : Nat → Prop} {B : Nat} (h : Grow w F w' G) (hF : ∀ k, F k → B ≤ k) (hB : B ≤ w.heap.size) : Below B w w' :=
  ⟨h.os, h.tape, h.output, h.size, fun j hj => h.block j (by omega) (fun hf => by have := hF j hf; omega)⟩
/-- a block that is there and may not be written may not be written later -/
theorem Grow.out {w w' : World} {F G : Nat → Prop} (h : Grow w F w' G) {k : Nat} (hk : k < w.heap.size) (hn : ¬ F k) : ¬ G k := fun hg => by
  rcases h.foot k hg with h1 | h1
  · exact hn h1
  · omega
/-- the slice at A does not lie where may be written -/
def OffF (F : Nat → Prop) (A : Option Addr) (n : Nat) : Prop := ∀ ad, A = some ad → 0 < n → ¬ F ad.block
section
variable {α : Type} {enc : α → List Value} {size : Nat} {e : TypeId} {w w' : World} {F G : Nat → Prop} {A : Option Addr} {l : List α} {v : Value} {base : Nat}
theorem Rd.grow (h : Rd enc size w w.heap.size A l) (g : Grow w F w' G) (hn : OffF F A l.length) : Rd enc size w' w'.heap.size A l := fun hl => by
  obtain ⟨ad, e, hb, hc⟩ := h hl
  have hne := hn ad e hl
  exact ⟨ad, e, Nat.lt_of_lt_of_le hb g.size, fun i hi => (hc i hi).keep fun q hq => by
    have hqb : q.block = ad.block := by rw [hq, add_block]
    simp only [World.cell?]
    rw [hqb, g.block ad.block hb hne]⟩
theorem OffF.grow (h : OffF F A l.length) (hr : Rd enc size w w.heap.size A l) (g : Grow w F w' G) : OffF G A l.length := fun ad e hl => by
  obtain ⟨ad', e', hb, _⟩ := hr hl
  rw [e] at e'; injection e' with e'; subst e'
  exact g.out hb (h ad e hl)
theorem OffF.zero : OffF F A 0 := fun _ _ h => absurd h (Nat.lt_irrefl _)
theorem OffF.less {H : Nat → Prop} {n : Nat} (h : OffF F A n) (hs : ∀ k, H k → F k) : OffF H A n := fun ad e hl hk => h ad e hl (hs _ hk)
theorem Ow.grow (h : Ow enc size e w base v l) (g : Grow w F w' G) (hn : ∀ k, wb v = some k → ¬ F k) : Ow enc size e w' base v l :=
  h.keep fun k hk => g.block k (h.wb_lt k hk).2 (hn k hk)
/-- what lies below a bound that the footprint keeps to is off it -/
theorem offF_low {B : Nat} {n : Nat} (hF : ∀ k, F k → B ≤ k) (h : ∀ ad, A = some ad → 0 < n → ad.block < B) : OffF F A n := fun ad e hl hk => by
  have := hF _ hk; have := h ad e hl; omega
/-- what reads below B -/
theorem Rd.offF {B : Nat} (h : Rd enc size w B A l) (hF : ∀ k, F k → B ≤ k) : OffF F A l.length := offF_low hF fun ad e hl => by
  obtain ⟨ad', e', hb, _⟩ := h hl
  rw [e] at e'; injection e' with e'; subst e'; exact hb
/-- an own row is off a footprint that its block is not in -/
theorem Ow.offF {n c : Nat} (hs : ∀ a, (enc a).length = size) (h : Ow enc size e w base (.slice A n c) l) (hn : n = l.length) (hF : ∀ k, wb (.slice A n c) = some k → ¬ F k) : OffF F A n := fun ad ea hl hk => by
  subst ea
  have hc := h.form
  obtain ⟨A', c', hv, h1, _⟩ := hc
  injection hv with _ _ hcc
  subst hcc
  cases c with
  | zero => omega
  | succ c => exact hF _ rfl hk
end
/-- the own row's blocks and the write of an element's cell -/
theorem heap_setCell_self {w : World} {b j : Nat} {cs : Array Value} {t : TypeId} (h : w.heap[b]? = some (.cells cs t (0, 0))) (u : Value) : (w.setCell ⟨b, j, none⟩ u).heap[b]? = some (.cells (cs.setIfInBounds j u) t (0, 0)) := by
  have hb := blk_lt h
  have he : w.heap[b] = .cells cs t (0, 0) := by
    have := h
    rw [Array.getElem?_eq_getElem hb] at this
    injection this
  unfold World.setCell
  rw [Array.getElem?_eq_getElem (by simpa using hb), Array.getElem_modify]
  simp [he]
end Go.Proofs.YtfnkjcodcoehcaaGreatDoor
namespace Go.Proofs.YtfnkjcodcoehcaaGreatDoor
open Go.RowKit
set_option linter.unusedVariables false
set_option linter.unusedSimpArgs false

section
variable {α : Type} {enc : α → List Value} {size : Nat} {e : TypeId} {w : World} {base : Nat} {l : List α}
theorem flat_set (hs : ∀ a, (enc a).length = size) : ∀ (l : List α) (i j : Nat) (u : Value) (a' : α) (h : i < l.length), j < size → enc a' = (enc l[i]).set j u → (l.set i a').flatMap enc = (l.flatMap enc).set (i * size + j) u
  | [], i, j, u, a', h, _, _ => absurd h (by simp)
  | a :: l, 0, j, u, a', _, hj, he => by
    simp only [List.set_cons_zero, List.flatMap_cons, Nat.zero_mul, Nat.zero_add]
    rw [he, List.set_append_left _ _ (by rw [hs]; exact hj)]
    rfl
  | a :: l, i + 1, j, u, a', h, hj, he => by
    have ih := flat_set hs l i j u a' (by simpa using h) hj (by simpa using he)
    simp only [List.set_cons_succ, List.flatMap_cons]
    rw [ih, List.set_append_right _ _ (by rw [hs, Nat.add_mul]; omega), hs]
    congr 2
    rw [Nat.add_mul]; omega
theorem Ow.setEl (hs : ∀ a, (enc a).length = size) {g n c i j : Nat} {u : Value} {a' : α} (h : Ow enc size e w base (.slice (some ⟨g, 0, none⟩) n c) l) (hi : i < l.length) (hj : j < size)
    (he : enc a' = (enc l[i]).set j u) : Ow enc size e (w.setCell ⟨g, i * size + j, none⟩ u) base (.slice (some ⟨g, 0, none⟩) n c) (l.set i a') := by
  obtain ⟨g', cur, hA, hn, hbg, hg, hlc, hcm, hcur, htake⟩ := h.row (by omega)
  injection hA with hA
  injection hA with hA _ _
  subst hA
  refine .inr ⟨flat_len hs _, .inr ⟨g, c, cur.setIfInBounds (i * size + j) u, by rw [List.length_set, hn], hbg, heap_setCell_self hg u, by rw [List.length_set]; exact hlc, hcm, by simpa using hcur, ?_⟩⟩
  rw [flat_set hs l i j u a' hi hj he, ← htake]
  simp only [Array.toList_setIfInBounds, List.length_set]
  rw [List.take_set]
end
end Go.Proofs.YtfnkjcodcoehcaaGreatDoor
namespace Go.Proofs.YtfnkjcodcoehcaaGreatDoor
open Go.RowKit
set_option linter.unusedVariables false

/-- a call by its contract, at a step of a region that draws -/
theorem step_fn {P : Program} {ops : Array Oper} {o : Oper} {a : Act} {w : World} {K : Act → World → Prop} {Q : Exit → Act → World → Prop} {E : Prop} {R : Ending → World → Prop}
    (hg : o.guard = none) (k : Nat) (args : List Operand) (tys : Array TypeId) (hop : o.op = Op.call { callee := .value (.func k), args := args.toArray, argTypes := tys })
    (fn : Func) (hf : P.funcs[k]? = some fn) (hn0 : decide (fn.name = "runtime.NumGoroutine") = false) (hb0 : fn.body.isSome = true)
    (vs : List Value) (hv : args.map a.eval = vs) (hc : Calls P k vs.toArray w R) (h : ∀ e w', R e w' → ∃ v, e = .returned v ∧ K (a.put o.dst v) w') :
    if Region.wanted o (yielded ops a.tmps) = true then Oper.wp P o a w K Q else E := by
  have hn : ¬ fn.name = "runtime.NumGoroutine" := of_decide_eq_false hn0
  have hb : ¬ fn.body = none := fun e => by rw [e] at hb0; cases hb0
  have hw : Region.wanted o (yielded ops a.tmps) = true := by simp [Region.wanted, hg]
  rw [if_pos hw]
  unfold Oper.wp
  have he : a.eval (.func k) = .func (.func k) #[] #[] := rfl
  simp [execOp, hop, resolve, invoke, Result.andThen, he, hv, Deferred.ofValue, callFunc, hf, hn, hb]
  unfold Oper.upon
  refine hc.mono ?_
  intro e w' hr
  obtain ⟨v, rfl, hk⟩ := h e w' hr
  exact hk
end Go.Proofs.YtfnkjcodcoehcaaGreatDoor
namespace Go.Proofs.YtfnkjcodcoehcaaGreatDoor
open Go.RowKit
set_option linter.unusedVariables false
set_option linter.unusedSimpArgs false

/-- a row of ops as an element of a row of rows -/
structure RwS where
  A : Option Addr
  l : List OpS
  c : Nat
def RwS.enc (x : RwS) : List Value := [.slice x.A x.l.length x.c]
end Go.Proofs.YtfnkjcodcoehcaaGreatDoor
namespace Go.Proofs.YtfnkjcodcoehcaaGreatDoor
open Go.RowKit
set_option linter.unusedVariables false
set_option linter.unusedSimpArgs false

/-- the parts of an op read, and lie where is not written -/
def PartF (w : World) (F : Nat → Prop) (x : OpS) : Prop :=
  (RdI32 w w.heap.size x.Ar x.o.r ∧ OffF F x.Ar x.o.r.length) ∧ (RdAt w w.heap.size x.As x.o.s ∧ OffF F x.As x.o.s.length) ∧ (RdCh w w.heap.size x.Ap x.o.p ∧ OffF F x.Ap x.o.p.length)
theorem PartF.grow {w w' : World} {F G : Nat → Prop} {x : OpS} (h : PartF w F x) (g : Grow w F w' G) : PartF w' G x :=
  ⟨⟨h.1.1.grow g h.1.2, h.1.2.grow h.1.1 g⟩, ⟨h.2.1.1.grow g h.2.1.2, h.2.1.2.grow h.2.1.1 g⟩, ⟨h.2.2.1.grow g h.2.2.2, h.2.2.2.grow h.2.2.1 g⟩⟩
theorem PartF.less {w : World} {F G : Nat → Prop} {x : OpS} (h : PartF w F x) (hs : ∀ k, G k → F k) : PartF w G x :=
  ⟨⟨h.1.1, h.1.2.less hs⟩, ⟨h.2.1.1, h.2.1.2.less hs⟩, ⟨h.2.2.1, h.2.2.2.less hs⟩⟩
/-- the runes of the last insert are the maker's own -/
def LastF (w : World) (F : Nat → Prop) (b : Nat) (vd vi : Value) (x : OpS) : Prop :=
  OwI32 w 0 (.slice x.Ar x.o.r.length x.cr) x.o.r ∧ (∀ k, wb (.slice x.Ar x.o.r.length x.cr) = some k → F k ∧ k ≠ b ∧ wb vd ≠ some k ∧ wb vi ≠ some k) ∧
  (RdAt w w.heap.size x.As x.o.s ∧ OffF F x.As x.o.s.length) ∧ (RdCh w w.heap.size x.Ap x.o.p ∧ OffF F x.Ap x.o.p.length)
/-- what the parts of the inserts are -/
def InsF (w : World) (F : Nat → Prop) (b : Nat) (vd vi : Value) (I : List OpS) : Prop :=
  (∀ x ∈ I.dropLast, PartF w F x) ∧ ∀ x, I.getLast? = some x → LastF w F b vd vi x
/-- block b holds a maker m; F: what it may write -/
def Mkr (w : World) (F : Nat → Prop) (b : Nat) (m : Mk) : Prop :=
  ∃ (vd vi : Value) (D I : List OpS), w.heap[b]? = some (.cells #[vd, vi, .int .i64 m.gone] 189 (0, 0)) ∧
    OwOs w 0 vd D ∧ OwOs w 0 vi I ∧ osOf D = m.done ∧ osOf I = m.ins ∧
    (∀ k, F k → k < w.heap.size) ∧ F b ∧ (∀ k, wb vd = some k → F k ∧ k ≠ b ∧ wb vi ≠ some k) ∧ (∀ k, wb vi = some k → F k ∧ k ≠ b) ∧
    (∀ x ∈ D, PartF w F x) ∧ InsF w F b vd vi I
theorem Mkr.lt {w : World} {F : Nat → Prop} {b : Nat} {m : Mk} (h : Mkr w F b m) : ∀ k, F k → k < w.heap.size := by
  obtain ⟨_, _, _, _, _, _, _, _, _, h1, _⟩ := h; exact h1
/-- a maker stays while nothing of it is written -/
theorem Mkr.below {w w' : World} {F : Nat → Prop} {b : Nat} {m : Mk} (h : Mkr w F b m) (y : Below w.heap.size w w') : Mkr w' F b m := by
  obtain ⟨vd, vi, D, I, h1, h2, h3, h4, h5, h6, h7, h8, h9, h10, h11, h12⟩ := h
  have g := Grow.of (F := F) y
  refine ⟨vd, vi, D, I, (y.block b (lt_of_some h1)).trans h1, h2.below y (Nat.le_refl _), h3.below y (Nat.le_refl _), h4, h5, fun k hk => Nat.lt_of_lt_of_le (h6 k hk) y.size, h7, h8, h9, fun x hx => (h10 x hx).grow g, fun x hx => (h11 x hx).grow g, fun x hx => ?_⟩
  obtain ⟨e1, e2, e3, e4⟩ := h12 x hx
  exact ⟨e1.below y (Nat.le_refl _), e2, ⟨e3.1.grow g e3.2, e3.2.grow e3.1 g⟩, ⟨e4.1.grow g e4.2, e4.2.grow e4.1 g⟩⟩

theorem setCell_below {w : World} (b j : Nat) (u : Value) {F : Nat → Prop} (hF : F b) (t : TypeId) : Grow w F (w.setCell ⟨b, j, none⟩ u) F :=
  ⟨rfl, rfl, rfl, by simp [World.setCell], fun k _ hk => Below.heap_setCell w ⟨b, j, none⟩ u k (fun e => hk (e ▸ hF)), fun k h => .inl h⟩
theorem Mkr.box {w : World} {F : Nat → Prop} {b : Nat} {m : Mk} (h : Mkr w F b m) : ∃ vd vi : Value, w.heap[b]? = some (.cells #[vd, vi, .int .i64 m.gone] 189 (0, 0)) ∧ F b := by
  obtain ⟨vd, vi, _, _, h1, _, _, _, _, _, h7, _⟩ := h
  exact ⟨vd, vi, h1, h7⟩
theorem box_thaw {w : World} {b : Nat} {cs : Array Value} {t : TypeId} (h : w.heap[b]? = some (.cells cs t (0, 0))) (j : Nat) : w.frozen? ⟨b, j, none⟩ = false := by simp [World.frozen?, h]

end Go.Proofs.YtfnkjcodcoehcaaGreatDoor
namespace Go.Proofs.YtfnkjcodcoehcaaGreatDoor
open Go.RowKit
set_option linter.unusedVariables false
set_option linter.unusedSimpArgs false

set_option maxRecDepth 100000 in
set_option maxHeartbeats 400000 in
theorem indexPart_any (b1 b2 : Nat) (pr : Ch → Bool) (A : Option Addr) (n c : Nat) (l : List Ch) (w : World) (hn : n = l.length) (h : RdCh w w.heap.size A l) (hb : n ≤ 140737488355328)
    (hcl : ∀ (x1 x2 x3 x4 : Int) (x6 : Bool) (x5 : ByteArray) (w' : World), Below w.heap.size w w' → Calls Tryz.prog 169 #[.agg #[.int .i64 x1, .bool x6, .int .u8 x2, .int .i64 x3, .int .u64 x4, .string x5], .pointer (some ⟨b1, 0, none⟩), .pointer (some ⟨b2, 0, none⟩)] w' fun e w'' => e = .returned (.bool (pr ⟨x1, x6, ⟨x2, x3, x4, x5⟩⟩)) ∧ Below w'.heap.size w' w'') :
    Calls Tryz.prog 211 #[.slice A n c, .func (.func 169) #[] #[.pointer (some ⟨b1, 0, none⟩), .pointer (some ⟨b2, 0, none⟩)]] w fun e w' => ∃ i : Int, e = .returned (.int .i64 i) ∧ IdxOut pr l i ∧ Below w.heap.size w w' := by
  have N := Lib.hid hn
  have HCL := Lib.hid hcl
  clear hn hcl
  go_enter Tryz.func211, Tryz.ntmps211
  go_wp2_with (fail)
  go_loopg [8] n (fun g iv wr => ∃ i : Nat, i ≤ n ∧ g = n - i ∧ iv = .int .i64 i ∧ Below w.heap.size w wr ∧ Hid (∀ x ∈ l.take i, pr x = false))
  case atStart => exact ⟨0, by omega, rfl, rfl, Below.refl _ _, Lib.hid (by simp)⟩
  case round =>
    obtain ⟨i, hi, hg, rfl, hbw, HI⟩ := hrel
    have HG := Lib.hid hg
    clear hg
    by_cases hlt : i < n
    · have hil : i < l.length := by have := N.out; omega
      obtain ⟨ad, x, rfl, _, _, hx, hc1⟩ := (h.below hbw (Nat.le_refl _)).el hil
      have HT : Hid (l.take (i + 1) = l.take i ++ [x]) := Lib.hid (by rw [List.take_add_one, hx]; rfl)
      have HX := Lib.hid hx
      clear hx hil
      obtain ⟨x1, x6, x2, x3, x4, x5⟩ := x
      obtain ⟨r0, r1, r2, r3, r4, r5⟩ := ch_cells hc1
      clear hc1
      by_cases hp : pr ⟨x1, x6, ⟨x2, x3, x4, x5⟩⟩ = true
      · go_wp2_with (go_at_call 169; refine (HCL.out _ _ _ _ _ _ _ hbw).mono ?_; rintro e w' ⟨rfl, hb'⟩)
        go_ret
        exact ⟨i, rfl, .inr ⟨i, rfl, by have := N.out; omega, HI.out, _, HX.out, hp⟩, hbw.trans (hb'.mono hbw.size)⟩
      · have hp' : pr ⟨x1, x6, ⟨x2, x3, x4, x5⟩⟩ = false := by simpa using hp
        clear hp
        go_wp2_with (go_at_call 169; refine (HCL.out _ _ _ _ _ _ _ hbw).mono ?_; rintro e w' ⟨rfl, hb'⟩)
        have hbw' := hbw.trans (hb'.mono hbw.size)
        go_roundg (n - (i + 1))
        case measure => have := HG.out; omega
        case rel =>
          refine ⟨i + 1, by omega, rfl, by go_num, hbw', Lib.hid ?_⟩
          intro y hy
          rw [HT.out] at hy
          rcases List.mem_append.1 hy with hy | hy
          · exact HI.out y hy
          · simp at hy; rw [hy]; exact hp'
    · go_wp2_with (fail)
      go_ret
      refine ⟨-1, rfl, .inl ⟨rfl, ?_⟩, hbw⟩
      have h1 := HI.out
      rw [List.take_of_length_le (by have := N.out; omega)] at h1
      exact h1

set_option maxRecDepth 100000 in
set_option maxHeartbeats 1000000 in
theorem deletePart_any (b1 b2 : Nat) (pr : Ch → Bool) (A : Option Addr) (n c base : Nat) (l : List Ch) (w : World) (hown : OwCh w base (.slice A n c) l) (hbase : base ≤ w.heap.size) (hb : n ≤ 100000000) (hn : n = l.length)
    (hcl : ∀ (x1 x2 x3 x4 : Int) (x6 : Bool) (x5 : ByteArray) (w' : World), Below base w w' → Calls Tryz.prog 169 #[.agg #[.int .i64 x1, .bool x6, .int .u8 x2, .int .i64 x3, .int .u64 x4, .string x5], .pointer (some ⟨b1, 0, none⟩), .pointer (some ⟨b2, 0, none⟩)] w' fun e w'' => e = .returned (.bool (pr ⟨x1, x6, ⟨x2, x3, x4, x5⟩⟩)) ∧ Below w'.heap.size w' w'') :
    Calls Tryz.prog 167 #[.slice A n c, .func (.func 169) #[] #[.pointer (some ⟨b1, 0, none⟩), .pointer (some ⟨b2, 0, none⟩)]] w fun e w' =>
      ∃ A' c', e = .returned (.slice A' (l.filter (fun x => !pr x)).length c') ∧ OwCh w' base (.slice A' (l.filter (fun x => !pr x)).length c') (l.filter (fun x => !pr x)) ∧ Below base w w' := by
  have N := Lib.hid hn
  have HCL := Lib.hid hcl
  have hcap := hown.cap
  have hlc : n ≤ c := by rw [hn]; exact hcap.1
  have hcm : c ≤ 2 ^ 63 - 1 := hcap.2
  clear hn hcl hcap
  generalize hR : l.filter (fun x => !pr x) = R
  have HR := Lib.hid hR
  clear hR
  go_enter Tryz.func167, Tryz.ntmps167
  go_wp2_with (go_at_call 211; refine Hid.out ?_)
  refine Lib.hid ?_
  refine (indexPart_any b1 b2 pr A n c l w N.out (hown.rd Ch.enc_len) (by omega) (fun x1 x2 x3 x4 x6 x5 w' hb' => HCL.out x1 x2 x3 x4 x6 x5 w' (hb'.mono hbase))).mono ?_
  rintro e w1 ⟨ix, rfl, hix, hb1⟩
  have hbw1 : Below base w w1 := hb1.mono hbase
  have hown1 := hown.below hb1 (Nat.le_refl _)
  have hbase1 : base ≤ w1.heap.size := Nat.le_trans hbase hb1.size
  clear hown hb1
  rcases hix with ⟨rfl, hall⟩ | ⟨i0, rfl, hi0, hpre, x0, hx0, hpx0⟩
  · have hRl : R = l := by
      rw [← HR.out]
      exact List.filter_eq_self.2 (fun x hx => by simp [hall x hx])
    have HRL := Lib.hid hRl
    clear hRl hall
    go_wp2_with (fail)
    go_ret
    refine ⟨A, c, ?_, ?_, hbw1⟩
    · rw [HRL.out, ← N.out]; rfl
    · rw [HRL.out, ← N.out]; exact hown1
  · have hne : ((i0 : Int) == -1) = false := beq_eq_false_iff_ne.2 (by omega)
    have hi0n : i0 < n := by rw [N.out]; exact hi0
    have hst : Hid (l.take i0 = (l.take (i0 + 1)).filter (fun x => !pr x)) := Lib.hid (by
      rw [List.take_add_one, hx0, List.filter_append, List.filter_eq_self.2 (fun x hx => by simp [hpre x hx])]
      simp [hpx0])
    clear hpre hx0 hpx0 hi0
    go_wp2_with (fail)
    go_loopg [5, 6] (n - (i0 + 1)) (fun g iv jv wr => ∃ (i j : Nat) (m : List Ch), i < j ∧ j ≤ n ∧ g = n - j ∧ iv = .int .i64 i ∧ jv = .int .i64 j ∧ OwCh wr base (.slice A n c) m ∧ base ≤ wr.heap.size ∧ Below base w wr ∧
      Hid (m.length = n ∧ m.drop j = l.drop j ∧ m.take i = (l.take j).filter (fun x => !pr x)))
    case atStart => exact ⟨i0, i0 + 1, l, by omega, by omega, rfl, rfl, by go_num, hown1, hbase1, hbw1, Lib.hid ⟨N.out.symm, rfl, hst.out⟩⟩
    case round =>
      clear hown1 hbase1 hbw1 hst hne hi0n
      obtain ⟨i, j, m, hij, hj, hg, rfl, rfl, hown, hbs, hbw, HI⟩ := hrel
      have HG := Lib.hid hg
      clear hg
      by_cases hlt : j < n
      · have hjm : j < m.length := by have := HI.out.1; omega
        obtain ⟨ad, x, rfl, _, hdm, hx, hc1⟩ := (hown.rd Ch.enc_len).el hjm
        have HX : Hid (l.take (j + 1) = l.take j ++ [x] ∧ m.drop (j + 1) = l.drop (j + 1)) := Lib.hid (by
          obtain ⟨h1, h2, h3⟩ := HI.out
          have h4 : l[j]? = some x := by
            have := congrArg (fun t => t[0]?) h2
            simp only [List.getElem?_drop, Nat.add_zero] at this
            rw [← this, hx]
          refine ⟨by rw [List.take_add_one, h4]; rfl, ?_⟩
          have := congrArg (fun t => t.drop 1) h2
          simpa [List.drop_drop] using this)
        clear hdm hx hjm
        obtain ⟨x1, x6, x2, x3, x4, x5⟩ := x
        obtain ⟨r0, r1, r2, r3, r4, r5⟩ := ch_cells hc1
        clear hc1
        have hbx0 := heap_alloc_new wr (.cells #[.int .i64 x1, .bool x6, .int .u8 x2, .int .i64 x3, .int .u64 x4, .string x5] 77)
        have hbwA := hbw.alloc hbs (.cells #[.int .i64 x1, .bool x6, .int .u8 x2, .int .i64 x3, .int .u64 x4, .string x5] 77)
        have hownA := hown.alloc (.cells #[.int .i64 x1, .bool x6, .int .u8 x2, .int .i64 x3, .int .u64 x4, .string x5] 77)
        have hsz := size_alloc' wr (.cells #[.int .i64 x1, .bool x6, .int .u8 x2, .int .i64 x3, .int .u64 x4, .string x5] 77)
        have hwbA : ∀ k, wb (.slice (some ad) n c) = some k → k < wr.heap.size := fun k hk => (hown.wb_lt k hk).2
        by_cases hp : pr ⟨x1, x6, ⟨x2, x3, x4, x5⟩⟩ = true
        · have HBX0 := Lib.hid hbx0
          have HWB := Lib.hid hwbA
          have HSZ := Lib.hid hsz
          clear hbx0 hwbA hsz
          go_wp2_with (go_at_call 169; refine (HCL.out _ _ _ _ _ _ _ hbwA).mono ?_; rintro e w2 ⟨rfl, hb2⟩)
          have hbw2 : Below base w w2 := hbwA.trans (hb2.mono (by rw [← HSZ.out]; omega))
          have hown2 := hownA.below hb2 (Nat.le_refl _)
          have hbs2 : base ≤ w2.heap.size := by have := hb2.size; rw [← HSZ.out] at this; omega
          go_roundg (n - (j + 1))
          case measure => have := HG.out; omega
          case rel =>
            obtain ⟨h1, h2, h3⟩ := HI.out
            obtain ⟨h4, h5⟩ := HX.out
            exact ⟨i, j + 1, m, by omega, by omega, rfl, rfl, by go_num, hown2, hbs2, hbw2, Lib.hid ⟨h1, h5, by rw [h4, List.filter_append, h3]; simp [hp]⟩⟩
        · have hp' : pr ⟨x1, x6, ⟨x2, x3, x4, x5⟩⟩ = false := by simpa using hp
          clear hp
          have HBX0 := Lib.hid hbx0
          have HWB := Lib.hid hwbA
          have HSZ := Lib.hid hsz
          clear hbx0 hwbA hsz
          go_wp2_with (go_at_call 169; refine Hid.out ?_)
          refine Lib.hid ?_
          refine (HCL.out _ _ _ _ _ _ _ hbwA).mono ?_
          rintro e w2 ⟨rfl, hb2⟩
          have hbw2 : Below base w w2 := hbwA.trans (hb2.mono (by rw [← HSZ.out]; omega))
          have hown2 := hownA.below hb2 (Nat.le_refl _)
          have hbs2 : base ≤ w2.heap.size := by have := hb2.size; rw [← HSZ.out] at this; omega
          have hbx2 := (hb2.block wr.heap.size (by rw [← HSZ.out]; omega)).trans HBX0.out
          obtain ⟨b0, b1, b2, b3, b4, b5⟩ := box_ch hbx2
          have him : i < m.length := by have := HI.out.1; omega
          have hin : i < n := by omega
          clear hbx2
          obtain ⟨i1, hi1, hz1, hz2, hz3⟩ := info_parts Tryz.infoCh
          have I1 := Lib.hid hi1
          have Z2 := Lib.hid hz2
          clear hi1 hz1 hz2 hz3 hownA hbwA
          go_wp2_with (refine wpList_set_own rfl 77 (.tmp 33) (.tmp 32) rfl rfl i1 I1.out Z2.out Ch.enc_len Ch.enc_one hown2 him ⟨x1, x6, ⟨x2, x3, x4, x5⟩⟩ (cs := #[.int .i64 x1, .bool x6, .int .u8 x2, .int .i64 x3, .int .u64 x4, .string x5]) rfl (p := ad.add (i * 6)) rfl rfl rfl ?_; intro w3 hown3 hg3)
          have hbw3 : Below base w w3 := hbw2.grown hg3 hbs2 (fun k hk => (hown2.wb_lt k hk).1)
          have hbs3 : base ≤ w3.heap.size := Nat.le_trans hbs2 hg3.size
          go_roundg (n - (j + 1))
          case measure => have := HG.out; omega
          case rel =>
            obtain ⟨h1, h2, h3⟩ := HI.out
            obtain ⟨h4, h5⟩ := HX.out
            refine ⟨i + 1, j + 1, m.set i ⟨x1, x6, ⟨x2, x3, x4, x5⟩⟩, by omega, by omega, rfl, by go_num, by go_num, hown3, hbs3, hbw3, Lib.hid ⟨by rw [List.length_set]; exact h1, by rw [List.drop_set_of_lt (by omega)]; exact h5, ?_⟩⟩
            rw [h4, List.filter_append, List.take_add_one, List.getElem?_set_self him, List.take_set_of_le (Nat.le_refl i), h3]
            simp [hp']
      · have hjn : j = n := by omega
        have hm0 := HI.out
        obtain ⟨i1, hi1, hz1, hz2, hz3⟩ := info_parts Tryz.infoCh
        have I1 := Lib.hid hi1
        have Z1 := Lib.hid hz1
        have hmR : m.take i = R := by
          obtain ⟨h1, h2, h3⟩ := hm0
          rw [h3, ← HR.out, List.take_of_length_le (by have := N.out; omega)]
        have him : i ≤ m.length := by have := hm0.1; omega
        have hiR : i = R.length := by rw [← hmR, List.length_take, Nat.min_eq_left him]
        have HIR := Lib.hid hiR
        have HMR := Lib.hid hmR
        have HML : Hid (m.length = n) := Lib.hid hm0.1
        clear hi1 hz1 hz2 hz3 hmR hiR hm0 hjn
        rcases Nat.lt_or_ge i c with hci | hci
        · have hne : ¬ c = i := by omega
          go_wp2_with (refine wpList_clear_own (i := i) (X := A.map (fun x => x.add (i * 6))) rfl (.tmp 38) _ rfl rfl Tryz.slCh i1 _ I1.out Z1.out rfl (by intro u hu; exact Ch.enc_one ⟨0, false, V.zero⟩ u hu) Ch.enc_len hown him (by exact .inr rfl) (by rw [HML.out]) rfl ?_; intro w3 hown3 hg3)
          have hbw3 : Below base w w3 := hbw.grown hg3 hbs (fun k hk => (hown.wb_lt k hk).1)
          rw [HMR.out] at hown3
          have hri := HIR.out
          subst hri
          go_ret
          exact ⟨A, c, rfl, hown3, hbw3⟩
        · go_wp2_with (refine wpList_clear_own (i := i) (X := A) rfl (.tmp 38) _ rfl rfl Tryz.slCh i1 _ I1.out Z1.out rfl (by intro u hu; exact Ch.enc_one ⟨0, false, V.zero⟩ u hu) Ch.enc_len hown him (by have := HML.out; left; omega) (by rw [HML.out]) rfl ?_; intro w3 hown3 hg3)
          have hbw3 : Below base w w3 := hbw.grown hg3 hbs (fun k hk => (hown.wb_lt k hk).1)
          rw [HMR.out] at hown3
          have hri := HIR.out
          subst hri
          go_ret
          exact ⟨A, c, rfl, hown3, hbw3⟩
end Go.Proofs.YtfnkjcodcoehcaaGreatDoor
