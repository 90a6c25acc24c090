/- Merged texts: StayLaw, OpTypes, SliceCl, Foot, OwSet, StepFn, MkCat, Mkr, EachW, ApplyPlain, ApplyOk, ApplyW, FitNf, MkGap. -/
import Derived.Test.YtfnkjcodcoehcaaGreatDoorV9
import Derived.Test.YtfnkjcodcoehcaaGreatDoorV7
import Derived.Lib.Overlaps
import Derived.Test.YtfnkjcodcoehcaaGreatDoorV10
import Derived.Test.YtfnkjcodcoehcaaGreatDoorV8
import Derived.IntWalk
import Derived.Test.YtfnkjcodcoehcaaGreatDoorV4
import Derived.Test.YtfnkjcodcoehcaaGreatDoorV1
import Derived.Deep.RegionLaw
import Derived.KernelRfl
import Derived.Lib.AppendZerosOnto
import Derived.Lib.Walk
import Derived.Lib.SliceRun
import Derived.Deep.RegionHeld3
import Derived.RangeFuncBox
import Derived.RangeFuncCalls
import Derived.RangeFuncLeaves
import Derived.Shelf.Abstract
import Derived.OwnWalkIn
import Derived.TacticsInMore
import Derived.LoopNIn
import Derived.LoopIn
import Derived.Sort.LoopGhostIn
import Derived.Sort.QuietIn
import Derived.BigRegionIn
import Derived.Laws.Rows
import Derived.Test.YtfnkjcodcoehcaaGreatDoorV2
namespace Go.Proofs.YtfnkjcodcoehcaaGreatDoor
set_option linter.unusedVariables false
set_option linter.unusedSimpArgs false

section
variable {l : List Ky} {a b : List At} {p q : List Ch}
theorem vs_filter (f : Ch → Bool) (vp : okVs p) : okVs (p.filter f) := fun c hc => vp c (List.mem_filter.1 hc).1
theorem stay_filter (f : Ch → Bool) (hp : mayP l p = 0) : mayP l (p.filter f) = 0 := by
  obtain ⟨p0, p1, p2, p3⟩ := mayP_zero hp
  refine mayP_of (by have := List.length_filter_le f p; omega) (riseC_srt.2 ((riseC_srt.1 p1).filter Ch.key f)) (fun c hc => ?_) (fun c hc => ?_)
  · exact List.all_eq_true.1 p2 c (List.mem_filter.1 hc).1
  · exact List.all_eq_true.1 p3 c (List.mem_filter.1 hc).1
end
open Go.RowKit
set_option linter.unusedVariables false
set_option linter.unusedSimpArgs false

theorem OpS.enc_one (x : OpS) : ∀ u ∈ x.enc, u.oneCell' = true := by intro u hu; simp [OpS.enc] at hu; rcases hu with rfl | rfl | rfl | rfl | rfl <;> rfl
abbrev OwOs := @Ow OpS OpS.enc 5 50
theorem Tryz.infoOp : (Tryz.prog.info? 50).map (fun i => (i.zero, i.size, i.bytes)) = some (some (.agg #[.int .u8 0, .int .i64 0, .slice none 0 0, .slice none 0 0, .slice none 0 0]), 5, 88) := by kernel_rfl
theorem Tryz.slOp : Tryz.prog.underlying 44 = some (.slice 50) := by kernel_rfl
section
variable {ops : Array Oper} {rest : List Oper} {o : Oper} {a : Act} {Q : Exit → Act → World → Prop} {w : World} {base : Nat} {v : Value} {K : Act → World → Prop} {E : Prop}
theorem app_os {l m : List OpS} (hgd : o.guard = none) (s x : Operand)
    (ho : o.op = .call { callee := .builtin .append, args := #[s, x], argTypes := #[44, 44] })
    (hsv : a.eval s = v) (hown : OwOs w base v l) (B : Nat) (A : Option Addr) (c n : Nat) (hx : a.eval x = .slice A n c) (hn : n = m.length) (hr : RdOs w B A m)
    (hb : l.length + m.length ≤ 1000000000000) (hbase : base ≤ w.heap.size)
    (h : ∀ v' w', OwOs w' base v' (l ++ m) → w.grownBy w' (wb v) → (v' = v ∧ w' = w ∨ wb v' = wb v ∨ wb v' = some w.heap.size) → wpList Tryz.prog ops Q rest (a.put o.dst v') w') : wpList Tryz.prog ops Q (o :: rest) a w := by
  obtain ⟨i0, hi0, hz0, hz1, hz2⟩ := info_parts Tryz.infoOp
  exact wpList_app hgd s x _ ho i0 _ 88 Tryz.slOp hi0 hz0 hz1 hz2 rfl (by omega) OpS.enc_len OpS.enc_one hsv hown B A c n hx hn hr (by simp only [maxLen]; omega) (by omega) hbase h
theorem step_os {l m : List OpS} (hgd : o.guard = none) (s x : Operand)
    (ho : o.op = .call { callee := .builtin .append, args := #[s, x], argTypes := #[44, 44] })
    (hsv : a.eval s = v) (hown : OwOs w base v l) (B : Nat) (A : Option Addr) (c n : Nat) (hx : a.eval x = .slice A n c) (hn : n = m.length) (hr : RdOs w B A m)
    (hb : l.length + m.length ≤ 1000000000000) (hbase : base ≤ w.heap.size)
    (h : ∀ v' w', OwOs w' base v' (l ++ m) → w.grownBy w' (wb v) → (v' = v ∧ w' = w ∨ wb v' = wb v ∨ wb v' = some w.heap.size) → K (a.put o.dst v') w') :
    if Region.wanted o (yielded ops a.tmps) = true then Oper.wp Tryz.prog o a w K Q else E := by
  have hw : Region.wanted o (yielded ops a.tmps) = true := by simp [Region.wanted, hgd]
  rw [if_pos hw]
  obtain ⟨i0, hi0, hz0, hz1, hz2⟩ := info_parts Tryz.infoOp
  exact wp_app s x _ ho i0 _ 88 Tryz.slOp hi0 hz0 hz1 hz2 rfl (by omega) OpS.enc_len OpS.enc_one hsv hown B A c n hx hn hr (by simp only [maxLen]; omega) (by omega) hbase h
theorem step_i32 {l m : List Int} (hgd : o.guard = none) (s x : Operand)
    (ho : o.op = .call { callee := .builtin .append, args := #[s, x], argTypes := #[47, 47] })
    (hsv : a.eval s = v) (hown : OwI32 w base v l) (B : Nat) (A : Option Addr) (c n : Nat) (hx : a.eval x = .slice A n c) (hn : n = m.length) (hr : RdI32 w B A m)
    (hb : l.length + m.length ≤ 1000000000000) (hbase : base ≤ w.heap.size)
    (h : ∀ v' w', OwI32 w' base v' (l ++ m) → w.grownBy w' (wb v) → (v' = v ∧ w' = w ∨ wb v' = wb v ∨ wb v' = some w.heap.size) → K (a.put o.dst v') w') :
    if Region.wanted o (yielded ops a.tmps) = true then Oper.wp Tryz.prog o a w K Q else E := by
  have hw : Region.wanted o (yielded ops a.tmps) = true := by simp [Region.wanted, hgd]
  rw [if_pos hw]
  obtain ⟨i0, hi0, hz0, hz1, hz2⟩ := info_parts Tryz.infoI32
  exact wp_app s x _ ho i0 _ 4 Tryz.slI32 hi0 hz0 hz1 hz2 rfl (by omega) encI32_len encI32_one hsv hown B A c n hx hn hr (by simp only [maxLen]; omega) (by omega) hbase h
end
def NewOs (r : List OpS) (w : World) (e : Ending) (w' : World) : Prop :=
  ∃ A c, e = .returned (.slice A r.length c) ∧ OwOs w' w.heap.size (.slice A r.length c) r ∧ Below w.heap.size w w'
def NewI32 (r : List Int) (w : World) (e : Ending) (w' : World) : Prop :=
  ∃ A c, e = .returned (.slice A r.length c) ∧ OwI32 w' w.heap.size (.slice A r.length c) r ∧ Below w.heap.size w w'
set_option maxRecDepth 100000 in
set_option maxHeartbeats 400000 in
theorem cloneOs_any (A : Option Addr) (n c : Nat) (l : List OpS) (w : World) (hn : n = l.length) (h : RdOs w w.heap.size A l) (hb : n ≤ 100000000) :
    Calls Tryz.prog 205 #[.slice A n c] w (NewOs l w) := by
  cases A with
  | none =>
    have hl : l = [] := by
      cases l with
      | nil => rfl
      | cons a l => obtain ⟨ad, e, _⟩ := h (by simp); cases e
    subst hl
    have hn0 : n = 0 := by simpa using hn
    subst hn0
    clear hn
    have hq := fun (w : World) => Lib.run_eql_slice_nil (P := Tryz.prog) w 44 50 none 0 c 0 0 Tryz.slOp
    go_enter Tryz.func205, Tryz.ntmps205
    go_wp2_with (fail)
    go_ret
    exact ⟨none, 0, rfl, Ow.nil _ _, Below.refl _ _⟩
  | some ad =>
    have N := Lib.hid hn
    clear hn
    have hq := fun (w : World) => Lib.run_eql_slice_nil (P := Tryz.prog) w 44 50 (some ad) n c 0 0 Tryz.slOp
    go_enter Tryz.func205, Tryz.ntmps205
    go_wp2_with (first
      | (at_builtin; refine app_os (m := l) rfl (.tmp 5) (.tmp 6) rfl rfl (by exact Ow.empty _ w.heap.size _) _ _ _ _ rfl N.out (by exact h.ext (ext_alloc w _)) (by have := N.out; simp only [List.length_nil]; omega) (by simp) ?_; intro v' w' hown' hgr hv'))
    rw [List.nil_append] at hown'
    obtain ⟨A', c', rfl, _, _⟩ := hown'.form
    go_ret
    exact ⟨A', c', rfl, hown', (ext_alloc w _).grown hgr (by simp) (fun k hk => by cases hk)⟩

set_option maxRecDepth 100000 in
set_option maxHeartbeats 400000 in
theorem cloneI32_any (A : Option Addr) (n c : Nat) (l : List Int) (w : World) (hn : n = l.length) (h : RdI32 w w.heap.size A l) (hb : n ≤ 100000000) :
    Calls Tryz.prog 155 #[.slice A n c] w (NewI32 l w) := by
  cases A with
  | none =>
    have hl : l = [] := by
      cases l with
      | nil => rfl
      | cons a l => obtain ⟨ad, e, _⟩ := h (by simp); cases e
    subst hl
    have hn0 : n = 0 := by simpa using hn
    subst hn0
    clear hn
    have hq := fun (w : World) => Lib.run_eql_slice_nil (P := Tryz.prog) w 47 21 none 0 c 0 0 Tryz.slI32
    go_enter Tryz.func155, Tryz.ntmps155
    go_wp2_with (fail)
    go_ret
    exact ⟨none, 0, rfl, Ow.nil _ _, Below.refl _ _⟩
  | some ad =>
    have N := Lib.hid hn
    clear hn
    have hq := fun (w : World) => Lib.run_eql_slice_nil (P := Tryz.prog) w 47 21 (some ad) n c 0 0 Tryz.slI32
    go_enter Tryz.func155, Tryz.ntmps155
    go_wp2_with (first
      | (at_builtin; refine app_i32 (m := l) rfl (.tmp 5) (.tmp 6) rfl rfl (by exact Ow.empty _ w.heap.size _) _ _ _ _ rfl N.out (by exact h.ext (ext_alloc w _)) (by have := N.out; simp only [List.length_nil]; omega) (by simp) ?_; intro v' w' hown' hgr hv'))
    rw [List.nil_append] at hown'
    obtain ⟨A', c', rfl, _, _⟩ := hown'.form
    go_ret
    exact ⟨A', c', rfl, hown', (ext_alloc w _).grown hgr (by simp) (fun k hk => by cases hk)⟩

open Go.RowKit
set_option linter.unusedVariables false
set_option linter.unusedSimpArgs false

theorem w64_in (n : Int) (h : -9223372036854775808 ≤ n ∧ n ≤ 9223372036854775807) : wrap64 n = n := by rw [← IntWalk.i64_left, IntWalk.i64_in _ h]

structure Grow (w : World) (F : Nat → Prop) (w' : World) (F' : Nat → Prop) : Prop where
  os : w'.os = w.os
  tape : w'.tape = w.tape
  output : w'.output = w.output
  size : w.heap.size ≤ w'.heap.size
  block : ∀ j, j < w.heap.size → ¬ F j → w'.heap[j]? = w.heap[j]?
  foot : ∀ k, F' k → F k ∨ w.heap.size ≤ k
theorem Grow.refl (w : World) (F : Nat → Prop) : Grow w F w F := ⟨rfl, rfl, rfl, Nat.le_refl _, fun _ _ _ => rfl, fun _ h => .inl h⟩
theorem Grow.trans {a b c : World} {F G H : Nat → Prop} (h : Grow a F b G) (h' : Grow b G c H) : Grow a F c H :=
  ⟨h'.os.trans h.os, h'.tape.trans h.tape, h'.output.trans h.output, Nat.le_trans h.size h'.size,
    fun j hj hn => (h'.block j (Nat.lt_of_lt_of_le hj h.size) (fun hg => by rcases h.foot j hg with h1 | h1; exact hn h1; omega)).trans (h.block j hj hn),
    fun k hk => by
      rcases h'.foot k hk with h1 | h1
      · exact h.foot k h1
      · have := h.size; exact .inr (by omega)⟩
theorem Grow.of {w w' : World} {F : Nat → Prop} (y : Below w.heap.size w w') : Grow w F w' F := ⟨y.os, y.tape, y.output, y.size, fun j hj _ => y.block j hj, fun _ h => .inl h⟩
theorem Grow.below {w w' : World} {F G : Nat → Prop} {B : Nat} (h : Grow w F w' G) (hF : ∀ k, F k → B ≤ k) (hB : B ≤ w.heap.size) : Below B w w' :=
  ⟨h.os, h.tape, h.output, h.size, fun j hj => h.block j (by omega) (fun hf => by have := hF j hf; omega)⟩
theorem Grow.low {w w' : World} {F G : Nat → Prop} {B : Nat} (h : Grow w F w' G) (hF : ∀ k, F k → B ≤ k) (hB : B ≤ w.heap.size) : ∀ k, G k → B ≤ k := fun k hk => by
  rcases h.foot k hk with h1 | h1
  · exact hF k h1
  · omega
theorem Grow.out {w w' : World} {F G : Nat → Prop} (h : Grow w F w' G) {k : Nat} (hk : k < w.heap.size) (hn : ¬ F k) : ¬ G k := fun hg => by
  rcases h.foot k hg with h1 | h1
  · exact hn h1
  · omega
def OffF (F : Nat → Prop) (A : Option Addr) (n : Nat) : Prop := ∀ ad, A = some ad → 0 < n → ¬ F ad.block
section
variable {α : Type} {enc : α → List Value} {size : Nat} {e : TypeId} {w w' : World} {F G : Nat → Prop} {A : Option Addr} {l : List α} {v : Value} {base : Nat}
theorem Rd.grow (h : Rd enc size w w.heap.size A l) (g : Grow w F w' G) (hn : OffF F A l.length) : Rd enc size w' w'.heap.size A l := fun hl => by
  obtain ⟨ad, e, hb, hc⟩ := h hl
  have hne := hn ad e hl
  exact ⟨ad, e, Nat.lt_of_lt_of_le hb g.size, fun i hi => (hc i hi).keep fun q hq => by
    have hqb : q.block = ad.block := by rw [hq, add_block]
    simp only [World.cell?]
    rw [hqb, g.block ad.block hb hne]⟩
theorem OffF.grow (h : OffF F A l.length) (hr : Rd enc size w w.heap.size A l) (g : Grow w F w' G) : OffF G A l.length := fun ad e hl => by
  obtain ⟨ad', e', hb, _⟩ := hr hl
  rw [e] at e'; injection e' with e'; subst e'
  exact g.out hb (h ad e hl)
theorem OffF.zero : OffF F A 0 := fun _ _ h => absurd h (Nat.lt_irrefl _)
theorem OffF.less {H : Nat → Prop} {n : Nat} (h : OffF F A n) (hs : ∀ k, H k → F k) : OffF H A n := fun ad e hl hk => h ad e hl (hs _ hk)
theorem Ow.grow (h : Ow enc size e w base v l) (g : Grow w F w' G) (hn : ∀ k, wb v = some k → ¬ F k) : Ow enc size e w' base v l :=
  h.keep fun k hk => g.block k (h.wb_lt k hk).2 (hn k hk)
theorem offF_low {B : Nat} {n : Nat} (hF : ∀ k, F k → B ≤ k) (h : ∀ ad, A = some ad → 0 < n → ad.block < B) : OffF F A n := fun ad e hl hk => by
  have := hF _ hk; have := h ad e hl; omega
theorem Rd.offF {B : Nat} (h : Rd enc size w B A l) (hF : ∀ k, F k → B ≤ k) : OffF F A l.length := offF_low hF fun ad e hl => by
  obtain ⟨ad', e', hb, _⟩ := h hl
  rw [e] at e'; injection e' with e'; subst e'; exact hb
theorem Ow.offF {n c : Nat} (hs : ∀ a, (enc a).length = size) (h : Ow enc size e w base (.slice A n c) l) (hn : n = l.length) (hF : ∀ k, wb (.slice A n c) = some k → ¬ F k) : OffF F A n := fun ad ea hl hk => by
  subst ea
  have hc := h.form
  obtain ⟨A', c', hv, h1, _⟩ := hc
  injection hv with _ _ hcc
  subst hcc
  cases c with
  | zero => omega
  | succ c => exact hF _ rfl hk
end
theorem heap_setCell_self {w : World} {b j : Nat} {cs : Array Value} {t : TypeId} (h : w.heap[b]? = some (.cells cs t (0, 0))) (u : Value) : (w.setCell ⟨b, j, none⟩ u).heap[b]? = some (.cells (cs.setIfInBounds j u) t (0, 0)) := by
  have hb := blk_lt h
  have he : w.heap[b] = .cells cs t (0, 0) := by
    have := h
    rw [Array.getElem?_eq_getElem hb] at this
    injection this
  unfold World.setCell
  rw [Array.getElem?_eq_getElem (by simpa using hb), Array.getElem_modify]
  simp [he]
open Go.RowKit
set_option linter.unusedVariables false
set_option linter.unusedSimpArgs false

section
variable {α : Type} {enc : α → List Value} {size : Nat} {e : TypeId} {w : World} {base : Nat} {l : List α}
theorem flat_set (hs : ∀ a, (enc a).length = size) : ∀ (l : List α) (i j : Nat) (u : Value) (a' : α) (h : i < l.length), j < size → enc a' = (enc l[i]).set j u → (l.set i a').flatMap enc = (l.flatMap enc).set (i * size + j) u
  | [], i, j, u, a', h, _, _ => absurd h (by simp)
  | a :: l, 0, j, u, a', _, hj, he => by
    simp only [List.set_cons_zero, List.flatMap_cons, Nat.zero_mul, Nat.zero_add]
    rw [he, List.set_append_left _ _ (by rw [hs]; exact hj)]
    rfl
  | a :: l, i + 1, j, u, a', h, hj, he => by
    have ih := flat_set hs l i j u a' (by simpa using h) hj (by simpa using he)
    simp only [List.set_cons_succ, List.flatMap_cons]
    rw [ih, List.set_append_right _ _ (by rw [hs, Nat.add_mul]; omega), hs]
    congr 2
    rw [Nat.add_mul]; omega
theorem Ow.setEl (hs : ∀ a, (enc a).length = size) {g n c i j : Nat} {u : Value} {a' : α} (h : Ow enc size e w base (.slice (some ⟨g, 0, none⟩) n c) l) (hi : i < l.length) (hj : j < size)
    (he : enc a' = (enc l[i]).set j u) : Ow enc size e (w.setCell ⟨g, i * size + j, none⟩ u) base (.slice (some ⟨g, 0, none⟩) n c) (l.set i a') := by
  obtain ⟨g', cur, hA, hn, hbg, hg, hlc, hcm, hcur, htake⟩ := h.row (by omega)
  injection hA with hA
  injection hA with hA _ _
  subst hA
  refine .inr ⟨flat_len hs _, .inr ⟨g, c, cur.setIfInBounds (i * size + j) u, by rw [List.length_set, hn], hbg, heap_setCell_self hg u, by rw [List.length_set]; exact hlc, hcm, by simpa using hcur, ?_⟩⟩
  rw [flat_set hs l i j u a' hi hj he, ← htake]
  simp only [Array.toList_setIfInBounds, List.length_set]
  rw [List.take_set]
end
open Go.RowKit
set_option linter.unusedVariables false

theorem step_fn {P : Program} {ops : Array Oper} {o : Oper} {a : Act} {w : World} {K : Act → World → Prop} {Q : Exit → Act → World → Prop} {E : Prop} {R : Ending → World → Prop}
    (hg : o.guard = none) (k : Nat) (args : List Operand) (tys : Array TypeId) (hop : o.op = Op.call { callee := .value (.func k), args := args.toArray, argTypes := tys })
    (fn : Func) (hf : P.funcs[k]? = some fn) (hn0 : decide (fn.name = "runtime.NumGoroutine") = false) (hb0 : fn.body.isSome = true)
    (vs : List Value) (hv : args.map a.eval = vs) (hc : Calls P k vs.toArray w R) (h : ∀ e w', R e w' → ∃ v, e = .returned v ∧ K (a.put o.dst v) w') :
    if Region.wanted o (yielded ops a.tmps) = true then Oper.wp P o a w K Q else E := by
  have hn : ¬ fn.name = "runtime.NumGoroutine" := of_decide_eq_false hn0
  have hb : ¬ fn.body = none := fun e => by rw [e] at hb0; cases hb0
  have hw : Region.wanted o (yielded ops a.tmps) = true := by simp [Region.wanted, hg]
  rw [if_pos hw]
  unfold Oper.wp
  have he : a.eval (.func k) = .func (.func k) #[] #[] := rfl
  simp [execOp, hop, resolve, invoke, Result.andThen, he, hv, Deferred.ofValue, callFunc, hf, hn, hb]
  unfold Oper.upon
  refine hc.mono ?_
  intro e w' hr
  obtain ⟨v, rfl, hk⟩ := h e w' hr
  exact hk
set_option linter.unusedSimpArgs false

set_option maxRecDepth 100000 in
set_option maxHeartbeats 800000 in
theorem growOs_any (n : Nat) (w : World) (hb : n ≤ 100000000000) :
    Calls Tryz.prog 207 #[.slice none 0 0, .int .i64 (n : Int)] w (NewOs [] w) := by
  by_cases h0 : n = 0
  · subst h0
    go_enter Tryz.func207, Tryz.ntmps207
    go_wp2_with (fail)
    go_ret
    exact ⟨none, 0, rfl, Ow.nil _ _, Below.refl _ _⟩
  · obtain ⟨i0, hi0, hz0, hz1, hz2⟩ := info_parts Tryz.infoOp
    have hold : (Builtin.firstCells i0.size 0 (.slice none 0 0)).run Tryz.prog w.drew = .ok #[] w.drew := run_firstCells_none w.drew i0.size 0 0 0
    have hfit := growslice_fits (need := n) (old := 0) (bytes := i0.bytes) (by omega) (by rw [hz2]; omega)
    have hrz := fun ty => Lib.run_append_grow_zeros w 44 3 ty 50 i0 _ .i64 .i64 Tryz.slOp (by kernel_rfl) hi0 hz0 none 0 0 [] hold n (by omega) (by rw [hz1]; omega) (by omega) (by omega) (by rw [hz2]; omega) (by simpa using hfit)
    have hge := grownCap_ge w n 0 50
    have hle := grownCap_le_maxLen w n 0 50 (by unfold maxLen; omega)
    have hsz : (Value.agg #[.int .u8 0, .int .i64 0, .slice none 0 0, .slice none 0 0, .slice none 0 0]).cells.size = 5 := rfl
    simp only [Nat.zero_add] at hrz
    generalize hG : grownCap w n 0 50 = G at hrz hge hle
    have hG63 : G ≤ 9223372036854775807 := by unfold maxLen at hle; omega
    have hpos : (0 : Int) < (n : Int) := by omega
    generalize hcs : (([] : List Value).toArray ++ Builtin.zeroCells (Value.agg #[.int .u8 0, .int .i64 0, .slice none 0 0, .slice none 0 0, .slice none 0 0]).cells n ++ Builtin.zeroCells (Value.agg #[.int .u8 0, .int .i64 0, .slice none 0 0, .slice none 0 0, .slice none 0 0]).cells (G - n)) = cs at hrz
    have hcsz : cs.size = G * 5 := by
      rw [← hcs]
      simp only [Array.size_append, size_zeroCells, hsz]
      simp
      omega
    have HC := Lib.hid hcsz
    have HLE := Lib.hid hle
    clear hcs hcsz hG hold hi0 hz0 hz1 hz2 hsz hle hfit
    go_enter Tryz.func207, Tryz.ntmps207
    go_wp2_with (at_builtin; refine Lib.wpList_append_run _ rfl _ _ _ _ rfl _ _ rfl rfl _ _ (hrz _) ?_)
    go_ret
    refine ⟨some ⟨w.heap.size, 0, none⟩, G, rfl, .inr ⟨rfl, .inr ⟨w.heap.size, G, cs, rfl, Nat.le_refl _, ?_, Nat.zero_le _, HLE.out, HC.out, by simp⟩⟩, (ext_drew w 1).alloc (Nat.le_refl _) _⟩
    exact heap_alloc_new w.drew _

structure RwS where
  A : Option Addr
  l : List OpS
  c : Nat
def RwS.enc (x : RwS) : List Value := [.slice x.A x.l.length x.c]
def catR (rs : List RwS) (i : Nat) : List OpS := (rs.take i).flatMap (fun x => x.l)
theorem catR_succ {rs : List RwS} {i : Nat} {x : RwS} (h : rs[i]? = some x) : catR rs (i + 1) = catR rs i ++ x.l := by
  unfold catR
  rw [List.take_add_one, h, List.flatMap_append]
  simp
theorem catR_len {rs : List RwS} (h : ∀ x ∈ rs, x.l.length ≤ 20000001) (i : Nat) : (catR rs i).length ≤ i * 20000001 := by
  induction i with
  | zero => simp [catR]
  | succ i ih =>
    cases hx : rs[i]? with
    | none =>
      have e : catR rs (i + 1) = catR rs i := by unfold catR; rw [List.take_add_one, hx]; simp
      have e2 := congrArg List.length e
      omega
    | some x =>
      have e2 := congrArg List.length (catR_succ hx)
      rw [List.length_append] at e2
      have := h x (List.mem_of_getElem? hx)
      omega
theorem catR_all (rs : List RwS) (n : Nat) (h : n = rs.length) : catR rs n = rs.flatMap (fun x => x.l) := by
  subst h; unfold catR; rw [List.take_length]

set_option maxRecDepth 100000 in
set_option maxHeartbeats 800000 in
theorem concatOs_any (A : Option Addr) (n c : Nat) (rs : List RwS) (w : World) (hn : n = rs.length) (h : Rd RwS.enc 1 w w.heap.size A rs) (hr : ∀ x ∈ rs, RdOs w w.heap.size x.A x.l) (hb : n ≤ 1000) (hs : ∀ x ∈ rs, x.l.length ≤ 20000001) :
    Calls Tryz.prog 156 #[.slice A n c] w (NewOs (rs.flatMap (fun x => x.l)) w) := by
  have N := Lib.hid hn
  have HS := Lib.hid (fun i => catR_len hs i)
  have HS1 := Lib.hid hs
  have HA := Lib.hid (catR_all rs n hn)
  clear hn hs
  go_enter Tryz.func156, Tryz.ntmps156
  go_wp2_with (fail)
  go_loopg [3, 11] n (fun g sv iv wr => ∃ m : Nat, m ≤ n ∧ g = n - m ∧ sv = .int .i64 ((catR rs m).length : Int) ∧ iv = .int .i64 (m : Int) ∧ Below w.heap.size w wr)
  case atStart => exact ⟨0, by omega, rfl, rfl, rfl, Below.refl _ _⟩
  case round =>
    obtain ⟨m, hm, hg, rfl, rfl, y⟩ := hrel
    have HG := Lib.hid hg
    clear hg
    by_cases hlt : m < n
    · have hl1 : m < rs.length := by have := N.out; omega
      obtain ⟨ad, x, rfl, had, _, hxi, hc0⟩ := (h.below y (Nat.le_refl _)).el hl1
      have hx1 := HS1.out x (List.mem_of_getElem? hxi)
      have hx2 := HS.out m
      have e := catR_succ hxi
      have E := Lib.hid (show ((catR rs (m + 1)).length : Int) = (catR rs m).length + x.l.length by rw [e, List.length_append]; omega)
      obtain ⟨xA, xl, xc⟩ := x
      have r0 : wr.cell? (ad.add m) = some (.slice xA xl.length xc) := by have := hc0 0 _ rfl; rwa [add_zero', Nat.mul_one] at this
      have hbnd : ((catR rs m).length : Int) + (xl.length : Int) ≤ 1000000000000 := by have : m * 20000001 ≤ 1000 * 20000001 := Nat.mul_le_mul_right _ (by omega); simp only at hx1; omega
      generalize (catR rs m).length = S at *
      clear hc0 e hx1 hx2
      have hw1 : wrap64 ((S : Int) + (xl.length : Int)) = (S : Int) + (xl.length : Int) := by rw [← IntWalk.i64_left, IntWalk.i64_in _ (by omega)]
      have hw2 : IntKind.i64.wrap ((m:Int) + 1) = (m : Int) + 1 := IntWalk.i64_in _ (by omega)
      have hnn : ¬ ((S : Int) + (xl.length : Int) < 0) := by omega
      go_wp2_with (fail)
      go_roundg (n - (m + 1))
      case measure => have := HG.out; omega
      case rel => exact ⟨m + 1, by omega, rfl, by rw [E.out], by go_num, y⟩
    · have hmn : m = n := by omega
      subst hmn
      have hg0 := HS.out m
      have hbnd : (catR rs m).length ≤ 100000000000 := by have : m * 20000001 ≤ 1000 * 20000001 := Nat.mul_le_mul_right _ (by omega); omega
      have HB := Lib.hid hbnd
      clear hg0 hbnd
      go_wp2_with (go_at_call 207; refine Hid.out ?_)
      refine Lib.hid ?_
      refine (growOs_any (catR rs m).length _ HB.out).mono ?_
      rintro e w1 ⟨A1, k1, rfl, o1, y1⟩
      have Y := Lib.hid (ext_trans y y1)
      have O := Lib.hid (o1.base_le y.size)
      clear y1 o1 hlt
      go_wp2_with (fail)
      go_loopg [6, 27] m (fun g v iv wr => ∃ q : Nat, q ≤ m ∧ g = m - q ∧ iv = .int .i64 (q : Int) ∧ OwOs wr w.heap.size v (catR rs q) ∧ Below w.heap.size w wr)
      case atStart => exact ⟨0, by omega, rfl, rfl, O.out, Y.out⟩
      case round =>
        obtain ⟨q, hq, hg, rfl, ho, y2⟩ := hrel
        have HG2 := Lib.hid hg
        clear hg
        obtain ⟨Aq, cq, rfl, _, _⟩ := ho.form
        by_cases hlt : q < m
        · have hl1 : q < rs.length := by have := N.out; omega
          obtain ⟨ad, x, rfl, had, _, hxi, hc0⟩ := (h.below y2 (Nat.le_refl _)).el hl1
          have hx1 := HS1.out x (List.mem_of_getElem? hxi)
          have hx2 := HS.out q
          have hrx := (hr x (List.mem_of_getElem? hxi)).ext y2
          have e := Lib.hid (catR_succ hxi)
          have HO := Lib.hid ho
          obtain ⟨xA, xl, xc⟩ := x
          have r0 : wr.cell? (ad.add q) = some (.slice xA xl.length xc) := by have := hc0 0 _ rfl; rwa [add_zero', Nat.mul_one] at this
          have hw2 : IntKind.i64.wrap ((q:Int) + 1) = (q : Int) + 1 := IntWalk.i64_in _ (by omega)
          have hbnd := Lib.hid (show (catR rs q).length + xl.length ≤ 100000000000 by have : q * 20000001 ≤ 1000 * 20000001 := Nat.mul_le_mul_right _ (by omega); simp only at hx1; omega)
          clear hc0 hx1 hx2 ho
          go_wp2_with (at_builtin; refine app_os (m := xl) rfl (.tmp 31) (.tmp 32) rfl rfl (by exact HO.out) _ xA xc xl.length rfl rfl (by exact hrx) (by have := hbnd.out; omega) (by exact y2.size) ?_; intro v' w' hown' hgr hv')
          have s1 := below_app y2 y2.size HO.out (Nat.le_refl _) hgr
          go_wp2_with (fail)
          go_roundg (m - (q + 1))
          case measure => have := HG2.out; omega
          case rel => exact ⟨q + 1, by omega, rfl, by go_num, by rw [e.out]; exact hown', s1⟩
        · have hqm : q = m := by omega
          subst hqm
          have HO := Lib.hid ho
          clear ho
          go_wp2_with (fail)
          go_ret
          rw [HA.out] at *
          exact ⟨Aq, cq, rfl, HO.out, y2⟩

def PartF (w : World) (F : Nat → Prop) (x : OpS) : Prop :=
  (RdI32 w w.heap.size x.Ar x.o.r ∧ OffF F x.Ar x.o.r.length) ∧ (RdAt w w.heap.size x.As x.o.s ∧ OffF F x.As x.o.s.length) ∧ (RdCh w w.heap.size x.Ap x.o.p ∧ OffF F x.Ap x.o.p.length)
theorem PartF.grow {w w' : World} {F G : Nat → Prop} {x : OpS} (h : PartF w F x) (g : Grow w F w' G) : PartF w' G x :=
  ⟨⟨h.1.1.grow g h.1.2, h.1.2.grow h.1.1 g⟩, ⟨h.2.1.1.grow g h.2.1.2, h.2.1.2.grow h.2.1.1 g⟩, ⟨h.2.2.1.grow g h.2.2.2, h.2.2.2.grow h.2.2.1 g⟩⟩
theorem PartF.less {w : World} {F G : Nat → Prop} {x : OpS} (h : PartF w F x) (hs : ∀ k, G k → F k) : PartF w G x :=
  ⟨⟨h.1.1, h.1.2.less hs⟩, ⟨h.2.1.1, h.2.1.2.less hs⟩, ⟨h.2.2.1, h.2.2.2.less hs⟩⟩
def LastF (w : World) (F : Nat → Prop) (b : Nat) (vd vi : Value) (x : OpS) : Prop :=
  OwI32 w 0 (.slice x.Ar x.o.r.length x.cr) x.o.r ∧ (∀ k, wb (.slice x.Ar x.o.r.length x.cr) = some k → F k ∧ k ≠ b ∧ wb vd ≠ some k ∧ wb vi ≠ some k) ∧
  (RdAt w w.heap.size x.As x.o.s ∧ OffF F x.As x.o.s.length) ∧ (RdCh w w.heap.size x.Ap x.o.p ∧ OffF F x.Ap x.o.p.length)
def InsF (w : World) (F : Nat → Prop) (b : Nat) (vd vi : Value) (I : List OpS) : Prop :=
  (∀ x ∈ I.dropLast, PartF w F x) ∧ ∀ x, I.getLast? = some x → LastF w F b vd vi x
def Mkr (w : World) (F : Nat → Prop) (b : Nat) (m : Mk) : Prop :=
  ∃ (vd vi : Value) (D I : List OpS), w.heap[b]? = some (.cells #[vd, vi, .int .i64 m.gone] 189 (0, 0)) ∧
    OwOs w 0 vd D ∧ OwOs w 0 vi I ∧ osOf D = m.done ∧ osOf I = m.ins ∧
    (∀ k, F k → k < w.heap.size) ∧ F b ∧ (∀ k, wb vd = some k → F k ∧ k ≠ b ∧ wb vi ≠ some k) ∧ (∀ k, wb vi = some k → F k ∧ k ≠ b) ∧
    (∀ x ∈ D, PartF w F x) ∧ InsF w F b vd vi I
theorem box_3 {w : World} {b : Nat} {t : TypeId} {c0 c1 c2 : Value} (h : w.heap[b]? = some (.cells #[c0, c1, c2] t (0, 0))) : w.cell? ⟨b, 0, none⟩ = some c0 ∧ w.cell? ⟨b, 1, none⟩ = some c1 ∧ w.cell? ⟨b, 2, none⟩ = some c2 := by
  simp [World.cell?, h]
theorem Mkr.lt {w : World} {F : Nat → Prop} {b : Nat} {m : Mk} (h : Mkr w F b m) : ∀ k, F k → k < w.heap.size := by
  obtain ⟨_, _, _, _, _, _, _, _, _, h1, _⟩ := h; exact h1
theorem Mkr.below {w w' : World} {F : Nat → Prop} {b : Nat} {m : Mk} (h : Mkr w F b m) (y : Below w.heap.size w w') : Mkr w' F b m := by
  obtain ⟨vd, vi, D, I, h1, h2, h3, h4, h5, h6, h7, h8, h9, h10, h11, h12⟩ := h
  have g := Grow.of (F := F) y
  refine ⟨vd, vi, D, I, (y.block b (lt_of_some h1)).trans h1, h2.below y (Nat.le_refl _), h3.below y (Nat.le_refl _), h4, h5, fun k hk => Nat.lt_of_lt_of_le (h6 k hk) y.size, h7, h8, h9, fun x hx => (h10 x hx).grow g, fun x hx => (h11 x hx).grow g, fun x hx => ?_⟩
  obtain ⟨e1, e2, e3, e4⟩ := h12 x hx
  exact ⟨e1.below y (Nat.le_refl _), e2, ⟨e3.1.grow g e3.2, e3.2.grow e3.1 g⟩, ⟨e4.1.grow g e4.2, e4.2.grow e4.1 g⟩⟩

set_option maxHeartbeats 800000 in
theorem mkNew_any (w : World) : Calls Tryz.prog 74 #[] w fun e w' => e = .returned (.pointer (some ⟨w.heap.size, 0, none⟩)) ∧ Mkr w' (fun k => k = w.heap.size) w.heap.size Mk.new ∧ Below w.heap.size w w' := by
  have y := ext_alloc w (.cells #[.slice none 0 0, .slice none 0 0, .int .i64 0] 189)
  have hb := heap_alloc_new w (.cells #[.slice none 0 0, .slice none 0 0, .int .i64 0] 189)
  have HB := Lib.hid hb
  clear hb
  go_enter Tryz.func74, Tryz.ntmps74
  go_wp2_with (fail)
  go_ret
  refine ⟨rfl, ⟨.slice none 0 0, .slice none 0 0, [], [], HB.out, Ow.nil _ _, Ow.nil _ _, rfl, rfl, fun k hk => (by subst hk; simp), rfl, fun k hk => (by cases hk), fun k hk => (by cases hk), fun x hx => (by cases hx), fun x hx => (by cases hx), fun x hx => (by cases hx)⟩, y⟩

theorem setCell_below {w : World} (b j : Nat) (u : Value) {F : Nat → Prop} (hF : F b) (t : TypeId) : Grow w F (w.setCell ⟨b, j, none⟩ u) F :=
  ⟨rfl, rfl, rfl, by simp [World.setCell], fun k _ hk => Below.heap_setCell w ⟨b, j, none⟩ u k (fun e => hk (e ▸ hF)), fun k h => .inl h⟩
def MkOut (m : Mk) (w : World) (F : Nat → Prop) (b : Nat) (e : Ending) (w' : World) : Prop :=
  e = .returned (.tuple #[]) ∧ ∃ F', Mkr w' F' b m ∧ Grow w F w' F'
theorem owOs_set {w : World} {v : Value} {l : List OpS} (h : OwOs w 0 v l) {b j : Nat} (hp : ∀ k, wb v = some k → k ≠ b) (u : Value) : OwOs (w.setCell ⟨b, j, none⟩ u) 0 v l :=
  h.setCell (p := ⟨b, j, none⟩) (fun e => hp b e rfl) u
theorem Mkr.setGone {w : World} {F : Nat → Prop} {b : Nat} {m : Mk} (h : Mkr w F b m) (g : Int) : Mkr (w.setCell ⟨b, 2, none⟩ (.int .i64 g)) F b { m with gone := g } := by
  obtain ⟨vd, vi, D, I, h1, h2, h3, h4, h5, h6, h7, h8, h9, h10, h11, h12⟩ := h
  have gr := setCell_below (w := w) b 2 (.int .i64 g) h7 0
  refine ⟨vd, vi, D, I, ?_, owOs_set h2 (fun k hk => (h8 k hk).2.1) _, owOs_set h3 (fun k hk => (h9 k hk).2) _, h4, h5, fun k hk => Nat.lt_of_lt_of_le (h6 k hk) gr.size, h7, h8, h9, fun x hx => (h10 x hx).grow gr, fun x hx => (h11 x hx).grow gr, fun x hx => ?_⟩
  · rw [heap_setCell_self h1]; rfl
  · obtain ⟨e1, e2, e3, e4⟩ := h12 x hx
    exact ⟨e1.setCell (p := ⟨b, 2, none⟩) (fun e => (e2 b e).2.1 rfl) _, e2, ⟨e3.1.grow gr e3.2, e3.2.grow e3.1 gr⟩, ⟨e4.1.grow gr e4.2, e4.2.grow e4.1 gr⟩⟩
theorem Mkr.box {w : World} {F : Nat → Prop} {b : Nat} {m : Mk} (h : Mkr w F b m) : ∃ vd vi : Value, w.heap[b]? = some (.cells #[vd, vi, .int .i64 m.gone] 189 (0, 0)) ∧ F b := by
  obtain ⟨vd, vi, _, _, h1, _, _, _, _, _, h7, _⟩ := h
  exact ⟨vd, vi, h1, h7⟩
theorem box_thaw {w : World} {b : Nat} {cs : Array Value} {t : TypeId} (h : w.heap[b]? = some (.cells cs t (0, 0))) (j : Nat) : w.frozen? ⟨b, j, none⟩ = false := by simp [World.frozen?, h]

set_option maxHeartbeats 800000 in
theorem mkDelete_any (b : Nat) (n : Int) (w : World) (F : Nat → Prop) (m : Mk) (h : Mkr w F b m) :
    Calls Tryz.prog 82 #[.pointer (some ⟨b, 0, none⟩), .int .i64 n] w (MkOut (mkDelete m n) w F b) := by
  obtain ⟨vd, vi, h1, h7⟩ := h.box
  obtain ⟨W, hW⟩ : ∃ X, IntKind.i64.wrap (m.gone + (if n < 0 then 0 else n)) = X := ⟨_, rfl⟩
  have hs := h.setGone W
  have hm : ({ m with gone := W } : Mk) = mkDelete m n := by unfold mkDelete; rw [hW]
  rw [hm] at hs
  have gr := setCell_below (w := w) b 2 (.int .i64 W) h7 0
  have HS := Lib.hid hs
  have HW := Lib.hid hW
  obtain ⟨c0, c1, c2⟩ := box_3 h1
  have hf := box_thaw h1 2
  have hlt := lt_of_some h1
  generalize hg : m.gone = g at *
  clear hm hs hW h1 h
  have e : Hid (wrap64 (g + max n 0) = W) := Lib.hid (by
    have e0 : g + max n 0 = g + (if n < 0 then 0 else n) := by split <;> omega
    rw [e0, ← HW.out, IntWalk.i64_left])
  go_enter Tryz.func82, Tryz.ntmps82
  go_wp2_with (fail)
  refine bodyPost_ret (results_none rfl _ _ _) rfl ?_
  rw [e.out]
  exact ⟨rfl, F, HS.out, gr⟩
open Go.RowKit Go.Shelf
attribute [local go_sem] Oper.semAt_some

theorem mayP_nil (l : List Ky) : mayP l [] = 0 := by simp [mayP, riseC, rise]

def okUn : Un → Prop
  | .ins r s => okVr s
  | .del => True
  | .ret p => okVs p
theorem okUn_of {o : Opd} (h : okOp o) : ∀ u ∈ unitsO o, okUn u := fun u hu => by
  unfold unitsO at hu
  by_cases h2 : o.k = 2
  · rw [if_pos h2] at hu
    obtain ⟨r, _, rfl⟩ := List.mem_map.1 hu
    exact h.1
  · rw [if_neg h2] at hu
    by_cases h1 : o.k = 1
    · rw [if_pos h1] at hu
      rw [(List.mem_replicate.1 hu).2]; exact h.2.1
    · rw [if_neg h1] at hu
      rw [(List.mem_replicate.1 hu).2]; trivial
attribute [local go_sem] Oper.semAt_some

theorem trim_pre (us : List Un) : ∃ k, us = trim us ++ List.replicate k (.ret []) := by
  induction us with
  | nil => exact ⟨0, rfl⟩
  | cons u us ih =>
    obtain ⟨k, hk⟩ := ih
    rw [trim]
    cases ht : trim us with
    | nil =>
      rw [ht, List.nil_append] at hk
      simp only
      by_cases hu : u = .ret []
      · rw [if_pos hu]; exact ⟨k + 1, by rw [hu, List.replicate_succ, List.nil_append, ← hk]⟩
      · rw [if_neg hu]; exact ⟨k, by rw [← hk]; rfl⟩
    | cons v vs =>
      rw [ht] at hk
      exact ⟨k, by simp only [List.cons_append]; rw [List.cons_append] at hk; rw [← hk]⟩
theorem cn_all {P : Un → Prop} (hd : P .del) : ∀ (us I : List Un) (g : Nat), (∀ u ∈ I, P u) → (∀ u ∈ us, P u) → ∀ u ∈ cn us I g, P u
  | [], I, g, hI, _ => fun u hu => by
    rcases List.mem_append.1 hu with hu | hu
    · exact hI u hu
    · rw [(List.mem_replicate.1 hu).2]; exact hd
  | .ins r s :: us, I, g, hI, hu => by
    have h1 : ∀ u ∈ I ++ [Un.ins r s], P u := fun u h => by
      rcases List.mem_append.1 h with h | h
      · exact hI u h
      · simp at h; subst h; exact hu _ (by simp)
    rw [cn]
    exact cn_all hd us (I ++ [.ins r s]) g h1 (fun u h => hu u (List.mem_cons_of_mem _ h))
  | .del :: us, I, g, hI, hu => by
    rw [cn]
    exact cn_all hd us I (g + 1) hI (fun u h => hu u (List.mem_cons_of_mem _ h))
  | .ret p :: us, I, g, hI, hu => fun u h => by
    rw [cn] at h
    rcases List.mem_append.1 h with h | h
    · rcases List.mem_append.1 h with h | h
      · exact hI u h
      · rw [(List.mem_replicate.1 h).2]; exact hd
    · rcases List.mem_cons.1 h with rfl | h
      · exact hu _ (by simp)
      · exact cn_all hd us [] 0 (by simp) (fun u h => hu u (List.mem_cons_of_mem _ h)) u h

def delS (g : Int) : OpS := ⟨opD g, none, 0, none, 0, none, 0⟩
def gapS (I : List OpS) (g : Int) : List OpS := I ++ (if 0 < g then [delS g] else [])
theorem gapS_os (I : List OpS) (g : Int) : osOf (gapS I g) = osOf I ++ (if 0 < g then [opD g] else []) := by
  unfold gapS osOf
  split <;> simp [delS]
theorem gapS_len (I : List OpS) (g : Int) : (gapS I g).length ≤ I.length + 1 := by unfold gapS; split <;> simp

set_option maxRecDepth 100000 in
set_option maxHeartbeats 800000 in
theorem gap_any (b : Nat) (vd : Value) (Ai : Option Addr) (ni ci : Nat) (g : Int) (I : List OpS) (w : World) (h1 : w.heap[b]? = some (.cells #[vd, .slice Ai ni ci, .int .i64 g] 189 (0, 0)))
    (hn : ni = I.length) (hr : RdOs w w.heap.size Ai I) (hb : ni ≤ 10000000) :
    Calls Tryz.prog 152 #[.pointer (some ⟨b, 0, none⟩)] w (NewOs (gapS I g) w) := by
  have N := Lib.hid hn
  have H1 := Lib.hid h1
  obtain ⟨c0, c1, c2⟩ := box_3 h1
  clear hn h1
  go_enter Tryz.func152, Tryz.ntmps152
  go_wp2_with (go_at_call 205; refine Hid.out ?_)
  refine Lib.hid ?_
  refine (cloneOs_any Ai ni ci I w N.out hr (by omega)).mono ?_
  rintro e w1 ⟨A1, k1, rfl, ho, y⟩
  obtain ⟨d0, d1, d2⟩ := box_3 ((y.block b (lt_of_some H1.out)).trans H1.out)
  have HO := Lib.hid ho
  clear ho c0 c1 c2
  by_cases hg : 0 < g
  · have e1 : gapS I g = I ++ [delS g] := by unfold gapS; rw [if_pos hg]
    have E1 := Lib.hid e1
    clear e1
    go_wp2_with (at_builtin; refine app_os (m := [delS g]) rfl (.tmp 14) (.tmp 20) rfl rfl (by exact HO.out.alloc _) _ _ 1 1 rfl rfl (by exact rd_one (enc := OpS.enc) (size := 5) _ _ (delS g) rfl) (by have := N.out; simp only [List.length_singleton]; omega) (by exact Nat.le_trans y.size (le_alloc _ _)) ?_; intro v' w' hown' hgr hv')
    have s1 := below_app (y.alloc y.size _) (by exact Nat.le_trans y.size (le_alloc _ _)) (HO.out.alloc _) (Nat.le_refl _) hgr
    rw [← E1.out] at hown'
    obtain ⟨A', c', rfl, _, _⟩ := hown'.form
    have HOW := Lib.hid hown'
    clear hown'
    go_ret
    exact ⟨A', c', rfl, HOW.out, s1⟩
  · have e1 : gapS I g = I := by unfold gapS; rw [if_neg hg]; simp
    have E1 := Lib.hid e1
    clear e1
    go_wp2_with (fail)
    go_ret
    unfold NewOs
    rw [E1.out]
    exact ⟨A1, k1, rfl, HO.out, y⟩
end Go.Proofs.YtfnkjcodcoehcaaGreatDoor
