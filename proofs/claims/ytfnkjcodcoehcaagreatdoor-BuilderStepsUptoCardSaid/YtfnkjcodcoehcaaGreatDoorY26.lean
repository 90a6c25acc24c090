/- Merged texts: Shut, VaShut, ShutUp, OpShut, ClShut. -/
import Derived.Test.YtfnkjcodcoehcaaGreatDoorCards
import Derived.Test.YtfnkjcodcoehcaaGreatDoorTie
import Derived.ProofKit
import Derived.Deep.Slices
import Derived.JoinedCond
import Derived.OpenShut
import Derived.Deep.DeepHandedRow
import Derived.Lib.LaidTab
import Derived.Test.YtfnkjcodcoehcaaGreatDoorY4
import Derived.Test.YtfnkjcodcoehcaaGreatDoorY2
import Derived.Test.YtfnkjcodcoehcaaGreatDoorY8
import Derived.Test.YtfnkjcodcoehcaaGreatDoorY5
namespace Go.Proofs.YtfnkjcodcoehcaaGreatDoor
open Go.ChangeShapes Go.WideShapes Go.ChangeAt Go.RowKit Go.Deep
set_option linter.unusedVariables false
set_option linter.constructorNameAsVariable false
set_option maxRecDepth 20000

theorem Tryz.own : ownKnob Tryz.prog.godebug = none := by kernel_rfl
theorem Tryz.laidOut : laidOutB Tryz.prog = true := by kernel_rfl
theorem Tryz.undBool : Tryz.prog.underlying 4 = some .bool := by kernel_rfl
theorem Tryz.uI32 : Tryz.prog.underlying 21 = some (.int .i32) := by kernel_rfl
theorem Tryz.clU8 : Tryz.prog.cellsOf 5 = 1 := by kernel_rfl
theorem Tryz.uTab : Tryz.prog.underlying 266 = some (.array 256 5) := by kernel_rfl
theorem Tryz.clTab : Tryz.prog.cellsOf 266 = 256 := by kernel_rfl
theorem Tryz.uAcc : Tryz.prog.underlying 269 = some (.array 16 268) := by kernel_rfl
theorem Tryz.uAccR : Tryz.prog.underlying 268 = some (.struct (Tryz.prog.fieldsOf 268)) := by kernel_rfl
theorem Tryz.clAccR : Tryz.prog.cellsOf 268 = 2 := by kernel_rfl
theorem Tryz.fdAccR : (Tryz.prog.fieldsOf 268).toList.map (fun f => (f.type, f.offset)) = [(5, 0), (5, 1)] := by kernel_rfl
theorem Tryz.gFirst : Tryz.prog.globalNamed "unicode/utf8.first" = some 1 := by kernel_rfl
theorem Tryz.gAcc : Tryz.prog.globalNamed "unicode/utf8.acceptRanges" = some 2 := by kernel_rfl
theorem Tryz.gtFirst : (Tryz.prog.globals[1]?).map (·.type) = some 266 := by kernel_rfl
theorem Tryz.gtAcc : (Tryz.prog.globals[2]?).map (·.type) = some 269 := by kernel_rfl

def laidRows : List (String × DataW Unit) := [("unicode/utf8.acceptRanges", Rows.laid_unicode_utf8_acceptRanges), ("unicode/utf8.first", Rows.laid_unicode_utf8_first)]
set_option maxRecDepth 100000 in
theorem firstEq : Rows.laid_unicode_utf8_first = Lib.firstData := by kernel_rfl
theorem accEq : (Rows.laid_unicode_utf8_acceptRanges : DataW Unit) = Lib.acceptData := by kernel_rfl
theorem field2 {fs : Array Field} {l : List (TypeId × Nat)} (h : fs.toList.map (fun f => (f.type, f.offset)) = l) {i : Nat} {f : Field} (hf : fs[i]? = some f) : l[i]? = some (f.type, f.offset) := by
  rw [← h, List.getElem?_map, Array.getElem?_toList, hf]
  rfl
theorem tabs {W : World} (h : laidMetH Tryz.prog laidRows W) : Lib.Utf8Tabs 1 2 W := by
  have h' : laidMet Tryz.prog laidRows W := by
    unfold laidMetH at h
    rw [show (laidRows.filter fun x => x.2.handleName?.isSome) = [] from by kernel_rfl] at h
    exact h
  have r1 := Lib.laidMet.reads h' (n := "unicode/utf8.first") (d := Rows.laid_unicode_utf8_first) (by simp [laidRows])
  have r2 := Lib.laidMet.reads h' (n := "unicode/utf8.acceptRanges") (d := Rows.laid_unicode_utf8_acceptRanges) (by simp [laidRows])
  rw [firstEq] at r1
  rw [accEq] at r2
  refine ⟨fun c hc => ?_, fun i hi => ?_⟩
  · obtain ⟨g, t, cs, fuel, p, hg, hty, hvar, hd⟩ := r1
    obtain rfl := Option.some.inj (Tryz.gFirst.symm.trans hg)
    obtain rfl := Option.some.inj (Tryz.gtFirst.symm.trans hty)
    have hcs := Lib.cells_of_tab Tryz.uTab Tryz.uU8 Tryz.clU8 Tryz.clTab hd
    rw [World.var?_cell hg hvar c, ← Array.getElem?_toList, hcs]
    simp [Lib.firstTab, hc]
  · obtain ⟨g, t, cs, fuel, p, hg, hty, hvar, hd⟩ := r2
    obtain rfl := Option.some.inj (Tryz.gAcc.symm.trans hg)
    obtain rfl := Option.some.inj (Tryz.gtAcc.symm.trans hty)
    obtain ⟨fuel', d, q, hdi, he⟩ := Lib.array_elem Tryz.uAcc hd i hi
    simp only [List.getElem?_map, List.getElem?_range hi, Option.map_some, Option.some.injEq] at hdi
    subst hdi
    rw [Tryz.clAccR] at he
    have hcs := Lib.ints_of_struct Tryz.uAccR (fun j f hj => by
      have h2 := field2 Tryz.fdAccR hj
      match j, h2 with
      | 0, h2 => injection h2 with h2; injection h2 with h2 h3; rw [← h2, ← h3]; exact ⟨Tryz.uU8, rfl, Tryz.clU8⟩
      | 1, h2 => injection h2 with h2; injection h2 with h2 h3; rw [← h2, ← h3]; exact ⟨Tryz.uU8, rfl, Tryz.clU8⟩
      | j + 2, h2 => simp at h2) (by rw [Tryz.clAccR]; kernel_rfl) he
    have e0 := congrArg (·[0]?) hcs
    have e1 := congrArg (·[1]?) hcs
    simp only [List.getElem?_take, List.getElem?_drop] at e0 e1
    constructor
    · rw [World.var?_cell hg hvar (2 * i), ← Array.getElem?_toList]
      simpa [Nat.mul_comm] using e0
    · rw [World.var?_cell hg hvar (2 * i + 1), ← Array.getElem?_toList]
      simpa [Nat.mul_comm] using e1

def relay (cs : Array Value) : Obj → Obj
  | .cells _ t frozen => .cells cs t frozen
  | o => o
noncomputable def laidWorld (os : Os) : World :=
  { World.holding Tryz.prog os ⟨#[], #[], []⟩ with heap := ((World.holding Tryz.prog os ⟨#[], #[], []⟩).heap.modify 1 (relay (Lib.firstTab.map (Value.int .u8)).toArray)).modify 2 (relay ((List.range 16).flatMap fun i => [Value.int .u8 (Lib.accLo i), Value.int .u8 (Lib.accHi i)]).toArray) }

section
variable {H : Type} {enc : TypeId × Value → H} {P : Program} {W W' : World}
theorem trodAll_later (hl : laidOutB P = true) (hb : Below W.heap.size W W') : ∀ (ts : List TypeId) (vs : List Value) (ds : List (DataW H)) (ps : List MemPlace), (∀ t ∈ ts, P.readableRec t = true ∧ t < P.types.size) →
    DataW.TrodAll enc P W 0 (fun _ => true) true ts vs ds ps → (∀ x ∈ ps, x.block < W.heap.size) → DataW.TrodAll enc P W' 0 (fun b => decide (b < W.heap.size)) true ts vs ds ps
  | [], vs, ds, ps, _, h, _ => by
    obtain ⟨rfl, rfl, rfl⟩ := trodAll_nil h
    exact trodAll_mk0
  | t :: ts, vs, ds, ps, ht, h, hp => by
    obtain ⟨v, vs', d, ds', p, q, rfl, rfl, rfl, h0, r⟩ := trodAll_cons h
    have h1 := ht t (by simp)
    exact trodAll_cons_mk (Below.trod hl h1.1 h1.2 h0 hb (fun x hx => hp x (List.mem_append_left _ hx)))
      (trodAll_later hl hb ts vs' ds' q (fun u hu => ht u (List.mem_cons_of_mem _ hu)) r (fun x hx => hp x (List.mem_append_right _ hx)))

theorem post_law {f : Func} {s : ChangeSpec} {args : Array Value} {ds gs : List (DataW H)} {before : List MemPlace} {tb : TypeId}
    (hW : DataW.Whole enc P f.params.toList s.vars false W args.toList ds gs before) (hv : s.vars = []) (hr : f.resultTypes = #[tb]) (hu : P.underlying tb = some .bool)
    (hspec : s.fn H ds = { results := [.lit (.bool true)], args := ds }) (hl : laidOutB P = true) (hrr : f.params.toList.all (fun t => P.readableRec t && decide (t < P.types.size)) = true) (hb : Below W.heap.size W W') :
    s.post enc P f false true false false W args (.bool true) W' := by
  have hW0 := hW
  obtain ⟨p, q, hA, hV, rfl, _, _⟩ := hW
  rw [hv] at hV
  obtain ⟨rfl, rfl⟩ := trodVars_none hV
  have hlt : ∀ x ∈ p ++ [], x.block < W.heap.size := fun x hx => hW0.lt x hx
  rw [List.append_nil] at hlt
  refine ⟨ds, [], p ++ [], [], p, [], hW0, ?_, ?_, ?_, World.keptBut_mono (fun x hx => ⟨by simpa using hx, by simpa using hx⟩) (hb.frame (· ∈ p)), fun h => by cases h⟩
  · rw [hr, List.append_nil, hspec]
    exact trodAll_mk1 (shut_bool hu true)
  · rw [List.append_nil, hspec]
    exact trodAll_later hl hb _ _ _ _ (fun t ht => by have := List.all_eq_true.1 hrr t ht; simpa using this) hA hlt
  · rw [hv, List.append_nil, hspec]
    rfl
end

section
variable {H : Type} {enc : TypeId × Value → H} {w : World} {base : Nat} {spare : Nat → Bool} {held : Bool} {fuel : Nat} {cs : List Value} {x : DataW H × List MemPlace}
end
open Go.ChangeShapes Go.WideShapes Go.ChangeAt Go.RowKit Go.Deep
set_option linter.unusedVariables false
set_option linter.constructorNameAsVariable false
set_option maxRecDepth 20000

theorem Tryz.qV : Tryz.prog.underlying 41 = some (.struct (Tryz.prog.fieldsOf 41)) := by kernel_rfl
theorem Tryz.qFd : (Tryz.prog.fieldsOf 41).toList.map (fun f => (f.type, f.offset)) = [(5, 0), (2, 1), (39, 2), (9, 3)] := by kernel_rfl
theorem Tryz.qI64 : Tryz.prog.underlying 2 = some (.int .i64) := by kernel_rfl
theorem Tryz.qU8 : Tryz.prog.underlying 5 = some (.int .u8) := by kernel_rfl
theorem Tryz.qU64 : Tryz.prog.underlying 39 = some (.int .u64) := by kernel_rfl
theorem Tryz.qBool : Tryz.prog.underlying 4 = some .bool := by kernel_rfl
theorem Tryz.qStr : Tryz.prog.underlying 9 = some .string := by kernel_rfl
theorem Tryz.qcV : Tryz.prog.cellsOf 41 = 4 := by kernel_rfl
theorem Tryz.qcI64 : Tryz.prog.cellsOf 2 = 1 := by kernel_rfl
theorem Tryz.qcU8 : Tryz.prog.cellsOf 5 = 1 := by kernel_rfl
theorem Tryz.qcU64 : Tryz.prog.cellsOf 39 = 1 := by kernel_rfl
theorem Tryz.qcStr : Tryz.prog.cellsOf 9 = 1 := by kernel_rfl

theorem wf_u8 {n : Int} (h : (Lit.int .u8 n).wf = true) : 0 ≤ n ∧ n ≤ 255 := by
  simp [Lit.wf] at h
  have h1 : IntKind.u8.min = 0 := by decide
  have h2 : IntKind.u8.max = 255 := by decide
  rw [h1, h2] at h
  exact h
theorem wf_u64 {n : Int} (h : (Lit.int .u64 n).wf = true) : 0 ≤ n ∧ n ≤ 18446744073709551615 := by
  simp [Lit.wf] at h
  have h1 : IntKind.u64.min = 0 := by decide
  have h2 : IntKind.u64.max = 18446744073709551615 := by decide
  rw [h1, h2] at h
  exact h
theorem wf_i64 {n : Int} (h : (Lit.int .i64 n).wf = true) : -9223372036854775808 ≤ n ∧ n ≤ 9223372036854775807 := by
  simp [Lit.wf] at h
  have h1 : IntKind.i64.min = -9223372036854775808 := by decide
  rw [h1] at h
  exact h
theorem field_at {fs : Array Field} {l : List (TypeId × Nat)} (h : fs.toList.map (fun f => (f.type, f.offset)) = l) {i : Nat} {t o : Nat} (hi : l[i]? = some (t, o)) : ∃ f, fs[i]? = some f ∧ f.type = t ∧ f.offset = o := by
  rw [← h, List.getElem?_map] at hi
  rw [Array.getElem?_toList] at hi
  cases hf : fs[i]? with
  | none => rw [hf] at hi; simp at hi
  | some f => rw [hf] at hi; simp at hi; exact ⟨f, rfl, hi.1, hi.2⟩

section
variable {H : Type} {enc : TypeId × Value → H} {w : World} {base : Nat} {spare : Nat → Bool} {held : Bool} {fuel : Nat} {cs : List Value} {x : DataW H × List MemPlace}
end
open Go.ChangeShapes Go.WideShapes Go.ChangeAt Go.RowKit Go.Deep
set_option linter.unusedVariables false
set_option linter.constructorNameAsVariable false
set_option maxRecDepth 20000

theorem bulk_one {H : Type} (d : DataW H) : 1 ≤ Rows.uptoBulk d := by
  cases d with
  | lit l => cases l <;> simp [Rows.uptoBulk]
  | _ => simp [Rows.uptoBulk]
theorem bulk_mem {H : Type} {d : DataW H} {l : List (DataW H)} (h : d ∈ l) : Rows.uptoBulk d ≤ Rows.uptoBulkAll l := by
  induction l with
  | nil => cases h
  | cons x r ih =>
    simp only [Rows.uptoBulkAll]
    rcases List.mem_cons.1 h with rfl | e
    · omega
    · have := ih e; omega
theorem bulk_len {H : Type} (l : List (DataW H)) : l.length ≤ Rows.uptoBulkAll l := by
  induction l with
  | nil => simp [Rows.uptoBulkAll]
  | cons x r ih => have := bulk_one x; simp only [Rows.uptoBulkAll, List.length_cons]; omega

theorem open_listP {α : Type} {enc' : α → List Value} {size : Nat} {H : Type} {enc : TypeId × Value → H} {W : World} {base : Nat} {spare : Nat → Bool} {held : Bool} {t e : TypeId} {v : Value} {d : DataW H} {ps : List MemPlace} {r : Reach} {b0 : Nat} (Pr : α → DataW H → Prop)
    (ht : Tryz.prog.underlying t = some (.slice e)) (hC : Tryz.prog.cellsOf e = size) (hz : ∀ a, (enc' a).length = size) (hpos : 0 < size)
    (hread : ∀ {fuel : Nat} {cs : List Value} {x : DataW H × List MemPlace}, DataW.trod enc Tryz.prog W base spare held fuel e cs = some x → ∃ a : α, cs = enc' a ∧ Pr a x.1)
    (hv : Value.okWide Tryz.prog W r b0 t v) (h : DataW.Trod enc Tryz.prog W base spare held t v d ps) :
    ∃ (A : Option Addr) (n c : Nat) (l : List α), v = .slice A n c ∧ n = l.length ∧ n ≤ c ∧ c ≤ maxLen ∧ Rd enc' size W W.heap.size A l ∧ n + 1 ≤ Rows.uptoBulk d ∧ ∀ a ∈ l, ∃ d', Pr a d' ∧ Rows.uptoBulk d' ≤ Rows.uptoBulk d := by
  obtain ⟨a0, len, cap, rfl⟩ := okWide_slice ht hv
  obtain ⟨fuel, hf⟩ := h
  rcases open_slice ht hf with ⟨hcs, hx⟩ | ⟨a, len', cap', m, k, D, Pl, hcs, _, hl, hm, hmm, hx, hi⟩
  · simp [Value.cells] at hcs
    obtain ⟨rfl, rfl, rfl⟩ := hcs
    refine ⟨none, 0, 0, [], rfl, rfl, Nat.le_refl _, Nat.zero_le _, Rd.nil, bulk_one d, fun a ha => by cases ha⟩
  · simp [Value.cells] at hcs
    obtain ⟨rfl, rfl, rfl⟩ := hcs
    have hlm : len ≤ m := by rw [hmm]; split <;> omega
    have hd : d = .slice ((List.range len).map D) ((List.range (m - len)).map fun j => D (len + j)) := by have := congrArg Prod.fst hx; simpa using this
    have hbulk : ∀ i, i < len → Rows.uptoBulk (D i) ≤ Rows.uptoBulk d := by
      intro i hil
      have h1 := bulk_mem (d := D i) (l := (List.range len).map D) (List.mem_map.2 ⟨i, List.mem_range.2 hil, rfl⟩)
      rw [hd]
      simp only [Rows.uptoBulk]
      omega
    have hlen1 : len + 1 ≤ Rows.uptoBulk d := by
      have h1 := bulk_len ((List.range len).map D)
      rw [List.length_map, List.length_range] at h1
      rw [hd]
      simp only [Rows.uptoBulk]
      omega
    have hall : ∀ i, i < len → ∃ y : α, CellsAt W (a.add (i * size)) (enc' y) ∧ Pr y (D i) := by
      intro i hil
      obtain ⟨cs', hc, htr⟩ := hi i (by omega)
      obtain ⟨y, rfl, hp⟩ := hread htr
      refine ⟨y, fun j u hu => ?_, hp⟩
      rw [hC] at hc
      obtain ⟨_, hcl, hat⟩ := World.cells?_some hc
      have hj : j < size := by rw [← hz y]; exact (List.getElem?_eq_some_iff.1 hu).1
      rw [hat j hj]; exact hu
    have hl : ∀ k, k ≤ len → ∃ l : List α, l.length = k ∧ (∀ i (h : i < l.length), CellsAt W (a.add (i * size)) (enc' l[i])) ∧ ∀ y ∈ l, ∃ d', Pr y d' ∧ Rows.uptoBulk d' ≤ Rows.uptoBulk d := by
      intro k
      induction k with
      | zero => intro _; exact ⟨[], rfl, fun i h => by simp at h, fun y hy => by cases hy⟩
      | succ k ih =>
        intro hk
        obtain ⟨l, hll, hlc, hlp⟩ := ih (by omega)
        obtain ⟨y, hy, hyp⟩ := hall k (by omega)
        refine ⟨l ++ [y], by simp [hll], fun i h => ?_, fun z hz => ?_⟩
        · rw [List.getElem_append]
          split
          · exact hlc i _
          · have hik : i = k := by simp at h; omega
            subst hik
            simpa [hll] using hy
        · rcases List.mem_append.1 hz with h1 | h1
          · exact hlp z h1
          · simp at h1; subst h1; exact ⟨_, hyp, hbulk k (by omega)⟩
    obtain ⟨l, hll, hlc, hlp⟩ := hl len (Nat.le_refl _)
    refine ⟨some a, len, cap, l, rfl, hll.symm, by assumption, by assumption, fun hpl => ⟨a, rfl, ?_, hlc⟩, hlen1, hlp⟩
    have hc0 := hlc 0 hpl
    have hlen0 : 0 < (enc' l[0]).length := by rw [hz]; exact hpos
    have hcell := hc0 0 _ (List.getElem?_eq_getElem hlen0)
    rw [add_zero', Nat.zero_mul, add_zero'] at hcell
    unfold World.cell? at hcell
    cases hb : W.heap[a.block]? with
    | none => rw [hb] at hcell; simp at hcell
    | some o => exact blk_lt hb

theorem Tryz.qAt : Tryz.prog.underlying 43 = some (.struct (Tryz.prog.fieldsOf 43)) := by kernel_rfl
theorem Tryz.qfAt : (Tryz.prog.fieldsOf 43).toList.map (fun f => (f.type, f.offset)) = [(3, 0), (41, 1)] := by kernel_rfl
theorem Tryz.qKy : Tryz.prog.underlying 97 = some (.struct (Tryz.prog.fieldsOf 97)) := by kernel_rfl
theorem Tryz.qfKy : (Tryz.prog.fieldsOf 97).toList.map (fun f => (f.type, f.offset)) = [(3, 0), (4, 1), (5, 2), (4, 3), (4, 4), (3, 5)] := by kernel_rfl
theorem Tryz.qInt : Tryz.prog.underlying 3 = some (.int .i64) := by kernel_rfl
theorem Tryz.qcInt : Tryz.prog.cellsOf 3 = 1 := by kernel_rfl
theorem Tryz.qcBool : Tryz.prog.cellsOf 4 = 1 := by kernel_rfl
theorem Tryz.qcAt : Tryz.prog.cellsOf 43 = 5 := by kernel_rfl
theorem Tryz.qcKy : Tryz.prog.cellsOf 97 = 6 := by kernel_rfl

section
variable {H : Type} {enc : TypeId × Value → H} {w : World} {base : Nat} {spare : Nat → Bool} {held : Bool} {fuel : Nat} {cs : List Value} {x : DataW H × List MemPlace}
theorem read_okVd (h : DataW.trod enc Tryz.prog w base spare held fuel 41 cs = some x) : ∃ v : V, cs = [.int .u8 v.k, .int .i64 v.n, .int .u64 v.f, .string v.s] ∧ okV v ∧ v.s.size + 1 ≤ Rows.uptoBulk x.1 := by
  obtain ⟨xs, n, _, hx, hlen, hxl, hf⟩ := DataW.trod_struct Tryz.qV h
  obtain ⟨f0, e0, t0, o0⟩ := field_at Tryz.qFd (i := 0) rfl
  obtain ⟨f1, e1, t1, o1⟩ := field_at Tryz.qFd (i := 1) rfl
  obtain ⟨f2, e2, t2, o2⟩ := field_at Tryz.qFd (i := 2) rfl
  obtain ⟨f3, e3, t3, o3⟩ := field_at Tryz.qFd (i := 3) rfl
  have hsz : (Tryz.prog.fieldsOf 41).size = 4 := by kernel_rfl
  have h0 := hf 0 f0 e0
  have h1 := hf 1 f1 e1
  have h2 := hf 2 f2 e2
  have h3 := hf 3 f3 e3
  rw [t0, o0, Tryz.qcU8] at h0
  rw [t1, o1, Tryz.qcI64] at h1
  rw [t2, o2, Tryz.qcU64] at h2
  rw [t3, o3, Tryz.qcStr] at h3
  rw [Tryz.qcV] at hlen
  rw [hsz] at hxl
  match cs, hlen, xs, hxl with
  | [c0, c1, c2, c3], _, [y0, y1, y2, y3], _ =>
    obtain ⟨a, ha, _, wa⟩ := DataW.trod_int Tryz.qU8 (x := y0) (by simpa using h0)
    obtain ⟨b, hb, _, wb⟩ := DataW.trod_int Tryz.qI64 (x := y1) (by simpa using h1)
    obtain ⟨c, hc, _, wc⟩ := DataW.trod_int Tryz.qU64 (x := y2) (by simpa using h2)
    obtain ⟨s, hs, hy, ws⟩ := DataW.trod_string Tryz.qStr (x := y3) (by simpa using h3)
    simp at ha hb hc hs
    have ra := wf_u8 wa
    have rb := wf_i64 wb
    have rc := wf_u64 wc
    refine ⟨⟨a, b, c, s⟩, by simp [ha, hb, hc, hs], ⟨ra.1, ra.2, rb.1, rb.2, rc.1, rc.2⟩, ?_⟩
    rw [hx]
    have hm := bulk_mem (d := y3.1) (l := [y0, y1, y2, y3].map (·.1)) (by simp)
    have e1 : Rows.uptoBulk y3.1 = s.data.toList.length + 1 := by rw [hy]; rfl
    have e2 : s.data.toList.length = s.size := by rw [Array.length_toList]; rfl
    simp only [Rows.uptoBulk]
    omega
theorem read_atd (h : DataW.trod enc Tryz.prog w base spare held fuel 43 cs = some x) : ∃ a : At, cs = At.enc a ∧ okV a.v ∧ a.v.s.size + 1 ≤ Rows.uptoBulk x.1 := by
  obtain ⟨xs, n, _, hx, hlen, hxl, hf⟩ := DataW.trod_struct Tryz.qAt h
  obtain ⟨f0, e0, t0, o0⟩ := field_at Tryz.qfAt (i := 0) rfl
  obtain ⟨f1, e1, t1, o1⟩ := field_at Tryz.qfAt (i := 1) rfl
  have hsz : (Tryz.prog.fieldsOf 43).size = 2 := by kernel_rfl
  have h0 := hf 0 f0 e0
  have h1 := hf 1 f1 e1
  rw [t0, o0, Tryz.qcInt] at h0
  rw [t1, o1, Tryz.qcV] at h1
  rw [Tryz.qcAt] at hlen
  rw [hsz] at hxl
  match cs, hlen, xs, hxl with
  | [c0, c1, c2, c3, c4], _, [y0, y1], _ =>
    obtain ⟨a, ha, _, _⟩ := DataW.trod_int Tryz.qInt (x := y0) (by simpa using h0)
    obtain ⟨v, hv, ho, hb2⟩ := read_okVd (x := y1) (by simpa using h1)
    simp at ha hv
    refine ⟨⟨a, v⟩, by simp [ha, hv, At.enc], ho, ?_⟩
    rw [hx]
    have hm := bulk_mem (d := y1.1) (l := [y0, y1].map (·.1)) (by simp)
    simp only [Rows.uptoBulk]
    omega
theorem read_kyd (h : DataW.trod enc Tryz.prog w base spare held fuel 97 cs = some x) : ∃ a : Ky, cs = Ky.enc a ∧ True := by
  obtain ⟨xs, n, _, hx, hlen, hxl, hf⟩ := DataW.trod_struct Tryz.qKy h
  obtain ⟨f0, e0, t0, o0⟩ := field_at Tryz.qfKy (i := 0) rfl
  obtain ⟨f1, e1, t1, o1⟩ := field_at Tryz.qfKy (i := 1) rfl
  obtain ⟨f2, e2, t2, o2⟩ := field_at Tryz.qfKy (i := 2) rfl
  obtain ⟨f3, e3, t3, o3⟩ := field_at Tryz.qfKy (i := 3) rfl
  obtain ⟨f4, e4, t4, o4⟩ := field_at Tryz.qfKy (i := 4) rfl
  obtain ⟨f5, e5, t5, o5⟩ := field_at Tryz.qfKy (i := 5) rfl
  have hsz : (Tryz.prog.fieldsOf 97).size = 6 := by kernel_rfl
  have h0 := hf 0 f0 e0
  have h1 := hf 1 f1 e1
  have h2 := hf 2 f2 e2
  have h3 := hf 3 f3 e3
  have h4 := hf 4 f4 e4
  have h5 := hf 5 f5 e5
  rw [t0, o0, Tryz.qcInt] at h0
  rw [t1, o1, Tryz.qcBool] at h1
  rw [t2, o2, Tryz.qcU8] at h2
  rw [t3, o3, Tryz.qcBool] at h3
  rw [t4, o4, Tryz.qcBool] at h4
  rw [t5, o5, Tryz.qcInt] at h5
  rw [Tryz.qcKy] at hlen
  rw [hsz] at hxl
  match cs, hlen, xs, hxl with
  | [c0, c1, c2, c3, c4, c5], _, [y0, y1, y2, y3, y4, y5], _ =>
    obtain ⟨a, ha, _, _⟩ := DataW.trod_int Tryz.qInt (x := y0) (by simpa using h0)
    obtain ⟨b, hb, _⟩ := DataW.trod_bool Tryz.qBool (x := y1) (by simpa using h1)
    obtain ⟨c, hc, _, _⟩ := DataW.trod_int Tryz.qU8 (x := y2) (by simpa using h2)
    obtain ⟨e, he, _⟩ := DataW.trod_bool Tryz.qBool (x := y3) (by simpa using h3)
    obtain ⟨f, hf, _⟩ := DataW.trod_bool Tryz.qBool (x := y4) (by simpa using h4)
    obtain ⟨g, hg, _, _⟩ := DataW.trod_int Tryz.qInt (x := y5) (by simpa using h5)
    simp at ha hb hc he hf hg
    exact ⟨⟨a, b, c, e, f, g⟩, by simp [ha, hb, hc, he, hf, hg, Ky.enc], trivial⟩
end
theorem small_of {H : Type} {d : DataW H} {l : List (DataW H)} (hm : d ∈ l) (hk : Rows.uptoSmall H l = true) : Rows.uptoBulk d ≤ 1048576 := by
  have hb : Rows.uptoBulkAll l ≤ 1048576 := of_decide_eq_true hk
  exact Nat.le_trans (bulk_mem hm) hb
open Go.ChangeShapes Go.WideShapes Go.ChangeAt Go.RowKit Go.Deep
set_option linter.unusedVariables false
set_option linter.constructorNameAsVariable false
set_option maxRecDepth 20000

theorem open_listT {α : Type} {enc' : α → List Value} {size : Nat} {H : Type} {enc : TypeId × Value → H} {W : World} {base : Nat} {spare : Nat → Bool} {held : Bool} {t e : TypeId} {fuel0 : Nat} {cs0 : List Value} {x0 : DataW H × List MemPlace} (Pr : α → DataW H → Prop)
    (ht : Tryz.prog.underlying t = some (.slice e)) (hC : Tryz.prog.cellsOf e = size) (hz : ∀ a, (enc' a).length = size) (hpos : 0 < size)
    (hread : ∀ {fuel : Nat} {cs : List Value} {x : DataW H × List MemPlace}, DataW.trod enc Tryz.prog W base spare held fuel e cs = some x → ∃ a : α, cs = enc' a ∧ Pr a x.1)
    (hf : DataW.trod enc Tryz.prog W base spare held fuel0 t cs0 = some x0) :
    ∃ (A : Option Addr) (n c : Nat) (l : List α), cs0 = [.slice A n c] ∧ n = l.length ∧ n ≤ c ∧ c ≤ maxLen ∧ Rd enc' size W W.heap.size A l ∧ n + 1 ≤ Rows.uptoBulk x0.1 ∧ ∀ a ∈ l, ∃ d', Pr a d' ∧ Rows.uptoBulk d' ≤ Rows.uptoBulk x0.1 := by
  rcases open_slice ht hf with ⟨hcs, hx⟩ | ⟨a, len, cap, m, k, D, Pl, hcs, _, hl, hm, hmm, hx, hi⟩
  · exact ⟨none, 0, 0, [], hcs, rfl, Nat.le_refl _, Nat.zero_le _, Rd.nil, bulk_one _, fun a ha => by cases ha⟩
  · have hlm : len ≤ m := by rw [hmm]; split <;> omega
    have hd : x0.1 = .slice ((List.range len).map D) ((List.range (m - len)).map fun j => D (len + j)) := by have := congrArg Prod.fst hx; simpa using this
    have hbulk : ∀ i, i < len → Rows.uptoBulk (D i) ≤ Rows.uptoBulk x0.1 := by
      intro i hil
      have h1 := bulk_mem (d := D i) (l := (List.range len).map D) (List.mem_map.2 ⟨i, List.mem_range.2 hil, rfl⟩)
      rw [hd]
      simp only [Rows.uptoBulk]
      omega
    have hlen1 : len + 1 ≤ Rows.uptoBulk x0.1 := by
      have h1 := bulk_len ((List.range len).map D)
      rw [List.length_map, List.length_range] at h1
      rw [hd]
      simp only [Rows.uptoBulk]
      omega
    have hall : ∀ i, i < len → ∃ y : α, CellsAt W (a.add (i * size)) (enc' y) ∧ Pr y (D i) := by
      intro i hil
      obtain ⟨cs', hc, htr⟩ := hi i (by omega)
      obtain ⟨y, rfl, hp⟩ := hread htr
      refine ⟨y, fun j u hu => ?_, hp⟩
      rw [hC] at hc
      obtain ⟨_, hcl, hat⟩ := World.cells?_some hc
      have hj : j < size := by rw [← hz y]; exact (List.getElem?_eq_some_iff.1 hu).1
      rw [hat j hj]; exact hu
    have hl : ∀ k, k ≤ len → ∃ l : List α, l.length = k ∧ (∀ i (h : i < l.length), CellsAt W (a.add (i * size)) (enc' l[i])) ∧ ∀ y ∈ l, ∃ d', Pr y d' ∧ Rows.uptoBulk d' ≤ Rows.uptoBulk x0.1 := by
      intro k
      induction k with
      | zero => intro _; exact ⟨[], rfl, fun i h => by simp at h, fun y hy => by cases hy⟩
      | succ k ih =>
        intro hk
        obtain ⟨l, hll, hlc, hlp⟩ := ih (by omega)
        obtain ⟨y, hy, hyp⟩ := hall k (by omega)
        refine ⟨l ++ [y], by simp [hll], fun i h => ?_, fun z hz => ?_⟩
        · rw [List.getElem_append]
          split
          · exact hlc i _
          · have hik : i = k := by simp at h; omega
            subst hik
            simpa [hll] using hy
        · rcases List.mem_append.1 hz with h1 | h1
          · exact hlp z h1
          · simp at h1; subst h1; exact ⟨_, hyp, hbulk k (by omega)⟩
    obtain ⟨l, hll, hlc, hlp⟩ := hl len (Nat.le_refl _)
    refine ⟨some a, len, cap, l, hcs, hll.symm, by assumption, by assumption, fun hpl => ⟨a, rfl, ?_, hlc⟩, hlen1, hlp⟩
    have hc0 := hlc 0 hpl
    have hlen0 : 0 < (enc' l[0]).length := by rw [hz]; exact hpos
    have hcell := hc0 0 _ (List.getElem?_eq_getElem hlen0)
    rw [add_zero', Nat.zero_mul, add_zero'] at hcell
    unfold World.cell? at hcell
    cases hb : W.heap[a.block]? with
    | none => rw [hb] at hcell; simp at hcell
    | some o => exact blk_lt hb

theorem Tryz.qcSA : Tryz.prog.cellsOf 36 = 1 := by kernel_rfl
section
variable {H : Type} {enc : TypeId × Value → H} {w : World} {base : Nat} {spare : Nat → Bool} {held : Bool} {fuel : Nat} {cs : List Value} {x : DataW H × List MemPlace}
end
open Go.ChangeShapes Go.WideShapes Go.ChangeAt Go.RowKit Go.Deep
set_option linter.unusedVariables false
set_option linter.constructorNameAsVariable false
set_option maxRecDepth 20000

theorem Tryz.qCl : Tryz.prog.underlying 38 = some (.struct (Tryz.prog.fieldsOf 38)) := by kernel_rfl
theorem Tryz.qfCl : (Tryz.prog.fieldsOf 38).toList.map (fun f => (f.type, f.offset)) = [(21, 0), (36, 1)] := by kernel_rfl
theorem Tryz.qcCl : Tryz.prog.cellsOf 38 = 2 := by kernel_rfl
theorem Tryz.qcI32' : Tryz.prog.cellsOf 21 = 1 := by kernel_rfl
theorem Tryz.qslCl : Tryz.prog.underlying 23 = some (.slice 38) := by kernel_rfl

section
variable {H : Type} {enc : TypeId × Value → H} {w : World} {base : Nat} {spare : Nat → Bool} {held : Bool} {fuel : Nat} {cs : List Value} {x : DataW H × List MemPlace}
def clPr {H : Type} (w : World) (o : ClS) (d : DataW H) : Prop :=
  RdAt w w.heap.size o.As o.c.s ∧ okVr o.c.s ∧ (Rows.uptoBulk d ≤ 100000000 → o.c.s.length ≤ 100000000)
def clPrC {H : Type} (w : World) (o : ClS) (d : DataW H) : Prop := clPr w o d ∧ o.c.s.length ≤ o.cs ∧ o.cs ≤ maxLen
set_option maxHeartbeats 800000 in
theorem read_cldC (h : DataW.trod enc Tryz.prog w base spare held fuel 38 cs = some x) : ∃ o : ClS, cs = ClS.enc o ∧ clPrC w o x.1 := by
  obtain ⟨xs, n, _, hx, hlen, hxl, hf⟩ := DataW.trod_struct Tryz.qCl h
  obtain ⟨f0, e0, t0, o0⟩ := field_at Tryz.qfCl (i := 0) rfl
  obtain ⟨f1, e1, t1, o1⟩ := field_at Tryz.qfCl (i := 1) rfl
  have hsz : (Tryz.prog.fieldsOf 38).size = 2 := by kernel_rfl
  have h0 := hf 0 f0 e0
  have h1 := hf 1 f1 e1
  rw [t0, o0, Tryz.qcI32'] at h0
  rw [t1, o1, Tryz.qcSA] at h1
  rw [Tryz.qcCl] at hlen
  rw [hsz] at hxl
  match cs, hlen, xs, hxl with
  | [c0, c1], _, [y0, y1], _ =>
    obtain ⟨a, ha, _, wa⟩ := DataW.trod_int Tryz.uI32 (x := y0) (by simpa using h0)
    obtain ⟨A3, n3, k3, s, hs, m3, g3, g4, R3, z3, P3⟩ := open_listT (fun a d => okV a.v ∧ a.v.s.size + 1 ≤ Rows.uptoBulk d) Tryz.slAt Tryz.qcAt At.enc_len (by omega) read_atd (x0 := y1) (by simpa using h1)
    subst m3
    simp at ha hs
    refine ⟨⟨⟨a, s⟩, A3, k3⟩, by simp [ha, hs, ClS.enc], ⟨R3, fun c hc => ?_, fun hbu => ?_⟩, g3, g4⟩
    · obtain ⟨d', ⟨h1, h2⟩, h3⟩ := P3 c hc
      exact h1
    · rw [hx] at hbu
      have hm3 := bulk_mem (d := y1.1) (l := [y0, y1].map (·.1)) (by simp)
      simp only [Rows.uptoBulk] at hbu
      show s.length ≤ _
      omega
end
end Go.Proofs.YtfnkjcodcoehcaaGreatDoor
