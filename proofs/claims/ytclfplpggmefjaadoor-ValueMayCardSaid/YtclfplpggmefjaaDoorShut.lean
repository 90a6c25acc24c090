/- What closes each statement of a seat whose rows list the tables of utf8: arguments opened, the post, the tables out of the row, the witness's world. -/
import Derived.Test.YtclfplpggmefjaaDoorCards
import Derived.Test.YtclfplpggmefjaaDoorTie
import Derived.Test.YtclfplpggmefjaaDoorRuRead0
import Derived.ProofKit
import Derived.Deep.Slices
import Derived.JoinedCond
import Derived.OpenShut
import Derived.Deep.DeepHandedRow
import Derived.Lib.LaidTab
namespace Go.Proofs.YtclfplpggmefjaaDoor
open Go.ChangeShapes Go.WideShapes Go.ChangeAt Go.RowKit Go.Deep
set_option linter.unusedVariables false
set_option linter.constructorNameAsVariable false
set_option maxRecDepth 20000

theorem Tryd.own : ownKnob Tryd.prog.godebug = none := by kernel_rfl
theorem Tryd.laidOut : laidOutB Tryd.prog = true := by kernel_rfl
theorem Tryd.undBool : Tryd.prog.underlying 4 = some .bool := by kernel_rfl
theorem Tryd.uI32 : Tryd.prog.underlying 21 = some (.int .i32) := by kernel_rfl
theorem Tryd.clU8 : Tryd.prog.cellsOf 5 = 1 := by kernel_rfl
theorem Tryd.clI32 : Tryd.prog.cellsOf 21 = 1 := by kernel_rfl
theorem Tryd.uTab : Tryd.prog.underlying 119 = some (.array 256 5) := by kernel_rfl
theorem Tryd.clTab : Tryd.prog.cellsOf 119 = 256 := by kernel_rfl
theorem Tryd.uAcc : Tryd.prog.underlying 122 = some (.array 16 121) := by kernel_rfl
theorem Tryd.uAccR : Tryd.prog.underlying 121 = some (.struct (Tryd.prog.fieldsOf 121)) := by kernel_rfl
theorem Tryd.clAccR : Tryd.prog.cellsOf 121 = 2 := by kernel_rfl
theorem Tryd.fdAccR : (Tryd.prog.fieldsOf 121).toList.map (fun f => (f.type, f.offset)) = [(5, 0), (5, 1)] := by kernel_rfl
theorem Tryd.gFirst : Tryd.prog.globalNamed "unicode/utf8.first" = some 1 := by kernel_rfl
theorem Tryd.gAcc : Tryd.prog.globalNamed "unicode/utf8.acceptRanges" = some 2 := by kernel_rfl
theorem Tryd.gtFirst : (Tryd.prog.globals[1]?).map (·.type) = some 119 := by kernel_rfl
theorem Tryd.gtAcc : (Tryd.prog.globals[2]?).map (·.type) = some 122 := by kernel_rfl

/-- the list that the rows bear -/
def laidRows : List (String × DataW Unit) := [("unicode/utf8.acceptRanges", Rows.laid_unicode_utf8_acceptRanges), ("unicode/utf8.first", Rows.laid_unicode_utf8_first)]
set_option maxRecDepth 100000 in
theorem firstEq : Rows.laid_unicode_utf8_first = Lib.firstData := by kernel_rfl
theorem accEq : (Rows.laid_unicode_utf8_acceptRanges : DataW Unit) = Lib.acceptData := by kernel_rfl
theorem field2 {fs : Array Field} {l : List (TypeId × Nat)} (h : fs.toList.map (fun f => (f.type, f.offset)) = l) {i : Nat} {f : Field} (hf : fs[i]? = some f) : l[i]? = some (f.type, f.offset) := by
  rw [← h, List.getElem?_map, Array.getElem?_toList, hf]
  rfl
theorem tabs {W : World} (h : laidMetH Tryd.prog laidRows W) : Lib.Utf8Tabs 1 2 W := by
  have h' : laidMet Tryd.prog laidRows W := by
    unfold laidMetH at h
    rw [show (laidRows.filter fun x => x.2.handleName?.isSome) = [] from by kernel_rfl] at h
    exact h
  have r1 := Lib.laidMet.reads h' (n := "unicode/utf8.first") (d := Rows.laid_unicode_utf8_first) (by simp [laidRows])
  have r2 := Lib.laidMet.reads h' (n := "unicode/utf8.acceptRanges") (d := Rows.laid_unicode_utf8_acceptRanges) (by simp [laidRows])
  rw [firstEq] at r1
  rw [accEq] at r2
  refine ⟨fun c hc => ?_, fun i hi => ?_⟩
  · obtain ⟨g, t, cs, fuel, p, hg, hty, hvar, hd⟩ := r1
    obtain rfl := Option.some.inj (Tryd.gFirst.symm.trans hg)
    obtain rfl := Option.some.inj (Tryd.gtFirst.symm.trans hty)
    have hcs := Lib.cells_of_tab Tryd.uTab Tryd.uU8 Tryd.clU8 Tryd.clTab hd
    rw [World.var?_cell hg hvar c, ← Array.getElem?_toList, hcs]
    simp [Lib.firstTab, hc]
  · obtain ⟨g, t, cs, fuel, p, hg, hty, hvar, hd⟩ := r2
    obtain rfl := Option.some.inj (Tryd.gAcc.symm.trans hg)
    obtain rfl := Option.some.inj (Tryd.gtAcc.symm.trans hty)
    obtain ⟨fuel', d, q, hdi, he⟩ := Lib.array_elem Tryd.uAcc hd i hi
    simp only [List.getElem?_map, List.getElem?_range hi, Option.map_some, Option.some.injEq] at hdi
    subst hdi
    rw [Tryd.clAccR] at he
    have hcs := Lib.ints_of_struct Tryd.uAccR (fun j f hj => by
      have h2 := field2 Tryd.fdAccR hj
      match j, h2 with
      | 0, h2 => injection h2 with h2; injection h2 with h2 h3; rw [← h2, ← h3]; exact ⟨Tryd.uU8, rfl, Tryd.clU8⟩
      | 1, h2 => injection h2 with h2; injection h2 with h2 h3; rw [← h2, ← h3]; exact ⟨Tryd.uU8, rfl, Tryd.clU8⟩
      | j + 2, h2 => simp at h2) (by rw [Tryd.clAccR]; kernel_rfl) he
    have e0 := congrArg (·[0]?) hcs
    have e1 := congrArg (·[1]?) hcs
    simp only [List.getElem?_take, List.getElem?_drop] at e0 e1
    constructor
    · rw [World.var?_cell hg hvar (2 * i), ← Array.getElem?_toList]
      simpa [Nat.mul_comm] using e0
    · rw [World.var?_cell hg hvar (2 * i + 1), ← Array.getElem?_toList]
      simpa [Nat.mul_comm] using e1

def relay (cs : Array Value) : Obj → Obj
  | .cells _ t frozen => .cells cs t frozen
  | o => o
/-- A world for the witness: the settled one, both tables as their initialisers lay them. -/
noncomputable def laidWorld (os : Os) : World :=
  { World.holding Tryd.prog os ⟨#[], #[], []⟩ with heap := ((World.holding Tryd.prog os ⟨#[], #[], []⟩).heap.modify 1 (relay (Lib.firstTab.map (Value.int .u8)).toArray)).modify 2 (relay ((List.range 16).flatMap fun i => [Value.int .u8 (Lib.accLo i), Value.int .u8 (Lib.accHi i)]).toArray) }

section
variable {H : Type} {enc : TypeId × Value → H} {P : Program} {W W' : World}
theorem trodAll_later (hl : laidOutB P = true) (hb : Below W.heap.size W W') : ∀ (ts : List TypeId) (vs : List Value) (ds : List (DataW H)) (ps : List MemPlace), (∀ t ∈ ts, P.readableRec t = true ∧ t < P.types.size) →
    DataW.TrodAll enc P W 0 (fun _ => true) true ts vs ds ps → (∀ x ∈ ps, x.block < W.heap.size) → DataW.TrodAll enc P W' 0 (fun b => decide (b < W.heap.size)) true ts vs ds ps
  | [], vs, ds, ps, _, h, _ => by
    obtain ⟨rfl, rfl, rfl⟩ := trodAll_nil h
    exact trodAll_mk0
  | t :: ts, vs, ds, ps, ht, h, hp => by
    obtain ⟨v, vs', d, ds', p, q, rfl, rfl, rfl, h0, r⟩ := trodAll_cons h
    have h1 := ht t (by simp)
    exact trodAll_cons_mk (Below.trod hl h1.1 h1.2 h0 hb (fun x hx => hp x (List.mem_append_left _ hx)))
      (trodAll_later hl hb ts vs' ds' q (fun u hu => ht u (List.mem_cons_of_mem _ hu)) r (fun x hx => hp x (List.mem_append_right _ hx)))

theorem post_law {f : Func} {s : ChangeSpec} {args : Array Value} {ds gs : List (DataW H)} {before : List MemPlace} {tb : TypeId}
    (hW : DataW.Whole enc P f.params.toList s.vars false W args.toList ds gs before) (hv : s.vars = []) (hr : f.resultTypes = #[tb]) (hu : P.underlying tb = some .bool)
    (hspec : s.fn H ds = { results := [.lit (.bool true)], args := ds }) (hl : laidOutB P = true) (hrr : f.params.toList.all (fun t => P.readableRec t && decide (t < P.types.size)) = true) (hb : Below W.heap.size W W') :
    s.post enc P f false true false false W args (.bool true) W' := by
  have hW0 := hW
  obtain ⟨p, q, hA, hV, rfl, _, _⟩ := hW
  rw [hv] at hV
  obtain ⟨rfl, rfl⟩ := trodVars_none hV
  have hlt : ∀ x ∈ p ++ [], x.block < W.heap.size := fun x hx => hW0.lt x hx
  rw [List.append_nil] at hlt
  refine ⟨ds, [], p ++ [], [], p, [], hW0, ?_, ?_, ?_, World.keptBut_mono (fun x hx => ⟨by simpa using hx, by simpa using hx⟩) (hb.frame (· ∈ p)), fun h => by cases h⟩
  · rw [hr, List.append_nil, hspec]
    exact trodAll_mk1 (shut_bool hu true)
  · rw [List.append_nil, hspec]
    exact trodAll_later hl hb _ _ _ _ (fun t ht => by have := List.all_eq_true.1 hrr t ht; simpa using this) hA hlt
  · rw [hv, List.append_nil, hspec]
    rfl
end

/-- a slice as a list, whatever the reader of one element -/
theorem open_list {α : Type} {enc' : α → List Value} {size : Nat} {H : Type} {enc : TypeId × Value → H} {W : World} {base : Nat} {spare : Nat → Bool} {held : Bool} {t e : TypeId} {v : Value} {d : DataW H} {ps : List MemPlace} {r : Reach} {b0 : Nat}
    (ht : Tryd.prog.underlying t = some (.slice e)) (hC : Tryd.prog.cellsOf e = size) (hz : ∀ a, (enc' a).length = size) (hpos : 0 < size)
    (hread : ∀ {fuel : Nat} {cs : List Value} {x : DataW H × List MemPlace}, DataW.trod enc Tryd.prog W base spare held fuel e cs = some x → ∃ a : α, cs = enc' a)
    (hv : Value.okWide Tryd.prog W r b0 t v) (h : DataW.Trod enc Tryd.prog W base spare held t v d ps) :
    ∃ (A : Option Addr) (n c : Nat) (l : List α), v = .slice A n c ∧ n = l.length ∧ n ≤ c ∧ c ≤ maxLen ∧ Rd enc' size W W.heap.size A l ∧ ((d = .nil ∧ n = 0) ∨ ∃ es sp, d = .slice es sp ∧ es.length = n) := by
  obtain ⟨a0, len, cap, rfl⟩ := okWide_slice ht hv
  obtain ⟨fuel, hf⟩ := h
  rcases open_slice ht hf with ⟨hcs, hx⟩ | ⟨a, len', cap', m, k, D, Pl, hcs, _, hl, hm, hmm, hx, hi⟩
  · simp [Value.cells] at hcs
    obtain ⟨rfl, rfl, rfl⟩ := hcs
    refine ⟨none, 0, 0, [], rfl, rfl, Nat.le_refl _, Nat.zero_le _, Rd.nil, .inl ⟨?_, rfl⟩⟩
    have := congrArg Prod.fst hx
    simpa using this
  · simp [Value.cells] at hcs
    obtain ⟨rfl, rfl, rfl⟩ := hcs
    have hlm : len ≤ m := by rw [hmm]; split <;> omega
    have hall : ∀ i, i < len → ∃ y : α, CellsAt W (a.add (i * size)) (enc' y) := by
      intro i hil
      obtain ⟨cs', hc, htr⟩ := hi i (by omega)
      obtain ⟨y, rfl⟩ := hread htr
      refine ⟨y, fun j u hu => ?_⟩
      rw [hC] at hc
      obtain ⟨_, hcl, hat⟩ := World.cells?_some hc
      have hj : j < size := by rw [← hz y]; exact (List.getElem?_eq_some_iff.1 hu).1
      rw [hat j hj]; exact hu
    have hl : ∀ k, k ≤ len → ∃ l : List α, l.length = k ∧ ∀ i (h : i < l.length), CellsAt W (a.add (i * size)) (enc' l[i]) := by
      intro k
      induction k with
      | zero => intro _; exact ⟨[], rfl, fun i h => by simp at h⟩
      | succ k ih =>
        intro hk
        obtain ⟨l, hll, hlc⟩ := ih (by omega)
        obtain ⟨y, hy⟩ := hall k (by omega)
        refine ⟨l ++ [y], by simp [hll], fun i h => ?_⟩
        rw [List.getElem_append]
        split
        · exact hlc i _
        · have hik : i = k := by simp at h; omega
          subst hik
          simpa [hll] using hy
    obtain ⟨l, hll, hlc⟩ := hl len (Nat.le_refl _)
    refine ⟨some a, len, cap, l, rfl, hll.symm, by assumption, by assumption, fun hpl => ⟨a, rfl, ?_, hlc⟩, .inr ⟨_, _, congrArg Prod.fst hx, by simp⟩⟩
    have hc0 := hlc 0 hpl
    have hlen0 : 0 < (enc' l[0]).length := by rw [hz]; exact hpos
    have hcell := hc0 0 _ (List.getElem?_eq_getElem hlen0)
    rw [add_zero', Nat.zero_mul, add_zero'] at hcell
    unfold World.cell? at hcell
    cases hb : W.heap[a.block]? with
    | none => rw [hb] at hcell; simp at hcell
    | some o => exact blk_lt hb

section
variable {H : Type} {enc : TypeId × Value → H} {w : World} {base : Nat} {spare : Nat → Bool} {held : Bool} {fuel : Nat} {cs : List Value} {x : DataW H × List MemPlace}
theorem read_u8 (h : DataW.trod enc Tryd.prog w base spare held fuel 5 cs = some x) : ∃ u : UInt8, cs = encB u := by
  obtain ⟨z, hz, _, hw⟩ := DataW.trod_int Tryd.uU8 h
  have hr : 0 ≤ z ∧ z ≤ 255 := by
    have := hw
    simp [Lit.wf] at this
    have h1 : IntKind.u8.min = 0 := by decide
    have h2 : IntKind.u8.max = 255 := by decide
    rw [h1, h2] at this
    exact this
  refine ⟨UInt8.ofNat z.toNat, ?_⟩
  rw [hz]
  unfold encB
  rw [UInt8.toNat_ofNat']
  congr 2
  omega
theorem read_i32 (h : DataW.trod enc Tryd.prog w base spare held fuel 21 cs = some x) : ∃ u : Int, cs = encI32 u := by
  obtain ⟨z, hz, _, hw⟩ := DataW.trod_int Tryd.uI32 h
  exact ⟨z, hz⟩
end
end Go.Proofs.YtclfplpggmefjaaDoor
