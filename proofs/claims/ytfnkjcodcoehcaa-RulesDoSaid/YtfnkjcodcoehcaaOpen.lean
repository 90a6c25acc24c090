/- Arguments of the statements, read as plain lists; and how they are handed back. -/
import Derived.Test.YtfnkjcodcoehcaaRows
import Derived.Test.YtfnkjcodcoehcaaTypes
import Derived.ProofKit
import Derived.Deep.Slices
import Derived.JoinedCond
import Derived.OpenShut
namespace Go.Proofs.Ytfnkjcodcoehcaa
open Go.ChangeShapes Go.WideShapes Go.ChangeAt Go.RowKit Go.Deep
set_option linter.unusedVariables false
set_option maxRecDepth 20000

theorem Try.undAt : Try.prog.underlying 55 = some (.struct (Try.prog.fieldsOf 55)) := by kernel_rfl
theorem Try.fldAt : (Try.prog.fieldsOf 55).toList.map (fun f => (f.type, f.offset)) = [(3, 0), (47, 1)] := by kernel_rfl
theorem Try.undCh : Try.prog.underlying 49 = some (.struct (Try.prog.fieldsOf 49)) := by kernel_rfl
theorem Try.fldCh : (Try.prog.fieldsOf 49).toList.map (fun f => (f.type, f.offset)) = [(3, 0), (4, 1), (47, 2)] := by kernel_rfl
theorem Try.undV : Try.prog.underlying 47 = some (.struct (Try.prog.fieldsOf 47)) := by kernel_rfl
theorem Try.fldV : (Try.prog.fieldsOf 47).toList.map (fun f => (f.type, f.offset)) = [(5, 0), (2, 1), (45, 2), (9, 3)] := by kernel_rfl
theorem Try.undInt : Try.prog.underlying 3 = some (.int .i64) := by kernel_rfl
theorem Try.undI64 : Try.prog.underlying 2 = some (.int .i64) := by kernel_rfl
theorem Try.undU8 : Try.prog.underlying 5 = some (.int .u8) := by kernel_rfl
theorem Try.undU64 : Try.prog.underlying 45 = some (.int .u64) := by kernel_rfl
theorem Try.undBool : Try.prog.underlying 4 = some .bool := by kernel_rfl
theorem Try.undStr : Try.prog.underlying 9 = some .string := by kernel_rfl
theorem Try.clV : Try.prog.cellsOf 47 = 4 := by kernel_rfl
theorem Try.clAt : Try.prog.cellsOf 55 = 5 := by kernel_rfl
theorem Try.clCh : Try.prog.cellsOf 49 = 6 := by kernel_rfl
theorem Try.clInt : Try.prog.cellsOf 3 = 1 := by kernel_rfl
theorem Try.clI64 : Try.prog.cellsOf 2 = 1 := by kernel_rfl
theorem Try.clU8 : Try.prog.cellsOf 5 = 1 := by kernel_rfl
theorem Try.clU64 : Try.prog.cellsOf 45 = 1 := by kernel_rfl
theorem Try.clBool : Try.prog.cellsOf 4 = 1 := by kernel_rfl
theorem Try.clStr : Try.prog.cellsOf 9 = 1 := by kernel_rfl

theorem field_of {fs : Array Field} {l : List (TypeId × Nat)} (h : fs.toList.map (fun f => (f.type, f.offset)) = l) {i : Nat} {t o : Nat} (hi : l[i]? = some (t, o)) : ∃ f, fs[i]? = some f ∧ f.type = t ∧ f.offset = o := by
  rw [← h, List.getElem?_map] at hi
  rw [Array.getElem?_toList] at hi
  cases hf : fs[i]? with
  | none => rw [hf] at hi; simp at hi
  | some f => rw [hf] at hi; simp at hi; exact ⟨f, rfl, hi.1, hi.2⟩

section
variable {H : Type} {enc : TypeId × Value → H} {w : World} {base : Nat} {spare : Nat → Bool} {held : Bool} {fuel : Nat} {cs : List Value} {x : DataW H × List MemPlace}
theorem read_v (h : DataW.trod enc Try.prog w base spare held fuel 47 cs = some x) : ∃ v : V, cs = [.int .u8 v.k, .int .i64 v.n, .int .u64 v.f, .string v.s] := by
  obtain ⟨xs, n, _, _, hlen, hxl, hf⟩ := DataW.trod_struct Try.undV h
  obtain ⟨f0, e0, t0, o0⟩ := field_of Try.fldV (i := 0) rfl
  obtain ⟨f1, e1, t1, o1⟩ := field_of Try.fldV (i := 1) rfl
  obtain ⟨f2, e2, t2, o2⟩ := field_of Try.fldV (i := 2) rfl
  obtain ⟨f3, e3, t3, o3⟩ := field_of Try.fldV (i := 3) rfl
  have hsz : (Try.prog.fieldsOf 47).size = 4 := by kernel_rfl
  have h0 := hf 0 f0 e0
  have h1 := hf 1 f1 e1
  have h2 := hf 2 f2 e2
  have h3 := hf 3 f3 e3
  rw [t0, o0, Try.clU8] at h0
  rw [t1, o1, Try.clI64] at h1
  rw [t2, o2, Try.clU64] at h2
  rw [t3, o3, Try.clStr] at h3
  rw [Try.clV] at hlen
  rw [hsz] at hxl
  match cs, hlen, xs, hxl with
  | [c0, c1, c2, c3], _, [y0, y1, y2, y3], _ =>
    obtain ⟨a, ha, _, _⟩ := DataW.trod_int Try.undU8 (x := y0) (by simpa using h0)
    obtain ⟨b, hb, _, _⟩ := DataW.trod_int Try.undI64 (x := y1) (by simpa using h1)
    obtain ⟨c, hc, _, _⟩ := DataW.trod_int Try.undU64 (x := y2) (by simpa using h2)
    obtain ⟨s, hs, _, _⟩ := DataW.trod_string Try.undStr (x := y3) (by simpa using h3)
    simp at ha hb hc hs
    exact ⟨⟨a, b, c, s⟩, by simp [ha, hb, hc, hs]⟩
theorem read_at (h : DataW.trod enc Try.prog w base spare held fuel 55 cs = some x) : ∃ a : At, cs = At.enc a := by
  obtain ⟨xs, n, _, _, hlen, hxl, hf⟩ := DataW.trod_struct Try.undAt h
  obtain ⟨f0, e0, t0, o0⟩ := field_of Try.fldAt (i := 0) rfl
  obtain ⟨f1, e1, t1, o1⟩ := field_of Try.fldAt (i := 1) rfl
  have hsz : (Try.prog.fieldsOf 55).size = 2 := by kernel_rfl
  have h0 := hf 0 f0 e0
  have h1 := hf 1 f1 e1
  rw [t0, o0, Try.clInt] at h0
  rw [t1, o1, Try.clV] at h1
  rw [Try.clAt] at hlen
  rw [hsz] at hxl
  match cs, hlen, xs, hxl with
  | [c0, c1, c2, c3, c4], _, [y0, y1], _ =>
    obtain ⟨a, ha, _, _⟩ := DataW.trod_int Try.undInt (x := y0) (by simpa using h0)
    obtain ⟨v, hv⟩ := read_v (x := y1) (by simpa using h1)
    simp at ha hv
    exact ⟨⟨a, v⟩, by simp [ha, hv, At.enc]⟩
theorem read_ch (h : DataW.trod enc Try.prog w base spare held fuel 49 cs = some x) : ∃ a : Ch, cs = Ch.enc a := by
  obtain ⟨xs, n, _, _, hlen, hxl, hf⟩ := DataW.trod_struct Try.undCh h
  obtain ⟨f0, e0, t0, o0⟩ := field_of Try.fldCh (i := 0) rfl
  obtain ⟨f1, e1, t1, o1⟩ := field_of Try.fldCh (i := 1) rfl
  obtain ⟨f2, e2, t2, o2⟩ := field_of Try.fldCh (i := 2) rfl
  have hsz : (Try.prog.fieldsOf 49).size = 3 := by kernel_rfl
  have h0 := hf 0 f0 e0
  have h1 := hf 1 f1 e1
  have h2 := hf 2 f2 e2
  rw [t0, o0, Try.clInt] at h0
  rw [t1, o1, Try.clBool] at h1
  rw [t2, o2, Try.clV] at h2
  rw [Try.clCh] at hlen
  rw [hsz] at hxl
  match cs, hlen, xs, hxl with
  | [c0, c1, c2, c3, c4, c5], _, [y0, y1, y2], _ =>
    obtain ⟨a, ha, _, _⟩ := DataW.trod_int Try.undInt (x := y0) (by simpa using h0)
    obtain ⟨b, hb, _⟩ := DataW.trod_bool Try.undBool (x := y1) (by simpa using h1)
    obtain ⟨v, hv⟩ := read_v (x := y2) (by simpa using h2)
    simp at ha hb hv
    exact ⟨⟨a, b, v⟩, by simp [ha, hb, hv, Ch.enc]⟩
end

/-- a slice of structs as a list, whatever the reader of one element -/
theorem open_list {α : Type} {enc' : α → List Value} {size : Nat} {H : Type} {enc : TypeId × Value → H} {W : World} {base : Nat} {spare : Nat → Bool} {held : Bool} {t e : TypeId} {v : Value} {d : DataW H} {ps : List MemPlace} {r : Reach} {b0 : Nat}
    (ht : Try.prog.underlying t = some (.slice e)) (hC : Try.prog.cellsOf e = size) (hz : ∀ a, (enc' a).length = size) (hpos : 0 < size)
    (hread : ∀ {fuel : Nat} {cs : List Value} {x : DataW H × List MemPlace}, DataW.trod enc Try.prog W base spare held fuel e cs = some x → ∃ a : α, cs = enc' a)
    (hv : Value.okWide Try.prog W r b0 t v) (h : DataW.Trod enc Try.prog W base spare held t v d ps) :
    ∃ (A : Option Addr) (n c : Nat) (l : List α), v = .slice A n c ∧ n = l.length ∧ n ≤ c ∧ c ≤ maxLen ∧ Rd enc' size W W.heap.size A l ∧ ((d = .nil ∧ n = 0) ∨ ∃ es sp, d = .slice es sp ∧ es.length = n) := by
  obtain ⟨a0, len, cap, rfl⟩ := okWide_slice ht hv
  obtain ⟨fuel, hf⟩ := h
  rcases open_slice ht hf with ⟨hcs, hx⟩ | ⟨a, len', cap', m, k, D, Pl, hcs, _, hl, hm, hmm, hx, hi⟩
  · simp [Value.cells] at hcs
    obtain ⟨rfl, rfl, rfl⟩ := hcs
    refine ⟨none, 0, 0, [], rfl, rfl, Nat.le_refl _, Nat.zero_le _, Rd.nil, .inl ⟨?_, rfl⟩⟩
    have := congrArg Prod.fst hx
    simpa using this
  · simp [Value.cells] at hcs
    obtain ⟨rfl, rfl, rfl⟩ := hcs
    have hlm : len ≤ m := by rw [hmm]; split <;> omega
    have hall : ∀ i, i < len → ∃ y : α, CellsAt W (a.add (i * size)) (enc' y) := by
      intro i hil
      obtain ⟨cs', hc, htr⟩ := hi i (by omega)
      obtain ⟨y, rfl⟩ := hread htr
      refine ⟨y, fun j u hu => ?_⟩
      rw [hC] at hc
      obtain ⟨_, hcl, hat⟩ := World.cells?_some hc
      have hj : j < size := by rw [← hz y]; exact (List.getElem?_eq_some_iff.1 hu).1
      rw [hat j hj]; exact hu
    have hl : ∀ k, k ≤ len → ∃ l : List α, l.length = k ∧ ∀ i (h : i < l.length), CellsAt W (a.add (i * size)) (enc' l[i]) := by
      intro k
      induction k with
      | zero => intro _; exact ⟨[], rfl, fun i h => by simp at h⟩
      | succ k ih =>
        intro hk
        obtain ⟨l, hll, hlc⟩ := ih (by omega)
        obtain ⟨y, hy⟩ := hall k (by omega)
        refine ⟨l ++ [y], by simp [hll], fun i h => ?_⟩
        rw [List.getElem_append]
        split
        · exact hlc i _
        · have hik : i = k := by simp at h; omega
          subst hik
          simpa [hll] using hy
    obtain ⟨l, hll, hlc⟩ := hl len (Nat.le_refl _)
    refine ⟨some a, len, cap, l, rfl, hll.symm, by assumption, by assumption, fun hpl => ⟨a, rfl, ?_, hlc⟩, .inr ⟨_, _, congrArg Prod.fst hx, by simp⟩⟩
    have hc0 := hlc 0 hpl
    have hlen0 : 0 < (enc' l[0]).length := by rw [hz]; exact hpos
    have hcell := hc0 0 _ (List.getElem?_eq_getElem hlen0)
    rw [add_zero', Nat.zero_mul, add_zero'] at hcell
    unfold World.cell? at hcell
    cases hb : W.heap[a.block]? with
    | none => rw [hb] at hcell; simp at hcell
    | some o => exact blk_lt hb
end Go.Proofs.Ytfnkjcodcoehcaa
