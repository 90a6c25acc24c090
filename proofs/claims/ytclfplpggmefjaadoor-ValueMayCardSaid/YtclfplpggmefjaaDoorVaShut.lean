/- Arguments of the value laws opened: with the ranges of their whole numbers. -/
import Derived.Test.YtclfplpggmefjaaDoorShut
import Derived.Test.YtclfplpggmefjaaDoorVaLess
namespace Go.Proofs.YtclfplpggmefjaaDoor
open Go.ChangeShapes Go.WideShapes Go.ChangeAt Go.RowKit Go.Deep
set_option linter.unusedVariables false
set_option linter.constructorNameAsVariable false
set_option maxRecDepth 20000

theorem Tryd.qV : Tryd.prog.underlying 24 = some (.struct (Tryd.prog.fieldsOf 24)) := by kernel_rfl
theorem Tryd.qFd : (Tryd.prog.fieldsOf 24).toList.map (fun f => (f.type, f.offset)) = [(5, 0), (2, 1), (22, 2), (9, 3)] := by kernel_rfl
theorem Tryd.qI64 : Tryd.prog.underlying 2 = some (.int .i64) := by kernel_rfl
theorem Tryd.qU8 : Tryd.prog.underlying 5 = some (.int .u8) := by kernel_rfl
theorem Tryd.qU64 : Tryd.prog.underlying 22 = some (.int .u64) := by kernel_rfl
theorem Tryd.qBool : Tryd.prog.underlying 4 = some .bool := by kernel_rfl
theorem Tryd.qStr : Tryd.prog.underlying 9 = some .string := by kernel_rfl
theorem Tryd.qcV : Tryd.prog.cellsOf 24 = 4 := by kernel_rfl
theorem Tryd.qcI64 : Tryd.prog.cellsOf 2 = 1 := by kernel_rfl
theorem Tryd.qcU8 : Tryd.prog.cellsOf 5 = 1 := by kernel_rfl
theorem Tryd.qcU64 : Tryd.prog.cellsOf 22 = 1 := by kernel_rfl
theorem Tryd.qcStr : Tryd.prog.cellsOf 9 = 1 := by kernel_rfl

theorem wf_u8 {n : Int} (h : (Lit.int .u8 n).wf = true) : 0 ≤ n ∧ n ≤ 255 := by
  simp [Lit.wf] at h
  have h1 : IntKind.u8.min = 0 := by decide
  have h2 : IntKind.u8.max = 255 := by decide
  rw [h1, h2] at h
  exact h
theorem wf_u64 {n : Int} (h : (Lit.int .u64 n).wf = true) : 0 ≤ n ∧ n ≤ 18446744073709551615 := by
  simp [Lit.wf] at h
  have h1 : IntKind.u64.min = 0 := by decide
  have h2 : IntKind.u64.max = 18446744073709551615 := by decide
  rw [h1, h2] at h
  exact h
theorem wf_i64 {n : Int} (h : (Lit.int .i64 n).wf = true) : -9223372036854775808 ≤ n ∧ n ≤ 9223372036854775807 := by
  simp [Lit.wf] at h
  have h1 : IntKind.i64.min = -9223372036854775808 := by decide
  rw [h1] at h
  exact h
theorem field_at {fs : Array Field} {l : List (TypeId × Nat)} (h : fs.toList.map (fun f => (f.type, f.offset)) = l) {i : Nat} {t o : Nat} (hi : l[i]? = some (t, o)) : ∃ f, fs[i]? = some f ∧ f.type = t ∧ f.offset = o := by
  rw [← h, List.getElem?_map] at hi
  rw [Array.getElem?_toList] at hi
  cases hf : fs[i]? with
  | none => rw [hf] at hi; simp at hi
  | some f => rw [hf] at hi; simp at hi; exact ⟨f, rfl, hi.1, hi.2⟩

section
variable {H : Type} {enc : TypeId × Value → H} {w : World} {base : Nat} {spare : Nat → Bool} {held : Bool} {fuel : Nat} {cs : List Value} {x : DataW H × List MemPlace}
theorem read_okV (h : DataW.trod enc Tryd.prog w base spare held fuel 24 cs = some x) : ∃ v : V, cs = [.int .u8 v.k, .int .i64 v.n, .int .u64 v.f, .string v.s] ∧ okV v ∧ v.s.size ≤ maxLen := by
  obtain ⟨xs, n, _, _, hlen, hxl, hf⟩ := DataW.trod_struct Tryd.qV h
  obtain ⟨f0, e0, t0, o0⟩ := field_at Tryd.qFd (i := 0) rfl
  obtain ⟨f1, e1, t1, o1⟩ := field_at Tryd.qFd (i := 1) rfl
  obtain ⟨f2, e2, t2, o2⟩ := field_at Tryd.qFd (i := 2) rfl
  obtain ⟨f3, e3, t3, o3⟩ := field_at Tryd.qFd (i := 3) rfl
  have hsz : (Tryd.prog.fieldsOf 24).size = 4 := by kernel_rfl
  have h0 := hf 0 f0 e0
  have h1 := hf 1 f1 e1
  have h2 := hf 2 f2 e2
  have h3 := hf 3 f3 e3
  rw [t0, o0, Tryd.qcU8] at h0
  rw [t1, o1, Tryd.qcI64] at h1
  rw [t2, o2, Tryd.qcU64] at h2
  rw [t3, o3, Tryd.qcStr] at h3
  rw [Tryd.qcV] at hlen
  rw [hsz] at hxl
  match cs, hlen, xs, hxl with
  | [c0, c1, c2, c3], _, [y0, y1, y2, y3], _ =>
    obtain ⟨a, ha, _, wa⟩ := DataW.trod_int Tryd.qU8 (x := y0) (by simpa using h0)
    obtain ⟨b, hb, _, wb⟩ := DataW.trod_int Tryd.qI64 (x := y1) (by simpa using h1)
    obtain ⟨c, hc, _, wc⟩ := DataW.trod_int Tryd.qU64 (x := y2) (by simpa using h2)
    obtain ⟨s, hs, _, ws⟩ := DataW.trod_string Tryd.qStr (x := y3) (by simpa using h3)
    simp at ha hb hc hs
    have ra := wf_u8 wa
    have rb := wf_i64 wb
    have rc := wf_u64 wc
    exact ⟨⟨a, b, c, s⟩, by simp [ha, hb, hc, hs], ⟨ra.1, ra.2, rb.1, rb.2, rc.1, rc.2⟩, ws⟩
end
theorem open_okV {H : Type} {enc : TypeId × Value → H} {W : World} {base b0 : Nat} {spare : Nat → Bool} {held : Bool} {v : Value} {d : DataW H} {ps : List MemPlace} {r : Reach}
    (hv : Value.okWide Tryd.prog W r b0 24 v) (h : DataW.Trod enc Tryd.prog W base spare held 24 v d ps) :
    ∃ x : V, v = .agg #[.int .u8 x.k, .int .i64 x.n, .int .u64 x.f, .string x.s] ∧ okV ⟨x.k, x.n, x.f, x.s⟩ ∧ x.s.size ≤ maxLen := by
  obtain ⟨cs, rfl, _⟩ := okWide_struct Tryd.qV hv
  obtain ⟨fuel, hf⟩ := h
  obtain ⟨a, ha, ho, hs⟩ := read_okV hf
  refine ⟨a, ?_, ho, hs⟩
  have e : cs.toList = [.int .u8 a.k, .int .i64 a.n, .int .u64 a.f, .string a.s] := by simpa [Value.cells] using ha
  have e2 : cs = #[.int .u8 a.k, .int .i64 a.n, .int .u64 a.f, .string a.s] := by rw [← Array.toArray_toList (xs := cs), e]
  rw [e2]
theorem open_str {H : Type} {enc : TypeId × Value → H} {W : World} {base b0 : Nat} {spare : Nat → Bool} {held : Bool} {v : Value} {d : DataW H} {ps : List MemPlace} {r : Reach}
    (hv : Value.okWide Tryd.prog W r b0 9 v) (h : DataW.Trod enc Tryd.prog W base spare held 9 v d ps) : ∃ x : ByteArray, v = .string x ∧ x.size ≤ maxLen := by
  obtain ⟨s, rfl⟩ := okWide_string Tryd.qStr hv
  obtain ⟨fuel, hf⟩ := h
  obtain ⟨s', e, _, hs⟩ := DataW.trod_string Tryd.qStr hf
  refine ⟨s, rfl, ?_⟩
  have e2 : s = s' := by simpa [Value.cells] using e
  rw [e2]; exact hs
theorem trodAll_five {H : Type} {enc : TypeId × Value → H} {P : Program} {w : World} {base : Nat} {spare : Nat → Bool} {held : Bool} {t0 t1 t2 t3 t4 : TypeId} {args : Array Value} {ds : List (DataW H)} {ps : List MemPlace} (h : DataW.TrodAll enc P w base spare held [t0, t1, t2, t3, t4] args.toList ds ps) :
    ∃ v0 v1 v2 v3 v4 d0 d1 d2 d3 d4 p0 p1 p2 p3 p4, args = #[v0, v1, v2, v3, v4] ∧ ds = [d0, d1, d2, d3, d4] ∧ ps = p0 ++ p1 ++ p2 ++ p3 ++ p4 ∧ DataW.Trod enc P w base spare held t0 v0 d0 p0 ∧ DataW.Trod enc P w base spare held t1 v1 d1 p1 ∧ DataW.Trod enc P w base spare held t2 v2 d2 p2 ∧ DataW.Trod enc P w base spare held t3 v3 d3 p3 ∧ DataW.Trod enc P w base spare held t4 v4 d4 p4 := by
  obtain ⟨v0, _, d0, _, p0, _, hargs, rfl, rfl, h0, r0⟩ := trodAll_cons h
  obtain ⟨v1, _, d1, _, p1, _, rfl, rfl, rfl, h1, r1⟩ := trodAll_cons r0
  obtain ⟨v2, _, d2, _, p2, _, rfl, rfl, rfl, h2, r2⟩ := trodAll_cons r1
  obtain ⟨v3, _, d3, _, p3, _, rfl, rfl, rfl, h3, r3⟩ := trodAll_cons r2
  obtain ⟨v4, _, d4, _, p4, _, rfl, rfl, rfl, h4, r4⟩ := trodAll_cons r3
  obtain ⟨rfl, rfl, rfl⟩ := trodAll_nil r4
  exact ⟨v0, v1, v2, v3, v4, d0, d1, d2, d3, d4, p0, p1, p2, p3, p4, by cases args; simp_all, rfl, by simp, h0, h1, h2, h3, h4⟩
end Go.Proofs.YtclfplpggmefjaaDoor
