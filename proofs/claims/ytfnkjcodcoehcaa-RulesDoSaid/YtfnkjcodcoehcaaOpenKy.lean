/- A row of keys among the arguments, read as a plain list. -/
import Derived.Test.YtfnkjcodcoehcaaOpen
import Derived.Test.YtfnkjcodcoehcaaKey
namespace Go.Proofs.Ytfnkjcodcoehcaa
open Go.ChangeShapes Go.WideShapes Go.ChangeAt Go.RowKit Go.Deep
set_option linter.unusedVariables false
set_option maxRecDepth 20000

theorem Try.undKy : Try.prog.underlying 53 = some (.struct (Try.prog.fieldsOf 53)) := by kernel_rfl
theorem Try.fldKy : (Try.prog.fieldsOf 53).toList.map (fun f => (f.type, f.offset)) = [(3, 0), (4, 1), (5, 2), (4, 3), (4, 4), (3, 5)] := by kernel_rfl
theorem Try.clKy : Try.prog.cellsOf 53 = 6 := by kernel_rfl
theorem read_ky {H : Type} {enc : TypeId × Value → H} {w : World} {base : Nat} {spare : Nat → Bool} {held : Bool} {fuel : Nat} {cs : List Value} {x : DataW H × List MemPlace} (h : DataW.trod enc Try.prog w base spare held fuel 53 cs = some x) : ∃ a : Ky, cs = Ky.enc a := by
  obtain ⟨xs, n, _, _, hlen, hxl, hf⟩ := DataW.trod_struct Try.undKy h
  obtain ⟨f0, e0, t0, o0⟩ := field_of Try.fldKy (i := 0) rfl
  obtain ⟨f1, e1, t1, o1⟩ := field_of Try.fldKy (i := 1) rfl
  obtain ⟨f2, e2, t2, o2⟩ := field_of Try.fldKy (i := 2) rfl
  obtain ⟨f3, e3, t3, o3⟩ := field_of Try.fldKy (i := 3) rfl
  obtain ⟨f4, e4, t4, o4⟩ := field_of Try.fldKy (i := 4) rfl
  obtain ⟨f5, e5, t5, o5⟩ := field_of Try.fldKy (i := 5) rfl
  have hsz : (Try.prog.fieldsOf 53).size = 6 := by kernel_rfl
  have h0 := hf 0 f0 e0
  have h1 := hf 1 f1 e1
  have h2 := hf 2 f2 e2
  have h3 := hf 3 f3 e3
  have h4 := hf 4 f4 e4
  have h5 := hf 5 f5 e5
  rw [t0, o0, Try.clInt] at h0
  rw [t1, o1, Try.clBool] at h1
  rw [t2, o2, Try.clU8] at h2
  rw [t3, o3, Try.clBool] at h3
  rw [t4, o4, Try.clBool] at h4
  rw [t5, o5, Try.clInt] at h5
  rw [Try.clKy] at hlen
  rw [hsz] at hxl
  match cs, hlen, xs, hxl with
  | [c0, c1, c2, c3, c4, c5], _, [y0, y1, y2, y3, y4, y5], _ =>
    obtain ⟨a, ha, _, _⟩ := DataW.trod_int Try.undInt (x := y0) (by simpa using h0)
    obtain ⟨b, hb, _⟩ := DataW.trod_bool Try.undBool (x := y1) (by simpa using h1)
    obtain ⟨c, hc, _, _⟩ := DataW.trod_int Try.undU8 (x := y2) (by simpa using h2)
    obtain ⟨e, he, _⟩ := DataW.trod_bool Try.undBool (x := y3) (by simpa using h3)
    obtain ⟨f, hf, _⟩ := DataW.trod_bool Try.undBool (x := y4) (by simpa using h4)
    obtain ⟨g, hg, _, _⟩ := DataW.trod_int Try.undInt (x := y5) (by simpa using h5)
    simp at ha hb hc he hf hg
    exact ⟨⟨a, b, c, e, f, g⟩, by simp [ha, hb, hc, he, hf, hg, Ky.enc]⟩
end Go.Proofs.Ytfnkjcodcoehcaa
