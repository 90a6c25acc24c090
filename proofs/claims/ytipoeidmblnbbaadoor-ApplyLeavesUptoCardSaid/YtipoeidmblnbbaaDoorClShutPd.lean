/- A slice of cells opened: each cell's set as a list, with the bounds of the bulk. -/
import Derived.Test.YtipoeidmblnbbaaDoorPk19
import Derived.Test.YtipoeidmblnbbaaDoorPk6
namespace Go.Proofs.YtipoeidmblnbbaaDoor
open Go.ChangeShapes Go.WideShapes Go.ChangeAt Go.RowKit Go.Deep
set_option linter.unusedVariables false
set_option linter.constructorNameAsVariable false
set_option maxRecDepth 20000

theorem Tryd.qCl : Tryd.prog.underlying 53 = some (.struct (Tryd.prog.fieldsOf 53)) := by kernel_rfl
theorem Tryd.qfCl : (Tryd.prog.fieldsOf 53).toList.map (fun f => (f.type, f.offset)) = [(21, 0), (42, 1)] := by kernel_rfl
theorem Tryd.qcCl : Tryd.prog.cellsOf 53 = 2 := by kernel_rfl
theorem Tryd.qcI32' : Tryd.prog.cellsOf 21 = 1 := by kernel_rfl
theorem Tryd.qslCl : Tryd.prog.underlying 23 = some (.slice 53) := by kernel_rfl

section
variable {H : Type} {enc : TypeId × Value → H} {w : World} {base : Nat} {spare : Nat → Bool} {held : Bool} {fuel : Nat} {cs : List Value} {x : DataW H × List MemPlace}
/-- what a cell's datum says of it -/
def clPr {H : Type} (w : World) (o : ClS) (d : DataW H) : Prop :=
  RdAt w w.heap.size o.As o.c.s ∧ okVr o.c.s ∧ (Rows.uptoBulk d ≤ 100000000 → o.c.s.length ≤ 100000000)
/-- .. and of the room of its set -/
def clPrC {H : Type} (w : World) (o : ClS) (d : DataW H) : Prop := clPr w o d ∧ o.c.s.length ≤ o.cs ∧ o.cs ≤ maxLen
set_option maxHeartbeats 800000 in
theorem read_cldC (h : DataW.trod enc Tryd.prog w base spare held fuel 53 cs = some x) : ∃ o : ClS, cs = ClS.enc o ∧ clPrC w o x.1 := by
  obtain ⟨xs, n, _, hx, hlen, hxl, hf⟩ := DataW.trod_struct Tryd.qCl h
  obtain ⟨f0, e0, t0, o0⟩ := field_at Tryd.qfCl (i := 0) rfl
  obtain ⟨f1, e1, t1, o1⟩ := field_at Tryd.qfCl (i := 1) rfl
  have hsz : (Tryd.prog.fieldsOf 53).size = 2 := by kernel_rfl
  have h0 := hf 0 f0 e0
  have h1 := hf 1 f1 e1
  rw [t0, o0, Tryd.qcI32'] at h0
  rw [t1, o1, Tryd.qcSA] at h1
  rw [Tryd.qcCl] at hlen
  rw [hsz] at hxl
  match cs, hlen, xs, hxl with
  | [c0, c1], _, [y0, y1], _ =>
    obtain ⟨a, ha, _, wa⟩ := DataW.trod_int Tryd.uI32 (x := y0) (by simpa using h0)
    obtain ⟨A3, n3, k3, s, hs, m3, g3, g4, R3, z3, P3⟩ := open_listT (fun a d => okV a.v ∧ a.v.s.size + 1 ≤ Rows.uptoBulk d) Tryd.slAt Tryd.qcAt At.enc_len (by omega) read_atd (x0 := y1) (by simpa using h1)
    subst m3
    simp at ha hs
    refine ⟨⟨⟨a, s⟩, A3, k3⟩, by simp [ha, hs, ClS.enc], ⟨R3, fun c hc => ?_, fun hbu => ?_⟩, g3, g4⟩
    · obtain ⟨d', ⟨h1, h2⟩, h3⟩ := P3 c hc
      exact h1
    · rw [hx] at hbu
      have hm3 := bulk_mem (d := y1.1) (l := [y0, y1].map (·.1)) (by simp)
      simp only [Rows.uptoBulk] at hbu
      show s.length ≤ _
      omega
theorem read_cld (h : DataW.trod enc Tryd.prog w base spare held fuel 53 cs = some x) : ∃ o : ClS, cs = ClS.enc o ∧ clPr w o x.1 := by
  obtain ⟨o, h1, h2, _⟩ := read_cldC h
  exact ⟨o, h1, h2⟩
end
end Go.Proofs.YtipoeidmblnbbaaDoor
