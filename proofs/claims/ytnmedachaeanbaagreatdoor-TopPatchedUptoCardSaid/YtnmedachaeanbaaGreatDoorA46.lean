/- Merged texts. -/
import Derived.Test.YtnmedachaeanbaaGreatDoorA45
namespace Go.Proofs.YtnmedachaeanbaaGreatDoor
set_option maxHeartbeats 800000
open Go.ChangeShapes Go.WideShapes Go.ChangeAt Go.RowKit Go.Deep
set_option linter.unusedVariables false
set_option linter.constructorNameAsVariable false
set_option maxRecDepth 20000
theorem Tryz.qCl : Tryz.prog.underlying 41 = some (.struct (Tryz.prog.fieldsOf 41)) := by kernel_rfl
theorem Tryz.qfCl : (Tryz.prog.fieldsOf 41).toList.map (fun f => (f.type, f.offset)) = [(21, 0), (34, 1)] := by kernel_rfl
theorem Tryz.qcCl : Tryz.prog.cellsOf 41 = 2 := by kernel_rfl
theorem Tryz.qcI32' : Tryz.prog.cellsOf 21 = 1 := by kernel_rfl
theorem Tryz.qslCl : Tryz.prog.underlying 23 = some (.slice 41) := by kernel_rfl
section
variable {H : Type} {enc : TypeId × Value → H} {w : World} {base : Nat} {spare : Nat → Bool} {held : Bool} {fuel : Nat} {cs : List Value} {x : DataW H × List MemPlace}
def clPr {H : Type} (w : World) (o : ClS) (d : DataW H) : Prop :=
 RdAt w w.heap.size o.As o.c.s ∧ okVr o.c.s ∧ (Rows.uptoBulk d ≤ 100000000 → o.c.s.length ≤ 100000000)
def Y7z {H : Type} (w : World) (o : ClS) (d : DataW H) : Prop := clPr w o d ∧ o.c.s.length ≤ o.cs ∧ o.cs ≤ maxLen
theorem Y3K (h : DataW.trod enc Tryz.prog w base spare held fuel 41 cs = some x) : ∃ o : ClS, cs = ClS.enc o ∧ Y7z w o x.1 := by
 obtain ⟨xs, n, _, hx, hlen, hxl, hf⟩ := DataW.trod_struct Tryz.qCl h
 obtain ⟨f0, e0, t0, o0⟩ := Z05 Tryz.qfCl (i := 0) rfl
 obtain ⟨f1, e1, t1, o1⟩ := Z05 Tryz.qfCl (i := 1) rfl
 have hsz : (Tryz.prog.fieldsOf 41).size = 2 := by kernel_rfl
 have h0 := hf 0 f0 e0
 have h1 := hf 1 f1 e1
 rw [t0, o0, Tryz.qcI32'] at h0
 rw [t1, o1, Tryz.qcSA] at h1
 rw [Tryz.qcCl] at hlen
 rw [hsz] at hxl
 match cs, hlen, xs, hxl with
 | [c0, c1], _, [y0, y1], _ =>
   obtain ⟨a, ha, _, wa⟩ := DataW.trod_int Tryz.uI32 (x := y0) (by simpa using h0)
   obtain ⟨A3, n3, k3, s, hs, m3, g3, g4, R3, z3, P3⟩ := Y1O (fun a d => okV a.v ∧ a.v.s.size + 1 ≤ Rows.uptoBulk d) Tryz.slAt Tryz.qcAt At.enc_len (by omega) Y5s (x0 := y1) (by simpa using h1)
   subst m3
   simp at ha hs
   refine ⟨⟨⟨a, s⟩, A3, k3⟩, by simp [ha, hs, ClS.enc], ⟨R3, fun c hc => ?_, fun hbu => ?_⟩, g3, g4⟩
   ·obtain ⟨d', ⟨h1, h2⟩, h3⟩ := P3 c hc
    exact h1
   ·rw [hx] at hbu
    have hm3 := Z3d (d := y1.1) (l := [y0, y1].map (·.1)) (by simp)
    simp only [Rows.uptoBulk] at hbu
    show s.length ≤ _
    omega
end
end Go.Proofs.YtnmedachaeanbaaGreatDoor
