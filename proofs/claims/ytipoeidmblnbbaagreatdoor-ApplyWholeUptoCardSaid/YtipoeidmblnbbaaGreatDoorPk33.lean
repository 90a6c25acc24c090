/- A slice of ops opened, with a bound of how much each op has. -/
import Derived.Test.YtipoeidmblnbbaaGreatDoorPk28
import Derived.Test.YtipoeidmblnbbaaGreatDoorPk30
namespace Go.Proofs.YtipoeidmblnbbaaGreatDoor
open Go.ChangeShapes Go.WideShapes Go.ChangeAt Go.RowKit Go.Deep
set_option linter.unusedVariables false
set_option linter.constructorNameAsVariable false
set_option maxRecDepth 20000

theorem sum_le_mul {α : Type} {f : α → Nat} {l : List α} {b : Nat} (h : ∀ x ∈ l, f x ≤ b) : (l.map f).sum ≤ l.length * b := by
  induction l with
  | nil => simp
  | cons a l ih =>
    have h1 := h a (by simp)
    have h2 := ih (fun x hx => h x (List.mem_cons_of_mem _ hx))
    rw [List.map_cons, List.sum_cons, List.length_cons, Nat.add_mul]; omega
section
variable {H : Type} {enc : TypeId × Value → H} {w : World} {base : Nat} {spare : Nat → Bool} {held : Bool} {fuel : Nat} {cs : List Value} {x : DataW H × List MemPlace}
/-- what an op's datum says of it, and of how much it has -/
def opPrZ {H : Type} (w : World) (o : OpS) (d : DataW H) : Prop := opPr w o d ∧ (Rows.uptoBulk d ≤ 1048576 → szO o.o ≤ 4398046511104)
theorem szX_le {x : List OpS} (hn : x.length ≤ 1048576) (h : ∀ o ∈ x, szO o.o ≤ 4398046511104) : szX x ≤ 4611686018427387904 := by
  have h1 : szX x ≤ x.length * 4398046511104 := sum_le_mul h
  have h2 : x.length * 4398046511104 ≤ 1048576 * 4398046511104 := Nat.mul_le_mul_right _ hn
  omega
set_option maxHeartbeats 800000 in
theorem read_opdZ (h : DataW.trod enc Tryz.prog w base spare held fuel 46 cs = some x) : ∃ o : OpS, cs = OpS.enc o ∧ opPrZ w o x.1 := by
  obtain ⟨xs, n, _, hx, hlen, hxl, hf⟩ := DataW.trod_struct Tryz.qOp h
  obtain ⟨f0, e0, t0, o0⟩ := field_at Tryz.qfOp (i := 0) rfl
  obtain ⟨f1, e1, t1, o1⟩ := field_at Tryz.qfOp (i := 1) rfl
  obtain ⟨f2, e2, t2, o2⟩ := field_at Tryz.qfOp (i := 2) rfl
  obtain ⟨f3, e3, t3, o3⟩ := field_at Tryz.qfOp (i := 3) rfl
  obtain ⟨f4, e4, t4, o4⟩ := field_at Tryz.qfOp (i := 4) rfl
  have hsz : (Tryz.prog.fieldsOf 46).size = 5 := by kernel_rfl
  have h0 := hf 0 f0 e0
  have h1 := hf 1 f1 e1
  have h2 := hf 2 f2 e2
  have h3 := hf 3 f3 e3
  have h4 := hf 4 f4 e4
  rw [t0, o0, Tryz.qcU8] at h0
  rw [t1, o1, Tryz.qcInt] at h1
  rw [t2, o2, Tryz.qcSR] at h2
  rw [t3, o3, Tryz.qcSA] at h3
  rw [t4, o4, Tryz.qcSC] at h4
  rw [Tryz.qcOp] at hlen
  rw [hsz] at hxl
  match cs, hlen, xs, hxl with
  | [c0, c1, c2, c3, c4], _, [y0, y1, y2, y3, y4], _ =>
    obtain ⟨a, ha, _, wa⟩ := DataW.trod_int Tryz.qU8 (x := y0) (by simpa using h0)
    obtain ⟨b, hb, _, wb⟩ := DataW.trod_int Tryz.qInt (x := y1) (by simpa using h1)
    obtain ⟨A2, n2, k2, r, hr, m2, _, _, R2, z2, _⟩ := open_listT (fun _ _ => True) Tryz.slI32 Tryz.clI32 encI32_len (by omega) read_i32d (x0 := y2) (by simpa using h2)
    obtain ⟨A3, n3, k3, s, hs, m3, _, _, R3, z3, P3⟩ := open_listT (fun a d => okV a.v ∧ a.v.s.size + 1 ≤ Rows.uptoBulk d) Tryz.slAt Tryz.qcAt At.enc_len (by omega) read_atd (x0 := y3) (by simpa using h3)
    obtain ⟨A4, n4, k4, p, hp, m4, _, _, R4, z4, P4⟩ := open_listT (fun a d => okV a.v ∧ a.v.s.size + 1 ≤ Rows.uptoBulk d) Tryz.slCh Tryz.qcCh Ch.enc_len (by omega) read_chd (x0 := y4) (by simpa using h4)
    subst m2 m3 m4
    simp at ha hb hr hs hp
    refine ⟨⟨⟨a, b, r, s, p⟩, A2, k2, A3, k3, A4, k4⟩, by simp [ha, hb, hr, hs, hp, OpS.enc], ⟨⟨R2, R3, R4⟩, fun hbu => ?_⟩, fun hbu => ?_⟩
    · rw [hx] at hbu
      have hm2 := bulk_mem (d := y2.1) (l := [y0, y1, y2, y3, y4].map (·.1)) (by simp)
      have hm3 := bulk_mem (d := y3.1) (l := [y0, y1, y2, y3, y4].map (·.1)) (by simp)
      have hm4 := bulk_mem (d := y4.1) (l := [y0, y1, y2, y3, y4].map (·.1)) (by simp)
      simp only [Rows.uptoBulk] at hbu
      refine ⟨fun c hc => ?_, fun c hc => ?_, ?_, ?_, ?_⟩
      · obtain ⟨d', ⟨h1, h2⟩, h3⟩ := P3 c hc
        exact h1
      · obtain ⟨d', ⟨h1, h2⟩, h3⟩ := P4 c hc
        exact ⟨h1, by omega⟩
      · show r.length ≤ _; omega
      · show s.length ≤ _; omega
      · show p.length ≤ _; omega
    · rw [hx] at hbu
      have hm2 := bulk_mem (d := y2.1) (l := [y0, y1, y2, y3, y4].map (·.1)) (by simp)
      have hm3 := bulk_mem (d := y3.1) (l := [y0, y1, y2, y3, y4].map (·.1)) (by simp)
      have hm4 := bulk_mem (d := y4.1) (l := [y0, y1, y2, y3, y4].map (·.1)) (by simp)
      simp only [Rows.uptoBulk] at hbu
      have hA : szA s ≤ s.length * 1048576 := sum_le_mul (fun c hc => by obtain ⟨d', ⟨h1, h2⟩, h3⟩ := P3 c hc; omega)
      have hC : szC p ≤ p.length * 1048576 := sum_le_mul (fun c hc => by obtain ⟨d', ⟨h1, h2⟩, h3⟩ := P4 c hc; omega)
      show 1 + r.length + s.length + p.length + szA s + szC p ≤ _
      have h1 : s.length * 1048576 ≤ 1048576 * 1048576 := Nat.mul_le_mul_right _ (by omega)
      have h2 : p.length * 1048576 ≤ 1048576 * 1048576 := Nat.mul_le_mul_right _ (by omega)
      omega
end
end Go.Proofs.YtipoeidmblnbbaaGreatDoor
