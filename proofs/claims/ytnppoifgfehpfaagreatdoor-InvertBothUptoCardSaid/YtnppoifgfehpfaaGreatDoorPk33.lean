/- Merged texts: OpShutZ, OpShutC, ClShut, ShutSix. -/
import Derived.Test.YtnppoifgfehpfaaGreatDoorPk27
import Derived.Test.YtnppoifgfehpfaaGreatDoorPk26
import Derived.Test.YtnppoifgfehpfaaGreatDoorPk29
import Derived.Test.YtnppoifgfehpfaaGreatDoorPk7
/- A slice of ops opened, with a bound of how much each op has. -/
namespace Go.Proofs.YtnppoifgfehpfaaGreatDoor
open Go.ChangeShapes Go.WideShapes Go.ChangeAt Go.RowKit Go.Deep
set_option linter.unusedVariables false
set_option linter.constructorNameAsVariable false
set_option maxRecDepth 20000

theorem sum_le_mul {α : Type} {f : α → Nat} {l : List α} {b : Nat} (h : ∀ x ∈ l, f x ≤ b) : (l.map f).sum ≤ l.length * b := by
  induction l with
  | nil => simp
  | cons a l ih =>
    have h1 := h a (by simp)
    have h2 := ih (fun x hx => h x (List.mem_cons_of_mem _ hx))
    rw [List.map_cons, List.sum_cons, List.length_cons, Nat.add_mul]; omega
section
variable {H : Type} {enc : TypeId × Value → H} {w : World} {base : Nat} {spare : Nat → Bool} {held : Bool} {fuel : Nat} {cs : List Value} {x : DataW H × List MemPlace}
/-- what an op's datum says of it, and of how much it has -/
def opPrZ {H : Type} (w : World) (o : OpS) (d : DataW H) : Prop := opPr w o d ∧ (Rows.uptoBulk d ≤ 1048576 → szO o.o ≤ 4398046511104)
theorem szX_le {x : List OpS} (hn : x.length ≤ 1048576) (h : ∀ o ∈ x, szO o.o ≤ 4398046511104) : szX x ≤ 4611686018427387904 := by
  have h1 : szX x ≤ x.length * 4398046511104 := sum_le_mul h
  have h2 : x.length * 4398046511104 ≤ 1048576 * 4398046511104 := Nat.mul_le_mul_right _ hn
  omega
set_option maxHeartbeats 800000 in
theorem read_opdZ (h : DataW.trod enc Tryz.prog w base spare held fuel 54 cs = some x) : ∃ o : OpS, cs = OpS.enc o ∧ opPrZ w o x.1 := by
  obtain ⟨xs, n, _, hx, hlen, hxl, hf⟩ := DataW.trod_struct Tryz.qOp h
  obtain ⟨f0, e0, t0, o0⟩ := field_at Tryz.qfOp (i := 0) rfl
  obtain ⟨f1, e1, t1, o1⟩ := field_at Tryz.qfOp (i := 1) rfl
  obtain ⟨f2, e2, t2, o2⟩ := field_at Tryz.qfOp (i := 2) rfl
  obtain ⟨f3, e3, t3, o3⟩ := field_at Tryz.qfOp (i := 3) rfl
  obtain ⟨f4, e4, t4, o4⟩ := field_at Tryz.qfOp (i := 4) rfl
  have hsz : (Tryz.prog.fieldsOf 54).size = 5 := by kernel_rfl
  have h0 := hf 0 f0 e0
  have h1 := hf 1 f1 e1
  have h2 := hf 2 f2 e2
  have h3 := hf 3 f3 e3
  have h4 := hf 4 f4 e4
  rw [t0, o0, Tryz.qcU8] at h0
  rw [t1, o1, Tryz.qcInt] at h1
  rw [t2, o2, Tryz.qcSR] at h2
  rw [t3, o3, Tryz.qcSA] at h3
  rw [t4, o4, Tryz.qcSC] at h4
  rw [Tryz.qcOp] at hlen
  rw [hsz] at hxl
  match cs, hlen, xs, hxl with
  | [c0, c1, c2, c3, c4], _, [y0, y1, y2, y3, y4], _ =>
    obtain ⟨a, ha, _, wa⟩ := DataW.trod_int Tryz.qU8 (x := y0) (by simpa using h0)
    obtain ⟨b, hb, _, wb⟩ := DataW.trod_int Tryz.qInt (x := y1) (by simpa using h1)
    obtain ⟨A2, n2, k2, r, hr, m2, _, _, R2, z2, _⟩ := open_listT (fun _ _ => True) Tryz.slI32 Tryz.clI32 encI32_len (by omega) read_i32d (x0 := y2) (by simpa using h2)
    obtain ⟨A3, n3, k3, s, hs, m3, _, _, R3, z3, P3⟩ := open_listT (fun a d => okV a.v ∧ a.v.s.size + 1 ≤ Rows.uptoBulk d) Tryz.slAt Tryz.qcAt At.enc_len (by omega) read_atd (x0 := y3) (by simpa using h3)
    obtain ⟨A4, n4, k4, p, hp, m4, _, _, R4, z4, P4⟩ := open_listT (fun a d => okV a.v ∧ a.v.s.size + 1 ≤ Rows.uptoBulk d) Tryz.slCh Tryz.qcCh Ch.enc_len (by omega) read_chd (x0 := y4) (by simpa using h4)
    subst m2 m3 m4
    simp at ha hb hr hs hp
    refine ⟨⟨⟨a, b, r, s, p⟩, A2, k2, A3, k3, A4, k4⟩, by simp [ha, hb, hr, hs, hp, OpS.enc], ⟨⟨R2, R3, R4⟩, fun hbu => ?_⟩, fun hbu => ?_⟩
    · rw [hx] at hbu
      have hm2 := bulk_mem (d := y2.1) (l := [y0, y1, y2, y3, y4].map (·.1)) (by simp)
      have hm3 := bulk_mem (d := y3.1) (l := [y0, y1, y2, y3, y4].map (·.1)) (by simp)
      have hm4 := bulk_mem (d := y4.1) (l := [y0, y1, y2, y3, y4].map (·.1)) (by simp)
      simp only [Rows.uptoBulk] at hbu
      refine ⟨fun c hc => ?_, fun c hc => ?_, ?_, ?_, ?_⟩
      · obtain ⟨d', ⟨h1, h2⟩, h3⟩ := P3 c hc
        exact h1
      · obtain ⟨d', ⟨h1, h2⟩, h3⟩ := P4 c hc
        exact ⟨h1, by omega⟩
      · show r.length ≤ _; omega
      · show s.length ≤ _; omega
      · show p.length ≤ _; omega
    · rw [hx] at hbu
      have hm2 := bulk_mem (d := y2.1) (l := [y0, y1, y2, y3, y4].map (·.1)) (by simp)
      have hm3 := bulk_mem (d := y3.1) (l := [y0, y1, y2, y3, y4].map (·.1)) (by simp)
      have hm4 := bulk_mem (d := y4.1) (l := [y0, y1, y2, y3, y4].map (·.1)) (by simp)
      simp only [Rows.uptoBulk] at hbu
      have hA : szA s ≤ s.length * 1048576 := sum_le_mul (fun c hc => by obtain ⟨d', ⟨h1, h2⟩, h3⟩ := P3 c hc; omega)
      have hC : szC p ≤ p.length * 1048576 := sum_le_mul (fun c hc => by obtain ⟨d', ⟨h1, h2⟩, h3⟩ := P4 c hc; omega)
      show 1 + r.length + s.length + p.length + szA s + szC p ≤ _
      have h1 : s.length * 1048576 ≤ 1048576 * 1048576 := Nat.mul_le_mul_right _ (by omega)
      have h2 : p.length * 1048576 ≤ 1048576 * 1048576 := Nat.mul_le_mul_right _ (by omega)
      omega
end
end Go.Proofs.YtnppoifgfehpfaaGreatDoor
/- A slice of ops opened, with the rooms of each op's parts. -/
namespace Go.Proofs.YtnppoifgfehpfaaGreatDoor
open Go.ChangeShapes Go.WideShapes Go.ChangeAt Go.RowKit Go.Deep
set_option linter.unusedVariables false
set_option linter.constructorNameAsVariable false
set_option maxRecDepth 20000

section
variable {H : Type} {enc : TypeId × Value → H} {w : World} {base : Nat} {spare : Nat → Bool} {held : Bool} {fuel : Nat} {cs : List Value} {x : DataW H × List MemPlace}
/-- what an op's datum says of it, of how much it has, and of its rooms -/
def opPrC {H : Type} (w : World) (o : OpS) (d : DataW H) : Prop := (opPr w o d ∧ (Rows.uptoBulk d ≤ 1048576 → szO o.o ≤ 2199026401281)) ∧ capO o
theorem szX_leC {x : List OpS} (hn : x.length ≤ 1048576) (h : ∀ o ∈ x, szO o.o ≤ 2199026401281) : szX x ≤ 2305850000000000000 := by
  have h1 : szX x ≤ x.length * 2199026401281 := sum_le_mul h
  have h2 : x.length * 2199026401281 ≤ 1048576 * 2199026401281 := Nat.mul_le_mul_right _ hn
  omega
set_option maxHeartbeats 800000 in
theorem read_opdC (h : DataW.trod enc Tryz.prog w base spare held fuel 54 cs = some x) : ∃ o : OpS, cs = OpS.enc o ∧ opPrC w o x.1 := by
  obtain ⟨xs, n, _, hx, hlen, hxl, hf⟩ := DataW.trod_struct Tryz.qOp h
  obtain ⟨f0, e0, t0, o0⟩ := field_at Tryz.qfOp (i := 0) rfl
  obtain ⟨f1, e1, t1, o1⟩ := field_at Tryz.qfOp (i := 1) rfl
  obtain ⟨f2, e2, t2, o2⟩ := field_at Tryz.qfOp (i := 2) rfl
  obtain ⟨f3, e3, t3, o3⟩ := field_at Tryz.qfOp (i := 3) rfl
  obtain ⟨f4, e4, t4, o4⟩ := field_at Tryz.qfOp (i := 4) rfl
  have hsz : (Tryz.prog.fieldsOf 54).size = 5 := by kernel_rfl
  have h0 := hf 0 f0 e0
  have h1 := hf 1 f1 e1
  have h2 := hf 2 f2 e2
  have h3 := hf 3 f3 e3
  have h4 := hf 4 f4 e4
  rw [t0, o0, Tryz.qcU8] at h0
  rw [t1, o1, Tryz.qcInt] at h1
  rw [t2, o2, Tryz.qcSR] at h2
  rw [t3, o3, Tryz.qcSA] at h3
  rw [t4, o4, Tryz.qcSC] at h4
  rw [Tryz.qcOp] at hlen
  rw [hsz] at hxl
  match cs, hlen, xs, hxl with
  | [c0, c1, c2, c3, c4], _, [y0, y1, y2, y3, y4], _ =>
    obtain ⟨a, ha, _, wa⟩ := DataW.trod_int Tryz.qU8 (x := y0) (by simpa using h0)
    obtain ⟨b, hb, _, wb⟩ := DataW.trod_int Tryz.qInt (x := y1) (by simpa using h1)
    obtain ⟨A2, n2, k2, r, hr, m2, g2, g2', R2, z2, _⟩ := open_listT (fun _ _ => True) Tryz.slI32 Tryz.clI32 encI32_len (by omega) read_i32d (x0 := y2) (by simpa using h2)
    obtain ⟨A3, n3, k3, s, hs, m3, g3, g3', R3, z3, P3⟩ := open_listT (fun a d => okV a.v ∧ a.v.s.size + 1 ≤ Rows.uptoBulk d) Tryz.slAt Tryz.qcAt At.enc_len (by omega) read_atd (x0 := y3) (by simpa using h3)
    obtain ⟨A4, n4, k4, p, hp, m4, g4, g4', R4, z4, P4⟩ := open_listT (fun a d => okV a.v ∧ a.v.s.size + 1 ≤ Rows.uptoBulk d) Tryz.slCh Tryz.qcCh Ch.enc_len (by omega) read_chd (x0 := y4) (by simpa using h4)
    subst m2 m3 m4
    simp at ha hb hr hs hp
    refine ⟨⟨⟨a, b, r, s, p⟩, A2, k2, A3, k3, A4, k4⟩, by simp [ha, hb, hr, hs, hp, OpS.enc], ⟨⟨⟨R2, R3, R4⟩, fun hbu => ?_⟩, fun hbu => ?_⟩, ⟨g2, g2'⟩, ⟨g3, g3'⟩, g4, g4'⟩
    · rw [hx] at hbu
      have hm2 := bulk_mem (d := y2.1) (l := [y0, y1, y2, y3, y4].map (·.1)) (by simp)
      have hm3 := bulk_mem (d := y3.1) (l := [y0, y1, y2, y3, y4].map (·.1)) (by simp)
      have hm4 := bulk_mem (d := y4.1) (l := [y0, y1, y2, y3, y4].map (·.1)) (by simp)
      simp only [Rows.uptoBulk] at hbu
      refine ⟨fun c hc => ?_, fun c hc => ?_, ?_, ?_, ?_⟩
      · obtain ⟨d', ⟨h1, h2⟩, h3⟩ := P3 c hc
        exact h1
      · obtain ⟨d', ⟨h1, h2⟩, h3⟩ := P4 c hc
        exact ⟨h1, by omega⟩
      · show r.length ≤ _; omega
      · show s.length ≤ _; omega
      · show p.length ≤ _; omega
    · rw [hx] at hbu
      have hm2 := bulk_mem (d := y2.1) (l := [y0, y1, y2, y3, y4].map (·.1)) (by simp)
      have hm3 := bulk_mem (d := y3.1) (l := [y0, y1, y2, y3, y4].map (·.1)) (by simp)
      have hm4 := bulk_mem (d := y4.1) (l := [y0, y1, y2, y3, y4].map (·.1)) (by simp)
      simp only [Rows.uptoBulk] at hbu
      have hA : szA s ≤ s.length * 1048576 := sum_le_mul (fun c hc => by obtain ⟨d', ⟨h1, h2⟩, h3⟩ := P3 c hc; omega)
      have hC : szC p ≤ p.length * 1048576 := sum_le_mul (fun c hc => by obtain ⟨d', ⟨h1, h2⟩, h3⟩ := P4 c hc; omega)
      show 1 + r.length + s.length + p.length + szA s + szC p ≤ _
      have h1 : s.length * 1048576 ≤ 1048576 * 1048576 := Nat.mul_le_mul_right _ (by omega)
      have h2 : p.length * 1048576 ≤ 1048576 * 1048576 := Nat.mul_le_mul_right _ (by omega)
      omega
end
end Go.Proofs.YtnppoifgfehpfaaGreatDoor
/- A slice of cells opened: each cell's set as a list, with the bounds of the bulk. -/
namespace Go.Proofs.YtnppoifgfehpfaaGreatDoor
open Go.ChangeShapes Go.WideShapes Go.ChangeAt Go.RowKit Go.Deep
set_option linter.unusedVariables false
set_option linter.constructorNameAsVariable false
set_option maxRecDepth 20000

theorem Tryz.qCl : Tryz.prog.underlying 71 = some (.struct (Tryz.prog.fieldsOf 71)) := by kernel_rfl
theorem Tryz.qfCl : (Tryz.prog.fieldsOf 71).toList.map (fun f => (f.type, f.offset)) = [(21, 0), (52, 1)] := by kernel_rfl
theorem Tryz.qcCl : Tryz.prog.cellsOf 71 = 2 := by kernel_rfl
theorem Tryz.qcI32' : Tryz.prog.cellsOf 21 = 1 := by kernel_rfl
theorem Tryz.qslCl : Tryz.prog.underlying 23 = some (.slice 71) := by kernel_rfl

section
variable {H : Type} {enc : TypeId × Value → H} {w : World} {base : Nat} {spare : Nat → Bool} {held : Bool} {fuel : Nat} {cs : List Value} {x : DataW H × List MemPlace}
/-- what a cell's datum says of it -/
def clPr {H : Type} (w : World) (o : ClS) (d : DataW H) : Prop :=
  RdAt w w.heap.size o.As o.c.s ∧ okVr o.c.s ∧ (Rows.uptoBulk d ≤ 100000000 → o.c.s.length ≤ 100000000)
/-- .. and of the room of its set -/
def clPrC {H : Type} (w : World) (o : ClS) (d : DataW H) : Prop := clPr w o d ∧ o.c.s.length ≤ o.cs ∧ o.cs ≤ maxLen
set_option maxHeartbeats 800000 in
theorem read_cldC (h : DataW.trod enc Tryz.prog w base spare held fuel 71 cs = some x) : ∃ o : ClS, cs = ClS.enc o ∧ clPrC w o x.1 := by
  obtain ⟨xs, n, _, hx, hlen, hxl, hf⟩ := DataW.trod_struct Tryz.qCl h
  obtain ⟨f0, e0, t0, o0⟩ := field_at Tryz.qfCl (i := 0) rfl
  obtain ⟨f1, e1, t1, o1⟩ := field_at Tryz.qfCl (i := 1) rfl
  have hsz : (Tryz.prog.fieldsOf 71).size = 2 := by kernel_rfl
  have h0 := hf 0 f0 e0
  have h1 := hf 1 f1 e1
  rw [t0, o0, Tryz.qcI32'] at h0
  rw [t1, o1, Tryz.qcSA] at h1
  rw [Tryz.qcCl] at hlen
  rw [hsz] at hxl
  match cs, hlen, xs, hxl with
  | [c0, c1], _, [y0, y1], _ =>
    obtain ⟨a, ha, _, wa⟩ := DataW.trod_int Tryz.uI32 (x := y0) (by simpa using h0)
    obtain ⟨A3, n3, k3, s, hs, m3, g3, g4, R3, z3, P3⟩ := open_listT (fun a d => okV a.v ∧ a.v.s.size + 1 ≤ Rows.uptoBulk d) Tryz.slAt Tryz.qcAt At.enc_len (by omega) read_atd (x0 := y1) (by simpa using h1)
    subst m3
    simp at ha hs
    refine ⟨⟨⟨a, s⟩, A3, k3⟩, by simp [ha, hs, ClS.enc], ⟨R3, fun c hc => ?_, fun hbu => ?_⟩, g3, g4⟩
    · obtain ⟨d', ⟨h1, h2⟩, h3⟩ := P3 c hc
      exact h1
    · rw [hx] at hbu
      have hm3 := bulk_mem (d := y1.1) (l := [y0, y1].map (·.1)) (by simp)
      simp only [Rows.uptoBulk] at hbu
      show s.length ≤ _
      omega
theorem read_cld (h : DataW.trod enc Tryz.prog w base spare held fuel 71 cs = some x) : ∃ o : ClS, cs = ClS.enc o ∧ clPr w o x.1 := by
  obtain ⟨o, h1, h2, _⟩ := read_cldC h
  exact ⟨o, h1, h2⟩
end
end Go.Proofs.YtnppoifgfehpfaaGreatDoor
/- Six arguments at once. -/
namespace Go.Proofs.YtnppoifgfehpfaaGreatDoor
open Go.ChangeShapes Go.WideShapes Go.ChangeAt Go.RowKit Go.Deep
theorem trodAll_six {H : Type} {enc : TypeId × Value → H} {P : Program} {w : World} {base : Nat} {spare : Nat → Bool} {held : Bool} {t0 t1 t2 t3 t4 t5 : TypeId} {args : Array Value} {ds : List (DataW H)} {ps : List MemPlace} (h : DataW.TrodAll enc P w base spare held [t0, t1, t2, t3, t4, t5] args.toList ds ps) :
    ∃ v0 v1 v2 v3 v4 v5 d0 d1 d2 d3 d4 d5 p0 p1 p2 p3 p4 p5, args = #[v0, v1, v2, v3, v4, v5] ∧ ds = [d0, d1, d2, d3, d4, d5] ∧ ps = p0 ++ p1 ++ p2 ++ p3 ++ p4 ++ p5 ∧ DataW.Trod enc P w base spare held t0 v0 d0 p0 ∧ DataW.Trod enc P w base spare held t1 v1 d1 p1 ∧ DataW.Trod enc P w base spare held t2 v2 d2 p2 ∧ DataW.Trod enc P w base spare held t3 v3 d3 p3 ∧ DataW.Trod enc P w base spare held t4 v4 d4 p4 ∧ DataW.Trod enc P w base spare held t5 v5 d5 p5 := by
  obtain ⟨v0, _, d0, _, p0, _, hargs, rfl, rfl, h0, r0⟩ := trodAll_cons h
  obtain ⟨v1, _, d1, _, p1, _, rfl, rfl, rfl, h1, r1⟩ := trodAll_cons r0
  obtain ⟨v2, _, d2, _, p2, _, rfl, rfl, rfl, h2, r2⟩ := trodAll_cons r1
  obtain ⟨v3, _, d3, _, p3, _, rfl, rfl, rfl, h3, r3⟩ := trodAll_cons r2
  obtain ⟨v4, _, d4, _, p4, _, rfl, rfl, rfl, h4, r4⟩ := trodAll_cons r3
  obtain ⟨v5, _, d5, _, p5, _, rfl, rfl, rfl, h5, r5⟩ := trodAll_cons r4
  obtain ⟨rfl, rfl, rfl⟩ := trodAll_nil r5
  exact ⟨v0, v1, v2, v3, v4, v5, d0, d1, d2, d3, d4, d5, p0, p1, p2, p3, p4, p5, by cases args; simp_all, rfl, by simp, h0, h1, h2, h3, h4, h5⟩
end Go.Proofs.YtnppoifgfehpfaaGreatDoor
