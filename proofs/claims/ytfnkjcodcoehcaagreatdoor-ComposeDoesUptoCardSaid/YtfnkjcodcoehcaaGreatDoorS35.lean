/- Merged texts: RdrT, RdrN. -/
import Derived.Deep.CutRange
import Derived.StillTailTactics
import Derived.Test.YtfnkjcodcoehcaaGreatDoorS34
namespace Go.Proofs.YtfnkjcodcoehcaaGreatDoor
open Go.RowKit
set_option linter.unusedVariables false
set_option linter.unusedSimpArgs false

theorem Grow.aside {w w1 w2 : World} {F : Nat → Prop} {B : Nat} (g : Grow w F w1 F) (y : Below B w1 w2) (hB : w.heap.size ≤ B) : Grow w F w2 F :=
  ⟨y.os.trans g.os, y.tape.trans g.tape, y.output.trans g.output, Nat.le_trans g.size y.size, fun j hj hn => (y.block j (by omega)).trans (g.block j hj hn), fun k hk => .inl hk⟩
theorem Rdr.ops {w0 w : World} {b a : Nat} {X : List OpS} (h : Rdr w0 w b X a) : ∀ o ∈ X, isOp o.o ∧ lenO o.o ≤ 536870912 := by
  obtain ⟨A, n, c, _, _, h1, _⟩ := h; exact h1
set_option maxRecDepth 100000 in
set_option maxHeartbeats 3200000 in
theorem rdrTakeI_any (b n : Nat) (o : OpS) (t : List OpS) (a : Nat) (w0 w : World) (h : Rdr w0 w b (o :: t) a) (Y : Below w0.heap.size w0 w) (hn : n ≤ 536870912) (hn1 : 1 ≤ n) (hk : o.o.k = 2) (hb0 : w0.heap.size ≤ b) :
    Calls Tryz.prog 101 #[.pointer (some ⟨b, 0, none⟩), .int .i64 (n : Int)] w (Took b (o :: t) a n w0 w) := by
  have HH := Lib.hid h
  obtain ⟨A, nx, c, hb, hX, hI, _, hlt⟩ := h
  obtain ⟨h1, h2⟩ := hI o (by simp)
  have h3 := hlt o t rfl
  have hlen := hX.at_.len
  obtain ⟨ad, x, rfl, had, _, hx1, hc1⟩ := (hX.at_.rd.ext Y).1.el (i := 0) (by simp)
  have hxo : x = o := by simpa using hx1.symm
  subst hxo
  have hnx : 1 ≤ nx := by simp at hlen; omega
  have HX := Lib.hid hX
  have LO : Hid (lenO x.o ≤ 536870912 ∧ a < lenO x.o) := Lib.hid ⟨h2, h3⟩
  have OP := Lib.hid h1
  have hdec : decide ((x :: t : List OpS) = []) = false := rfl
  have RX := Lib.hid (hX.at_.rd.2 x (by simp))
  have CX := Lib.hid (hX.caps x (by simp))
  have KX := Lib.hid (hX.at_.ok x (by simp))
  have HB := Lib.hid hb
  obtain ⟨⟨k, nn, r, s, p⟩, Ar, cr, As, cs, Ap, cp⟩ := x
  simp only at hk
  subst hk
  rw [Nat.zero_mul, add_zero'] at hc1
  have hc1 := Lib.hid hc1
  clear hX hI hlt hx1 h1 h2 h3 hlen hb
  go_enter Tryz.func101, Tryz.ntmps101
  have ya := ext_alloc w (.cells #[.int .u8 0, .int .i64 0, .slice none 0 0, .slice none 0 0, .slice none 0 0] 50)
  have hba := heap_alloc_new w (.cells #[.int .u8 0, .int .i64 0, .slice none 0 0, .slice none 0 0, .slice none 0 0] 50)
  have H1 := Lib.hid (HH.out.ext ya)
  go_wp2_with (go_at_call 98; refine Hid.out ?_)
  refine Lib.hid ?_
  refine (rdrOver_any b _ a w0 _ H1.out (Y.trans (ya.mono Y.size))).mono ?_
  rw [hdec]
  rintro e w1 ⟨rfl, d, rfl⟩
  have yb := ext_trans ya (ext_drew _ d)
  have hbb : ((w.alloc (.cells #[.int .u8 0, .int .i64 0, .slice none 0 0, .slice none 0 0, .slice none 0 0] 50)).drewN d).heap[w.heap.size]? = _ := hba
  generalize (w.alloc (.cells #[.int .u8 0, .int .i64 0, .slice none 0 0, .slice none 0 0, .slice none 0 0] 50)).drewN d = w2 at *
  have HBB := Lib.hid hbb
  have YB := Lib.hid yb
  obtain ⟨z0, z1, z2, z3, z4⟩ := op_cells (hc1.out.keep (w' := w2) fun q hq => YB.out.cell (by rw [hq]; exact had))
  have hbx : w2.heap[b]? = _ := (YB.out.block b (lt_of_some HB.out)).trans HB.out
  have HBX := Lib.hid hbx
  have c0 : w2.cell? ⟨b, 0, none⟩ = some (.slice (some ad) nx c) := by simp [World.cell?, hbx]
  clear ya yb hba hbb hbx
  have H2 := Lib.hid (HH.out.ext YB.out)
  have yx := ext_alloc w2 (.cells #[.int .u8 2, .int .i64 nn, .slice Ar r.length cr, .slice As s.length cs, .slice Ap p.length cp] 50)
  have hbo := heap_alloc_new w2 (.cells #[.int .u8 2, .int .i64 nn, .slice Ar r.length cr, .slice As s.length cs, .slice Ap p.length cp] 50)
  have Y3 := Lib.hid (ext_trans YB.out yx)
  have HBO := Lib.hid hbo
  clear yx hbo
  go_wp2_with (go_at_call 171; refine Hid.out ?_)
  refine Lib.hid ?_
  refine (rdrLeft_any b _ t a w0 _ (HH.out.ext Y3.out) (Y.trans (Y3.out.mono Y.size))).mono ?_
  have HL : Hid (lenO (⟨2, nn, r, s, p⟩ : Opd) = r.length) := Lib.hid (by have := (lenO_of OP.out).2; have h2 : sizeO (⟨2, nn, r, s, p⟩ : Opd) = r.length := rfl; omega)
  obtain ⟨L, hL⟩ : ∃ L, lenO (⟨2, nn, r, s, p⟩ : Opd) = L := ⟨_, rfl⟩
  have HLL : Hid (r.length = L) := Lib.hid (by rw [← hL]; exact HL.out.symm)
  have HLO := Lib.hid hL
  rw [hL] at LO ⊢
  have HC0 : Hid (L ≤ cr) := Lib.hid (by have := CX.out.1.1; rw [← HLL.out]; exact this)
  clear hL
  rintro e w4 ⟨rfl, d4, rfl⟩
  obtain ⟨q, hq⟩ : ∃ q, min n (L - a) = q := ⟨_, rfl⟩
  have hmin : min (n : Int) ((L - a : Nat) : Int) = (q : Int) := by omega
  have HQ : Hid (1 ≤ q ∧ a + q ≤ L ∧ q = min n (L - a)) := Lib.hid (by have := LO.out; omega)
  clear hq
  have Y4 := Lib.hid (ext_trans Y3.out (ext_drew _ d4))
  have hbo2 : ((w2.alloc (.cells #[.int .u8 2, .int .i64 nn, .slice Ar r.length cr, .slice As s.length cs, .slice Ap p.length cp] 50)).drewN d4).heap[w2.heap.size]? = _ := HBO.out
  have hba2 : ((w2.alloc (.cells #[.int .u8 2, .int .i64 nn, .slice Ar r.length cr, .slice As s.length cs, .slice Ap p.length cp] 50)).drewN d4).heap[w.heap.size]? = _ := ((ext_trans (ext_alloc w2 _) (ext_drew _ d4)).block w.heap.size (lt_of_some HBB.out)).trans HBB.out
  have hbr2 : ((w2.alloc (.cells #[.int .u8 2, .int .i64 nn, .slice Ar r.length cr, .slice As s.length cs, .slice Ap p.length cp] 50)).drewN d4).heap[b]? = _ := ((ext_trans (ext_alloc w2 _) (ext_drew _ d4)).block b (lt_of_some HBX.out)).trans HBX.out
  have NE : Hid (w.heap.size ≠ w2.heap.size ∧ b ≠ w2.heap.size ∧ b ≠ w.heap.size ∧ w.heap.size < w2.heap.size ∧ b < w.heap.size) := Lib.hid (by have h1 := lt_of_some HBB.out; have h2 := lt_of_some HBX.out; have h3 := lt_of_some HB.out; omega)
  obtain ⟨bo, hbo⟩ : ∃ X, w2.heap.size = X := ⟨_, rfl⟩
  obtain ⟨ba, hba⟩ : ∃ X, w.heap.size = X := ⟨_, rfl⟩
  rw [hbo] at hbo2 NE
  rw [hba] at hba2 NE
  rw [hba, hbo]
  generalize (w2.alloc (.cells #[.int .u8 2, .int .i64 nn, .slice Ar r.length cr, .slice As s.length cs, .slice Ap p.length cp] 50)).drewN d4 = w5 at *
  have HO2 := Lib.hid hbo2
  have HA2 := Lib.hid hba2
  have HR2 := Lib.hid hbr2
  obtain ⟨t0, t1, t2, t3, t4⟩ := box_at hbo2
  have r0 : w5.cell? ⟨b, 0, none⟩ = some (.slice (some ad) nx c) := by simp [World.cell?, hbr2]
  have r1 : w5.cell? ⟨b, 1, none⟩ = some (.int .i64 (a : Int)) := by simp [World.cell?, hbr2]
  have fz2 := box_thaw hbo2 2
  have fzr := box_thaw hbr2 1
  obtain ⟨A9, hA9⟩ : ∃ X, advS Ar cr a 1 = X := ⟨_, rfl⟩
  obtain ⟨c9, hc9⟩ : ∃ X, cr - a = X := ⟨_, rfl⟩
  obtain ⟨en, hen⟩ : ∃ X, a + q = X := ⟨_, rfl⟩
  have HEN := Lib.hid hen
  have hae : (a : Int) + (q : Int) = (en : Int) := by rw [← hen]; exact (Int.natCast_add a q).symm
  have hbe : -9223372036854775808 ≤ (en : Int) ∧ (en : Int) ≤ 9223372036854775807 := by have h1 := LO.out.1; have h2 := HQ.out.2.1; omega
  have hsum : wrap64 ((a : Int) + (q : Int)) = (en : Int) := by rw [hae]; exact w64_in _ hbe
  have hsum2 : IntKind.i64.wrap ((a : Int) + (q : Int)) = (en : Int) := by rw [hae]; exact IntWalk.i64_in _ hbe
  have HAE := Lib.hid hae
  clear hbe hae
  have HCR : Hid (en ≤ cr) := Lib.hid (by rw [← hen]; exact Nat.le_trans HQ.out.2.1 HC0.out)
  have sl1 : ∀ W, (Instr.slice 47 (.slice Ar r.length cr) (some (.int .i64 (a : Int))) (some (.int .i64 (en : Int))) none).run Tryz.prog W = .ok (.slice A9 q c9) W := sl_both Tryz.slI32 Tryz.elI32r Tryz.szI32r rfl rfl hA9 (by rw [← hen]; exact Nat.add_sub_cancel_left a q) hc9 (by rw [← hen]; exact Nat.le_add_right a q) HCR.out
  clear hen
  clear hbo2 hba2 hbr2
  go_upto_region 6 with fail
  go_still_tail 14, (by kernel_rfl)
  change wpList _ _ _ _ _ w5.drew
  have HO3 : Hid (w5.drew.heap[bo]? = _) := Lib.hid HO2.out
  have HA3 : Hid (w5.drew.heap[ba]? = _) := Lib.hid HA2.out
  have HR3 : Hid (w5.drew.heap[b]? = _) := Lib.hid HR2.out
  have Y5 := Lib.hid (ext_trans Y4.out (ext_drew w5 1))
  have Y5' : Hid (Below w.heap.size w w5.drew) := Lib.hid Y5.out
  clear t0 t1 t2 t3 t4 r0 r1 fz2 fzr Y4 HO2 HA2 HR2 Y5
  generalize w5.drew = w6 at *
  obtain ⟨t0, t1, t2, t3, t4⟩ := box_at HO3.out
  have r0 : w6.cell? ⟨b, 0, none⟩ = some (.slice (some ad) nx c) := by simp [World.cell?, HR3.out]
  have r1 : w6.cell? ⟨b, 1, none⟩ = some (.int .i64 (a : Int)) := by simp [World.cell?, HR3.out]
  have fz2 := box_thaw HO3.out 2
  have fzr := box_thaw HR3.out 1
  -- behind both stores
  have ho7 : ((w6.setCell ⟨bo, 2, none⟩ (.slice A9 q c9)).setCell ⟨b, 1, none⟩ (.int .i64 (en : Int))).heap[bo]? = some (.cells #[.int .u8 2, .int .i64 nn, .slice A9 q c9, .slice As s.length cs, .slice Ap p.length cp] 50 (0, 0)) := by
    rw [Below.heap_setCell _ ⟨b, 1, none⟩ _ bo (fun e => NE.out.2.1 e.symm)]
    simpa using heap_setCell_self (j := 2) HO3.out (.slice A9 q c9)
  have ha7 : ((w6.setCell ⟨bo, 2, none⟩ (.slice A9 q c9)).setCell ⟨b, 1, none⟩ (.int .i64 (en : Int))).heap[ba]? = some (.cells #[.int .u8 0, .int .i64 0, .slice none 0 0, .slice none 0 0, .slice none 0 0] 50 (0, 0)) := by
    rw [Below.heap_setCell _ ⟨b, 1, none⟩ _ ba (fun e => NE.out.2.2.1 e.symm), Below.heap_setCell _ ⟨bo, 2, none⟩ _ ba NE.out.1]
    exact HA3.out
  have hr7 : ((w6.setCell ⟨bo, 2, none⟩ (.slice A9 q c9)).setCell ⟨b, 1, none⟩ (.int .i64 (en : Int))).heap[b]? = some (.cells #[.slice (some ad) nx c, .int .i64 (en : Int)] 141 (0, 0)) := by
    have h1 : (w6.setCell ⟨bo, 2, none⟩ (.slice A9 q c9)).heap[b]? = some (.cells #[.slice (some ad) nx c, .int .i64 (a : Int)] 141 (0, 0)) := (Below.heap_setCell _ ⟨bo, 2, none⟩ _ b NE.out.2.1).trans HR3.out
    simpa using heap_setCell_self (j := 1) h1 (.int .i64 (en : Int))
  have g7 : Hid (Grow w (fun k => k = b) ((w6.setCell ⟨bo, 2, none⟩ (.slice A9 q c9)).setCell ⟨b, 1, none⟩ (.int .i64 (en : Int))) (fun k => k = b)) := Lib.hid
    ((Grow.of (Y5'.out.setCell (p := ⟨bo, 2, none⟩) (by have := NE.out; simp only; omega) _)).trans (setCell_below (F := fun k => k = b) b 1 _ rfl 0))
  have HO7 := Lib.hid ho7
  have HA7 := Lib.hid ha7
  have HR7 := Lib.hid hr7
  clear ho7 ha7 hr7
  go_wp2_with (go_at_call 171; refine Hid.out ?_)
  refine Lib.hid ?_
  have Y7 := Lib.hid (Y.trans (g7.out.below (fun k hk => by omega) Y.size))
  refine (left_any b (some ad) nx c _ t en w0 _ HR7.out HX.out OP.out (by rw [HLO.out]; exact LO.out.1) (by rw [HLO.out, ← HEN.out]; exact HQ.out.2.1) Y7.out).mono ?_
  rw [HLO.out]
  rintro e w8' ⟨rfl, d8, rfl⟩
  have HO8 : Hid ((((w6.setCell ⟨bo, 2, none⟩ (.slice A9 q c9)).setCell ⟨b, 1, none⟩ (.int .i64 (en : Int))).drewN d8).heap[bo]? = _) := Lib.hid HO7.out
  have HA8 : Hid ((((w6.setCell ⟨bo, 2, none⟩ (.slice A9 q c9)).setCell ⟨b, 1, none⟩ (.int .i64 (en : Int))).drewN d8).heap[ba]? = _) := Lib.hid HA7.out
  have HR8 : Hid ((((w6.setCell ⟨bo, 2, none⟩ (.slice A9 q c9)).setCell ⟨b, 1, none⟩ (.int .i64 (en : Int))).drewN d8).heap[b]? = _) := Lib.hid HR7.out
  have G8 := Lib.hid (g7.out.trans (Grow.of (ext_drew _ d8)))
  clear t0 t1 t2 t3 t4 r0 r1 fz2 fzr HO7 HA7 HR7 g7 Y7
  generalize ((w6.setCell ⟨bo, 2, none⟩ (.slice A9 q c9)).setCell ⟨b, 1, none⟩ (.int .i64 (en : Int))).drewN d8 = w8 at *
  have RES : Hid (tookV ((⟨⟨2, nn, r, s, p⟩, Ar, cr, As, cs, Ap, cp⟩ : OpS) :: t) a n ⟨2, nn, (r.drop a).take q, s, p⟩ (if en = L then t else (⟨⟨2, nn, r, s, p⟩, Ar, cr, As, cs, Ap, cp⟩ : OpS) :: t) (if en = L then 0 else en)) := Lib.hid (by
    have e1 := HLO.out
    have e2 := HQ.out
    have e3 := HEN.out
    refine ⟨?_, ?_⟩
    · show _ = cutO (⟨2, nn, r, s, p⟩ : Opd) a (min n (lenO (⟨2, nn, r, s, p⟩ : Opd) - a))
      rw [e1, ← e2.2.2]
      unfold cutO
      rw [if_pos rfl]
    · show (a + min n (lenO (⟨2, nn, r, s, p⟩ : Opd) - a) = lenO (⟨2, nn, r, s, p⟩ : Opd) ∧ _) ∨ (a + min n (lenO (⟨2, nn, r, s, p⟩ : Opd) - a) < lenO (⟨2, nn, r, s, p⟩ : Opd) ∧ _)
      rw [e1, ← e2.2.2, e3]
      by_cases hz : en = L
      · rw [if_pos hz, if_pos hz]; exact .inl ⟨hz, rfl, rfl⟩
      · rw [if_neg hz, if_neg hz]; exact .inr ⟨by omega, rfl, rfl⟩)
  have TL : Hid (((r.drop a).take q).length = q) := Lib.hid (by rw [List.length_take, List.length_drop, HLL.out]; have := HQ.out; omega)
  have OIN : Hid (OpIn w0 ⟨⟨2, nn, (r.drop a).take q, s, p⟩, A9, c9, As, cs, Ap, cp⟩ ∧ capO ⟨⟨2, nn, (r.drop a).take q, s, p⟩, A9, c9, As, cs, Ap, cp⟩ ∧ okOp (⟨2, nn, (r.drop a).take q, s, p⟩ : Opd)) := Lib.hid (by
    obtain ⟨o1, o2, o3, o4, o5⟩ := KX.out
    simp only at o1 o2 o3 o4 o5
    refine ⟨⟨?_, RX.out.2.1, RX.out.2.2, ?_, ?_, ?_⟩, ⟨⟨?_, ?_⟩, CX.out.2.1, CX.out.2.2⟩, ⟨o1, o2, ?_, o4, o5⟩⟩
    · have h := RX.out.1.advS (k := a) (by have := LO.out; have := HLL.out; omega) CX.out.1.1
      rw [hA9] at h
      exact h.take q
    · show ((r.drop a).take q).length ≤ _; rw [TL.out]; have := HQ.out; have := LO.out; omega
    · show s.length ≤ _; omega
    · show p.length ≤ _; omega
    · show ((r.drop a).take q).length ≤ c9; rw [TL.out]; have := HCR.out; have := HEN.out; omega
    · show c9 ≤ _; have := CX.out.1.2; simp only at this; omega
    · show ((r.drop a).take q).length ≤ _; rw [TL.out]; have := HQ.out; have := HLL.out; omega)
  by_cases hz : en = L
  · have hz0 : (((L - en : Nat) : Int) == 0) = true := by rw [hz, Nat.sub_self]; rfl
    obtain ⟨A10, hA10⟩ : ∃ X, advS (some ad) c 1 5 = X := ⟨_, rfl⟩
    obtain ⟨c10, hc10⟩ : ∃ X, c - 1 = X := ⟨_, rfl⟩
    obtain ⟨n10, hn10⟩ : ∃ X, nx - 1 = X := ⟨_, rfl⟩
    have sl2 : ∀ W, (Instr.slice 44 (.slice (some ad) nx c) (some (.int .i64 1)) none none).run Tryz.prog W = .ok (.slice A10 n10 c10) W := sl_from (k := 1) Tryz.slOp0 Tryz.elOpD size_opD rfl hA10 hn10 hc10 hnx HX.out.cap
    have HX10 : Hid (OpsC w0 A10 n10 c10 t) := Lib.hid (by
      have h1 := HX.out
      have hl := h1.at_.len
      simp only [List.length_cons] at hl
      have h2 := h1.at_.rd.1.advS (k := 1) (by simp) (by simp only [List.length_cons]; have := h1.cap; omega : _ ≤ c)
      rw [hA10] at h2
      exact ⟨⟨⟨h2, fun z hz => h1.at_.rd.2 z (List.mem_cons_of_mem _ hz)⟩, by omega, fun z hz => h1.at_.ok z (List.mem_cons_of_mem _ hz), by have := h1.at_.b; omega⟩, by have := h1.cap; omega, by have := h1.cm; omega, fun z hz => h1.caps z (List.mem_cons_of_mem _ hz)⟩)
    have r0 : w8.cell? ⟨b, 0, none⟩ = some (.slice (some ad) nx c) := by simp [World.cell?, HR8.out]
    have r1 : w8.cell? ⟨b, 1, none⟩ = some (.int .i64 (en : Int)) := by simp [World.cell?, HR8.out]
    have fzb0 := box_thaw HR8.out 0
    have fzb1 := box_thaw HR8.out 1
    have ho9 : ((w8.setCell ⟨b, 0, none⟩ (.slice A10 n10 c10)).setCell ⟨b, 1, none⟩ (.int .i64 0)).heap[bo]? = _ := ((Below.heap_setCell _ ⟨b, 1, none⟩ _ bo (fun e => NE.out.2.1 e.symm)).trans (Below.heap_setCell _ ⟨b, 0, none⟩ _ bo (fun e => NE.out.2.1 e.symm))).trans HO8.out
    have ha9 : ((w8.setCell ⟨b, 0, none⟩ (.slice A10 n10 c10)).setCell ⟨b, 1, none⟩ (.int .i64 0)).heap[ba]? = _ := ((Below.heap_setCell _ ⟨b, 1, none⟩ _ ba (fun e => NE.out.2.2.1 e.symm)).trans (Below.heap_setCell _ ⟨b, 0, none⟩ _ ba (fun e => NE.out.2.2.1 e.symm))).trans HA8.out
    have hr9 : ((w8.setCell ⟨b, 0, none⟩ (.slice A10 n10 c10)).setCell ⟨b, 1, none⟩ (.int .i64 0)).heap[b]? = some (.cells #[.slice A10 n10 c10, .int .i64 0] 141 (0, 0)) := by
      have h1 := heap_setCell_self (j := 0) HR8.out (.slice A10 n10 c10)
      simpa using heap_setCell_self (j := 1) h1 (.int .i64 0)
    have G9 := Lib.hid (G8.out.trans ((setCell_below (w := w8) (F := fun k => k = b) b 0 (.slice A10 n10 c10) rfl 0).trans (setCell_below (w := w8.setCell ⟨b, 0, none⟩ (.slice A10 n10 c10)) (F := fun k => k = b) b 1 (.int .i64 0) rfl 0)))
    have HO9 := Lib.hid ho9
    have HA9 := Lib.hid ha9
    have HR9 := Lib.hid hr9
    clear ho9 ha9 hr9
    obtain ⟨u0, u1, u2, u3, u4⟩ := box_at HO9.out
    obtain ⟨v0, v1, v2, v3, v4⟩ := box_at HA9.out
    have f0 := box_thaw HA9.out 0
    have f1 := box_thaw HA9.out 1
    have f2 := box_thaw HA9.out 2
    have f3 := box_thaw HA9.out 3
    have f4 := box_thaw HA9.out 4
    go_wp2_with (fail)
    refine bodyPost_ret (results_cell_row (P := Tryz.prog) rfl _ _ ba 50 #[.int .u8 2, .int .i64 nn, .slice A9 q c9, .slice As s.length cs, .slice Ap p.length cp] (0, 0) _ rfl (set5 HA9.out _ _ _ _ _) Tryz.unOp rfl Tryz.szOp9) rfl ?_
    have hres := RES.out
    rw [if_pos hz, if_pos hz] at hres
    have y10 := below_set5 (Below.refl ba ((w8.setCell ⟨b, 0, none⟩ (.slice A10 n10 c10)).setCell ⟨b, 1, none⟩ (.int .i64 0))) (Nat.le_refl ba) (.int .u8 2) (.int .i64 nn) (.slice A9 q c9) (.slice As s.length cs) (.slice Ap p.length cp)
    refine ⟨⟨⟨2, nn, (r.drop a).take q, s, p⟩, A9, c9, As, cs, Ap, cp⟩, t, 0, by unfold OpS.val; simp only; rw [TL.out], hres, OIN.out.1, OIN.out.2.1, OIN.out.2.2, ?_, G9.out.aside y10 (by omega)⟩
    exact ⟨A10, n10, c10, (y10.block b NE.out.2.2.2.2).trans HR9.out, HX10.out, fun z hz => HH.out.ops z (List.mem_cons_of_mem _ hz), fun _ => rfl, fun z s' e => by have := (lenO_of (HH.out.ops z (by rw [e]; simp)).1).1; omega⟩
  · have hz0 : (((L - en : Nat) : Int) == 0) = false := beq_eq_false_iff_ne.2 (by have := HEN.out; have := HQ.out; omega)
    have HO9 := HO8
    have HA9 := HA8
    obtain ⟨u0, u1, u2, u3, u4⟩ := box_at HO9.out
    obtain ⟨v0, v1, v2, v3, v4⟩ := box_at HA9.out
    have f0 := box_thaw HA9.out 0
    have f1 := box_thaw HA9.out 1
    have f2 := box_thaw HA9.out 2
    have f3 := box_thaw HA9.out 3
    have f4 := box_thaw HA9.out 4
    go_wp2_with (fail)
    refine bodyPost_ret (results_cell_row (P := Tryz.prog) rfl _ _ ba 50 #[.int .u8 2, .int .i64 nn, .slice A9 q c9, .slice As s.length cs, .slice Ap p.length cp] (0, 0) _ rfl (set5 HA9.out _ _ _ _ _) Tryz.unOp rfl Tryz.szOp9) rfl ?_
    have hres := RES.out
    rw [if_neg hz, if_neg hz] at hres
    have y10 := below_set5 (Below.refl ba w8) (Nat.le_refl ba) (.int .u8 2) (.int .i64 nn) (.slice A9 q c9) (.slice As s.length cs) (.slice Ap p.length cp)
    refine ⟨⟨⟨2, nn, (r.drop a).take q, s, p⟩, A9, c9, As, cs, Ap, cp⟩, _, en, by unfold OpS.val; simp only; rw [TL.out], hres, OIN.out.1, OIN.out.2.1, OIN.out.2.2, ?_, G8.out.aside y10 (by omega)⟩
    refine ⟨some ad, nx, c, (y10.block b NE.out.2.2.2.2).trans HR8.out, HX.out, HH.out.ops, (fun e => by cases e), fun z s' e => ?_⟩
    injection e with e1 e2
    rw [← e1]
    show en < lenO (⟨2, nn, r, s, p⟩ : Opd)
    rw [HLO.out]
    have := HEN.out
    have := HQ.out
    omega
end Go.Proofs.YtfnkjcodcoehcaaGreatDoor
namespace Go.Proofs.YtfnkjcodcoehcaaGreatDoor
open Go.RowKit
set_option linter.unusedVariables false
set_option linter.unusedSimpArgs false

set_option maxRecDepth 100000 in
set_option maxHeartbeats 3200000 in
theorem rdrTakeN_any (b n : Nat) (o : OpS) (t : List OpS) (a : Nat) (w0 w : World) (h : Rdr w0 w b (o :: t) a) (Y : Below w0.heap.size w0 w) (hn : n ≤ 536870912) (hn1 : 1 ≤ n) (hk : o.o.k ≠ 2) (hb0 : w0.heap.size ≤ b) :
    Calls Tryz.prog 101 #[.pointer (some ⟨b, 0, none⟩), .int .i64 (n : Int)] w (Took b (o :: t) a n w0 w) := by
  have HH := Lib.hid h
  obtain ⟨A, nx, c, hb, hX, hI, _, hlt⟩ := h
  obtain ⟨h1, h2⟩ := hI o (by simp)
  have h3 := hlt o t rfl
  have hlen := hX.at_.len
  obtain ⟨ad, x, rfl, had, _, hx1, hc1⟩ := (hX.at_.rd.ext Y).1.el (i := 0) (by simp)
  have hxo : x = o := by simpa using hx1.symm
  subst hxo
  have hnx : 1 ≤ nx := by simp at hlen; omega
  have HX := Lib.hid hX
  have LO : Hid (lenO x.o ≤ 536870912 ∧ a < lenO x.o) := Lib.hid ⟨h2, h3⟩
  have OP := Lib.hid h1
  have hdec : decide ((x :: t : List OpS) = []) = false := rfl
  have RX := Lib.hid (hX.at_.rd.2 x (by simp))
  have CX := Lib.hid (hX.caps x (by simp))
  have KX := Lib.hid (hX.at_.ok x (by simp))
  have HB := Lib.hid hb
  obtain ⟨⟨k, nn, r, s, p⟩, Ar, cr, As, cs, Ap, cp⟩ := x
  simp only at hk
  have hk' : (k == 2) = false := beq_eq_false_iff_ne.2 hk
  have HK := Lib.hid hk
  clear hk
  rw [Nat.zero_mul, add_zero'] at hc1
  have hc1 := Lib.hid hc1
  clear hX hI hlt hx1 h1 h2 h3 hlen hb
  go_enter Tryz.func101, Tryz.ntmps101
  have ya := ext_alloc w (.cells #[.int .u8 0, .int .i64 0, .slice none 0 0, .slice none 0 0, .slice none 0 0] 50)
  have hba := heap_alloc_new w (.cells #[.int .u8 0, .int .i64 0, .slice none 0 0, .slice none 0 0, .slice none 0 0] 50)
  have H1 := Lib.hid (HH.out.ext ya)
  go_wp2_with (go_at_call 98; refine Hid.out ?_)
  refine Lib.hid ?_
  refine (rdrOver_any b _ a w0 _ H1.out (Y.trans (ya.mono Y.size))).mono ?_
  rw [hdec]
  rintro e w1 ⟨rfl, d, rfl⟩
  have yb := ext_trans ya (ext_drew _ d)
  have hbb : ((w.alloc (.cells #[.int .u8 0, .int .i64 0, .slice none 0 0, .slice none 0 0, .slice none 0 0] 50)).drewN d).heap[w.heap.size]? = _ := hba
  generalize (w.alloc (.cells #[.int .u8 0, .int .i64 0, .slice none 0 0, .slice none 0 0, .slice none 0 0] 50)).drewN d = w2 at *
  have HBB := Lib.hid hbb
  have YB := Lib.hid yb
  obtain ⟨z0, z1, z2, z3, z4⟩ := op_cells (hc1.out.keep (w' := w2) fun q hq => YB.out.cell (by rw [hq]; exact had))
  have hbx : w2.heap[b]? = _ := (YB.out.block b (lt_of_some HB.out)).trans HB.out
  have HBX := Lib.hid hbx
  have c0 : w2.cell? ⟨b, 0, none⟩ = some (.slice (some ad) nx c) := by simp [World.cell?, hbx]
  clear ya yb hba hbb hbx
  have H2 := Lib.hid (HH.out.ext YB.out)
  have yx := ext_alloc w2 (.cells #[.int .u8 k, .int .i64 nn, .slice Ar r.length cr, .slice As s.length cs, .slice Ap p.length cp] 50)
  have hbo := heap_alloc_new w2 (.cells #[.int .u8 k, .int .i64 nn, .slice Ar r.length cr, .slice As s.length cs, .slice Ap p.length cp] 50)
  have Y3 := Lib.hid (ext_trans YB.out yx)
  have HBO := Lib.hid hbo
  clear yx hbo
  go_wp2_with (go_at_call 171; refine Hid.out ?_)
  refine Lib.hid ?_
  refine (rdrLeft_any b _ t a w0 _ (HH.out.ext Y3.out) (Y.trans (Y3.out.mono Y.size))).mono ?_
  obtain ⟨L, hL⟩ : ∃ L, lenO (⟨k, nn, r, s, p⟩ : Opd) = L := ⟨_, rfl⟩
  have HLO := Lib.hid hL
  rw [hL] at LO ⊢
  clear hL
  rintro e w4 ⟨rfl, d4, rfl⟩
  obtain ⟨q, hq⟩ : ∃ q, min n (L - a) = q := ⟨_, rfl⟩
  have hmin : min (n : Int) ((L - a : Nat) : Int) = (q : Int) := by omega
  have HQ : Hid (1 ≤ q ∧ a + q ≤ L ∧ q = min n (L - a)) := Lib.hid (by have := LO.out; omega)
  clear hq
  have Y4 := Lib.hid (ext_trans Y3.out (ext_drew _ d4))
  have hbo2 : ((w2.alloc (.cells #[.int .u8 k, .int .i64 nn, .slice Ar r.length cr, .slice As s.length cs, .slice Ap p.length cp] 50)).drewN d4).heap[w2.heap.size]? = _ := HBO.out
  have hba2 : ((w2.alloc (.cells #[.int .u8 k, .int .i64 nn, .slice Ar r.length cr, .slice As s.length cs, .slice Ap p.length cp] 50)).drewN d4).heap[w.heap.size]? = _ := ((ext_trans (ext_alloc w2 _) (ext_drew _ d4)).block w.heap.size (lt_of_some HBB.out)).trans HBB.out
  have hbr2 : ((w2.alloc (.cells #[.int .u8 k, .int .i64 nn, .slice Ar r.length cr, .slice As s.length cs, .slice Ap p.length cp] 50)).drewN d4).heap[b]? = _ := ((ext_trans (ext_alloc w2 _) (ext_drew _ d4)).block b (lt_of_some HBX.out)).trans HBX.out
  have NE : Hid (w.heap.size ≠ w2.heap.size ∧ b ≠ w2.heap.size ∧ b ≠ w.heap.size ∧ w.heap.size < w2.heap.size ∧ b < w.heap.size) := Lib.hid (by have h1 := lt_of_some HBB.out; have h2 := lt_of_some HBX.out; have h3 := lt_of_some HB.out; omega)
  obtain ⟨bo, hbo⟩ : ∃ X, w2.heap.size = X := ⟨_, rfl⟩
  obtain ⟨ba, hba⟩ : ∃ X, w.heap.size = X := ⟨_, rfl⟩
  rw [hbo] at hbo2 NE
  rw [hba] at hba2 NE
  rw [hba, hbo]
  generalize (w2.alloc (.cells #[.int .u8 k, .int .i64 nn, .slice Ar r.length cr, .slice As s.length cs, .slice Ap p.length cp] 50)).drewN d4 = w5 at *
  have HO2 := Lib.hid hbo2
  have HA2 := Lib.hid hba2
  have HR2 := Lib.hid hbr2
  obtain ⟨t0, t1, t2, t3, t4⟩ := box_at hbo2
  have r0 : w5.cell? ⟨b, 0, none⟩ = some (.slice (some ad) nx c) := by simp [World.cell?, hbr2]
  have r1 : w5.cell? ⟨b, 1, none⟩ = some (.int .i64 (a : Int)) := by simp [World.cell?, hbr2]
  have fz2 := box_thaw hbo2 1
  have fzr := box_thaw hbr2 1
  obtain ⟨en, hen⟩ : ∃ X, a + q = X := ⟨_, rfl⟩
  have HEN := Lib.hid hen
  have hae : (a : Int) + (q : Int) = (en : Int) := by rw [← hen]; exact (Int.natCast_add a q).symm
  have hbe : -9223372036854775808 ≤ (en : Int) ∧ (en : Int) ≤ 9223372036854775807 := by have h1 := LO.out.1; have h2 := HQ.out.2.1; omega
  have hsum : wrap64 ((a : Int) + (q : Int)) = (en : Int) := by rw [hae]; exact w64_in _ hbe
  have hsum2 : IntKind.i64.wrap ((a : Int) + (q : Int)) = (en : Int) := by rw [hae]; exact IntWalk.i64_in _ hbe
  have HAE := Lib.hid hae
  clear hbe hae
  clear hen
  clear hbo2 hba2 hbr2
  have HO3 := HO2
  have HA3 := HA2
  have HR3 := HR2
  have Y5' := Y4
  have hb8 : (w5.setCell ⟨bo, 1, none⟩ (.int .i64 (q : Int))).heap[b]? = some (.cells #[.slice (some ad) nx c, .int .i64 (a : Int)] 141 (0, 0)) := (Below.heap_setCell _ ⟨bo, 1, none⟩ _ b NE.out.2.1).trans HR3.out
  have r8 : (w5.setCell ⟨bo, 1, none⟩ (.int .i64 (q : Int))).cell? ⟨b, 1, none⟩ = some (.int .i64 (a : Int)) := by
    unfold World.cell?
    rw [hb8]; rfl
  have fz8 := box_thaw hb8 1
  clear hb8
  -- behind both stores
  have ho7 : ((w5.setCell ⟨bo, 1, none⟩ (.int .i64 (q : Int))).setCell ⟨b, 1, none⟩ (.int .i64 (en : Int))).heap[bo]? = some (.cells #[.int .u8 k, .int .i64 (q : Int), .slice Ar r.length cr, .slice As s.length cs, .slice Ap p.length cp] 50 (0, 0)) := by
    rw [Below.heap_setCell _ ⟨b, 1, none⟩ _ bo (fun e => NE.out.2.1 e.symm)]
    simpa using heap_setCell_self (j := 1) HO3.out (.int .i64 (q : Int))
  have ha7 : ((w5.setCell ⟨bo, 1, none⟩ (.int .i64 (q : Int))).setCell ⟨b, 1, none⟩ (.int .i64 (en : Int))).heap[ba]? = some (.cells #[.int .u8 0, .int .i64 0, .slice none 0 0, .slice none 0 0, .slice none 0 0] 50 (0, 0)) := by
    rw [Below.heap_setCell _ ⟨b, 1, none⟩ _ ba (fun e => NE.out.2.2.1 e.symm), Below.heap_setCell _ ⟨bo, 1, none⟩ _ ba NE.out.1]
    exact HA3.out
  have hr7 : ((w5.setCell ⟨bo, 1, none⟩ (.int .i64 (q : Int))).setCell ⟨b, 1, none⟩ (.int .i64 (en : Int))).heap[b]? = some (.cells #[.slice (some ad) nx c, .int .i64 (en : Int)] 141 (0, 0)) := by
    have h1 : (w5.setCell ⟨bo, 1, none⟩ (.int .i64 (q : Int))).heap[b]? = some (.cells #[.slice (some ad) nx c, .int .i64 (a : Int)] 141 (0, 0)) := (Below.heap_setCell _ ⟨bo, 1, none⟩ _ b NE.out.2.1).trans HR3.out
    simpa using heap_setCell_self (j := 1) h1 (.int .i64 (en : Int))
  have g7 : Hid (Grow w (fun k => k = b) ((w5.setCell ⟨bo, 1, none⟩ (.int .i64 (q : Int))).setCell ⟨b, 1, none⟩ (.int .i64 (en : Int))) (fun k => k = b)) := Lib.hid
    ((Grow.of (Y5'.out.setCell (p := ⟨bo, 1, none⟩) (by have := NE.out; simp only; omega) _)).trans (setCell_below (F := fun k => k = b) b 1 _ rfl 0))
  have HO7 := Lib.hid ho7
  have HA7 := Lib.hid ha7
  have HR7 := Lib.hid hr7
  clear ho7 ha7 hr7
  go_wp2_with (go_at_call 171; refine Hid.out ?_)
  refine Lib.hid ?_
  have Y7 := Lib.hid (Y.trans (g7.out.below (fun k hk => by omega) Y.size))
  refine (left_any b (some ad) nx c _ t en w0 _ HR7.out HX.out OP.out (by rw [HLO.out]; exact LO.out.1) (by rw [HLO.out, ← HEN.out]; exact HQ.out.2.1) Y7.out).mono ?_
  rw [HLO.out]
  rintro e w8' ⟨rfl, d8, rfl⟩
  have HO8 : Hid ((((w5.setCell ⟨bo, 1, none⟩ (.int .i64 (q : Int))).setCell ⟨b, 1, none⟩ (.int .i64 (en : Int))).drewN d8).heap[bo]? = _) := Lib.hid HO7.out
  have HA8 : Hid ((((w5.setCell ⟨bo, 1, none⟩ (.int .i64 (q : Int))).setCell ⟨b, 1, none⟩ (.int .i64 (en : Int))).drewN d8).heap[ba]? = _) := Lib.hid HA7.out
  have HR8 : Hid ((((w5.setCell ⟨bo, 1, none⟩ (.int .i64 (q : Int))).setCell ⟨b, 1, none⟩ (.int .i64 (en : Int))).drewN d8).heap[b]? = _) := Lib.hid HR7.out
  have G8 := Lib.hid (g7.out.trans (Grow.of (ext_drew _ d8)))
  clear t0 t1 t2 t3 t4 r0 r1 fz2 fzr HO7 HA7 HR7 g7 Y7
  generalize ((w5.setCell ⟨bo, 1, none⟩ (.int .i64 (q : Int))).setCell ⟨b, 1, none⟩ (.int .i64 (en : Int))).drewN d8 = w8 at *
  have RES : Hid (tookV ((⟨⟨k, nn, r, s, p⟩, Ar, cr, As, cs, Ap, cp⟩ : OpS) :: t) a n ⟨k, (q : Int), r, s, p⟩ (if en = L then t else (⟨⟨k, nn, r, s, p⟩, Ar, cr, As, cs, Ap, cp⟩ : OpS) :: t) (if en = L then 0 else en)) := Lib.hid (by
    have e1 := HLO.out
    have e2 := HQ.out
    have e3 := HEN.out
    refine ⟨?_, ?_⟩
    · show _ = cutO (⟨k, nn, r, s, p⟩ : Opd) a (min n (lenO (⟨k, nn, r, s, p⟩ : Opd) - a))
      rw [e1, ← e2.2.2]
      unfold cutO
      rw [if_neg HK.out]
    · show (a + min n (lenO (⟨k, nn, r, s, p⟩ : Opd) - a) = lenO (⟨k, nn, r, s, p⟩ : Opd) ∧ _) ∨ (a + min n (lenO (⟨k, nn, r, s, p⟩ : Opd) - a) < lenO (⟨k, nn, r, s, p⟩ : Opd) ∧ _)
      rw [e1, ← e2.2.2, e3]
      by_cases hz : en = L
      · rw [if_pos hz, if_pos hz]; exact .inl ⟨hz, rfl, rfl⟩
      · rw [if_neg hz, if_neg hz]; exact .inr ⟨by omega, rfl, rfl⟩)
  have OIN : Hid (OpIn w0 ⟨⟨k, (q : Int), r, s, p⟩, Ar, cr, As, cs, Ap, cp⟩ ∧ capO ⟨⟨k, (q : Int), r, s, p⟩, Ar, cr, As, cs, Ap, cp⟩ ∧ okOp (⟨k, (q : Int), r, s, p⟩ : Opd)) := Lib.hid (by
    obtain ⟨o1, o2, o3, o4, o5⟩ := KX.out
    simp only at o1 o2 o3 o4 o5
    exact ⟨⟨RX.out.1, RX.out.2.1, RX.out.2.2, by simp only; omega, by simp only; omega, by simp only; omega⟩, CX.out, ⟨o1, o2, o3, o4, o5⟩⟩)
  by_cases hz : en = L
  · have hz0 : (((L - en : Nat) : Int) == 0) = true := by rw [hz, Nat.sub_self]; rfl
    obtain ⟨A10, hA10⟩ : ∃ X, advS (some ad) c 1 5 = X := ⟨_, rfl⟩
    obtain ⟨c10, hc10⟩ : ∃ X, c - 1 = X := ⟨_, rfl⟩
    obtain ⟨n10, hn10⟩ : ∃ X, nx - 1 = X := ⟨_, rfl⟩
    have sl2 : ∀ W, (Instr.slice 44 (.slice (some ad) nx c) (some (.int .i64 1)) none none).run Tryz.prog W = .ok (.slice A10 n10 c10) W := sl_from (k := 1) Tryz.slOp0 Tryz.elOpD size_opD rfl hA10 hn10 hc10 hnx HX.out.cap
    have HX10 : Hid (OpsC w0 A10 n10 c10 t) := Lib.hid (by
      have h1 := HX.out
      have hl := h1.at_.len
      simp only [List.length_cons] at hl
      have h2 := h1.at_.rd.1.advS (k := 1) (by simp) (by simp only [List.length_cons]; have := h1.cap; omega : _ ≤ c)
      rw [hA10] at h2
      exact ⟨⟨⟨h2, fun z hz => h1.at_.rd.2 z (List.mem_cons_of_mem _ hz)⟩, by omega, fun z hz => h1.at_.ok z (List.mem_cons_of_mem _ hz), by have := h1.at_.b; omega⟩, by have := h1.cap; omega, by have := h1.cm; omega, fun z hz => h1.caps z (List.mem_cons_of_mem _ hz)⟩)
    have r0 : w8.cell? ⟨b, 0, none⟩ = some (.slice (some ad) nx c) := by simp [World.cell?, HR8.out]
    have r1 : w8.cell? ⟨b, 1, none⟩ = some (.int .i64 (en : Int)) := by simp [World.cell?, HR8.out]
    have fzb0 := box_thaw HR8.out 0
    have fzb1 := box_thaw HR8.out 1
    have ho9 : ((w8.setCell ⟨b, 0, none⟩ (.slice A10 n10 c10)).setCell ⟨b, 1, none⟩ (.int .i64 0)).heap[bo]? = _ := ((Below.heap_setCell _ ⟨b, 1, none⟩ _ bo (fun e => NE.out.2.1 e.symm)).trans (Below.heap_setCell _ ⟨b, 0, none⟩ _ bo (fun e => NE.out.2.1 e.symm))).trans HO8.out
    have ha9 : ((w8.setCell ⟨b, 0, none⟩ (.slice A10 n10 c10)).setCell ⟨b, 1, none⟩ (.int .i64 0)).heap[ba]? = _ := ((Below.heap_setCell _ ⟨b, 1, none⟩ _ ba (fun e => NE.out.2.2.1 e.symm)).trans (Below.heap_setCell _ ⟨b, 0, none⟩ _ ba (fun e => NE.out.2.2.1 e.symm))).trans HA8.out
    have hr9 : ((w8.setCell ⟨b, 0, none⟩ (.slice A10 n10 c10)).setCell ⟨b, 1, none⟩ (.int .i64 0)).heap[b]? = some (.cells #[.slice A10 n10 c10, .int .i64 0] 141 (0, 0)) := by
      have h1 := heap_setCell_self (j := 0) HR8.out (.slice A10 n10 c10)
      simpa using heap_setCell_self (j := 1) h1 (.int .i64 0)
    have G9 := Lib.hid (G8.out.trans ((setCell_below (w := w8) (F := fun k => k = b) b 0 (.slice A10 n10 c10) rfl 0).trans (setCell_below (w := w8.setCell ⟨b, 0, none⟩ (.slice A10 n10 c10)) (F := fun k => k = b) b 1 (.int .i64 0) rfl 0)))
    have HO9 := Lib.hid ho9
    have HA9 := Lib.hid ha9
    have HR9 := Lib.hid hr9
    clear ho9 ha9 hr9
    obtain ⟨u0, u1, u2, u3, u4⟩ := box_at HO9.out
    obtain ⟨v0, v1, v2, v3, v4⟩ := box_at HA9.out
    have f0 := box_thaw HA9.out 0
    have f1 := box_thaw HA9.out 1
    have f2 := box_thaw HA9.out 2
    have f3 := box_thaw HA9.out 3
    have f4 := box_thaw HA9.out 4
    go_wp2_with (fail)
    refine bodyPost_ret (results_cell_row (P := Tryz.prog) rfl _ _ ba 50 #[.int .u8 k, .int .i64 (q : Int), .slice Ar r.length cr, .slice As s.length cs, .slice Ap p.length cp] (0, 0) _ rfl (set5 HA9.out _ _ _ _ _) Tryz.unOp rfl Tryz.szOp9) rfl ?_
    have hres := RES.out
    rw [if_pos hz, if_pos hz] at hres
    have y10 := below_set5 (Below.refl ba ((w8.setCell ⟨b, 0, none⟩ (.slice A10 n10 c10)).setCell ⟨b, 1, none⟩ (.int .i64 0))) (Nat.le_refl ba) (.int .u8 k) (.int .i64 (q : Int)) (.slice Ar r.length cr) (.slice As s.length cs) (.slice Ap p.length cp)
    refine ⟨⟨⟨k, (q : Int), r, s, p⟩, Ar, cr, As, cs, Ap, cp⟩, t, 0, rfl, hres, OIN.out.1, OIN.out.2.1, OIN.out.2.2, ?_, G9.out.aside y10 (by omega)⟩
    exact ⟨A10, n10, c10, (y10.block b NE.out.2.2.2.2).trans HR9.out, HX10.out, fun z hz => HH.out.ops z (List.mem_cons_of_mem _ hz), fun _ => rfl, fun z s' e => by have := (lenO_of (HH.out.ops z (by rw [e]; simp)).1).1; omega⟩
  · have hz0 : (((L - en : Nat) : Int) == 0) = false := beq_eq_false_iff_ne.2 (by have := HEN.out; have := HQ.out; omega)
    have HO9 := HO8
    have HA9 := HA8
    obtain ⟨u0, u1, u2, u3, u4⟩ := box_at HO9.out
    obtain ⟨v0, v1, v2, v3, v4⟩ := box_at HA9.out
    have f0 := box_thaw HA9.out 0
    have f1 := box_thaw HA9.out 1
    have f2 := box_thaw HA9.out 2
    have f3 := box_thaw HA9.out 3
    have f4 := box_thaw HA9.out 4
    go_wp2_with (fail)
    refine bodyPost_ret (results_cell_row (P := Tryz.prog) rfl _ _ ba 50 #[.int .u8 k, .int .i64 (q : Int), .slice Ar r.length cr, .slice As s.length cs, .slice Ap p.length cp] (0, 0) _ rfl (set5 HA9.out _ _ _ _ _) Tryz.unOp rfl Tryz.szOp9) rfl ?_
    have hres := RES.out
    rw [if_neg hz, if_neg hz] at hres
    have y10 := below_set5 (Below.refl ba w8) (Nat.le_refl ba) (.int .u8 k) (.int .i64 (q : Int)) (.slice Ar r.length cr) (.slice As s.length cs) (.slice Ap p.length cp)
    refine ⟨⟨⟨k, (q : Int), r, s, p⟩, Ar, cr, As, cs, Ap, cp⟩, _, en, rfl, hres, OIN.out.1, OIN.out.2.1, OIN.out.2.2, ?_, G8.out.aside y10 (by omega)⟩
    refine ⟨some ad, nx, c, (y10.block b NE.out.2.2.2.2).trans HR8.out, HX.out, HH.out.ops, (fun e => by cases e), fun z s' e => ?_⟩
    injection e with e1 e2
    rw [← e1]
    show en < lenO (⟨k, nn, r, s, p⟩ : Opd)
    rw [HLO.out]
    have := HEN.out
    have := HQ.out
    omega
/-- take, whatever comes first -/
theorem rdrTake_any (b n : Nat) (X : List OpS) (a : Nat) (w0 w : World) (h : Rdr w0 w b X a) (Y : Below w0.heap.size w0 w) (hn : n ≤ 536870912) (hn1 : 1 ≤ n) (hb0 : w0.heap.size ≤ b) :
    Calls Tryz.prog 101 #[.pointer (some ⟨b, 0, none⟩), .int .i64 (n : Int)] w (Took b X a n w0 w) := by
  cases X with
  | nil =>
    have ha : a = 0 := by obtain ⟨A, m, c, _, _, _, h1, _⟩ := h; exact h1 rfl
    subst ha
    exact rdrTake0_any b n w0 w h Y hn
  | cons o t =>
    by_cases hk : o.o.k = 2
    · exact rdrTakeI_any b n o t a w0 w h Y hn hn1 hk hb0
    · exact rdrTakeN_any b n o t a w0 w h Y hn hn1 hk hb0
end Go.Proofs.YtfnkjcodcoehcaaGreatDoor
