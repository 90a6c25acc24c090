/- Merged texts: RdrN, Compose, BothM. -/
import Derived.Test.YtbdkbfoplpociaaGreatDoorE30
import Derived.Test.YtbdkbfoplpociaaGreatDoorE17
import Derived.Test.YtbdkbfoplpociaaGreatDoorE11
import Derived.Test.YtbdkbfoplpociaaGreatDoorE28
namespace Go.Proofs.YtbdkbfoplpociaaGreatDoor
open Go.RowKit
set_option linter.unusedVariables false
set_option linter.unusedSimpArgs false

set_option maxRecDepth 100000 in
set_option maxHeartbeats 3200000 in
theorem rdrTakeN_any (b n : Nat) (o : OpS) (t : List OpS) (a : Nat) (w0 w : World) (h : Rdr w0 w b (o :: t) a) (Y : Below w0.heap.size w0 w) (hn : n ≤ 536870912) (hn1 : 1 ≤ n) (hk : o.o.k ≠ 2) (hb0 : w0.heap.size ≤ b) :
    Calls Tryz.prog 100 #[.pointer (some ⟨b, 0, none⟩), .int .i64 (n : Int)] w (Took b (o :: t) a n w0 w) := by
  have HH := Lib.hid h
  obtain ⟨A, nx, c, hb, hX, hI, _, hlt⟩ := h
  obtain ⟨h1, h2⟩ := hI o (by simp)
  have h3 := hlt o t rfl
  have hlen := hX.at_.len
  obtain ⟨ad, x, rfl, had, _, hx1, hc1⟩ := (hX.at_.rd.ext Y).1.el (i := 0) (by simp)
  have hxo : x = o := by simpa using hx1.symm
  subst hxo
  have hnx : 1 ≤ nx := by simp at hlen; omega
  have HX := Lib.hid hX
  have LO : Hid (lenO x.o ≤ 536870912 ∧ a < lenO x.o) := Lib.hid ⟨h2, h3⟩
  have OP := Lib.hid h1
  have hdec : decide ((x :: t : List OpS) = []) = false := rfl
  have RX := Lib.hid (hX.at_.rd.2 x (by simp))
  have CX := Lib.hid (hX.caps x (by simp))
  have KX := Lib.hid (hX.at_.ok x (by simp))
  have HB := Lib.hid hb
  obtain ⟨⟨k, nn, r, s, p⟩, Ar, cr, As, cs, Ap, cp⟩ := x
  simp only at hk
  have hk' : (k == 2) = false := beq_eq_false_iff_ne.2 hk
  have HK := Lib.hid hk
  clear hk
  rw [Nat.zero_mul, add_zero'] at hc1
  have hc1 := Lib.hid hc1
  clear hX hI hlt hx1 h1 h2 h3 hlen hb
  go_enter Tryz.func100, Tryz.ntmps100
  have ya := ext_alloc w (.cells #[.int .u8 0, .int .i64 0, .slice none 0 0, .slice none 0 0, .slice none 0 0] 40)
  have hba := heap_alloc_new w (.cells #[.int .u8 0, .int .i64 0, .slice none 0 0, .slice none 0 0, .slice none 0 0] 40)
  have H1 := Lib.hid (HH.out.ext ya)
  go_wp2_with (go_at_call 97; refine Hid.out ?_)
  refine Lib.hid ?_
  refine (rdrOver_any b _ a w0 _ H1.out (Y.trans (ya.mono Y.size))).mono ?_
  rw [hdec]
  rintro e w1 ⟨rfl, d, rfl⟩
  have yb := ext_trans ya (ext_drew _ d)
  have hbb : ((w.alloc (.cells #[.int .u8 0, .int .i64 0, .slice none 0 0, .slice none 0 0, .slice none 0 0] 40)).drewN d).heap[w.heap.size]? = _ := hba
  generalize (w.alloc (.cells #[.int .u8 0, .int .i64 0, .slice none 0 0, .slice none 0 0, .slice none 0 0] 40)).drewN d = w2 at *
  have HBB := Lib.hid hbb
  have YB := Lib.hid yb
  obtain ⟨z0, z1, z2, z3, z4⟩ := op_cells (hc1.out.keep (w' := w2) fun q hq => YB.out.cell (by rw [hq]; exact had))
  have hbx : w2.heap[b]? = _ := (YB.out.block b (lt_of_some HB.out)).trans HB.out
  have HBX := Lib.hid hbx
  have c0 : w2.cell? ⟨b, 0, none⟩ = some (.slice (some ad) nx c) := by simp [World.cell?, hbx]
  clear ya yb hba hbb hbx
  have H2 := Lib.hid (HH.out.ext YB.out)
  have yx := ext_alloc w2 (.cells #[.int .u8 k, .int .i64 nn, .slice Ar r.length cr, .slice As s.length cs, .slice Ap p.length cp] 40)
  have hbo := heap_alloc_new w2 (.cells #[.int .u8 k, .int .i64 nn, .slice Ar r.length cr, .slice As s.length cs, .slice Ap p.length cp] 40)
  have Y3 := Lib.hid (ext_trans YB.out yx)
  have HBO := Lib.hid hbo
  clear yx hbo
  go_wp2_with (go_at_call 172; refine Hid.out ?_)
  refine Lib.hid ?_
  refine (rdrLeft_any b _ t a w0 _ (HH.out.ext Y3.out) (Y.trans (Y3.out.mono Y.size))).mono ?_
  obtain ⟨L, hL⟩ : ∃ L, lenO (⟨k, nn, r, s, p⟩ : Opd) = L := ⟨_, rfl⟩
  have HLO := Lib.hid hL
  rw [hL] at LO ⊢
  clear hL
  rintro e w4 ⟨rfl, d4, rfl⟩
  obtain ⟨q, hq⟩ : ∃ q, min n (L - a) = q := ⟨_, rfl⟩
  have hmin : min (n : Int) ((L - a : Nat) : Int) = (q : Int) := by omega
  have HQ : Hid (1 ≤ q ∧ a + q ≤ L ∧ q = min n (L - a)) := Lib.hid (by have := LO.out; omega)
  clear hq
  have Y4 := Lib.hid (ext_trans Y3.out (ext_drew _ d4))
  have hbo2 : ((w2.alloc (.cells #[.int .u8 k, .int .i64 nn, .slice Ar r.length cr, .slice As s.length cs, .slice Ap p.length cp] 40)).drewN d4).heap[w2.heap.size]? = _ := HBO.out
  have hba2 : ((w2.alloc (.cells #[.int .u8 k, .int .i64 nn, .slice Ar r.length cr, .slice As s.length cs, .slice Ap p.length cp] 40)).drewN d4).heap[w.heap.size]? = _ := ((ext_trans (ext_alloc w2 _) (ext_drew _ d4)).block w.heap.size (lt_of_some HBB.out)).trans HBB.out
  have hbr2 : ((w2.alloc (.cells #[.int .u8 k, .int .i64 nn, .slice Ar r.length cr, .slice As s.length cs, .slice Ap p.length cp] 40)).drewN d4).heap[b]? = _ := ((ext_trans (ext_alloc w2 _) (ext_drew _ d4)).block b (lt_of_some HBX.out)).trans HBX.out
  have NE : Hid (w.heap.size ≠ w2.heap.size ∧ b ≠ w2.heap.size ∧ b ≠ w.heap.size ∧ w.heap.size < w2.heap.size ∧ b < w.heap.size) := Lib.hid (by have h1 := lt_of_some HBB.out; have h2 := lt_of_some HBX.out; have h3 := lt_of_some HB.out; omega)
  obtain ⟨bo, hbo⟩ : ∃ X, w2.heap.size = X := ⟨_, rfl⟩
  obtain ⟨ba, hba⟩ : ∃ X, w.heap.size = X := ⟨_, rfl⟩
  rw [hbo] at hbo2 NE
  rw [hba] at hba2 NE
  rw [hba, hbo]
  generalize (w2.alloc (.cells #[.int .u8 k, .int .i64 nn, .slice Ar r.length cr, .slice As s.length cs, .slice Ap p.length cp] 40)).drewN d4 = w5 at *
  have HO2 := Lib.hid hbo2
  have HA2 := Lib.hid hba2
  have HR2 := Lib.hid hbr2
  obtain ⟨t0, t1, t2, t3, t4⟩ := box_at hbo2
  have r0 : w5.cell? ⟨b, 0, none⟩ = some (.slice (some ad) nx c) := by simp [World.cell?, hbr2]
  have r1 : w5.cell? ⟨b, 1, none⟩ = some (.int .i64 (a : Int)) := by simp [World.cell?, hbr2]
  have fz2 := box_thaw hbo2 1
  have fzr := box_thaw hbr2 1
  obtain ⟨en, hen⟩ : ∃ X, a + q = X := ⟨_, rfl⟩
  have HEN := Lib.hid hen
  have hae : (a : Int) + (q : Int) = (en : Int) := by rw [← hen]; exact (Int.natCast_add a q).symm
  have hbe : -9223372036854775808 ≤ (en : Int) ∧ (en : Int) ≤ 9223372036854775807 := by have h1 := LO.out.1; have h2 := HQ.out.2.1; omega
  have hsum : wrap64 ((a : Int) + (q : Int)) = (en : Int) := by rw [hae]; exact w64_in _ hbe
  have hsum2 : IntKind.i64.wrap ((a : Int) + (q : Int)) = (en : Int) := by rw [hae]; exact IntWalk.i64_in _ hbe
  have HAE := Lib.hid hae
  clear hbe hae
  clear hen
  clear hbo2 hba2 hbr2
  have HO3 := HO2
  have HA3 := HA2
  have HR3 := HR2
  have Y5' := Y4
  have hb8 : (w5.setCell ⟨bo, 1, none⟩ (.int .i64 (q : Int))).heap[b]? = some (.cells #[.slice (some ad) nx c, .int .i64 (a : Int)] 138 (0, 0)) := (Below.heap_setCell _ ⟨bo, 1, none⟩ _ b NE.out.2.1).trans HR3.out
  have r8 : (w5.setCell ⟨bo, 1, none⟩ (.int .i64 (q : Int))).cell? ⟨b, 1, none⟩ = some (.int .i64 (a : Int)) := by
    unfold World.cell?
    rw [hb8]; rfl
  have fz8 := box_thaw hb8 1
  clear hb8
  -- behind both stores
  have ho7 : ((w5.setCell ⟨bo, 1, none⟩ (.int .i64 (q : Int))).setCell ⟨b, 1, none⟩ (.int .i64 (en : Int))).heap[bo]? = some (.cells #[.int .u8 k, .int .i64 (q : Int), .slice Ar r.length cr, .slice As s.length cs, .slice Ap p.length cp] 40 (0, 0)) := by
    rw [Below.heap_setCell _ ⟨b, 1, none⟩ _ bo (fun e => NE.out.2.1 e.symm)]
    simpa using heap_setCell_self (j := 1) HO3.out (.int .i64 (q : Int))
  have ha7 : ((w5.setCell ⟨bo, 1, none⟩ (.int .i64 (q : Int))).setCell ⟨b, 1, none⟩ (.int .i64 (en : Int))).heap[ba]? = some (.cells #[.int .u8 0, .int .i64 0, .slice none 0 0, .slice none 0 0, .slice none 0 0] 40 (0, 0)) := by
    rw [Below.heap_setCell _ ⟨b, 1, none⟩ _ ba (fun e => NE.out.2.2.1 e.symm), Below.heap_setCell _ ⟨bo, 1, none⟩ _ ba NE.out.1]
    exact HA3.out
  have hr7 : ((w5.setCell ⟨bo, 1, none⟩ (.int .i64 (q : Int))).setCell ⟨b, 1, none⟩ (.int .i64 (en : Int))).heap[b]? = some (.cells #[.slice (some ad) nx c, .int .i64 (en : Int)] 138 (0, 0)) := by
    have h1 : (w5.setCell ⟨bo, 1, none⟩ (.int .i64 (q : Int))).heap[b]? = some (.cells #[.slice (some ad) nx c, .int .i64 (a : Int)] 138 (0, 0)) := (Below.heap_setCell _ ⟨bo, 1, none⟩ _ b NE.out.2.1).trans HR3.out
    simpa using heap_setCell_self (j := 1) h1 (.int .i64 (en : Int))
  have g7 : Hid (Grow w (fun k => k = b) ((w5.setCell ⟨bo, 1, none⟩ (.int .i64 (q : Int))).setCell ⟨b, 1, none⟩ (.int .i64 (en : Int))) (fun k => k = b)) := Lib.hid
    ((Grow.of (Y5'.out.setCell (p := ⟨bo, 1, none⟩) (by have := NE.out; simp only; omega) _)).trans (setCell_below (F := fun k => k = b) b 1 _ rfl 0))
  have HO7 := Lib.hid ho7
  have HA7 := Lib.hid ha7
  have HR7 := Lib.hid hr7
  clear ho7 ha7 hr7
  go_wp2_with (go_at_call 172; refine Hid.out ?_)
  refine Lib.hid ?_
  have Y7 := Lib.hid (Y.trans (g7.out.below (fun k hk => by omega) Y.size))
  refine (left_any b (some ad) nx c _ t en w0 _ HR7.out HX.out OP.out (by rw [HLO.out]; exact LO.out.1) (by rw [HLO.out, ← HEN.out]; exact HQ.out.2.1) Y7.out).mono ?_
  rw [HLO.out]
  rintro e w8' ⟨rfl, d8, rfl⟩
  have HO8 : Hid ((((w5.setCell ⟨bo, 1, none⟩ (.int .i64 (q : Int))).setCell ⟨b, 1, none⟩ (.int .i64 (en : Int))).drewN d8).heap[bo]? = _) := Lib.hid HO7.out
  have HA8 : Hid ((((w5.setCell ⟨bo, 1, none⟩ (.int .i64 (q : Int))).setCell ⟨b, 1, none⟩ (.int .i64 (en : Int))).drewN d8).heap[ba]? = _) := Lib.hid HA7.out
  have HR8 : Hid ((((w5.setCell ⟨bo, 1, none⟩ (.int .i64 (q : Int))).setCell ⟨b, 1, none⟩ (.int .i64 (en : Int))).drewN d8).heap[b]? = _) := Lib.hid HR7.out
  have G8 := Lib.hid (g7.out.trans (Grow.of (ext_drew _ d8)))
  clear t0 t1 t2 t3 t4 r0 r1 fz2 fzr HO7 HA7 HR7 g7 Y7
  generalize ((w5.setCell ⟨bo, 1, none⟩ (.int .i64 (q : Int))).setCell ⟨b, 1, none⟩ (.int .i64 (en : Int))).drewN d8 = w8 at *
  have RES : Hid (tookV ((⟨⟨k, nn, r, s, p⟩, Ar, cr, As, cs, Ap, cp⟩ : OpS) :: t) a n ⟨k, (q : Int), r, s, p⟩ (if en = L then t else (⟨⟨k, nn, r, s, p⟩, Ar, cr, As, cs, Ap, cp⟩ : OpS) :: t) (if en = L then 0 else en)) := Lib.hid (by
    have e1 := HLO.out
    have e2 := HQ.out
    have e3 := HEN.out
    refine ⟨?_, ?_⟩
    · show _ = cutO (⟨k, nn, r, s, p⟩ : Opd) a (min n (lenO (⟨k, nn, r, s, p⟩ : Opd) - a))
      rw [e1, ← e2.2.2]
      unfold cutO
      rw [if_neg HK.out]
    · show (a + min n (lenO (⟨k, nn, r, s, p⟩ : Opd) - a) = lenO (⟨k, nn, r, s, p⟩ : Opd) ∧ _) ∨ (a + min n (lenO (⟨k, nn, r, s, p⟩ : Opd) - a) < lenO (⟨k, nn, r, s, p⟩ : Opd) ∧ _)
      rw [e1, ← e2.2.2, e3]
      by_cases hz : en = L
      · rw [if_pos hz, if_pos hz]; exact .inl ⟨hz, rfl, rfl⟩
      · rw [if_neg hz, if_neg hz]; exact .inr ⟨by omega, rfl, rfl⟩)
  have OIN : Hid (OpIn w0 ⟨⟨k, (q : Int), r, s, p⟩, Ar, cr, As, cs, Ap, cp⟩ ∧ capO ⟨⟨k, (q : Int), r, s, p⟩, Ar, cr, As, cs, Ap, cp⟩ ∧ okOp (⟨k, (q : Int), r, s, p⟩ : Opd)) := Lib.hid (by
    obtain ⟨o1, o2, o3, o4, o5⟩ := KX.out
    simp only at o1 o2 o3 o4 o5
    exact ⟨⟨RX.out.1, RX.out.2.1, RX.out.2.2, by simp only; omega, by simp only; omega, by simp only; omega⟩, CX.out, ⟨o1, o2, o3, o4, o5⟩⟩)
  by_cases hz : en = L
  · have hz0 : (((L - en : Nat) : Int) == 0) = true := by rw [hz, Nat.sub_self]; rfl
    obtain ⟨A10, hA10⟩ : ∃ X, advS (some ad) c 1 5 = X := ⟨_, rfl⟩
    obtain ⟨c10, hc10⟩ : ∃ X, c - 1 = X := ⟨_, rfl⟩
    obtain ⟨n10, hn10⟩ : ∃ X, nx - 1 = X := ⟨_, rfl⟩
    have sl2 : ∀ W, (Instr.slice 23 (.slice (some ad) nx c) (some (.int .i64 1)) none none).run Tryz.prog W = .ok (.slice A10 n10 c10) W := sl_from (k := 1) Tryz.slOp0 Tryz.elOpD size_opD rfl hA10 hn10 hc10 hnx HX.out.cap
    have HX10 : Hid (OpsC w0 A10 n10 c10 t) := Lib.hid (by
      have h1 := HX.out
      have hl := h1.at_.len
      simp only [List.length_cons] at hl
      have h2 := h1.at_.rd.1.advS (k := 1) (by simp) (by simp only [List.length_cons]; have := h1.cap; omega : _ ≤ c)
      rw [hA10] at h2
      exact ⟨⟨⟨h2, fun z hz => h1.at_.rd.2 z (List.mem_cons_of_mem _ hz)⟩, by omega, fun z hz => h1.at_.ok z (List.mem_cons_of_mem _ hz), by have := h1.at_.b; omega⟩, by have := h1.cap; omega, by have := h1.cm; omega, fun z hz => h1.caps z (List.mem_cons_of_mem _ hz)⟩)
    have r0 : w8.cell? ⟨b, 0, none⟩ = some (.slice (some ad) nx c) := by simp [World.cell?, HR8.out]
    have r1 : w8.cell? ⟨b, 1, none⟩ = some (.int .i64 (en : Int)) := by simp [World.cell?, HR8.out]
    have fzb0 := box_thaw HR8.out 0
    have fzb1 := box_thaw HR8.out 1
    have ho9 : ((w8.setCell ⟨b, 0, none⟩ (.slice A10 n10 c10)).setCell ⟨b, 1, none⟩ (.int .i64 0)).heap[bo]? = _ := ((Below.heap_setCell _ ⟨b, 1, none⟩ _ bo (fun e => NE.out.2.1 e.symm)).trans (Below.heap_setCell _ ⟨b, 0, none⟩ _ bo (fun e => NE.out.2.1 e.symm))).trans HO8.out
    have ha9 : ((w8.setCell ⟨b, 0, none⟩ (.slice A10 n10 c10)).setCell ⟨b, 1, none⟩ (.int .i64 0)).heap[ba]? = _ := ((Below.heap_setCell _ ⟨b, 1, none⟩ _ ba (fun e => NE.out.2.2.1 e.symm)).trans (Below.heap_setCell _ ⟨b, 0, none⟩ _ ba (fun e => NE.out.2.2.1 e.symm))).trans HA8.out
    have hr9 : ((w8.setCell ⟨b, 0, none⟩ (.slice A10 n10 c10)).setCell ⟨b, 1, none⟩ (.int .i64 0)).heap[b]? = some (.cells #[.slice A10 n10 c10, .int .i64 0] 138 (0, 0)) := by
      have h1 := heap_setCell_self (j := 0) HR8.out (.slice A10 n10 c10)
      simpa using heap_setCell_self (j := 1) h1 (.int .i64 0)
    have G9 := Lib.hid (G8.out.trans ((setCell_below (w := w8) (F := fun k => k = b) b 0 (.slice A10 n10 c10) rfl 0).trans (setCell_below (w := w8.setCell ⟨b, 0, none⟩ (.slice A10 n10 c10)) (F := fun k => k = b) b 1 (.int .i64 0) rfl 0)))
    have HO9 := Lib.hid ho9
    have HA9 := Lib.hid ha9
    have HR9 := Lib.hid hr9
    clear ho9 ha9 hr9
    obtain ⟨u0, u1, u2, u3, u4⟩ := box_at HO9.out
    obtain ⟨v0, v1, v2, v3, v4⟩ := box_at HA9.out
    have f0 := box_thaw HA9.out 0
    have f1 := box_thaw HA9.out 1
    have f2 := box_thaw HA9.out 2
    have f3 := box_thaw HA9.out 3
    have f4 := box_thaw HA9.out 4
    go_wp2_with (fail)
    refine bodyPost_ret (results_cell_row (P := Tryz.prog) rfl _ _ ba 40 #[.int .u8 k, .int .i64 (q : Int), .slice Ar r.length cr, .slice As s.length cs, .slice Ap p.length cp] (0, 0) _ rfl (set5 HA9.out _ _ _ _ _) Tryz.unOp rfl Tryz.szOp9) rfl ?_
    have hres := RES.out
    rw [if_pos hz, if_pos hz] at hres
    have y10 := below_set5 (Below.refl ba ((w8.setCell ⟨b, 0, none⟩ (.slice A10 n10 c10)).setCell ⟨b, 1, none⟩ (.int .i64 0))) (Nat.le_refl ba) (.int .u8 k) (.int .i64 (q : Int)) (.slice Ar r.length cr) (.slice As s.length cs) (.slice Ap p.length cp)
    refine ⟨⟨⟨k, (q : Int), r, s, p⟩, Ar, cr, As, cs, Ap, cp⟩, t, 0, rfl, hres, OIN.out.1, OIN.out.2.1, OIN.out.2.2, ?_, G9.out.aside y10 (by omega)⟩
    exact ⟨A10, n10, c10, (y10.block b NE.out.2.2.2.2).trans HR9.out, HX10.out, fun z hz => HH.out.ops z (List.mem_cons_of_mem _ hz), fun _ => rfl, fun z s' e => by have := (lenO_of (HH.out.ops z (by rw [e]; simp)).1).1; omega⟩
  · have hz0 : (((L - en : Nat) : Int) == 0) = false := beq_eq_false_iff_ne.2 (by have := HEN.out; have := HQ.out; omega)
    have HO9 := HO8
    have HA9 := HA8
    obtain ⟨u0, u1, u2, u3, u4⟩ := box_at HO9.out
    obtain ⟨v0, v1, v2, v3, v4⟩ := box_at HA9.out
    have f0 := box_thaw HA9.out 0
    have f1 := box_thaw HA9.out 1
    have f2 := box_thaw HA9.out 2
    have f3 := box_thaw HA9.out 3
    have f4 := box_thaw HA9.out 4
    go_wp2_with (fail)
    refine bodyPost_ret (results_cell_row (P := Tryz.prog) rfl _ _ ba 40 #[.int .u8 k, .int .i64 (q : Int), .slice Ar r.length cr, .slice As s.length cs, .slice Ap p.length cp] (0, 0) _ rfl (set5 HA9.out _ _ _ _ _) Tryz.unOp rfl Tryz.szOp9) rfl ?_
    have hres := RES.out
    rw [if_neg hz, if_neg hz] at hres
    have y10 := below_set5 (Below.refl ba w8) (Nat.le_refl ba) (.int .u8 k) (.int .i64 (q : Int)) (.slice Ar r.length cr) (.slice As s.length cs) (.slice Ap p.length cp)
    refine ⟨⟨⟨k, (q : Int), r, s, p⟩, Ar, cr, As, cs, Ap, cp⟩, _, en, rfl, hres, OIN.out.1, OIN.out.2.1, OIN.out.2.2, ?_, G8.out.aside y10 (by omega)⟩
    refine ⟨some ad, nx, c, (y10.block b NE.out.2.2.2.2).trans HR8.out, HX.out, HH.out.ops, (fun e => by cases e), fun z s' e => ?_⟩
    injection e with e1 e2
    rw [← e1]
    show en < lenO (⟨k, nn, r, s, p⟩ : Opd)
    rw [HLO.out]
    have := HEN.out
    have := HQ.out
    omega
/-- take, whatever comes first -/
theorem rdrTake_any (b n : Nat) (X : List OpS) (a : Nat) (w0 w : World) (h : Rdr w0 w b X a) (Y : Below w0.heap.size w0 w) (hn : n ≤ 536870912) (hn1 : 1 ≤ n) (hb0 : w0.heap.size ≤ b) :
    Calls Tryz.prog 100 #[.pointer (some ⟨b, 0, none⟩), .int .i64 (n : Int)] w (Took b X a n w0 w) := by
  cases X with
  | nil =>
    have ha : a = 0 := by obtain ⟨A, m, c, _, _, _, h1, _⟩ := h; exact h1 rfl
    subst ha
    exact rdrTake0_any b n w0 w h Y hn
  | cons o t =>
    by_cases hk : o.o.k = 2
    · exact rdrTakeI_any b n o t a w0 w h Y hn hn1 hk hb0
    · exact rdrTakeN_any b n o t a w0 w h Y hn hn1 hk hb0
end Go.Proofs.YtbdkbfoplpociaaGreatDoor
namespace Go.Proofs.YtbdkbfoplpociaaGreatDoor
open Go.RowKit
set_option linter.unusedVariables false
set_option linter.unusedSimpArgs false

set_option maxRecDepth 100000 in
set_option maxHeartbeats 400000 in
theorem compose_any (A1 A2 : Option Addr) (n1 n2 c1 c2 : Nat) (l k : List Ch) (w : World)
    (hn1 : n1 = l.length) (hn2 : n2 = k.length) (h1 : RdCh w w.heap.size A1 l) (h2 : RdCh w w.heap.size A2 k)
    (hb1 : n1 ≤ 100000000) (hb2 : n2 ≤ 100000000) (hc1 : n1 ≤ c1) (hcm : c1 ≤ maxLen) :
    Calls Tryz.prog 173 #[.slice A1 n1 c1, .slice A2 n2 c2] w (NewCh (composeP l k) w) := by
  unfold maxLen at hcm
  have N1 := Lib.hid hn1
  have N2 := Lib.hid hn2
  generalize hR : composeP l k = R
  have HR := Lib.hid hR
  clear hn1 hn2 hR
  go_enter Tryz.func173, Tryz.ntmps173
  go_wp2_with (fail)
  go_loopg [5, 6, 11] n2 (fun g ov iv kv wr => ∃ (q i : Nat) (o : List Ch), q ≤ n2 ∧ i ≤ n1 ∧ g = n2 - q ∧ iv = .int .i64 i ∧ kv = .int .i64 q ∧ OwCh wr w.heap.size ov o ∧ o.length ≤ i + q ∧
    Below w.heap.size w wr ∧ Hid (o ++ composeP (l.drop i) (k.drop q) = R))
  case atStart => exact ⟨0, 0, [], by omega, by omega, rfl, rfl, rfl, Ow.nil _ _, by simp, Below.refl _ _, Lib.hid (by simpa using HR.out)⟩
  case round =>
    obtain ⟨q, i, o, hk, hi, hg, rfl, rfl, hown, hol, hbw, HI⟩ := hrel
    have HG := Lib.hid hg
    clear hg HR
    by_cases hlt : q < n2
    · have hkp : q < k.length := by have := N2.out; omega
      obtain ⟨ad2, c, rfl, _, hd2, _, hc2⟩ := (h2.below hbw (Nat.le_refl _)).el hkp
      have HI' : Hid (o ++ composeAt (l.drop i) c (k.drop (q+1)) = R) := Lib.hid (by rw [← HI.out, hd2, composeP_cons])
      clear HI hkp hd2
      obtain ⟨ck, cg, va, vn, vf, vs⟩ := c
      obtain ⟨q0, q1, q2, q3, q4, q5⟩ := ch_cells hc2
      clear hc2
      go_wp2_with (fail)
      obtain ⟨wo, rfl⟩ : ∃ wo : World, wo = wr := ⟨_, rfl⟩
      go_loopg [5, 6] (n1 - i) (fun g ov iv wi => ∃ (i : Nat) (o : List Ch), i ≤ n1 ∧ g = n1 - i ∧ iv = .int .i64 i ∧ OwCh wi w.heap.size ov o ∧ o.length ≤ i + q ∧
        Below w.heap.size w wi ∧ wi.heap[wo.heap.size]? = some (.cells #[.int .i64 ck, .bool cg, .int .u8 va, .int .i64 vn, .int .u64 vf, .string vs] 45 (0, 0)) ∧ wb ov ≠ some wo.heap.size ∧
        Hid (o ++ composeAt (l.drop i) ⟨ck, cg, ⟨va, vn, vf, vs⟩⟩ (k.drop (q+1)) = R))
      case atStart =>
        refine ⟨i, o, hi, rfl, rfl, hown.alloc _, hol, hbw.alloc hbw.size _, heap_alloc_new _ _, fun e => ?_, HI'⟩
        have := (hown.wb_lt _ e).2; omega
      case round =>
        clear q0 q1 q2 q3 q4 q5 hi hown hol hbw HI'
        obtain ⟨i, o, hi, hg, rfl, hown, hol, hbw, hbx, hwb, HI⟩ := hrel
        have HG2 := Lib.hid hg
        clear hg
        obtain ⟨b0, b1, b2, b3, b4, b5⟩ := box_ch hbx
        have HBX := Lib.hid hbx
        have HWB := Lib.hid hwb
        clear hbx hwb
        by_cases hil : i < n1
        · have hip : i < l.length := by have := N1.out; omega
          obtain ⟨ad1, a, rfl, _, hd1, _, hc1⟩ := (h1.below hbw (Nat.le_refl _)).el hip
          obtain ⟨ek, eg, ea, en, ef, es⟩ := a
          obtain ⟨r0, r1, r2, r3, r4, r5⟩ := ch_cells hc1
          have hil' : decide ((i : Int) < n1) = true := by simp; omega
          have HD1 := Lib.hid hd1
          clear hd1
          by_cases hle : ek ≤ ck
          · by_cases hak : ek < ck
            · go_wp2_with (first
                | go_quiet (fail)
                | (at_builtin; refine app_ch (m := [⟨ek, eg, ⟨ea, en, ef, es⟩⟩]) rfl (.tmp 39) (.tmp 44) rfl rfl (by first | exact (hown.drewN _).alloc _ | exact hown.alloc _) _ _ 1 1 rfl rfl (by first | exact rd_one (enc := Ch.enc) _ _ _ rfl | exact rd_one_at (enc := Ch.enc) _ _ _ rfl (size_alloc' _ _)) (by simp only [List.length_singleton]; omega) (Nat.le_trans hbw.size (le_alloc _ _)) ?_; intro v' w' hown' hgr hv'))
              obtain ⟨s1, s2, s3⟩ := app_step hown hbw (Nat.le_refl _) hgr hv'
              go_roundg (n1 - (i + 1))
              case measure => have := HG2.out; omega
              case rel =>
                exact ⟨i + 1, _, by omega, rfl, by go_num, hown', by simp; omega, s1, s2 _ _ HBX.out HWB.out, s3 _ (blk_lt HBX.out) HWB.out,
                  Lib.hid (by rw [← HI.out, HD1.out, composeAt_less _ _ _ _ hak, List.append_assoc]; rfl)⟩
            · go_wp2_with (go_quiet (fail))
              go_roundg (n1 - (i + 1))
              case measure => have := HG2.out; omega
              case rel =>
                exact ⟨i + 1, o, by omega, rfl, by go_num, hown, by omega, below_drewN hbw _, HBX.out, HWB.out,
                  Lib.hid (by rw [← HI.out, HD1.out, composeAt_eq _ _ _ _ (by show ek = ck; omega)])⟩
          · go_wp2_with (first
              | go_quiet (fail)
              | (at_builtin; refine app_ch (m := [⟨ck, cg, ⟨va, vn, vf, vs⟩⟩]) rfl (.tmp 46) (.tmp 48) rfl rfl (by first | exact (hown.drewN _).alloc _ | exact hown.alloc _) _ _ 1 1 rfl rfl (by first | exact rd_one (enc := Ch.enc) _ _ _ rfl | exact rd_one_at (enc := Ch.enc) _ _ _ rfl (size_alloc' _ _)) (by simp only [List.length_singleton]; omega) (Nat.le_trans hbw.size (le_alloc _ _)) ?_; intro v' w' hown' hgr hv'))
            obtain ⟨s1, s2, s3⟩ := app_step hown hbw (Nat.le_refl _) hgr hv'
            go_roundg (n2 - (q + 1))
            case measure => have := HG.out; omega
            case rel =>
              exact ⟨q + 1, i, _, by omega, by omega, rfl, rfl, by go_num, hown', by simp; omega, s1,
                Lib.hid (by rw [← HI.out, HD1.out, composeAt_more _ _ _ _ (by show ck < ek; omega), List.append_assoc]; rfl)⟩
        · have hd1 : l.drop i = [] := List.drop_eq_nil_of_le (by have := N1.out; omega)
          have HD1 := Lib.hid hd1
          have hil' : decide ((i : Int) < n1) = false := by simp; omega
          clear hd1
          go_wp2_with (first
            | go_quiet (fail)
            | (at_builtin; refine app_ch (m := [⟨ck, cg, ⟨va, vn, vf, vs⟩⟩]) rfl (.tmp 46) (.tmp 48) rfl rfl (by first | exact (hown.drewN _).alloc _ | exact hown.alloc _) _ _ 1 1 rfl rfl (by first | exact rd_one (enc := Ch.enc) _ _ _ rfl | exact rd_one_at (enc := Ch.enc) _ _ _ rfl (size_alloc' _ _)) (by simp only [List.length_singleton]; omega) (Nat.le_trans hbw.size (le_alloc _ _)) ?_; intro v' w' hown' hgr hv'))
          obtain ⟨s1, s2, s3⟩ := app_step hown hbw (Nat.le_refl _) hgr hv'
          go_roundg (n2 - (q + 1))
          case measure => have := HG.out; omega
          case rel =>
            exact ⟨q + 1, i, _, by omega, by omega, rfl, rfl, by go_num, hown', by simp; omega, s1,
              Lib.hid (by rw [← HI.out, HD1.out, composeAt_nil, List.append_assoc]; rfl)⟩
    · have hdp : k.drop q = [] := List.drop_eq_nil_of_le (by have := N2.out; omega)
      have HDP := Lib.hid hdp
      clear hdp
      go_wp2_with (first
        | (at_builtin; refine app_ch (m := l.drop i) rfl (.tmp 51) (.tmp 54) rfl rfl (by exact hown) _ _ _ _ rfl (by rw [List.length_drop, ← N1.out]) (by have hx := (h1.below hbw (Nat.le_refl _)).cut (k := i) (cap := c1) (by have := N1.out; omega) (by have := N1.out; omega); exact hx) (by have := N1.out; rw [List.length_drop]; omega) (by exact hbw.size) ?_; intro v' w' hown' hgr hv'))
      all_goals
        have e : o ++ l.drop i = R := by have := HI.out; rw [HDP.out, composeP_nil] at this; exact this
        rw [e] at hown'
        obtain ⟨A', c', rfl, _, _⟩ := hown'.form
        go_ret
        exact ⟨A', c', rfl, hown', below_app hbw hbw.size hown (Nat.le_refl _) hgr⟩
end Go.Proofs.YtbdkbfoplpociaaGreatDoor
namespace Go.Proofs.YtbdkbfoplpociaaGreatDoor
set_option linter.unusedVariables false
set_option linter.unusedSimpArgs false

/-- runes with a set, told one by one with a patch on them -/
def insM (l : List Ky) (s : List At) (p : List Ch) (m : Mk) (r : List Int) : Mk := r.foldl (fun m x => mkInsert m [x] (actC l ⟨x, s⟩ p).s) m
theorem insM_snoc (l : List Ky) (s : List At) (p : List Ch) (m : Mk) (r : List Int) (x : Int) : insM l s p m (r ++ [x]) = mkInsert (insM l s p m r) [x] (actC l ⟨x, s⟩ p).s := by unfold insM; rw [List.foldl_append]; rfl
theorem insM_told {l : List Ky} {s : List At} {p : List Ch} : ∀ (r : List Int) {m : Mk} {us : List Un}, Told m us → Told (insM l s p m r) (us ++ r.map (fun x => Un.ins x (actC l ⟨x, s⟩ p).s))
  | [], m, us, h => by simpa [insM] using h
  | x :: r, m, us, h => by
    have h1 := h.insert [x] (actC l ⟨x, s⟩ p).s
    have h2 := insM_told (l := l) (s := s) (p := p) r h1
    have e : us ++ List.map (fun r => Un.ins r (actC l ⟨x, s⟩ p).s) [x] ++ r.map (fun x => Un.ins x (actC l ⟨x, s⟩ p).s) = us ++ (x :: r).map (fun x => Un.ins x (actC l ⟨x, s⟩ p).s) := by simp
    rw [e] at h2
    exact h2
theorem insM_B {l : List Ky} {s : List At} {p : List Ch} {S : Nat} : ∀ (r : List Int) {m : Mk} {K : Nat}, MkB m K S → (∀ x ∈ r, (actC l ⟨x, s⟩ p).s.length ≤ S) → MkB (insM l s p m r) (K + r.length) S
  | [], m, K, h, _ => h
  | x :: r, m, K, h, hs => by
    have h1 := h.insert [x] (hs x (by simp))
    have h2 := insM_B (l := l) (s := s) (p := p) r h1 (fun y hy => hs y (List.mem_cons_of_mem _ hy))
    exact h2.mono (by simp; omega) (Nat.le_refl _)
/-- what both does -/
def bothM (l : List Ky) (m : Mk) (u o : Opd) : Mk :=
  if u.k = 1 then (if o.k = 1 then mkRetain m o.n (composeP u.p o.p) else mkDelete m o.n) else if o.k = 1 then insM l u.s o.p m u.r else m

end Go.Proofs.YtbdkbfoplpociaaGreatDoor
