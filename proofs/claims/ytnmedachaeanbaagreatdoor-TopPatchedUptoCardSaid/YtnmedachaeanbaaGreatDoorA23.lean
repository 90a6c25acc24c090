/- Merged texts. -/
import Derived.Test.YtnmedachaeanbaaGreatDoorA22
namespace Go.Proofs.YtnmedachaeanbaaGreatDoor
set_option maxRecDepth 100000
set_option maxHeartbeats 3200000
open Go.RowKit
open Go.Lib (hid)
set_option linter.unusedVariables false
set_option linter.unusedSimpArgs false
theorem RdX.open_ {w : World} {G : Nat → Prop} {b : Nat} {x : OpS} {t : List OpS} (h : RdX w G b (x :: t)) :
 ∃ ad n c, w.heap[b]? = some (.cells #[.slice (some ad) n c] 182 (0, 0)) ∧ n = t.length + 1 ∧ n ≤ c ∧ c ≤ maxLen ∧ RdOs w w.heap.size (some ad) (x :: t) ∧ OffF G (some ad) (x :: t).length ∧ ad.block < w.heap.size ∧ CellsAt w ad x.enc := by
 obtain ⟨A, n, c, h1, h2, h3, h4, h5, h6⟩ := h.box
 obtain ⟨ad, e, hb, hc⟩ := h5.at_ (i := 0) (by simp)
 subst e
 rw [Nat.zero_mul, Z0o] at hc
 exact ⟨ad, n, c, h1, by simpa using h2, h3, h4, h5, h6, hb, hc⟩
theorem Z2T (b : Nat) (X : List OpS) (w : World) (G : Nat → Prop) (h : RdX w G b X) :
 Calls Tryz.prog 129 #[.pointer (some ⟨b, 0, none⟩)] w fun e w' => e = .returned (.bool (decide (X = []))) ∧ ∃ d, w' = w.drewN d := by
 obtain ⟨A, n, c, hb, hn, _⟩ := h.box
 have hd : ((n : Int) == 0) = decide (X = []) := by
  cases X with
  | nil => simp at hn; subst hn; rfl
  | cons o t => simp at hn; subst hn; simp; omega
 obtain ⟨R, hR⟩ : ∃ R, decide (X = []) = R := ⟨_, rfl⟩
 rw [hR] at hd ⊢
 have c0 : w.cell? ⟨b, 0, none⟩ = some (.slice A n c) := by simp [World.cell?, hb]
 clear h hb hR hn
 go_enter Tryz.func129, Tryz.ntmps129
 go_wp2_with (fail)
 go_ret
 exact ⟨rfl, 0, rfl⟩
theorem Z4o (b : Nat) (X : List OpS) (w : World) (G : Nat → Prop) (h : RdX w G b X) :
 Calls Tryz.prog 130 #[.pointer (some ⟨b, 0, none⟩)] w fun e w' => e = .returned (.int .u8 (Z9v X)) ∧ ∃ d, w' = w.drewN d := by
 have HC := hid (Z2T b X w G h)
 cases X with
 | nil =>
   clear h
   go_enter Tryz.func130, Tryz.ntmps130
   go_wp2_with (go_at_call 129; refine Hid.out ?_)
   refine hid ?_
   refine HC.out.mono ?_
   rintro e w1 ⟨rfl, d, rfl⟩
   go_wp2_with (fail)
   go_ret
   exact ⟨rfl, _, rfl⟩
 | cons x t =>
   obtain ⟨ad, n, c, hb, hn, _, _, _, _, had, hc1⟩ := h.open_
   have c0 : w.cell? ⟨b, 0, none⟩ = some (.slice (some ad) n c) := by simp [World.cell?, hb]
   obtain ⟨⟨k, nn, r, s, p⟩, Ar, cr, As, cs, Ap, cp⟩ := x
   obtain ⟨z0, z1, z2, z3, z4⟩ := Z0x hc1
   have hk : Z9v (⟨⟨k, nn, r, s, p⟩, Ar, cr, As, cs, Ap, cp⟩ :: t) = k := rfl
   rw [hk]
   have hn1 : 1 ≤ n := by omega
   have hdec : decide ((⟨⟨k, nn, r, s, p⟩, Ar, cr, As, cs, Ap, cp⟩ :: t : List OpS) = []) = false := rfl
   rw [hdec] at HC
   clear h hb hc1 hk hdec hn
   go_enter Tryz.func130, Tryz.ntmps130
   go_wp2_with (go_at_call 129; refine Hid.out ?_)
   refine hid ?_
   refine HC.out.mono ?_
   rintro e w1 ⟨rfl, d, rfl⟩
   go_wp2_with (fail)
   go_ret
   exact ⟨rfl, _, rfl⟩
def Y3g (X : List OpS) (n : Int) : Int := match X with
 | [] => n
 | x :: _ => min n x.o.n
theorem Z8D (b : Nat) (X : List OpS) (m : Int) (w : World) (G : Nat → Prop) (h : RdX w G b X) :
 Calls Tryz.prog 132 #[.pointer (some ⟨b, 0, none⟩), .int .i64 m] w fun e w' => e = .returned (.int .i64 (Y3g X m)) ∧ ∃ d, w' = w.drewN d := by
 have HC := hid (Z2T b X w G h)
 cases X with
 | nil =>
   clear h
   go_enter Tryz.func132, Tryz.ntmps132
   go_wp2_with (go_at_call 129; refine Hid.out ?_)
   refine hid ?_
   refine HC.out.mono ?_
   rintro e w1 ⟨rfl, d, rfl⟩
   go_wp2_with (fail)
   go_ret
   exact ⟨rfl, _, rfl⟩
 | cons x t =>
   obtain ⟨ad, n, c, hb, hn, _, _, _, _, had, hc1⟩ := h.open_
   have c0 : w.cell? ⟨b, 0, none⟩ = some (.slice (some ad) n c) := by simp [World.cell?, hb]
   obtain ⟨⟨k, nn, r, s, p⟩, Ar, cr, As, cs, Ap, cp⟩ := x
   obtain ⟨z0, z1, z2, z3, z4⟩ := Z0x hc1
   have hn1 : 1 ≤ n := by omega
   have hdec : decide ((⟨⟨k, nn, r, s, p⟩, Ar, cr, As, cs, Ap, cp⟩ :: t : List OpS) = []) = false := rfl
   rw [hdec] at HC
   clear h hb hc1 hdec hn
   go_enter Tryz.func132, Tryz.ntmps132
   go_wp2_with (go_at_call 129; refine Hid.out ?_)
   refine hid ?_
   refine HC.out.mono ?_
   rintro e w1 ⟨rfl, d, rfl⟩
   go_wp2_with (fail)
   go_ret
   exact ⟨rfl, _, rfl⟩
theorem Tryz.unOpX : Tryz.prog.underlying 36 = some (.struct (Tryz.prog.fieldsOf 36)) := by kernel_rfl
theorem Tryz.szOpX : (Tryz.prog.info? 36).map (·.size) = some 5 := by kernel_rfl
theorem Y6n {w : World} {b : Nat} {t : TypeId} {u0 u1 u2 u3 u4 : Value} (h : w.heap[b]? = some (.cells #[u0, u1, u2, u3, u4] t (0, 0))) (v0 v1 v2 v3 v4 : Value) :
 (((((w.setCell ⟨b, 0, none⟩ v0).setCell ⟨b, 1, none⟩ v1).setCell ⟨b, 2, none⟩ v2).setCell ⟨b, 3, none⟩ v3).setCell ⟨b, 4, none⟩ v4).heap[b]? = some (.cells #[v0, v1, v2, v3, v4] t (0, 0)) := by
 have h0 := Z0j (j := 0) h v0
 have h1 := Z0j (j := 1) h0 v1
 have h2 := Z0j (j := 2) h1 v2
 have h3 := Z0j (j := 3) h2 v3
 have h4 := Z0j (j := 4) h3 v4
 simpa using h4
theorem Z27 {B : Nat} {w0 w : World} {b : Nat} (h : Below B w0 w) (hb : B ≤ b) (v0 v1 v2 v3 v4 : Value) :
 Below B w0 (((((w.setCell ⟨b, 0, none⟩ v0).setCell ⟨b, 1, none⟩ v1).setCell ⟨b, 2, none⟩ v2).setCell ⟨b, 3, none⟩ v3).setCell ⟨b, 4, none⟩ v4) :=
 ((((h.setCell (p := ⟨b, 0, none⟩) hb _).setCell (p := ⟨b, 1, none⟩) hb _).setCell (p := ⟨b, 2, none⟩) hb _).setCell (p := ⟨b, 3, none⟩) hb _).setCell (p := ⟨b, 4, none⟩) hb _
theorem Z5A (b : Nat) (x : OpS) (t : List OpS) (w : World) (h : RdX w (fun k => k = b) b (x :: t)) :
 Calls Tryz.prog 131 #[.pointer (some ⟨b, 0, none⟩)] w (Y3f b (x :: t) (fun o X' => o = x ∧ X' = t) w) := by
 obtain ⟨ad, n, c, hb, hn, hnc, hcm, hr, hoff, had, hc1⟩ := h.open_
 have HB := hid hb
 have HC1 := hid hc1
 have hblt := Z0b hb
 obtain ⟨x0, hx0⟩ : ∃ y, x = y := ⟨x, rfl⟩
 have HX0 := hid hx0
 obtain ⟨⟨k, nn, r, s, p⟩, Ar, cr, As, cs, Ap, cp⟩ := x
 have ya := Z0c w (.cells #[.int .u8 0, .int .i64 0, .slice none 0 0, .slice none 0 0, .slice none 0 0] 36)
 have hba := heap_alloc_new w (.cells #[.int .u8 0, .int .i64 0, .slice none 0 0, .slice none 0 0, .slice none 0 0] 36)
 have szw2 : (w.alloc (.cells #[.int .u8 0, .int .i64 0, .slice none 0 0, .slice none 0 0, .slice none 0 0] 36)).heap.size = w.heap.size + 1 := by simp
 obtain ⟨z0, z1, z2, z3, z4⟩ := Z0x (hc1.keep (w' := w.alloc (.cells #[.int .u8 0, .int .i64 0, .slice none 0 0, .slice none 0 0, .slice none 0 0] 36)) fun q hq => ya.cell (by rw [hq]; exact had))
 have hb2 := (ya.block b hblt).trans hb
 have c0 : (w.alloc (.cells #[.int .u8 0, .int .i64 0, .slice none 0 0, .slice none 0 0, .slice none 0 0] 36)).cell? ⟨b, 0, none⟩ = some (.slice (some ad) n c) := by simp [World.cell?, hb2]
 obtain ⟨A9, hA9⟩ : ∃ X, advS (some ad) c 1 5 = X := ⟨_, rfl⟩
 obtain ⟨n9, hn9⟩ : ∃ X, n - 1 = X := ⟨_, rfl⟩
 obtain ⟨c9, hc9⟩ : ∃ X, c - 1 = X := ⟨_, rfl⟩
 have sl1 : ∀ W, (Instr.slice 37 (.slice (some ad) n c) (some (.int .i64 1)) none none).run Tryz.prog W = .ok (.slice A9 n9 c9) W := Z5K (k := 1) Tryz.slOp Tryz.elOpD Z7G rfl hA9 hn9 hc9 (by omega) hnc
 have hn1 : 1 ≤ n := by omega
 have yo := Z0c (w.alloc (.cells #[.int .u8 0, .int .i64 0, .slice none 0 0, .slice none 0 0, .slice none 0 0] 36)) (.cells #[.int .u8 k, .int .i64 nn, .slice Ar r.length cr, .slice As s.length cs, .slice Ap p.length cp] 36)
 have ho3 : ((w.alloc (.cells #[.int .u8 0, .int .i64 0, .slice none 0 0, .slice none 0 0, .slice none 0 0] 36)).alloc (.cells #[.int .u8 k, .int .i64 nn, .slice Ar r.length cr, .slice As s.length cs, .slice Ap p.length cp] 36)).heap[w.heap.size + 1]? = some (.cells #[.int .u8 k, .int .i64 nn, .slice Ar r.length cr, .slice As s.length cs, .slice Ap p.length cp] 36 (0, 0)) := by have h := heap_alloc_new (w.alloc (.cells #[.int .u8 0, .int .i64 0, .slice none 0 0, .slice none 0 0, .slice none 0 0] 36)) (.cells #[.int .u8 k, .int .i64 nn, .slice Ar r.length cr, .slice As s.length cs, .slice Ap p.length cp] 36); rwa [World.size_alloc] at h
 have hr3 : ((w.alloc (.cells #[.int .u8 0, .int .i64 0, .slice none 0 0, .slice none 0 0, .slice none 0 0] 36)).alloc (.cells #[.int .u8 k, .int .i64 nn, .slice Ar r.length cr, .slice As s.length cs, .slice Ap p.length cp] 36)).heap[w.heap.size]? = some (.cells #[.int .u8 0, .int .i64 0, .slice none 0 0, .slice none 0 0, .slice none 0 0] 36 (0, 0)) := (yo.block _ (by simp)).trans hba
 have hb3 : ((w.alloc (.cells #[.int .u8 0, .int .i64 0, .slice none 0 0, .slice none 0 0, .slice none 0 0] 36)).alloc (.cells #[.int .u8 k, .int .i64 nn, .slice Ar r.length cr, .slice As s.length cs, .slice Ap p.length cp] 36)).heap[b]? = some (.cells #[.slice (some ad) n c] 182 (0, 0)) := (yo.block _ (by simp; omega)).trans hb2
 have hb4 : (((w.alloc (.cells #[.int .u8 0, .int .i64 0, .slice none 0 0, .slice none 0 0, .slice none 0 0] 36)).alloc (.cells #[.int .u8 k, .int .i64 nn, .slice Ar r.length cr, .slice As s.length cs, .slice Ap p.length cp] 36)).setCell ⟨b, 0, none⟩ (.slice A9 n9 c9)).heap[b]? = some (.cells #[.slice A9 n9 c9] 182 (0, 0)) := by simpa using Z0j (j := 0) hb3 (.slice A9 n9 c9)
 have ho4 : (((w.alloc (.cells #[.int .u8 0, .int .i64 0, .slice none 0 0, .slice none 0 0, .slice none 0 0] 36)).alloc (.cells #[.int .u8 k, .int .i64 nn, .slice Ar r.length cr, .slice As s.length cs, .slice Ap p.length cp] 36)).setCell ⟨b, 0, none⟩ (.slice A9 n9 c9)).heap[w.heap.size + 1]? = some (.cells #[.int .u8 k, .int .i64 nn, .slice Ar r.length cr, .slice As s.length cs, .slice Ap p.length cp] 36 (0, 0)) := (Below.heap_setCell _ ⟨b, 0, none⟩ _ _ (fun e => by simp only at e; omega)).trans ho3
 have hr4 : (((w.alloc (.cells #[.int .u8 0, .int .i64 0, .slice none 0 0, .slice none 0 0, .slice none 0 0] 36)).alloc (.cells #[.int .u8 k, .int .i64 nn, .slice Ar r.length cr, .slice As s.length cs, .slice Ap p.length cp] 36)).setCell ⟨b, 0, none⟩ (.slice A9 n9 c9)).heap[w.heap.size]? = some (.cells #[.int .u8 0, .int .i64 0, .slice none 0 0, .slice none 0 0, .slice none 0 0] 36 (0, 0)) := (Below.heap_setCell _ ⟨b, 0, none⟩ _ _ (fun e => by simp only at e; omega)).trans hr3
 have c3 : ((w.alloc (.cells #[.int .u8 0, .int .i64 0, .slice none 0 0, .slice none 0 0, .slice none 0 0] 36)).alloc (.cells #[.int .u8 k, .int .i64 nn, .slice Ar r.length cr, .slice As s.length cs, .slice Ap p.length cp] 36)).cell? ⟨b, 0, none⟩ = some (.slice (some ad) n c) := by simp only [World.cell?, hb3]; rfl
 have fz3 := Z0d hb3 0
 obtain ⟨u0, u1, u2, u3, u4⟩ := Z0V ho4
 obtain ⟨v0, v1, v2, v3, v4⟩ := Z0V hr4
 have f0 := Z0d hr4 0
 have f1 := Z0d hr4 1
 have f2 := Z0d hr4 2
 have f3 := Z0d hr4 3
 have f4 := Z0d hr4 4
 have HR4 := hid hr4
 have HB4 := hid hb4
 have G4 : Hid (Grow w (fun k => k = b) (((w.alloc (.cells #[.int .u8 0, .int .i64 0, .slice none 0 0, .slice none 0 0, .slice none 0 0] 36)).alloc (.cells #[.int .u8 k, .int .i64 nn, .slice Ar r.length cr, .slice As s.length cs, .slice Ap p.length cp] 36)).setCell ⟨b, 0, none⟩ (.slice A9 n9 c9)) (fun k => k = b)) := hid ((Grow.of (Z0a ya yo)).trans (Z0m (F := fun k => k = b) b 0 _ rfl 0))
 have HRR := hid hr
 have HH := hid h
 have NN : Hid (n = t.length + 1 ∧ n ≤ c ∧ c ≤ maxLen ∧ n - 1 = n9 ∧ c - 1 = c9 ∧ advS (some ad) c 1 5 = A9) := hid ⟨hn, hnc, hcm, hn9, hc9, hA9⟩
 clear ho3 hr3 hb3 hb4 ho4 hr4 yo hr h hoff hn hcm hn9 hc9 hA9 hba hb2 hb ya hc1
 go_enter Tryz.func131, Tryz.ntmps131
 go_wp2_with (fail)
 have szs : (w.setCell ⟨b, 0, none⟩ (.slice A9 n9 c9)).heap.size = w.heap.size := by simp [World.setCell]
 have yf : Below (w.setCell ⟨b, 0, none⟩ (.slice A9 n9 c9)).heap.size (w.setCell ⟨b, 0, none⟩ (.slice A9 n9 c9)) (((w.setCell ⟨b, 0, none⟩ (.slice A9 n9 c9)).alloc (.cells #[.int .u8 k, .int .i64 nn, .slice Ar r.length cr, .slice As s.length cs, .slice Ap p.length cp] 36)).alloc (.cells #[.int .u8 k, .int .i64 nn, .slice Ar r.length cr, .slice As s.length cs, .slice Ap p.length cp] 36)) := Z0a (Z0c _ _) (Z0c _ _)
 have hrf : (((w.setCell ⟨b, 0, none⟩ (.slice A9 n9 c9)).alloc (.cells #[.int .u8 k, .int .i64 nn, .slice Ar r.length cr, .slice As s.length cs, .slice Ap p.length cp] 36)).alloc (.cells #[.int .u8 k, .int .i64 nn, .slice Ar r.length cr, .slice As s.length cs, .slice Ap p.length cp] 36)).heap[w.heap.size]? = some (.cells #[.int .u8 k, .int .i64 nn, .slice Ar r.length cr, .slice As s.length cs, .slice Ap p.length cp] 36 (0, 0)) := by
  have h1 := heap_alloc_new (w.setCell ⟨b, 0, none⟩ (.slice A9 n9 c9)) (.cells #[.int .u8 k, .int .i64 nn, .slice Ar r.length cr, .slice As s.length cs, .slice Ap p.length cp] 36)
  rw [szs] at h1
  exact ((Z0c _ _).block w.heap.size (by rw [World.size_alloc, szs]; omega)).trans h1
 have hbf : (((w.setCell ⟨b, 0, none⟩ (.slice A9 n9 c9)).alloc (.cells #[.int .u8 k, .int .i64 nn, .slice Ar r.length cr, .slice As s.length cs, .slice Ap p.length cp] 36)).alloc (.cells #[.int .u8 k, .int .i64 nn, .slice Ar r.length cr, .slice As s.length cs, .slice Ap p.length cp] 36)).heap[b]? = some (.cells #[.slice A9 n9 c9] 182 (0, 0)) := by
  refine (yf.block b (by rw [szs]; exact hblt)).trans ?_
  simpa using Z0j (j := 0) HB.out (.slice A9 n9 c9)
 have gf : Grow w (fun k => k = b) (((w.setCell ⟨b, 0, none⟩ (.slice A9 n9 c9)).alloc (.cells #[.int .u8 k, .int .i64 nn, .slice Ar r.length cr, .slice As s.length cs, .slice Ap p.length cp] 36)).alloc (.cells #[.int .u8 k, .int .i64 nn, .slice Ar r.length cr, .slice As s.length cs, .slice Ap p.length cp] 36)) (fun k => k = b) := (Z0m (w := w) (F := fun k => k = b) b 0 (.slice A9 n9 c9) rfl 0).trans (Grow.of yf)
 refine bodyPost_ret (results_cell_row (P := Tryz.prog) rfl _ _ w.heap.size 36 #[.int .u8 k, .int .i64 nn, .slice Ar r.length cr, .slice As s.length cs, .slice Ap p.length cp] (0, 0) _ rfl hrf Tryz.unOpX rfl Tryz.szOpX) rfl ?_
 refine ⟨(⟨⟨k, nn, r, s, p⟩, Ar, cr, As, cs, Ap, cp⟩ : OpS), t, rfl, ⟨HX0.out, rfl⟩, gf, fun G hG hGl hx => ?_⟩
 have gw : Grow w G (((w.setCell ⟨b, 0, none⟩ (.slice A9 n9 c9)).alloc (.cells #[.int .u8 k, .int .i64 nn, .slice Ar r.length cr, .slice As s.length cs, .slice Ap p.length cp] 36)).alloc (.cells #[.int .u8 k, .int .i64 nn, .slice Ar r.length cr, .slice As s.length cs, .slice Ap p.length cp] 36)) G := gf.wide (fun k hk => by subst hk; exact hG) (fun k hk => .inl (by subst hk; exact hG))
 have hoff : OffF G (some ad) ((⟨⟨k, nn, r, s, p⟩, Ar, cr, As, cs, Ap, cp⟩ : OpS) :: t).length := by
  obtain ⟨A0, n0, c0, h1, h2, h3, h4, h5, h6⟩ := hx.box
  rw [HB.out] at h1
  injection h1 with h1
  injection h1 with h1 _ _
  have h1' : (Value.slice (some ad) n c) = .slice A0 n0 c0 := by simpa using h1
  injection h1' with h7 _ _
  subst h7
  exact h6
 refine ⟨⟨⟨A9, n9, c9, hbf, by have := NN.out; omega, by have := NN.out; omega, by have := NN.out; omega, ?_, ?_⟩, fun z hz => (hx.parts z (List.mem_cons_of_mem _ hz)).grow gw, by have := hx.b; simp only [List.length_cons] at this; omega⟩, ?_⟩
 ·have h1 := (HRR.out.grow gw hoff).advS (k := 1) (c := c) (by simp) (by have := NN.out; simp only [List.length_cons]; omega)
  rw [NN.out.2.2.2.2.2] at h1
  exact h1
 ·have h1 := (HRR.out.grow gw hoff)
  intro ad9 e9 hl9 hg9
  have h2 := NN.out.2.2.2.2.2
  subst e9
  unfold advS at h2
  split at h2
  ·injection h2 with h2
   subst h2
   exact hoff ad rfl (by simp) hg9
  ·simp only [Option.map_some, Option.some.injEq] at h2
   rw [← h2, Z0U] at hg9
   exact hoff ad rfl (by simp) hg9
 ·rw [HX0.out] at *
  exact (hx.parts _ (by simp)).grow gw
theorem Grow.asideX {w w1 w2 : World} {F : Nat → Prop} {B : Nat} (g : Grow w F w1 F) (y : Below B w1 w2) (hB : w.heap.size ≤ B) : Grow w F w2 F :=
 ⟨y.os.trans g.os, y.tape.trans g.tape, y.output.trans g.output, Nat.le_trans g.size y.size, fun j hj hn => (y.block j (by omega)).trans (g.block j hj hn), fun k hk => .inl hk⟩
theorem Y1x {w6 : World} {b bo ba k : Nat} (v6 v1 u0 u1 u2 u3 u4 : Value) (h : k ≠ b ∧ k ≠ bo ∧ k ≠ ba) :
 (((((((w6.setCell ⟨b, 0, none⟩ v6).setCell ⟨bo, 1, none⟩ v1).setCell ⟨ba, 0, none⟩ u0).setCell ⟨ba, 1, none⟩ u1).setCell ⟨ba, 2, none⟩ u2).setCell ⟨ba, 3, none⟩ u3).setCell ⟨ba, 4, none⟩ u4).heap[k]? = w6.heap[k]? := by
 rw [Below.heap_setCell _ ⟨ba, 4, none⟩ _ k h.2.2, Below.heap_setCell _ ⟨ba, 3, none⟩ _ k h.2.2, Below.heap_setCell _ ⟨ba, 2, none⟩ _ k h.2.2, Below.heap_setCell _ ⟨ba, 1, none⟩ _ k h.2.2, Below.heap_setCell _ ⟨ba, 0, none⟩ _ k h.2.2, Below.heap_setCell _ ⟨bo, 1, none⟩ _ k h.2.1, Below.heap_setCell _ ⟨b, 0, none⟩ _ k h.1]
theorem PartF.nilX (w : World) (G : Nat → Prop) (o : Opd) (h : o.r = [] ∧ o.s = [] ∧ o.p = []) : PartF w G ⟨o, none, 0, none, 0, none, 0⟩ := by
 obtain ⟨k, n, r, s, p⟩ := o
 obtain ⟨rfl, rfl, rfl⟩ := h
 exact ⟨⟨Rd.nil, fun _ e => by cases e⟩, ⟨Rd.nil, fun _ e => by cases e⟩, ⟨Rd.nil, fun _ e => by cases e⟩⟩
theorem Y1y (b n : Nat) (w : World) (h : RdX w (fun k => k = b) b []) :
 Calls Tryz.prog 133 #[.pointer (some ⟨b, 0, none⟩), .int .i64 (n : Int)] w (Y3f b [] (Z9w [] n) w) := by
 have ya := Z0c w (.cells #[.int .u8 0, .int .i64 0, .slice none 0 0, .slice none 0 0, .slice none 0 0] 36)
 have hba := heap_alloc_new w (.cells #[.int .u8 0, .int .i64 0, .slice none 0 0, .slice none 0 0, .slice none 0 0] 36)
 have HC := hid (Z2T b [] _ (fun k => k = b) (h.ext ya))
 have HH := hid h
 clear h
 go_enter Tryz.func133, Tryz.ntmps133
 go_wp2_with (go_at_call 129; refine Hid.out ?_)
 refine hid ?_
 refine HC.out.mono ?_
 rintro e w1 ⟨rfl, d, rfl⟩
 have Y := Z0a ya (Z0p _ d)
 have hbb : ((w.alloc (.cells #[.int .u8 0, .int .i64 0, .slice none 0 0, .slice none 0 0, .slice none 0 0] 36)).drewN d).heap[w.heap.size]? = _ := hba
 have hsz : Hid (∃ ba, w.heap.size = ba) := hid ⟨_, rfl⟩
 clear HC ya hba
 generalize (w.alloc (.cells #[.int .u8 0, .int .i64 0, .slice none 0 0, .slice none 0 0, .slice none 0 0] 36)).drewN d = w2 at *
 obtain ⟨ba, hba⟩ := hsz.out
 rw [hba] at hbb ⊢
 have HBB := hid hbb
 have HBA := hid hba
 have YY := hid Y
 obtain ⟨v0, v1, v2, v3, v4⟩ := Z0V hbb
 have f0 := Z0d hbb 0
 have f1 := Z0d hbb 1
 have f2 := Z0d hbb 2
 have f3 := Z0d hbb 3
 have f4 := Z0d hbb 4
 clear hbb hba Y hsz
 go_wp2_with (fail)
 refine bodyPost_ret (results_cell_row (P := Tryz.prog) rfl _ _ ba 36 #[.int .u8 1, .int .i64 (n : Int), .slice none 0 0, .slice none 0 0, .slice none 0 0] (0, 0) _ rfl (Y6n HBB.out _ _ _ _ _) Tryz.unOpX rfl Tryz.szOpX) rfl ?_
 have y9 := Z27 YY.out (show w.heap.size ≤ ba by rw [HBA.out]; exact Nat.le_refl _) (.int .u8 1) (.int .i64 (n : Int)) (.slice none 0 0) (.slice none 0 0) (.slice none 0 0)
 exact ⟨⟨opR (n : Int) [], none, 0, none, 0, none, 0⟩, [], rfl, ⟨rfl, rfl⟩, Grow.of y9, fun G hG hGl hx => ⟨hx.ext y9, PartF.nilX _ _ _ ⟨rfl, rfl, rfl⟩⟩⟩
theorem RdX.offX {w : World} {G : Nat → Prop} {b n c : Nat} {A : Option Addr} {X : List OpS} (hx : RdX w G b X) (hb : w.heap[b]? = some (.cells #[.slice A n c] 182 (0, 0))) : OffF G A X.length := by
 obtain ⟨A0, n0, c0, h1, h2, h3, h4, h5, h6⟩ := hx.box
 rw [hb] at h1
 injection h1 with h1
 injection h1 with h1 _ _
 have h1' : (Value.slice A n c) = .slice A0 n0 c0 := by simpa using h1
 injection h1' with h7 _ _
 subst h7
 exact h6
theorem RdX.tail {w w' : World} {G : Nat → Prop} {b n c n9 c9 : Nat} {ad : Addr} {A9 : Option Addr} {x : OpS} {t : List OpS} (hx : RdX w G b (x :: t)) (hG : G b) (hb : w.heap[b]? = some (.cells #[.slice (some ad) n c] 182 (0, 0)))
 (hb' : w'.heap[b]? = some (.cells #[.slice A9 n9 c9] 182 (0, 0))) (g : Grow w (fun k => k = b) w' (fun k => k = b)) (hr : RdOs w w.heap.size (some ad) (x :: t)) (NN : n = t.length + 1 ∧ n ≤ c ∧ c ≤ maxLen ∧ n - 1 = n9 ∧ c - 1 = c9 ∧ advS (some ad) c 1 5 = A9) :
 RdX w' G b t ∧ PartF w' G x := by
 have gw : Grow w G w' G := g.wide (fun k hk => by subst hk; exact hG) (fun k hk => .inl (by subst hk; exact hG))
 have hoff := hx.offX hb
 refine ⟨⟨⟨A9, n9, c9, hb', by omega, by omega, by omega, ?_, ?_⟩, fun z hz => (hx.parts z (List.mem_cons_of_mem _ hz)).grow gw, by have := hx.b; simp only [List.length_cons] at this; omega⟩, (hx.parts _ (by simp)).grow gw⟩
 ·have h1 := (hr.grow gw hoff).advS (k := 1) (c := c) (by simp) (by simp only [List.length_cons]; omega)
  rw [NN.2.2.2.2.2] at h1
  exact h1
 ·intro ad9 e9 hl9 hg9
  have h2 := NN.2.2.2.2.2
  subst e9
  unfold advS at h2
  split at h2
  ·injection h2 with h2
   subst h2
   exact hoff ad rfl (by simp) hg9
  ·simp only [Option.map_some, Option.some.injEq] at h2
   rw [← h2, Z0U] at hg9
   exact hoff ad rfl (by simp) hg9
theorem Y1z (b : Nat) (n : Nat) (x : OpS) (t : List OpS) (w : World) (h : RdX w (fun k => k = b) b (x :: t)) (he : x.o.n = (n : Int)) :
 Calls Tryz.prog 133 #[.pointer (some ⟨b, 0, none⟩), .int .i64 (n : Int)] w (Y3f b (x :: t) (Z9w (x :: t) n) w) := by
 have ya := Z0c w (.cells #[.int .u8 0, .int .i64 0, .slice none 0 0, .slice none 0 0, .slice none 0 0] 36)
 have hba := heap_alloc_new w (.cells #[.int .u8 0, .int .i64 0, .slice none 0 0, .slice none 0 0, .slice none 0 0] 36)
 have HC := hid (Z2T b (x :: t) _ (fun k => k = b) (h.ext ya))
 obtain ⟨ad, nx, c, hb, hn, hnc, hcm, hr, hoff, had, hc1⟩ := h.open_
 have HR := hid hr
 have NX := hid (And.intro hn (And.intro hnc hcm))
 have HB := hid hb
 have hc1 := hid hc1
 have hdec : decide ((x :: t : List OpS) = []) = false := rfl
 rw [hdec] at HC
 obtain ⟨x0, hx0⟩ : ∃ y, x = y := ⟨x, rfl⟩
 have HX0 := hid hx0
 obtain ⟨⟨k, nn, r, s, p⟩, Ar, cr, As, cs, Ap, cp⟩ := x
 simp only at he
 have HE := hid he
 have HLT := hid (Z0b hb)
 clear h hx0 hn hnc hcm hr hoff hdec hb he
 go_enter Tryz.func133, Tryz.ntmps133
 go_wp2_with (go_at_call 129; refine Hid.out ?_)
 refine hid ?_
 refine HC.out.mono ?_
 rintro e w1 ⟨rfl, d, rfl⟩
 have Y := Z0a ya (Z0p _ d)
 have hbb : ((w.alloc (.cells #[.int .u8 0, .int .i64 0, .slice none 0 0, .slice none 0 0, .slice none 0 0] 36)).drewN d).heap[w.heap.size]? = _ := hba
 have hsz : Hid (∃ ba, w.heap.size = ba) := hid ⟨_, rfl⟩
 clear HC ya hba
 generalize (w.alloc (.cells #[.int .u8 0, .int .i64 0, .slice none 0 0, .slice none 0 0, .slice none 0 0] 36)).drewN d = w2 at *
 obtain ⟨ba, hba⟩ := hsz.out
 rw [hba] at hbb ⊢
 have HBB := hid hbb
 have HBA := hid hba
 have YY := hid Y
 have hbx : w2.heap[b]? = _ := (YY.out.block b HLT.out).trans HB.out
 have HBX := hid hbx
 have c0 : w2.cell? ⟨b, 0, none⟩ = some (.slice (some ad) nx c) := by simp [World.cell?, hbx]
 obtain ⟨z0, z1, z2, z3, z4⟩ := Z0x (hc1.out.keep (w' := w2) fun q hq => YY.out.cell (by rw [hq]; exact had))
 have hn1 : 1 ≤ nx := by have := NX.out; omega
 have HB1 : Hid (1 ≤ nx) := hid hn1
 clear hbb hba Y hsz hbx
 go_upto_region 4 with fail
 have YC := hid (Z0a YY.out (Z0c w2 (.cells #[.int .u8 k, .int .i64 nn, .slice Ar r.length cr, .slice As s.length cs, .slice Ap p.length cp] 36)))
 have ho3 := heap_alloc_new w2 (.cells #[.int .u8 k, .int .i64 nn, .slice Ar r.length cr, .slice As s.length cs, .slice Ap p.length cp] 36)
 have ha3 : (w2.alloc (.cells #[.int .u8 k, .int .i64 nn, .slice Ar r.length cr, .slice As s.length cs, .slice Ap p.length cp] 36)).heap[ba]? = _ := ((Z0c w2 _).block ba (Z0b HBB.out)).trans HBB.out
 have hr3 : (w2.alloc (.cells #[.int .u8 k, .int .i64 nn, .slice Ar r.length cr, .slice As s.length cs, .slice Ap p.length cp] 36)).heap[b]? = _ := ((Z0c w2 _).block b (Z0b HBX.out)).trans HBX.out
 have NE : Hid (ba ≠ w2.heap.size ∧ b ≠ w2.heap.size ∧ b ≠ ba ∧ b < ba ∧ w.heap.size ≤ ba ∧ ba < w2.heap.size) := hid (by have h1 := Z0b HBB.out; have h2 := Z0b HBX.out; have h3 := HLT.out; have h4 := HBA.out; omega)
 obtain ⟨bo, hbo⟩ : ∃ X, w2.heap.size = X := ⟨_, rfl⟩
 rw [hbo] at ho3 NE ⊢
 clear hbo c0 z0 z1 z2 z3 z4
 generalize w2.alloc (.cells #[.int .u8 k, .int .i64 nn, .slice Ar r.length cr, .slice As s.length cs, .slice Ap p.length cp] 36) = w3 at *
 have HO3 := hid ho3
 have HA3 := hid ha3
 have HR3 := hid hr3
 clear ho3 ha3 hr3
 obtain ⟨A9, hA9⟩ : ∃ X, advS (some ad) c 1 5 = X := ⟨_, rfl⟩
 obtain ⟨n9, hn9⟩ : ∃ X, nx - 1 = X := ⟨_, rfl⟩
 obtain ⟨c9, hc9⟩ : ∃ X, c - 1 = X := ⟨_, rfl⟩
 have NN : Hid (nx = t.length + 1 ∧ nx ≤ c ∧ c ≤ maxLen ∧ nx - 1 = n9 ∧ c - 1 = c9 ∧ advS (some ad) c 1 5 = A9) := hid ⟨NX.out.1, NX.out.2.1, NX.out.2.2, hn9, hc9, hA9⟩
 have sl1 : ∀ W, (Instr.slice 37 (.slice (some ad) nx c) (some (.int .i64 1)) none none).run Tryz.prog W = .ok (.slice A9 n9 c9) W := Z5K (k := 1) Tryz.slOp Tryz.elOpD Z7G rfl hA9 hn9 hc9 hn1 NX.out.2.1
 clear hA9 hn9 hc9 hn1
 have he := HE.out
 subst he
 obtain ⟨t0, t1, t2, t3, t4⟩ := Z0V HO3.out
 have r0 : w3.cell? ⟨b, 0, none⟩ = some (.slice (some ad) nx c) := by simp [World.cell?, HR3.out]
 have fzr := Z0d HR3.out 0
 have hcmp : ((n : Int) == (n : Int)) = true := beq_self_eq_true _
 have ho9 : (w3.setCell ⟨b, 0, none⟩ (.slice A9 n9 c9)).heap[bo]? = _ := (Below.heap_setCell _ ⟨b, 0, none⟩ _ bo (fun e => NE.out.2.1 e.symm)).trans HO3.out
 have ha9 : (w3.setCell ⟨b, 0, none⟩ (.slice A9 n9 c9)).heap[ba]? = _ := (Below.heap_setCell _ ⟨b, 0, none⟩ _ ba (fun e => NE.out.2.2.1 e.symm)).trans HA3.out
 have hr9 : (w3.setCell ⟨b, 0, none⟩ (.slice A9 n9 c9)).heap[b]? = some (.cells #[.slice A9 n9 c9] 182 (0, 0)) := by simpa using Z0j (j := 0) HR3.out (.slice A9 n9 c9)
 have HO9 := hid ho9
 have HA9 := hid ha9
 have HR9 := hid hr9
 obtain ⟨u0, u1, u2, u3, u4⟩ := Z0V ho9
 obtain ⟨v0, v1, v2, v3, v4⟩ := Z0V ha9
 have f0 := Z0d ha9 0
 have f1 := Z0d ha9 1
 have f2 := Z0d ha9 2
 have f3 := Z0d ha9 3
 have f4 := Z0d ha9 4
 clear ho9 ha9 hr9
 go_wp2_with (fail)
 refine bodyPost_ret (results_cell_row (P := Tryz.prog) rfl _ _ ba 36 #[.int .u8 k, .int .i64 (n : Int), .slice Ar r.length cr, .slice As s.length cs, .slice Ap p.length cp] (0, 0) _ rfl (Y6n HA9.out _ _ _ _ _) Tryz.unOpX rfl Tryz.szOpX) rfl ?_
 have y9 := Z27 (Below.refl ba (w3.setCell ⟨b, 0, none⟩ (.slice A9 n9 c9))) (Nat.le_refl ba) (.int .u8 k) (.int .i64 (n : Int)) (.slice Ar r.length cr) (.slice As s.length cs) (.slice Ap p.length cp)
 have g9 : Grow w (fun k => k = b) _ (fun k => k = b) := ((Grow.of YC.out).trans (Z0m (w := w3) (F := fun k => k = b) b 0 (.slice A9 n9 c9) rfl 0)).asideX y9 NE.out.2.2.2.2.1
 refine ⟨(⟨⟨k, (n : Int), r, s, p⟩, Ar, cr, As, cs, Ap, cp⟩ : OpS), t, rfl, ⟨rfl, .inl ⟨rfl, rfl⟩⟩, g9, fun G hG hGl hx => ?_⟩
 exact hx.tail hG HB.out ((y9.block b NE.out.2.2.2.1).trans HR9.out) g9 HR.out NN.out
theorem Y1A (b : Nat) (n : Nat) (x : OpS) (t : List OpS) (w : World) (h : RdX w (fun k => k = b) b (x :: t)) (he : (n : Int) < x.o.n) (hmx : x.o.n ≤ 536870912) :
 Calls Tryz.prog 133 #[.pointer (some ⟨b, 0, none⟩), .int .i64 (n : Int)] w (Y3f b (x :: t) (Z9w (x :: t) n) w) := by
 have ya := Z0c w (.cells #[.int .u8 0, .int .i64 0, .slice none 0 0, .slice none 0 0, .slice none 0 0] 36)
 have hba := heap_alloc_new w (.cells #[.int .u8 0, .int .i64 0, .slice none 0 0, .slice none 0 0, .slice none 0 0] 36)
 have HC := hid (Z2T b (x :: t) _ (fun k => k = b) (h.ext ya))
 obtain ⟨ad, nx, c, hb, hn, hnc, hcm, hr, hoff, had, hc1⟩ := h.open_
 have HR := hid hr
 have HLN := hid h.b
 have NX := hid (And.intro hn (And.intro hnc hcm))
 have HB := hid hb
 have hc1 := hid hc1
 have hdec : decide ((x :: t : List OpS) = []) = false := rfl
 rw [hdec] at HC
 obtain ⟨x0, hx0⟩ : ∃ y, x = y := ⟨x, rfl⟩
 have HX0 := hid hx0
 obtain ⟨⟨k, nn, r, s, p⟩, Ar, cr, As, cs, Ap, cp⟩ := x
 simp only at he hmx
 have HE := hid (And.intro he hmx)
 have HLT := hid (Z0b hb)
 clear h hx0 hn hnc hcm hr hoff hdec hb he hmx
 go_enter Tryz.func133, Tryz.ntmps133
 go_wp2_with (go_at_call 129; refine Hid.out ?_)
 refine hid ?_
 refine HC.out.mono ?_
 rintro e w1 ⟨rfl, d, rfl⟩
 have Y := Z0a ya (Z0p _ d)
 have hbb : ((w.alloc (.cells #[.int .u8 0, .int .i64 0, .slice none 0 0, .slice none 0 0, .slice none 0 0] 36)).drewN d).heap[w.heap.size]? = _ := hba
 have hsz : Hid (∃ ba, w.heap.size = ba) := hid ⟨_, rfl⟩
 clear HC ya hba
 generalize (w.alloc (.cells #[.int .u8 0, .int .i64 0, .slice none 0 0, .slice none 0 0, .slice none 0 0] 36)).drewN d = w2 at *
 obtain ⟨ba, hba⟩ := hsz.out
 rw [hba] at hbb ⊢
 have HBB := hid hbb
 have HBA := hid hba
 have YY := hid Y
 have hbx : w2.heap[b]? = _ := (YY.out.block b HLT.out).trans HB.out
 have HBX := hid hbx
 have c0 : w2.cell? ⟨b, 0, none⟩ = some (.slice (some ad) nx c) := by simp [World.cell?, hbx]
 obtain ⟨z0, z1, z2, z3, z4⟩ := Z0x (hc1.out.keep (w' := w2) fun q hq => YY.out.cell (by rw [hq]; exact had))
 have hn1 : 1 ≤ nx := by have := NX.out; omega
 have HB1 : Hid (1 ≤ nx) := hid hn1
 clear hbb hba Y hsz hbx
 go_upto_region 4 with fail
 have YC := hid (Z0a YY.out (Z0c w2 (.cells #[.int .u8 k, .int .i64 nn, .slice Ar r.length cr, .slice As s.length cs, .slice Ap p.length cp] 36)))
 have ho3 := heap_alloc_new w2 (.cells #[.int .u8 k, .int .i64 nn, .slice Ar r.length cr, .slice As s.length cs, .slice Ap p.length cp] 36)
 have ha3 : (w2.alloc (.cells #[.int .u8 k, .int .i64 nn, .slice Ar r.length cr, .slice As s.length cs, .slice Ap p.length cp] 36)).heap[ba]? = _ := ((Z0c w2 _).block ba (Z0b HBB.out)).trans HBB.out
 have hr3 : (w2.alloc (.cells #[.int .u8 k, .int .i64 nn, .slice Ar r.length cr, .slice As s.length cs, .slice Ap p.length cp] 36)).heap[b]? = _ := ((Z0c w2 _).block b (Z0b HBX.out)).trans HBX.out
 have NE : Hid (ba ≠ w2.heap.size ∧ b ≠ w2.heap.size ∧ b ≠ ba ∧ b < ba ∧ w.heap.size ≤ ba ∧ ba < w2.heap.size) := hid (by have h1 := Z0b HBB.out; have h2 := Z0b HBX.out; have h3 := HLT.out; have h4 := HBA.out; omega)
 obtain ⟨bo, hbo⟩ : ∃ X, w2.heap.size = X := ⟨_, rfl⟩
 rw [hbo] at ho3 NE ⊢
 clear hbo c0 z0 z1 z2 z3 z4
 generalize w2.alloc (.cells #[.int .u8 k, .int .i64 nn, .slice Ar r.length cr, .slice As s.length cs, .slice Ap p.length cp] 36) = w3 at *
 have HO3 := hid ho3
 have HA3 := hid ha3
 have HR3 := hid hr3
 clear ho3 ha3 hr3
 obtain ⟨A9, hA9⟩ : ∃ X, advS (some ad) c 1 5 = X := ⟨_, rfl⟩
 obtain ⟨n9, hn9⟩ : ∃ X, nx - 1 = X := ⟨_, rfl⟩
 obtain ⟨c9, hc9⟩ : ∃ X, c - 1 = X := ⟨_, rfl⟩
 have NN : Hid (nx = t.length + 1 ∧ nx ≤ c ∧ c ≤ maxLen ∧ nx - 1 = n9 ∧ c - 1 = c9 ∧ advS (some ad) c 1 5 = A9) := hid ⟨NX.out.1, NX.out.2.1, NX.out.2.2, hn9, hc9, hA9⟩
 have sl1 : ∀ W, (Instr.slice 37 (.slice (some ad) nx c) (some (.int .i64 1)) none none).run Tryz.prog W = .ok (.slice A9 n9 c9) W := Z5K (k := 1) Tryz.slOp Tryz.elOpD Z7G rfl hA9 hn9 hc9 hn1 NX.out.2.1
 clear hA9 hn9 hc9 hn1
 obtain ⟨t0, t1, t2, t3, t4⟩ := Z0V HO3.out
 have hcmp : ((n : Int) == nn) = false := beq_eq_false_iff_ne.2 (Int.ne_of_lt HE.out.1)
 obtain ⟨rn, hrn⟩ : ∃ X, nn - (n : Int) = X := ⟨_, rfl⟩
 have HRN := hid hrn
 have hbe : -9223372036854775808 ≤ rn ∧ rn ≤ 9223372036854775807 := by have := HE.out; omega
 have hs1 : wrap64 (nn - (n : Int)) = rn := by rw [hrn]; exact Y61 _ hbe
 have hs2 : IntKind.i64.wrap (nn - (n : Int)) = rn := by rw [hrn]; exact IntWalk.i64_in _ hbe
 clear hbe hrn
 go_upto_region 9 with fail
 have ya5 := Z0c w3 (.cells #[.int .u8 k, .int .i64 rn, .slice Ar r.length cr, .slice As s.length cs, .slice Ap p.length cp] 36)
 have hq5 := heap_alloc_new w3 (.cells #[.int .u8 k, .int .i64 rn, .slice Ar r.length cr, .slice As s.length cs, .slice Ap p.length cp] 36)
 have hr5 : (w3.alloc (.cells #[.int .u8 k, .int .i64 rn, .slice Ar r.length cr, .slice As s.length cs, .slice Ap p.length cp] 36)).heap[b]? = _ := (ya5.block b (Z0b HR3.out)).trans HR3.out
 have ha5 : (w3.alloc (.cells #[.int .u8 k, .int .i64 rn, .slice Ar r.length cr, .slice As s.length cs, .slice Ap p.length cp] 36)).heap[ba]? = _ := (ya5.block ba (Z0b HA3.out)).trans HA3.out
 have ho5 : (w3.alloc (.cells #[.int .u8 k, .int .i64 rn, .slice Ar r.length cr, .slice As s.length cs, .slice Ap p.length cp] 36)).heap[bo]? = _ := (ya5.block bo (Z0b HO3.out)).trans HO3.out
 have Y5 := hid (Z0a YC.out ya5)
 have LT5 : Hid (bo < w3.heap.size) := hid (Z0b HO3.out)
 obtain ⟨bq, hbq⟩ : ∃ X, w3.heap.size = X := ⟨_, rfl⟩
 rw [hbq] at hq5 LT5 ⊢
 clear ya5 hbq t0 t1 t2 t3 t4 HO3 HA3 HR3
 generalize w3.alloc (.cells #[.int .u8 k, .int .i64 rn, .slice Ar r.length cr, .slice As s.length cs, .slice Ap p.length cp] 36) = w5 at *
 have HQ5 := hid hq5
 have HR5 := hid hr5
 have HA5 := hid ha5
 have HO5 := hid ho5
 have ya6 := Z0c w5 (.cells #[.int .u8 k, .int .i64 rn, .slice Ar r.length cr, .slice As s.length cs, .slice Ap p.length cp] 36)
 have hr6 : (w5.alloc (.cells #[.int .u8 k, .int .i64 rn, .slice Ar r.length cr, .slice As s.length cs, .slice Ap p.length cp] 36)).heap[b]? = _ := (ya6.block b (Z0b hr5)).trans hr5
 have Y6 := hid (Z0a Y5.out ya6)
 obtain ⟨z0, z1, z2, z3, z4⟩ := Z0V hq5
 obtain ⟨x0', x1', x2', x3', x4'⟩ : _ ∧ _ ∧ _ ∧ _ ∧ _ := Z0V ((ya6.block bq (Z0b hq5)).trans hq5)
 have r0 : w5.cell? ⟨b, 0, none⟩ = some (.slice (some ad) nx c) := by simp [World.cell?, hr5]
 have r6 : (w5.alloc (.cells #[.int .u8 k, .int .i64 rn, .slice Ar r.length cr, .slice As s.length cs, .slice Ap p.length cp] 36)).cell? ⟨b, 0, none⟩ = some (.slice (some ad) nx c) := by simp [World.cell?, hr6]
 have OB : Hid (OwOs (w5.alloc (.cells #[.int .u8 k, .int .i64 rn, .slice Ar r.length cr, .slice As s.length cs, .slice Ap p.length cp] 36)) w5.heap.size (.slice (some ⟨w5.heap.size, 0, none⟩) 1 1) [(⟨⟨k, rn, r, s, p⟩, Ar, cr, As, cs, Ap, cp⟩ : OpS)]) := hid (Ow.new (enc := OpS.enc) (size := 5) OpS.enc_len w5 36 [(⟨⟨k, rn, r, s, p⟩, Ar, cr, As, cs, Ap, cp⟩ : OpS)] rfl rfl (by unfold maxLen; omega) (Nat.le_refl _) rfl)
 have RT : Hid (RdOs (w5.alloc (.cells #[.int .u8 k, .int .i64 rn, .slice Ar r.length cr, .slice As s.length cs, .slice Ap p.length cp] 36)) (w5.alloc (.cells #[.int .u8 k, .int .i64 rn, .slice Ar r.length cr, .slice As s.length cs, .slice Ap p.length cp] 36)).heap.size A9 t ∧ n9 = t.length ∧ t.length ≤ 999999999999) := hid (by
  have h1 := HR.out.advS (k := 1) (c := c) (by simp) (by have := NN.out; simp only [List.length_cons]; omega)
  rw [NN.out.2.2.2.2.2] at h1
  exact ⟨h1.ext Y6.out, by have := NN.out; omega, by have := HLN.out; simp only [List.length_cons] at this; omega⟩)
 have S5 : Hid (w.heap.size < w5.heap.size ∧ ba < w5.heap.size ∧ bo < w5.heap.size ∧ b < w5.heap.size) := hid (by have h1 := Z0b hq5; have := NE.out; have := LT5.out; omega)
 clear hq5 hr5 ha5 ho5 hr6 ya6
 go_region_law (first
  | (refine Z2E (l := [(⟨⟨k, rn, r, s, p⟩, Ar, cr, As, cs, Ap, cp⟩ : OpS)]) (m := t) rfl (.tmp 38) (.tmp 43) (by rfl) (by rfl) (by exact OB.out) _ A9 c9 n9 (by rfl) RT.out.2.1 (by exact RT.out.1) (by have := RT.out.2.2; simp only [List.length_singleton]; omega) (by simp) ?_
     intro v6 w6 hown hgr hv
     obtain ⟨A6, c6, hv6, h66, h67⟩ := hown.form
     subst hv6
     have HL6 : Hid (([(⟨⟨k, rn, r, s, p⟩, Ar, cr, As, cs, Ap, cp⟩ : OpS)] ++ t).length = t.length + 1 ∧ t.length + 1 ≤ c6 ∧ c6 ≤ maxLen) := hid ⟨by simp, by simpa using h66, h67⟩
     obtain ⟨nl, hnl⟩ : ∃ X, ([(⟨⟨k, rn, r, s, p⟩, Ar, cr, As, cs, Ap, cp⟩ : OpS)] ++ t).length = X := ⟨_, rfl⟩
     have HNL := hid hnl
     rw [hnl] at hown hv ⊢
     have HR6 : Hid (w6.heap[b]? = _) := hid (((hgr.block b (Nat.lt_of_lt_of_le (show b < w5.heap.size from S5.out.2.2.2) (Z0c w5 _).size) (fun e => Nat.ne_of_lt S5.out.2.2.2 (Option.some.inj (show some b = some w5.heap.size from e)))).trans (Below.heap_alloc _ _ b (by have := S5.out; exact this.2.2.2))).trans HR5.out)
     have HA6 : Hid (w6.heap[ba]? = _) := hid (((hgr.block ba (Nat.lt_of_lt_of_le (show ba < w5.heap.size from S5.out.2.1) (Z0c w5 _).size) (fun e => Nat.ne_of_lt S5.out.2.1 (Option.some.inj (show some ba = some w5.heap.size from e)))).trans (Below.heap_alloc _ _ ba (by have := S5.out; exact this.2.1))).trans HA5.out)
     have HO6 : Hid (w6.heap[bo]? = _) := hid (((hgr.block bo (Nat.lt_of_lt_of_le (show bo < w5.heap.size from S5.out.2.2.1) (Z0c w5 _).size) (fun e => Nat.ne_of_lt S5.out.2.2.1 (Option.some.inj (show some bo = some w5.heap.size from e)))).trans (Below.heap_alloc _ _ bo (by have := S5.out; exact this.2.2.1))).trans HO5.out)
     have YW : Hid (Below w.heap.size w w6) := hid (Z1h (Z0v Y6.out) (Nat.le_trans (Nat.le_of_lt S5.out.1) (Z0c w5 _).size) (w := (w5.alloc (.cells #[.int .u8 k, .int .i64 rn, .slice Ar r.length cr, .slice As s.length cs, .slice Ap p.length cp] 36)).drew) (OB.out.drew) (Nat.le_of_lt S5.out.1) (by exact hgr))
     have HOW := hid hown
     have fz6 := Z0d HR6.out 0
     have r66 : w6.cell? ⟨b, 0, none⟩ = some (.slice (some ad) nx c) := by simp [World.cell?, HR6.out]
     clear hown hgr hv h66 h67 hnl))
 all_goals
  clear z0 z1 z2 z3 z4 x0' x1' x2' x3' x4' r0 r6
  have ho7 : (w6.setCell ⟨b, 0, none⟩ (.slice A6 nl c6)).heap[bo]? = _ := (Below.heap_setCell _ ⟨b, 0, none⟩ _ bo (fun e => NE.out.2.1 e.symm)).trans HO6.out
  have ha7 : (w6.setCell ⟨b, 0, none⟩ (.slice A6 nl c6)).heap[ba]? = _ := (Below.heap_setCell _ ⟨b, 0, none⟩ _ ba (fun e => NE.out.2.2.1 e.symm)).trans HA6.out
  have hr7 : (w6.setCell ⟨b, 0, none⟩ (.slice A6 nl c6)).heap[b]? = some (.cells #[.slice A6 nl c6] 182 (0, 0)) := by simpa using Z0j (j := 0) HR6.out (.slice A6 nl c6)
  have ho8 : ((w6.setCell ⟨b, 0, none⟩ (.slice A6 nl c6)).setCell ⟨bo, 1, none⟩ (.int .i64 (n : Int))).heap[bo]? = some (.cells #[.int .u8 k, .int .i64 (n : Int), .slice Ar r.length cr, .slice As s.length cs, .slice Ap p.length cp] 36 (0, 0)) := by simpa using Z0j (j := 1) ho7 (.int .i64 (n : Int))
  have ha8 : ((w6.setCell ⟨b, 0, none⟩ (.slice A6 nl c6)).setCell ⟨bo, 1, none⟩ (.int .i64 (n : Int))).heap[ba]? = _ := (Below.heap_setCell _ ⟨bo, 1, none⟩ _ ba NE.out.1).trans ha7
  have hr8 : ((w6.setCell ⟨b, 0, none⟩ (.slice A6 nl c6)).setCell ⟨bo, 1, none⟩ (.int .i64 (n : Int))).heap[b]? = _ := (Below.heap_setCell _ ⟨bo, 1, none⟩ _ b NE.out.2.1).trans hr7
  have HA8 := hid ha8
  have HR8 := hid hr8
  have fz7 := Z0d ho7 1
  obtain ⟨t0, t1, t2, t3, t4⟩ := Z0V ho7
  obtain ⟨s0, s1, s2, s3, s4⟩ := Z0V HO6.out
  obtain ⟨u0, u1, u2, u3, u4⟩ := Z0V ho8
  obtain ⟨v0, v1, v2, v3, v4⟩ := Z0V ha8
  have f0 := Z0d ha8 0
  have f1 := Z0d ha8 1
  have f2 := Z0d ha8 2
  have f3 := Z0d ha8 3
  have f4 := Z0d ha8 4
  clear ho7 ha7 hr7 ho8 ha8 hr8
  go_wp2_with (fail)
  refine bodyPost_ret (results_cell_row (P := Tryz.prog) rfl _ _ ba 36 #[.int .u8 k, .int .i64 (n : Int), .slice Ar r.length cr, .slice As s.length cs, .slice Ap p.length cp] (0, 0) _ rfl (Y6n HA8.out _ _ _ _ _) Tryz.unOpX rfl Tryz.szOpX) rfl ?_
  have y8 : Below ba (w6.setCell ⟨b, 0, none⟩ (.slice A6 nl c6)) ((w6.setCell ⟨b, 0, none⟩ (.slice A6 nl c6)).setCell ⟨bo, 1, none⟩ (.int .i64 (n : Int))) := (Below.refl ba _).setCell (p := ⟨bo, 1, none⟩) (Nat.le_of_lt NE.out.2.2.2.2.2) _
  have y9 := Z27 y8 (Nat.le_refl ba) (.int .u8 k) (.int .i64 (n : Int)) (.slice Ar r.length cr) (.slice As s.length cs) (.slice Ap p.length cp)
  have yy := Z27 (Below.refl ba ((w6.setCell ⟨b, 0, none⟩ (.slice A6 nl c6)).setCell ⟨bo, 1, none⟩ (.int .i64 (n : Int)))) (Nat.le_refl ba) (.int .u8 k) (.int .i64 (n : Int)) (.slice Ar r.length cr) (.slice As s.length cs) (.slice Ap p.length cp)
  have g9 : Grow w (fun k => k = b) _ (fun k => k = b) := ((Grow.of YW.out).trans (Z0m (w := w6) (F := fun k => k = b) b 0 (.slice A6 nl c6) rfl 0)).asideX y9 NE.out.2.2.2.2.1
  have hrf := (yy.block b NE.out.2.2.2.1).trans HR8.out
  have hof := HOW.out.keep (w' := ((((((w6.setCell ⟨b, 0, none⟩ (.slice A6 nl c6)).setCell ⟨bo, 1, none⟩ (.int .i64 (n : Int))).setCell ⟨ba, 0, none⟩ (.int .u8 k)).setCell ⟨ba, 1, none⟩ (.int .i64 (n : Int))).setCell ⟨ba, 2, none⟩ (.slice Ar r.length cr)).setCell ⟨ba, 3, none⟩ (.slice As s.length cs)).setCell ⟨ba, 4, none⟩ (.slice Ap p.length cp)) (fun k hk => Y1x _ _ _ _ _ _ _ (by
   have h1 := (HOW.out.wb_lt k hk).1
   have h2 := S5.out
   omega))
  have hrt : (nn - (n : Int)) = rn := HRN.out
  clear HRN hs1 hs2 t0 t1 t2 t3 t4 s0 s1 s2 s3 s4 u0 u1 u2 u3 u4 v0 v1 v2 v3 v4 f0 f1 f2 f3 f4 fz6 fz7 r66 sl1 hcmp
  generalize ((((((w6.setCell ⟨b, 0, none⟩ (.slice A6 nl c6)).setCell ⟨bo, 1, none⟩ (.int .i64 (n : Int))).setCell ⟨ba, 0, none⟩ (.int .u8 k)).setCell ⟨ba, 1, none⟩ (.int .i64 (n : Int))).setCell ⟨ba, 2, none⟩ (.slice Ar r.length cr)).setCell ⟨ba, 3, none⟩ (.slice As s.length cs)).setCell ⟨ba, 4, none⟩ (.slice Ap p.length cp) = W9 at *
  refine ⟨(⟨⟨k, (n : Int), r, s, p⟩, Ar, cr, As, cs, Ap, cp⟩ : OpS), (⟨⟨k, rn, r, s, p⟩, Ar, cr, As, cs, Ap, cp⟩ : OpS) :: t, rfl, ⟨rfl, .inr ⟨HE.out.1, by rw [← hrt]⟩⟩, g9, fun G hG hGl hx => ?_⟩
  have gw := g9.wide (G := G) (fun k hk => by subst hk; exact hG) (fun k hk => .inl (by subst hk; exact hG))
  have hp := (hx.parts (⟨⟨k, nn, r, s, p⟩, Ar, cr, As, cs, Ap, cp⟩ : OpS) (List.mem_cons_self ..)).grow gw
  refine ⟨⟨⟨A6, nl, c6, hrf, by rw [← HNL.out]; rfl, by have := HL6.out; have := HNL.out; omega, HL6.out.2.2, ?_, ?_⟩, fun z hz => ?_, by have := hx.b; simp only [List.length_cons] at this ⊢; omega⟩, ⟨hp.1, hp.2.1, hp.2.2⟩⟩
  ·have h := hof.rd OpS.enc_len
   exact h
  ·have e : ((⟨⟨k, rn, r, s, p⟩, Ar, cr, As, cs, Ap, cp⟩ : OpS) :: t).length = nl := HNL.out
   rw [e]
   refine hof.offF OpS.enc_len HNL.out.symm (fun k hk hg => ?_)
   have h1 := (HOW.out.wb_lt k hk).1
   have h2 := S5.out
   have h3 := hGl k hg
   omega
  ·rcases List.mem_cons.1 hz with rfl | hz
   ·exact ⟨hp.1, hp.2.1, hp.2.2⟩
   ·exact (hx.parts z (List.mem_cons_of_mem _ hz)).grow gw
theorem RdX.less {w : World} {G G' : Nat → Prop} {b : Nat} {X : List OpS} (h : RdX w G b X) (hg : ∀ k, G' k → G k) : RdX w G' b X := by
 obtain ⟨A, n, c, h1, h2, h3, h4, h5, h6⟩ := h.box
 exact ⟨⟨A, n, c, h1, h2, h3, h4, h5, fun ad e hl hk => h6 ad e hl (hg _ hk)⟩, fun x hx => by
  obtain ⟨⟨a1, a2⟩, ⟨b1, b2⟩, c1, c2⟩ := h.parts x hx
  exact ⟨⟨a1, fun ad e hl hk => a2 ad e hl (hg _ hk)⟩, ⟨b1, fun ad e hl hk => b2 ad e hl (hg _ hk)⟩, ⟨c1, fun ad e hl hk => c2 ad e hl (hg _ hk)⟩⟩, h.b⟩
theorem Z8E (b n : Nat) (X : List OpS) (w : World) (h : RdX w (fun k => k = b) b X) (hn : ∀ x t, X = x :: t → (n : Int) ≤ x.o.n ∧ x.o.n ≤ 536870912) :
 Calls Tryz.prog 133 #[.pointer (some ⟨b, 0, none⟩), .int .i64 (n : Int)] w (Y3f b X (Z9w X n) w) := by
 cases X with
 | nil => exact Y1y b n w h
 | cons x t =>
   obtain ⟨h1, h2⟩ := hn x t rfl
   by_cases he : x.o.n = (n : Int)
   ·exact Y1z b n x t w h he
   ·exact Y1A b n x t w h (by omega) h2
end Go.Proofs.YtnmedachaeanbaaGreatDoor
