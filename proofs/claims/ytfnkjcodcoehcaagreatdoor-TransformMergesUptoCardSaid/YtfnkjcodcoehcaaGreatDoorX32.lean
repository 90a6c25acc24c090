/- Merged texts. -/
import Derived.Test.YtfnkjcodcoehcaaGreatDoorX31
namespace Go.Proofs.YtfnkjcodcoehcaaGreatDoor
set_option maxRecDepth 100000
set_option maxHeartbeats 4000000
open Go.RowKit Go.MapKept
open Go.Lib (hid)
set_option linter.unusedVariables false
set_option linter.unusedSimpArgs false
theorem Tryz.unPlan : Tryz.prog.underlying 161 = some (.struct (Tryz.prog.fieldsOf 161)) := by kernel_rfl
theorem Tryz.szPlan : (Tryz.prog.info? 161).map (·.size) = some 4 := by kernel_rfl
def Y5K (U : List Opd) (w : World) (e : Ending) (w' : World) : Prop :=
 ∃ bI bG bP A c y, e = .returned (.agg #[.int .i64 (Z0u y : Nat), .map (some bI), .map (some bG), .map (some bP)]) ∧ osOf y = U ∧ OpsC w' A y.length c y ∧ PlanAt w' bI bG bP y ∧ Below w.heap.size w w'
theorem PlanInv.new {w wq wy : World} (h1 : Below w.heap.size w wq) (h2 : wq.heap.size = w.heap.size + 5) (h3 : wq.heap[w.heap.size]? = some (.cells Z6H 161 (0, 0))) (h4 : wq.heap[w.heap.size + 4]? = some (.cells (Z4g w.heap.size 0) 161 (0, 0)))
 (m1 : MapV wq (w.heap.size + 1) []) (m2 : MapV wq (w.heap.size + 2) []) (m3 : MapV wq (w.heap.size + 3) []) (y : Below wq.heap.size wq wy) : PlanInv w wy wy [] :=
 ⟨h1.trans (y.mono h1.size), by rw [← h2]; exact y.size, Nat.le_refl _, fun _ _ _ => rfl, (y.block _ (by omega)).trans h3, (y.block _ (by omega)).trans h4, [], [], [], wy.heap.size, m1.ext y, m2.ext y, m3.ext y, Nat.le_refl _, PlanRows.new _ _ _, fun g => rfl, fun g => rfl⟩
theorem Y3g {w : World} {b c n : Nat} {A : Option Addr} {L : List OpS} (h : OwOs w b (.slice A n c) L) : ∀ ad, A = some ad → 0 < L.length → b ≤ ad.block := fun ad hA hn => by
 obtain ⟨g, cur, hA', _, hb, _⟩ := h.row hn
 rw [hA] at hA'; injection hA' with hA'; subst hA'; exact hb
theorem PlanInv.cells {w wy wr : World} {X : List OpS} (h : PlanInv w wy wr X) : wr.cell? ⟨w.heap.size + 4, 0, none⟩ = some (.int .i64 (Z0u X : Nat)) ∧ wr.cell? ⟨w.heap.size + 4, 1, none⟩ = some (.map (some (w.heap.size + 1))) ∧ wr.cell? ⟨w.heap.size + 4, 2, none⟩ = some (.map (some (w.heap.size + 2))) ∧ wr.cell? ⟨w.heap.size + 4, 3, none⟩ = some (.map (some (w.heap.size + 3))) ∧
 wr.cell? ⟨w.heap.size, 0, none⟩ = some (.int .i64 0) ∧ wr.cell? ⟨w.heap.size, 1, none⟩ = some (.map none) ∧ wr.cell? ⟨w.heap.size, 2, none⟩ = some (.map none) ∧ wr.cell? ⟨w.heap.size, 3, none⟩ = some (.map none) := by
 obtain ⟨_, _, _, _, h4, h5, _⟩ := h
 simp [World.cell?, h4, h5, Z6H, Z4g]
theorem Z3X {w : World} {s N : Nat} (h : w.heap[s + 4]? = some (.cells (Z4g s N) 161 (0, 0))) : w.cell? ⟨s + 4, 0, none⟩ = some (.int .i64 (N : Int)) ∧ w.cell? ⟨s + 4, 1, none⟩ = some (.map (some (s + 1))) ∧ w.cell? ⟨s + 4, 2, none⟩ = some (.map (some (s + 2))) ∧ w.cell? ⟨s + 4, 3, none⟩ = some (.map (some (s + 3))) := by
 simp [World.cell?, h, Z4g]
theorem PlanInv.size_ {w wy wr : World} {X : List OpS} (h : PlanInv w wy wr X) : w.heap.size + 5 ≤ wr.heap.size := Nat.le_trans h.2.1 h.2.2.1
theorem Y6x {w wy wr : World} {X y : List OpS} {Ay : Option Addr} {cy B m : Nat} (h : PlanInv w wy wr X) (ho : OwOs wy B (.slice Ay y.length cy) y) (hB : w.heap.size + 5 ≤ B) (hm : m < y.length) :
 ∃ ad z, Ay = some ad ∧ y[m]? = some z ∧ CellsAt wr (ad.add (m * 5)) (OpS.enc z) := by
 obtain ⟨ad, z, hA, hb, _, hz, hc⟩ := (ho.rd OpS.enc_len).el hm
 have hh := Y3g ho ad hA (by omega)
 refine ⟨ad, z, hA, hz, hc.keep fun q hq => ?_⟩
 rw [Z0q] at hq
 simp only [World.cell?, h.2.2.2.1 q.block (by rw [hq]; omega) (by rw [hq]; exact hb)]
theorem Y1t (w : World) : ∀ w5, w5 = ((((w.alloc (.cells Z6H 161)).alloc (.map #[] 0)).alloc (.map #[] 0)).alloc (.map #[] 0)).alloc (.cells (Z4g w.heap.size 0) 161) →
 Below w.heap.size w w5 ∧ w5.heap.size = w.heap.size + 5 ∧ w5.heap[w.heap.size]? = some (.cells Z6H 161 (0, 0)) ∧ w5.heap[w.heap.size + 4]? = some (.cells (Z4g w.heap.size 0) 161 (0, 0)) ∧
 MapV w5 (w.heap.size + 1) [] ∧ MapV w5 (w.heap.size + 2) [] ∧ MapV w5 (w.heap.size + 3) [] := by
 intro w5 h
 obtain ⟨a1, h1⟩ : ∃ X, X = w.alloc (.cells Z6H 161) := ⟨_, rfl⟩
 obtain ⟨a2, h2⟩ : ∃ X, X = a1.alloc (.map #[] 0) := ⟨_, rfl⟩
 obtain ⟨a3, h3⟩ : ∃ X, X = a2.alloc (.map #[] 0) := ⟨_, rfl⟩
 obtain ⟨a4, h4⟩ : ∃ X, X = a3.alloc (.map #[] 0) := ⟨_, rfl⟩
 rw [← h1, ← h2, ← h3, ← h4] at h
 have e1 : a1.heap.size = w.heap.size + 1 := by rw [h1]; simp
 have e2 : a2.heap.size = w.heap.size + 2 := by rw [h2]; simp [e1]
 have e3 : a3.heap.size = w.heap.size + 3 := by rw [h3]; simp [e2]
 have e4 : a4.heap.size = w.heap.size + 4 := by rw [h4]; simp [e3]
 have b1 : Below w.heap.size w a1 := by rw [h1]; exact Z0b _ _
 have b2 : Below a1.heap.size a1 a2 := by rw [h2]; exact Z0b _ _
 have b3 : Below a2.heap.size a2 a3 := by rw [h3]; exact Z0b _ _
 have b4 : Below a3.heap.size a3 a4 := by rw [h4]; exact Z0b _ _
 have b5 : Below a4.heap.size a4 w5 := by rw [h]; exact Z0b _ _
 have m1 : MapV a2 (w.heap.size + 1) [] := by rw [← e1, h2]; exact MapV.new a1
 have m2 : MapV a3 (w.heap.size + 2) [] := by rw [← e2, h3]; exact MapV.new a2
 have m3 : MapV a4 (w.heap.size + 3) [] := by rw [← e3, h4]; exact MapV.new a3
 have c0 : a1.heap[w.heap.size]? = some (.cells Z6H 161 (0, 0)) := by rw [h1]; exact heap_alloc_new _ _
 have c4 : w5.heap[w.heap.size + 4]? = some (.cells (Z4g w.heap.size 0) 161 (0, 0)) := by rw [← e4, h]; exact heap_alloc_new _ _
 have b25 := Z0a b3 (Z0a b4 b5)
 exact ⟨Z0a b1 (Z0a b2 b25), by rw [h]; simp [e4], ((Z0a b2 b25).block _ (by omega)).trans c0, c4, m1.ext b25, m2.ext (Z0a b4 b5), m3.ext b5⟩
theorem Z8J (x z : List OpS) : Z0u (x ++ z) = Z0u x + Z0u z := by
 induction x with
 | nil => simp [Z0u]
 | cons a t ih => rw [List.cons_append, Z0u, Z0u, ih]; omega
theorem Y4K {y : List OpS} {m : Nat} {z : OpS} (h : y[m]? = some z) : Z0u (y.take m) + (if z.o.k = 2 then 0 else z.o.n.toNat) ≤ Z0u y := by
 obtain ⟨hm, he⟩ := List.getElem?_eq_some_iff.1 h
 have e : y = y.take m ++ (z :: y.drop (m + 1)) := by rw [← he, ← List.drop_eq_getElem_cons hm, List.take_append_drop]
 have := Z8J (y.take m) (z :: y.drop (m + 1))
 rw [← e] at this
 rw [this, Z0u]
 omega
theorem PlanInv.fin {w wy wr w' : World} {y : List OpS} {Ay : Option Addr} {cy B : Nat} (h : PlanInv w wy wr y) (hs : ∀ j, j ≠ w.heap.size → w'.heap[j]? = wr.heap[j]?) (s2 : w'.heap.size = wr.heap.size) (s3 : w'.os = wr.os) (s4 : w'.tape = wr.tape) (s5 : w'.output = wr.output)
 (ho : OwOs wy B (.slice Ay y.length cy) y) (hp : ∀ z ∈ y, ∃ g, PartN wy B g z) (hB : w.heap.size + 5 ≤ B) :
 PlanAt w' (w.heap.size + 1) (w.heap.size + 2) (w.heap.size + 3) y ∧ Below w.heap.size w w' ∧ OwOs w' B (.slice Ay y.length cy) y ∧ ∀ z ∈ y, ∃ g, PartN w' B g z := by
 have hk : ∀ k, B ≤ k → k < wy.heap.size → w'.heap[k]? = wy.heap[k]? := fun k a b => by rw [hs k (by omega)]; exact h.2.2.2.1 k (by omega) b
 refine ⟨?_, Z7R (N := 0) h.1 (Nat.le_refl _) hs s2 s3 s4 s5, ho.keep fun k hw => hk k (ho.wb_lt k hw).1 (ho.wb_lt k hw).2, fun z hz => ?_⟩
 ·obtain ⟨h1, h0, h2, h3, h4, h5, kI, kG, kP, lo, m1, m2, m3, m4, m5, m6, m7⟩ := h
  refine ⟨kI, kG, kP, m1.keep (hs _ (by omega)), m2.keep (hs _ (by omega)), m3.keep (hs _ (by omega)), fun g => ?_, m6, m7⟩
  obtain ⟨A, n, c, e1, e2, e3, e4, e5⟩ := m5.2 g
  have hc := e3.cap
  have e3' := e3.keep (w' := w') fun k hw => hs k (by have := (e3.wb_lt k hw).1; omega)
  exact ⟨A, n, c, e1, e2, by omega, hc.2, e3'.rd OpS.enc_len⟩
 ·obtain ⟨g, ⟨a1, a2⟩, ⟨b1, b2⟩, c1, c2⟩ := hp z hz
  exact ⟨g, ⟨a1.keep fun k hw => hk k (a1.wb_lt k hw).1 (a1.wb_lt k hw).2, a2⟩, ⟨b1.keep fun k hw => hk k (b1.wb_lt k hw).1 (b1.wb_lt k hw).2, b2⟩, c1.keep fun k hw => hk k (c1.wb_lt k hw).1 (c1.wb_lt k hw).2, c2⟩
theorem Z6x {w : World} {A : Option Addr} {n c : Nat} {l : List Ky} {x : List OpS} (h : OpsC w A n c x) (hm : mayO l x = 0) (hz : szN x ≤ 200000) :
 Calls Tryz.prog 122 #[.slice A n c] w (Y5K (mkU (Z0d (osOf x))) w) := by
 obtain ⟨gx, _, _⟩ := Z02 hm
 obtain ⟨s1, s2⟩ := Z1a x (Z0O gx)
 have t1 := Z1m gx (by have := h.at_.b; have := h.at_.len; omega)
 have t2 := Z1A gx (by have := h.at_.b; have := h.at_.len; omega)
 have t5 := Z2g (us := Z0d (osOf x))
 have hs : ∀ o ∈ x, o.o.s.length ≤ 1000000 ∧ o.o.p.length ≤ 1000000 := fun o ho => by have h := Z1l (gx o ho); have := (Z00 h.2.2.2.1).1; have := (Z0U h.2.2.2.2).1; omega
 have ht := Y4s (osOf x) (fun o ho => by obtain ⟨z, hz, rfl⟩ := List.mem_map.1 ho; exact Z0O gx z hz) (by omega)
 have hok : ∀ u ∈ Z0d (osOf x), okUn u := fun u hu => by
  obtain ⟨o, ho, hu⟩ := Z1C.1 hu
  exact Z7G (h.at_.ok o ho) u hu
 have HT := hid ht
 have HO := hid hok
 have HM := hid (Z7H ht)
 have HTK : Hid (Z0k (Z0d (osOf x)) ≤ 536870912) := hid (by omega)
 have HBB := hid (Z2c x hs)
 have HSZ := hid hz
 have HX := hid h
 have HI := hid (Z0O gx)
 have HSS := hid hs
 have PS := hid (Y1t w _ rfl)
 clear s1 s2 t1 t2 t5 hs ht hok gx h hm hz
 have hmm := @run_makeMap Tryz.prog
 go_enter Tryz.func122, Tryz.ntmps122
 go_wp2_with (go_at_call 79; refine Hid.out ?_)
 refine hid ?_
 refine (Y4F A n c x _ HX.out.at_.len HX.out.cap (HX.out.at_.rd.ext PS.out.1) HI.out (by have := HSZ.out; omega) HSS.out).mono ?_
 rintro e wy ⟨Ay, cy, y, rfl, hoy, howy, hpy, yb⟩
 have INV : Hid (PlanInv w wy wy []) := hid (PlanInv.new PS.out.1 PS.out.2.1 PS.out.2.2.1 PS.out.2.2.2.1 PS.out.2.2.2.2.1 PS.out.2.2.2.2.2.1 PS.out.2.2.2.2.2.2 yb)
 obtain ⟨B, hB⟩ : ∃ B, B = w.heap.size + 5 := ⟨_, rfl⟩
 have OY : Hid (OwOs wy B (.slice Ay y.length cy) y) := hid (by rw [hB, ← PS.out.2.1]; exact howy)
 have PY : Hid (∀ z ∈ y, ∃ g, PartN wy B g z) := hid (by rw [hB, ← PS.out.2.1]; exact hpy)
 have LB : Hid (w.heap.size + 5 ≤ B) := hid (by rw [hB]; exact Nat.le_refl _)
 have UY : Hid (osOf y = mkU (Z0d (osOf x))) := hid (hoy.trans HM.out)
 have UM := hid hoy
 have TY : Hid (Z0u y ≤ 536870912) := hid (by rw [Z9r, Z1v UY.out]; exact Nat.le_trans (Z5C _) HTK.out)
 have NY : Hid (y.length ≤ 1000000) := hid (by have := (Z9f hoy HT.out HO.out HBB.out (by have := HSZ.out; omega) (by omega)).2; have := HSZ.out; omega)
 clear hoy howy hpy yb hB PS hmm
 go_wp2_with (fail)
 obtain ⟨ny, hny⟩ : ∃ X, X = y.length := ⟨_, rfl⟩
 rw [← hny]
 have LY := hid hny
 have NB : Hid (ny ≤ 1000000) := hid (by rw [hny]; exact NY.out)
 clear hny
 go_loopg [5] ny (fun g iv wr => ∃ m : Nat, m ≤ ny ∧ g = ny - m ∧ iv = .int .i64 (m : Int) ∧ Hid (PlanInv w wy wr (y.take m)))
 case atStart => exact ⟨0, by omega, rfl, rfl, by rw [List.take_zero]; exact INV⟩
 case round =>
  clear INV
  obtain ⟨m, hm, hg, rfl, INV⟩ := hrel
  have HG := hid hg
  clear hg
  by_cases hlt : m < ny
  ·obtain ⟨wr0, hwr0⟩ : ∃ X, X = wr := ⟨_, rfl⟩
   subst hwr0
   obtain ⟨ad, z, rfl, hz, hc⟩ := Y6x INV.out OY.out LB.out (m := m) (by have := LY.out; omega)
   have TS := hid (Y2e hz)
   have TL := hid (Y4K hz)
   have IZ := hid (Z2N UY.out z (List.mem_of_getElem? hz))
   have hw2 : IntKind.i64.wrap ((m:Int) + 1) = (m : Int) + 1 := IntWalk.i64_in _ (by have := NB.out; omega)
   obtain ⟨X, hX⟩ : ∃ X, X = y.take m := ⟨_, rfl⟩
   have LX : Hid (X.length ≤ m) := hid (by rw [hX, List.length_take]; omega)
   rw [← hX] at INV TS TL
   clear hz hX
   obtain ⟨⟨k, nn, r, s, p⟩, Ar, cr, As, cs, Ap, cp⟩ := z
   obtain ⟨r0, r1, r2, r3, r4⟩ := Z0o hc
   clear hc
   have yx := Z0b wr0 (.cells #[.int .u8 k, .int .i64 nn, .slice Ar r.length cr, .slice As s.length cs, .slice Ap p.length cp] 50)
   have hbx := heap_alloc_new wr0 (.cells #[.int .u8 k, .int .i64 nn, .slice Ar r.length cr, .slice As s.length cs, .slice Ap p.length cp] 50)
   have HS5 := hid INV.out.size_
   have HBX := hid hbx
   have YX := hid yx
   clear hbx yx
   by_cases hk2 : k = 2
   ·subst hk2
    go_wp2_with (fail)
    generalize hwB : wr0.alloc (.cells #[.int .u8 2, .int .i64 nn, .slice Ar r.length cr, .slice As s.length cs, .slice Ap p.length cp] 50) = wB at *
    obtain ⟨kvI, A0, n0, c0, mI, eV, eO, NX⟩ := INV.out.push (z := (⟨⟨2, nn, r, s, p⟩, Ar, cr, As, cs, Ap, cp⟩ : OpS)) rfl
    obtain ⟨N, hN⟩ : ∃ N, Z0u X = N := ⟨_, rfl⟩
    rw [hN] at eV eO NX
    have hC := INV.out.cells
    rw [hN] at hC
    have LI : Hid ((Z1n X N).length ≤ 1000000) := hid (Nat.le_trans (Z27 X N) (by have := LX.out; have := NB.out; omega))
    have opq : ∀ {W : World}, W.heap[w.heap.size + 4]? = wr0.heap[w.heap.size + 4]? → W.heap[wr0.heap.size]? = wB.heap[wr0.heap.size]? → W.cell? ⟨w.heap.size + 4, 0, none⟩ = some (.int .i64 (N : Int)) ∧ W.cell? ⟨w.heap.size + 4, 1, none⟩ = some (.map (some (w.heap.size + 1))) ∧ W.cell? ⟨wr0.heap.size, 0, none⟩ = some (.int .u8 2) ∧ W.cell? ⟨wr0.heap.size, 1, none⟩ = some (.int .i64 nn) ∧ W.cell? ⟨wr0.heap.size, 2, none⟩ = some (.slice Ar r.length cr) ∧ W.cell? ⟨wr0.heap.size, 3, none⟩ = some (.slice As s.length cs) ∧ W.cell? ⟨wr0.heap.size, 4, none⟩ = some (.slice Ap p.length cp) := fun {W} e1 e2 => by
     refine ⟨?_, ?_, Z3E (e2.trans HBX.out)⟩
     ·have := hC.1; simp only [World.cell?] at this ⊢; rw [e1]; exact this
     ·have := hC.2.1; simp only [World.cell?] at this ⊢; rw [e1]; exact this
    have opb : ∀ {W : World}, Below wB.heap.size wB W → W.cell? ⟨w.heap.size + 4, 0, none⟩ = some (.int .i64 (N : Int)) ∧ W.cell? ⟨w.heap.size + 4, 1, none⟩ = some (.map (some (w.heap.size + 1))) ∧ W.cell? ⟨wr0.heap.size, 0, none⟩ = some (.int .u8 2) ∧ W.cell? ⟨wr0.heap.size, 1, none⟩ = some (.int .i64 nn) ∧ W.cell? ⟨wr0.heap.size, 2, none⟩ = some (.slice Ar r.length cr) ∧ W.cell? ⟨wr0.heap.size, 3, none⟩ = some (.slice As s.length cs) ∧ W.cell? ⟨wr0.heap.size, 4, none⟩ = some (.slice Ap p.length cp) := fun {W} b => opq ((b.block _ (by have := YX.out.size; have := HS5.out; omega)).trans (YX.out.block _ (by have := HS5.out; omega))) (b.block _ (Z0c HBX.out))
    have nxt : ∀ {wa w5 : World}, wa.grownBy w5 (wb (.slice A0 n0 c0)) → Below wB.heap.size wB wa → (w5.cell? ⟨w.heap.size + 4, 0, none⟩ = some (.int .i64 (N : Int)) ∧ w5.cell? ⟨w.heap.size + 4, 1, none⟩ = some (.map (some (w.heap.size + 1))) ∧ w5.cell? ⟨wr0.heap.size, 0, none⟩ = some (.int .u8 2) ∧ w5.cell? ⟨wr0.heap.size, 1, none⟩ = some (.int .i64 nn) ∧ w5.cell? ⟨wr0.heap.size, 2, none⟩ = some (.slice Ar r.length cr) ∧ w5.cell? ⟨wr0.heap.size, 3, none⟩ = some (.slice As s.length cs) ∧ w5.cell? ⟨wr0.heap.size, 4, none⟩ = some (.slice Ap p.length cp)) ∧ MapV w5 (w.heap.size + 1) kvI ∧ w5.heap[w.heap.size + 4]? = wr0.heap[w.heap.size + 4]? ∧ w5.heap[wr0.heap.size]? = wB.heap[wr0.heap.size]? := fun {wa w5} hg b => by
     have hne : ∀ k, wb (.slice A0 n0 c0) = some k → w.heap.size + 5 ≤ k ∧ k < wr0.heap.size := fun k hk => by
      have h1 := eO.wb_lt k hk
      have h2 := INV.out.2.1
      exact ⟨by omega, h1.2⟩
     have hsz := b.size
     have hsz2 := YX.out.size
     have hs5 := HS5.out
     have hbl := Z0c HBX.out
     have q4 : w5.heap[w.heap.size + 4]? = wr0.heap[w.heap.size + 4]? := (hg.block _ (by omega) (fun e => by have := hne _ e.symm; omega)).trans ((b.block _ (by omega)).trans (YX.out.block _ (by omega)))
     have qb : w5.heap[wr0.heap.size]? = wB.heap[wr0.heap.size]? := (hg.block _ (by omega) (fun e => by have := hne _ e.symm; omega)).trans (b.block _ hbl)
     exact ⟨opq q4 qb, mI.keep ((hg.block _ (by omega) (fun e => by have := hne _ e.symm; omega)).trans ((b.block _ (by omega)).trans (YX.out.block _ (by omega)))), q4, qb⟩
    have YW : Hid (Below wB.heap.size wB wB.drew) := hid (Z0j (Below.refl _ _))
    have YB : Hid (Below wB.heap.size wB wB) := hid (Below.refl _ _)
    have BL : Hid (wy.heap.size ≤ wB.heap.size) := hid (Nat.le_trans INV.out.2.2.1 YX.out.size)
    have MI := hid mI
    have EV := hid eV
    have EO := hid eO
    have NXH := hid NX
    clear mI eV eO NX hC
    have Cw := opb YB.out
    have hl1 := (MI.out.ext (Z0a YX.out YW.out)).look Tryz.mpOps Tryz.zeroOps (N : Int)
    have hl2 := (MI.out.ext (Z0a YX.out (Z0a (Z0b wB (.cells #[.int .u8 2, .int .i64 nn, .slice Ar r.length cr, .slice As s.length cs, .slice Ap p.length cp] 50)) (Z0j (Below.refl _ _))))).look Tryz.mpOps Tryz.zeroOps (N : Int)
    rw [EV.out] at hl1 hl2
    go_region_held_law (fun w' => w'.cell? ⟨w.heap.size + 4, 0, none⟩ = some (.int .i64 (N : Int)) ∧ w'.cell? ⟨w.heap.size + 4, 1, none⟩ = some (.map (some (w.heap.size + 1))) ∧ w'.cell? ⟨wr0.heap.size, 0, none⟩ = some (.int .u8 2) ∧ w'.cell? ⟨wr0.heap.size, 1, none⟩ = some (.int .i64 nn) ∧ w'.cell? ⟨wr0.heap.size, 2, none⟩ = some (.slice Ar r.length cr) ∧ w'.cell? ⟨wr0.heap.size, 3, none⟩ = some (.slice As s.length cs) ∧ w'.cell? ⟨wr0.heap.size, 4, none⟩ = some (.slice Ap p.length cp)) (first | exact C7 | exact C9 | exact opb (by repeat (first | exact YW.out | exact YB.out | refine Z0a ?_ (Z0b _ _) | refine Z0j ?_))) (first
     | (refine Z2k (l := Z1n X N) (m := [(⟨⟨2, nn, r, s, p⟩, Ar, cr, As, cs, Ap, cp⟩ : OpS)]) rfl (.tmp 35) (.tmp 37) (by rfl) (by rfl) (EO.out.below (Z0a YX.out (by repeat (first | exact YW.out | exact YB.out | refine Z0a ?_ (Z0b _ _) | refine Z0j ?_))) (Nat.le_refl _)) _ _ 1 1 (by rfl) rfl (Z1s (enc := OpS.enc) (size := 5) _ _ (⟨⟨2, nn, r, s, p⟩, Ar, cr, As, cs, Ap, cp⟩ : OpS) rfl (by simp)) (by have := LI.out; simp only [List.length_singleton]; omega) (by have h1 := BL.out; simp; omega) ?_
        intro v5 w5 ho5 hg5 hv5
        have h9 := nxt hg5 (by repeat (first | exact YW.out | exact YB.out | refine Z0a ?_ (Z0b _ _) | refine Z0j ?_))
        have C9 := h9.1
        have M5 := hid h9.2.1
        obtain ⟨w7, hrun, g1, g2, g3, g4, g5, g6⟩ := M5.out.store Tryz.mpOps (N : Int) v5
        have IV9 := hid (NXH.out _ w5 v5 w7 (Z0a YX.out (by repeat (first | exact YW.out | exact YB.out | refine Z0a ?_ (Z0b _ _) | refine Z0j ?_))) ho5 hg5 hv5 g1 g2 g3 g4 g5 g6)
        have C7 := opq ((g2 _ (by omega)).trans h9.2.2.1) ((g2 _ (by have := HS5.out; omega)).trans h9.2.2.2)
        clear h9 ho5 hg5 hv5 g1 g2 g3 g4 g5 g6))
    all_goals
     go_wp2_with (fail)
     go_roundg (ny - (m + 1))
    all_goals first
     | (have := HG.out; omega)
     | (exact ⟨m + 1, by omega, rfl, by go_num, by rw [TS.out]; exact IV9⟩)
   ·have hkb : (k == 2) = false := beq_eq_false_iff_ne.2 hk2
    have IV1 := hid ((INV.out.zero (z := (⟨⟨k, nn, r, s, p⟩, Ar, cr, As, cs, Ap, cp⟩ : OpS)) hk2).ext YX.out)
    have NN : Hid (1 ≤ nn ∧ Z0u X + nn.toNat ≤ 536870912) := hid (by
     have h1 := TL.out
     have h2 := TY.out
     rw [if_neg (show ¬ (⟨⟨k, nn, r, s, p⟩, Ar, cr, As, cs, Ap, cp⟩ : OpS).o.k = 2 from hk2)] at h1
     replace h1 : Z0u X + nn.toNat ≤ Z0u y := h1
     refine ⟨?_, by omega⟩
     rcases IZ.out with ⟨h3, _⟩ | ⟨_, h3, _⟩ | ⟨_, h3, _⟩
     ·exact absurd h3 hk2
     ·exact h3
     ·exact h3)
    go_wp2_with (fail)
    generalize hwB : wr0.alloc (.cells #[.int .u8 k, .int .i64 nn, .slice Ar r.length cr, .slice As s.length cs, .slice Ap p.length cp] 50) = wB at *
    clear r0 r1 r2 r3 r4 INV
    go_loopg [7] nn.toNat (fun g iv wi => ∃ q : Nat, q ≤ nn.toNat ∧ g = nn.toNat - q ∧ iv = .int .i64 (q : Int) ∧ Hid (PlanInv w wy wi (X ++ [zk (⟨⟨k, nn, r, s, p⟩, Ar, cr, As, cs, Ap, cp⟩ : OpS) q])) ∧ Hid (wi.heap[wr0.heap.size]? = some (.cells #[.int .u8 k, .int .i64 nn, .slice Ar r.length cr, .slice As s.length cs, .slice Ap p.length cp] 50 (0, 0))))
    case atStart => exact ⟨0, by omega, rfl, rfl, IV1, HBX⟩
    case round =>
     clear IV1 HBX YX
     obtain ⟨q, hq, hg2, rfl, IV, HB⟩ := hrel
     have HG2 := hid hg2
     clear hg2
     obtain ⟨b0, b1, b2, b3, b4⟩ := Z3E HB.out
     by_cases hlq : (q : Int) < nn
     ·obtain ⟨N, hN⟩ : ∃ N, Z0u X + q = N := ⟨_, rfl⟩
      have HP4 : Hid (wr.heap[w.heap.size + 4]? = some (.cells (Z4g w.heap.size N) 161 (0, 0))) := hid (by have h := IV.out.2.2.2.2.2.1; rw [Z3i hk2, hN] at h; exact h)
      obtain ⟨c0, c1, c2, c3⟩ := Z3X HP4.out
      have hcast : ((N + 1 : Nat) : Int) = (N : Int) + 1 := by omega
      have hw3 : IntKind.i64.wrap ((q:Int) + 1) = (q : Int) + 1 := IntWalk.i64_in _ (by have := NN.out; omega)
      have hw4 : IntKind.i64.wrap ((N:Int) + 1) = (N : Int) + 1 := IntWalk.i64_in _ (by have := NN.out; omega)
      by_cases hk3 : k = 3
      ·subst hk3
       obtain ⟨kv, MV, NX⟩ := IV.out.gone (z := (⟨⟨3, nn, r, s, p⟩, Ar, cr, As, cs, Ap, cp⟩ : OpS)) rfl
       rw [hN] at NX
       have MVH := hid MV
       have NXH := hid NX
       clear MV NX
       go_wp2_with (at_mapUpdate; refine Z6u rfl rfl _ _ _ rfl (N : Int) rfl rfl rfl Tryz.mpNum MVH.out ?_; intro w1 g1 g2 g3 g4 g5 g6; have e4 := (g2 (w.heap.size + 4) (by omega)).trans HP4.out; have hth := Z0g e4 0; obtain ⟨d0, d1, d2, d3⟩ := Z3X e4; have IV2 := hid (NXH.out w1 g1 g2 g3 g4 g5 g6); have HB2 := hid ((g2 wr0.heap.size (by have := HS5.out; omega)).trans HB.out); clear g1 g2 g3 g4 g5 g6 e4)
       rw [hcast] at IV2
       go_roundg (nn.toNat - (q + 1))
       case measure => have := HG2.out; omega
       case rel => exact ⟨q + 1, by omega, rfl, by go_num, IV2, hid ((Below.heap_setCell w1 ⟨w.heap.size + 4, 0, none⟩ _ wr0.heap.size (by show wr0.heap.size ≠ w.heap.size + 4; have := HS5.out; omega)).trans HB2.out)⟩
      ·have hkc : (k == 3) = false := beq_eq_false_iff_ne.2 hk3
       obtain ⟨kv, MV, NX⟩ := IV.out.pat hk2 hk3
       rw [hN] at NX
       have MVH := hid MV
       have NXH := hid NX
       clear MV NX
       go_wp2_with (at_mapUpdate; refine Z6u rfl rfl _ _ _ rfl (N : Int) rfl rfl rfl Tryz.mpChs MVH.out ?_; intro w1 g1 g2 g3 g4 g5 g6; have e4 := (g2 (w.heap.size + 4) (by omega)).trans HP4.out; have hth := Z0g e4 0; obtain ⟨d0, d1, d2, d3⟩ := Z3X e4; have IV2 := hid (NXH.out w1 g1 g2 g3 g4 g5 g6); have HB2 := hid ((g2 wr0.heap.size (by have := HS5.out; omega)).trans HB.out); clear g1 g2 g3 g4 g5 g6 e4)
       rw [hcast] at IV2
       go_roundg (nn.toNat - (q + 1))
       case measure => have := HG2.out; omega
       case rel => exact ⟨q + 1, by omega, rfl, by go_num, IV2, hid ((Below.heap_setCell w1 ⟨w.heap.size + 4, 0, none⟩ _ wr0.heap.size (by show wr0.heap.size ≠ w.heap.size + 4; have := HS5.out; omega)).trans HB2.out)⟩
     ·have hqn : q = nn.toNat := by omega
      have IV9 : Hid (PlanInv w wy wr (X ++ [(⟨⟨k, nn, r, s, p⟩, Ar, cr, As, cs, Ap, cp⟩ : OpS)])) := hid (by
       have h := IV.out
       rw [hqn, Y6w (z := (⟨⟨k, nn, r, s, p⟩, Ar, cr, As, cs, Ap, cp⟩ : OpS)) (by have := NN.out; show 0 ≤ nn; omega)] at h
       exact h)
      clear IV hqn
      go_wp2_with (fail)
      go_roundg (ny - (m + 1))
      case measure => have := HG.out; omega
      case rel => exact ⟨m + 1, by omega, rfl, by go_num, by rw [TS.out]; exact IV9⟩
  ·have hmn : y.take m = y := List.take_of_length_le (by have := LY.out; omega)
   rw [hmn] at INV
   obtain ⟨N, hN⟩ : ∃ N, N = Z0u y := ⟨_, rfl⟩
   have HN := hid hN
   have HP4 : Hid (wr.heap[w.heap.size + 4]? = some (.cells (Z4g w.heap.size N) 161 (0, 0))) := hid (by rw [hN]; exact INV.out.2.2.2.2.2.1)
   have HP0 : Hid (wr.heap[w.heap.size]? = some (.cells Z6H 161 (0, 0))) := hid INV.out.2.2.2.2.1
   obtain ⟨c0, c1, c2, c3⟩ := Z3X HP4.out
   have h0 := HP0.out
   unfold Z6H at h0
   obtain ⟨z0, z1, z2, z3⟩ := Z37 h0
   have f0 := Z0g h0 0
   have f1 := Z0g h0 1
   have f2 := Z0g h0 2
   have f3 := Z0g h0 3
   clear h0 hmn hN
   go_wp2_with (fail)
   obtain ⟨W, hW⟩ : ∃ X, X = ((((wr.setCell ⟨w.heap.size, 0, none⟩ (.int .i64 (N : Int))).setCell ⟨w.heap.size, 1, none⟩ (.map (some (w.heap.size + 1)))).setCell ⟨w.heap.size, 2, none⟩ (.map (some (w.heap.size + 2)))).setCell ⟨w.heap.size, 3, none⟩ (.map (some (w.heap.size + 3)))) := ⟨_, rfl⟩
   have q1 : W.heap[w.heap.size]? = some (.cells (Z4g w.heap.size N) 161 (0, 0)) := by
    have h1 := Z0i (j := 0) HP0.out (.int .i64 (N : Int))
    have h2 := Z0i (j := 1) h1 (.map (some (w.heap.size + 1)))
    have h3 := Z0i (j := 2) h2 (.map (some (w.heap.size + 2)))
    have h4 := Z0i (j := 3) h3 (.map (some (w.heap.size + 3)))
    rw [hW]
    simpa [Z6H, Z4g] using h4
   have hs : ∀ j, j ≠ w.heap.size → W.heap[j]? = wr.heap[j]? := fun j hj => by
    rw [hW]
    exact (Below.heap_setCell _ ⟨w.heap.size, 3, none⟩ _ j hj).trans ((Below.heap_setCell _ ⟨w.heap.size, 2, none⟩ _ j hj).trans ((Below.heap_setCell _ ⟨w.heap.size, 1, none⟩ _ j hj).trans (Below.heap_setCell _ ⟨w.heap.size, 0, none⟩ _ j hj)))
   have hb : Below 0 wr W := by
    rw [hW]
    exact (((Below.setCell (Below.refl 0 wr) (p := ⟨w.heap.size, 0, none⟩) (Nat.zero_le _) _).setCell (p := ⟨w.heap.size, 1, none⟩) (Nat.zero_le _) _).setCell (p := ⟨w.heap.size, 2, none⟩) (Nat.zero_le _) _).setCell (p := ⟨w.heap.size, 3, none⟩) (Nat.zero_le _) _
   have hsz : W.heap.size = wr.heap.size := by rw [hW]; simp [World.setCell]
   obtain ⟨p1, p2, p3, p4⟩ := INV.out.fin hs hsz hb.os hb.tape hb.output OY.out PY.out LB.out
   obtain ⟨h1, h2⟩ := Z9f UM.out HT.out HO.out HBB.out (by have := HSZ.out; omega) (by omega)
   obtain ⟨c1', c2'⟩ := Z3f p3
   have OC : OpsC W Ay y.length cy y := ⟨⟨Z9g p3 p4, rfl, h1, by have := NY.out; omega⟩, c1', c2', fun z hz => by obtain ⟨g, hg⟩ := p4 z hz; exact Z7I hg⟩
   rw [hW] at q1 p1 p2 OC
   refine bodyPost_ret (results_cell_row (P := Tryz.prog) rfl _ _ w.heap.size 161 (Z4g w.heap.size N) (0, 0) _ rfl q1 Tryz.unPlan rfl Tryz.szPlan) rfl ?_
   exact ⟨_, _, _, Ay, cy, y, by rw [HN.out]; rfl, UY.out, OC, p1, p2⟩
open Go.RowKit
theorem Y6y {a : Bool} {P Q : Prop} (h : a = true ∧ P ∨ a = false ∧ Q) (ha : a = true) : P := by
 rcases h with ⟨_, h⟩ | ⟨h, _⟩
 ·exact h
 ·rw [ha] at h; cases h
theorem or_no {a : Bool} {P Q : Prop} (h : a = true ∧ P ∨ a = false ∧ Q) (ha : a = false) : Q := by
 rcases h with ⟨h, _⟩ | ⟨_, h⟩
 ·rw [ha] at h; cases h
 ·exact h
theorem Z9s {α : Type} {p : α → Bool} {s : List α} {m : Nat} {x : α} {r R : List α} (hd : s.drop m = x :: s.drop (m + 1)) (h : r ++ (s.drop m).filter p = R) :
 p x = true ∧ (r ++ [x]) ++ (s.drop (m + 1)).filter p = R ∨ p x = false ∧ r ++ (s.drop (m + 1)).filter p = R := by
 rw [hd, List.filter_cons] at h
 cases hp : p x with
 | true => rw [hp, if_pos rfl] at h; exact .inl ⟨rfl, by rw [← h]; simp⟩
 | false => rw [hp] at h; simp only [Bool.false_eq_true, if_false] at h; exact .inr ⟨rfl, h⟩
theorem Z4M (key : Int) (A : Option Addr) (n c : Nat) (l : List At) (w : World) (hn : n = l.length) (h : RdAt w w.heap.size A l) (hb : n ≤ 100000000) :
 Calls Tryz.prog 64 #[.slice A n c, .int .i64 key] w (Z83 (l.filter (fun a => !(a.key == key))) w) := by
 have N := hid hn
 obtain ⟨R, hR⟩ : ∃ X, l.filter (fun a => !(a.key == key)) = X := ⟨_, rfl⟩
 have HR := hid hR
 rw [hR]
 clear hn hR
 go_enter Tryz.func64, Tryz.ntmps64
 go_wp2_with (fail)
 go_loopg [5, 6] n (fun g ov iv wr => ∃ (m : Nat) (r : List At), m ≤ n ∧ g = n - m ∧ iv = .int .i64 (m : Int) ∧ OwAt wr w.heap.size ov r ∧ r.length ≤ m ∧ Below w.heap.size w wr ∧ Hid (r ++ (l.drop m).filter (fun a => !(a.key == key)) = R))
 case atStart => exact ⟨0, [], by omega, rfl, rfl, Ow.nil _ _, by simp, Below.refl _ _, hid (by simpa using HR.out)⟩
 case round =>
  obtain ⟨m, r, hm, hg, rfl, hown, hrl, y, HI⟩ := hrel
  have HG := hid hg
  clear hg HR
  by_cases hlt : m < n
  ·obtain ⟨ad, x, rfl, hd1, hx1, hc0⟩ := (h.ext y).elIn (i := m) (by have := N.out; omega)
   have hst := Z9s hd1 HI.out
   obtain ⟨x1, x2, x3, x4, x5⟩ := x
   have CX := hid hc0
   obtain ⟨r0, r1, r2, r3, r4⟩ := Z0P CX.out.2
   have HST := hid hst
   have hw2 : IntKind.i64.wrap ((m:Int) + 1) = (m : Int) + 1 := IntWalk.i64_in _ (by omega)
   clear hst hc0 hd1 hx1 HI
   by_cases hk : x1 = key
   ·have hk2 : (x1 == key) = true := beq_iff_eq.2 hk
    have hk3 : (x1 != key) = false := by rw [bne, hk2]; rfl
    have HN : Hid (r ++ (l.drop (m + 1)).filter (fun a => !(a.key == key)) = R) := hid (or_no HST.out (by simp [hk]))
    clear hk
    go_wp2_with (fail)
    go_roundg (n - (m + 1))
    case measure => have := HG.out; omega
    case rel => exact ⟨m + 1, r, by omega, rfl, by go_num, by first | exact hown | exact hown.drewN _, by omega, by first | exact y | exact Z0t y _, HN⟩
   ·have hk2 : (x1 == key) = false := beq_eq_false_iff_ne.2 hk
    have hk3 : (x1 != key) = true := by rw [bne, hk2]; rfl
    have HN : Hid ((r ++ [⟨x1, ⟨x2, x3, x4, x5⟩⟩]) ++ (l.drop (m + 1)).filter (fun a => !(a.key == key)) = R) := hid (Y6y HST.out (by simp [hk2]))
    clear hk
    go_wp2_with ((at_builtin; refine Z2S (m := [⟨x1, ⟨x2, x3, x4, x5⟩⟩]) rfl (.tmp 20) (.tmp 25) rfl rfl (by first | exact (hown.drewN _).alloc _ | exact hown.alloc _) _ _ 1 1 rfl rfl (by first | exact Z1E _ _ _ rfl | exact Z1s (enc := At.enc) (size := 5) (w3.alloc _) _ ⟨x1, ⟨x2, x3, x4, x5⟩⟩ rfl (by rw [World.size_alloc])) (by simp only [List.length_singleton]; omega) (by exact Nat.le_trans y.size (Z0J _ _)) ?_; intro v' w' hown' hgr hv'))
    have s1 := Z0K (by first | exact (Z0t y _).alloc y.size _ | exact y.alloc y.size _) (by exact Nat.le_trans y.size (Z0J _ _)) (by first | exact (hown.drewN _).alloc _ | exact hown.alloc _) (Nat.le_refl _) hgr
    go_roundg (n - (m + 1))
    case measure => have := HG.out; omega
    case rel => exact ⟨m + 1, r ++ [⟨x1, ⟨x2, x3, x4, x5⟩⟩], by omega, rfl, by go_num, hown', by simp; omega, s1, HN⟩
  ·have hR : r = R := by
    have h := HI.out
    rw [List.drop_eq_nil_of_le (by have := N.out; omega)] at h
    simpa using h
   subst hR
   obtain ⟨A', c', rfl, _, _⟩ := hown.form
   have HOW := hid hown
   clear hown
   go_wp2_with (fail)
   go_ret
   exact ⟨A', c', rfl, HOW.out, y⟩
def insW (a : At) : List At → List At
 | [] => [a]
 | x :: t => if a.key < x.key then a :: x :: t else x :: insW a t
theorem Y0C (a : At) : ∀ s : List At, (insW a s).length = s.length + 1
 | [] => rfl
 | x :: t => by unfold insW; split <;> simp [Y0C a t]
theorem Y3h {a x : At} {t : List At} (h : a.key < x.key) : insW a (x :: t) = a :: x :: t := by rw [insW, if_pos h]
theorem Y3i {a x : At} {t : List At} (h : ¬ a.key < x.key) : insW a (x :: t) = x :: insW a t := by rw [insW, if_neg h]
theorem Y4L {s : List At} (hs : Srt At.key s) (a : At) (hn : ∀ x ∈ s, x.key ≠ a.key) : Srt At.key (insW a s) ∧ (∀ k, lk At.key (insW a s) k = if a.key = k then some a else lk At.key s k) ∧ ∀ m : Int, m < a.key → (∀ x ∈ s, m < x.key) → ∀ x ∈ insW a s, m < x.key := by
 induction s with
 | nil => exact ⟨(Z1P At.key).2 ⟨by simp, Srt.nil At.key⟩, fun k => by rw [insW, Z1b], fun m h _ x hx => by simp [insW] at hx; subst hx; exact h⟩
 | cons x t ih =>
   obtain ⟨h1, h2⟩ := (Z1P At.key).1 hs
   obtain ⟨g1, g2, g3⟩ := ih h2 (fun y hy => hn y (List.mem_cons_of_mem _ hy))
   by_cases hk : a.key < x.key
   ·rw [Y3h hk]
    refine ⟨(Z1P At.key).2 ⟨fun b hb => ?_, hs⟩, fun k => by rw [Z1b], fun m hm hl y hy => ?_⟩
    ·rcases List.mem_cons.1 hb with rfl | hb
     ·exact hk
     ·have := h1 b hb; omega
    ·rcases List.mem_cons.1 hy with rfl | hy
     ·exact hm
     ·exact hl y hy
   ·rw [Y3i hk]
    have hne := hn x (by simp)
    refine ⟨(Z1P At.key).2 ⟨fun b hb => g3 x.key (by omega) h1 b hb, g1⟩, fun k => ?_, fun m hm hl y hy => ?_⟩
    ·rw [Z1b, Z1b, g2 k]
     by_cases h3 : x.key = k
     ·rw [if_pos h3, if_pos h3, if_neg (by omega)]
     ·rw [if_neg h3, if_neg h3]
    ·rcases List.mem_cons.1 hy with rfl | hy
     ·exact hl y (by simp)
     ·exact g3 m hm (fun z hz => hl z (List.mem_cons_of_mem _ hz)) y hy
def Z3I (l : List At) (a : At) : List At := insW a (l.filter (fun x => !(x.key == a.key)))
theorem Y3j {l : List At} (h : Z1H l = true) (a : At) : Z3I l a = Z84 l a := by
 obtain ⟨h1, h2, _⟩ := Z9W h a
 have hs := Z1c.1 h
 obtain ⟨g1, g2, _⟩ := Y4L (hs.filter At.key (fun x => !(x.key == a.key))) a (fun x hx => by have := (List.mem_filter.1 hx).2; simpa using this)
 refine Y1W At.key g1 (Z1c.1 h1) fun k => ?_
 unfold Z3I
 rw [g2 k, h2 k, Z6c At.key hs]
 by_cases hk : a.key = k
 ·rw [if_pos hk, if_pos hk]
 ·rw [if_neg hk, if_neg hk]
  cases hl : lk At.key l k with
  | none => rfl
  | some x =>
    have := Z77 At.key hl
    have hx : ¬ x.key = a.key := by omega
    simp [Option.filter, hx]
theorem Y1u (l : List At) (a : At) : (Z3I l a).length ≤ l.length + 1 := by
 unfold Z3I
 rw [Y0C]
 have := List.length_filter_le (fun x => !(x.key == a.key)) l
 omega
def bnd (b : Bool) : Nat := if b = true then 1 else 0
theorem Y6z : bnd true = 1 := rfl
theorem Y6A : bnd false = 0 := rfl
theorem Y6B (b : Bool) : bnd b ≤ 1 := by cases b <;> decide
def Z2z (inb : Bool) (a : At) (s : List At) : List At := if inb = true then s else insW a s
theorem Y3k (a : At) (s : List At) : Z2z true a s = s := rfl
theorem Z6y (a : At) (s : List At) : Z2z false a s = insW a s := rfl
theorem Y1v (A : Option Addr) (n c : Nat) (l : List At) (a1 a2 a3 a4 : Int) (a5 : ByteArray) (w : World) (hn : n = l.length) (h : RdAt w w.heap.size A l) (hb : n ≤ 10000000) :
 Calls Tryz.prog 170 #[.slice A n c, .agg #[.int .i64 a1, .int .u8 a2, .int .i64 a3, .int .u64 a4, .string a5]] w (Z83 (Z3I l ⟨a1, ⟨a2, a3, a4, a5⟩⟩) w) := by
 have N := hid hn
 obtain ⟨R, hR⟩ : ∃ X, Z3I l ⟨a1, ⟨a2, a3, a4, a5⟩⟩ = X := ⟨_, rfl⟩
 have HR := hid hR
 rw [hR]
 have y0 := Z0b w (.cells #[.int .i64 a1, .int .u8 a2, .int .i64 a3, .int .u64 a4, .string a5] 43)
 have HBX := hid (heap_alloc_new w (.cells #[.int .i64 a1, .int .u8 a2, .int .i64 a3, .int .u64 a4, .string a5] 43))
 clear hn hR
 go_enter Tryz.func170, Tryz.ntmps170
 go_wp2_with (go_at_call 64; refine Hid.out ?_)
 refine hid ?_
 refine (Z4M a1 A n c l _ N.out (h.ext y0) (by omega)).mono ?_
 rintro e w1 ⟨A1, c1, rfl, ho, y1⟩
 have hlf : (l.filter (fun x => !(x.key == a1))).length ≤ n := by rw [N.out]; exact List.length_filter_le _ _
 have HR2 : Hid (insW ⟨a1, ⟨a2, a3, a4, a5⟩⟩ (l.filter (fun x => !(x.key == a1))) = R) := hid HR.out
 generalize l.filter (fun x => !(x.key == a1)) = s at *
 obtain ⟨k, hk⟩ : ∃ k, k = s.length := ⟨_, rfl⟩
 rw [← hk] at ho hlf ⊢
 have K := hid hk
 have rs := ho.rd At.enc_len
 have HBX := hid ((y1.block _ (Z0c HBX.out)).trans HBX.out)
 have y := Z0a y0 y1
 clear ho hk HR y0 y1
 go_wp2_with (fail)
 go_loopg [6, 7, 8] k (fun g ov bv iv wr => ∃ (m : Nat) (r : List At) (inb : Bool), m ≤ k ∧ g = k - m ∧ bv = .bool inb ∧ iv = .int .i64 (m : Int) ∧ OwAt wr w1.heap.size ov r ∧ r.length ≤ m + bnd inb ∧ Below w1.heap.size w1 wr ∧ Hid (r ++ Z2z inb ⟨a1, ⟨a2, a3, a4, a5⟩⟩ (s.drop m) = R))
 case atStart => exact ⟨0, [], false, by omega, rfl, rfl, rfl, Ow.nil _ _, by simp, Below.refl _ _, hid (by simpa [Z2z] using HR2.out)⟩
 case round =>
  obtain ⟨m, r, inb, hm, hg, rfl, rfl, hown, hrl, yr, HI⟩ := hrel
  have bd := Y6B inb
  have HG := hid hg
  clear hg HR2
  have hbx := (yr.block _ (Z0c HBX.out)).trans HBX.out
  obtain ⟨b0, b1, b2, b3, b4⟩ := Z0L hbx
  have HB2 := hid hbx
  clear hbx
  by_cases hlt : m < k
  ·obtain ⟨ad, x, rfl, hd1, hx1, hc0⟩ := (rs.ext yr).elIn (i := m) (by have := K.out; omega)
   have hst := HI.out
   rw [hd1] at hst
   obtain ⟨x1, x2, x3, x4, x5⟩ := x
   have CX := hid hc0
   obtain ⟨r0, r1, r2, r3, r4⟩ := Z0P CX.out.2
   have HST := hid hst
   have hw2 : IntKind.i64.wrap ((m:Int) + 1) = (m : Int) + 1 := IntWalk.i64_in _ (by omega)
   have HX1 := hid hx1
   clear hst hc0 hd1 hx1 HI
   cases inb with
   | true =>
     have HN : Hid ((r ++ [⟨x1, ⟨x2, x3, x4, x5⟩⟩]) ++ Z2z true ⟨a1, ⟨a2, a3, a4, a5⟩⟩ (s.drop (m + 1)) = R) := hid (by rw [← HST.out]; simp [Z2z])
     go_wp2_with (first
      | go_quiet (fail)
      | (at_builtin; refine Z2S (m := [⟨x1, ⟨x2, x3, x4, x5⟩⟩]) rfl (.tmp 35) (.tmp 40) rfl rfl (by first | exact (hown.drewN _).alloc _ | exact hown.alloc _) _ _ 1 1 rfl rfl (by exact Z1E _ _ _ rfl) (by simp only [List.length_singleton]; omega) (by exact Nat.le_trans yr.size (Z0J _ _)) ?_; intro v' w' hown' hgr hv'))
     have s1 := Z0K (by first | exact (Z0t yr _).alloc yr.size _ | exact yr.alloc yr.size _) (by exact Nat.le_trans yr.size (Z0J _ _)) (by first | exact (hown.drewN _).alloc _ | exact hown.alloc _) (Nat.le_refl _) hgr
     go_roundg (k - (m + 1))
     case measure => have := HG.out; omega
     case rel => exact ⟨m + 1, r ++ [⟨x1, ⟨x2, x3, x4, x5⟩⟩], true, by omega, rfl, rfl, by go_num, hown', by have := Y6z; simp; omega, s1, HN⟩
   | false =>
     by_cases hk : a1 < x1
     ·have HN : Hid ((r ++ [⟨a1, ⟨a2, a3, a4, a5⟩⟩]) ++ [⟨x1, ⟨x2, x3, x4, x5⟩⟩] ++ Z2z true ⟨a1, ⟨a2, a3, a4, a5⟩⟩ (s.drop (m + 1)) = R) := hid (by rw [← HST.out, Z6y, Y3k, Y3h (a := ⟨a1, ⟨a2, a3, a4, a5⟩⟩) (x := ⟨x1, ⟨x2, x3, x4, x5⟩⟩) hk]; simp)
      go_wp2_with (first
       | go_quiet (fail)
       | (at_builtin
          refine Z2S (m := [⟨a1, ⟨a2, a3, a4, a5⟩⟩]) rfl (.tmp 31) (.tmp 33) rfl rfl (by first | exact (hown.drewN _).alloc _ | exact hown.alloc _) _ _ 1 1 rfl rfl (by exact Z1E _ _ _ rfl) (by simp only [List.length_singleton]; omega) (by exact Nat.le_trans yr.size (Z0J _ _)) ?_
          intro v' w' ho1 hgr hv'
          have s1 := Z0K (by first | exact (Z0t yr _).alloc yr.size _ | exact yr.alloc yr.size _) (by exact Nat.le_trans yr.size (Z0J _ _)) (by first | exact (hown.drewN _).alloc _ | exact hown.alloc _) (Nat.le_refl _) hgr
          obtain ⟨ad', x', hA, -, hx2, hc0⟩ := (rs.ext s1).elIn (i := m) (by have := K.out; omega)
          injection hA with hA
          subst hA
          have hx3 := HX1.out
          rw [hx2] at hx3
          injection hx3 with hx3
          subst hx3
          obtain ⟨g0, g1, g2, g3, g4⟩ := Z0P hc0.2
          clear hx2 hc0 hgr hv')
       | (at_builtin; refine Z2S (m := [⟨x1, ⟨x2, x3, x4, x5⟩⟩]) rfl (.tmp 35) (.tmp 40) rfl rfl (by first | exact (ho1.drewN _).alloc _ | exact ho1.alloc _) _ _ 1 1 rfl rfl (by exact Z1E _ _ _ rfl) (by simp only [List.length_singleton, List.length_append]; omega) (by exact Nat.le_trans s1.size (Z0J _ _)) ?_; intro v' w' hown' hgr hv'))
      have s2 := Z0K (by first | exact (Z0t s1 _).alloc s1.size _ | exact s1.alloc s1.size _) (by exact Nat.le_trans s1.size (Z0J _ _)) (by first | exact (ho1.drewN _).alloc _ | exact ho1.alloc _) (Nat.le_refl _) hgr
      go_roundg (k - (m + 1))
      case measure => have := HG.out; omega
      case rel => exact ⟨m + 1, r ++ [⟨a1, ⟨a2, a3, a4, a5⟩⟩] ++ [⟨x1, ⟨x2, x3, x4, x5⟩⟩], true, by omega, rfl, rfl, by go_num, hown', by have := Y6z; have := Y6A; simp; omega, s2, HN⟩
     ·have HN : Hid ((r ++ [⟨x1, ⟨x2, x3, x4, x5⟩⟩]) ++ Z2z false ⟨a1, ⟨a2, a3, a4, a5⟩⟩ (s.drop (m + 1)) = R) := hid (by rw [← HST.out, Z6y, Z6y, Y3i (a := ⟨a1, ⟨a2, a3, a4, a5⟩⟩) (x := ⟨x1, ⟨x2, x3, x4, x5⟩⟩) hk]; simp)
      go_wp2_with (first
       | go_quiet (fail)
       | (at_builtin; refine Z2S (m := [⟨x1, ⟨x2, x3, x4, x5⟩⟩]) rfl (.tmp 35) (.tmp 40) rfl rfl (by first | exact (hown.drewN _).alloc _ | exact hown.alloc _) _ _ 1 1 rfl rfl (by exact Z1E _ _ _ rfl) (by simp only [List.length_singleton]; omega) (by exact Nat.le_trans yr.size (Z0J _ _)) ?_; intro v' w' hown' hgr hv'))
      have s1 := Z0K (by first | exact (Z0t yr _).alloc yr.size _ | exact yr.alloc yr.size _) (by exact Nat.le_trans yr.size (Z0J _ _)) (by first | exact (hown.drewN _).alloc _ | exact hown.alloc _) (Nat.le_refl _) hgr
      go_roundg (k - (m + 1))
      case measure => have := HG.out; omega
      case rel => exact ⟨m + 1, r ++ [⟨x1, ⟨x2, x3, x4, x5⟩⟩], false, by omega, rfl, rfl, by go_num, hown', by have := Y6A; simp; omega, s1, HN⟩
  ·have HE : Hid (r ++ Z2z inb ⟨a1, ⟨a2, a3, a4, a5⟩⟩ [] = R) := hid (by have h := HI.out; rwa [List.drop_eq_nil_of_le (by have := K.out; omega)] at h)
   cases inb with
   | true =>
     have hR : r = R := by have h := HE.out; simpa [Z2z] using h
     subst hR
     obtain ⟨A', c', rfl, _, _⟩ := hown.form
     have HOW := hid (hown.base_le (B := w.heap.size) y.size)
     clear hown
     go_wp2_with (fail)
     go_ret
     exact ⟨A', c', rfl, HOW.out, Z0a y yr⟩
   | false =>
     have hR : r ++ [⟨a1, ⟨a2, a3, a4, a5⟩⟩] = R := by have h := HE.out; simpa [Z2z, insW] using h
     have HRR := hid hR
     clear hR
     go_wp2_with (first
      | go_quiet (fail)
      | (at_builtin; refine Z2S (m := [⟨a1, ⟨a2, a3, a4, a5⟩⟩]) rfl (.tmp 44) (.tmp 46) rfl rfl (by first | exact (hown.drewN _).alloc _ | exact hown.alloc _) _ _ 1 1 rfl rfl (by exact Z1E _ _ _ rfl) (by simp only [List.length_singleton]; omega) (by exact Nat.le_trans yr.size (Z0J _ _)) ?_; intro v' w' hown' hgr hv'))
     have s1 := Z0K (by first | exact (Z0t yr _).alloc yr.size _ | exact yr.alloc yr.size _) (by exact Nat.le_trans yr.size (Z0J _ _)) (by first | exact (hown.drewN _).alloc _ | exact hown.alloc _) (Nat.le_refl _) hgr
     rw [HRR.out] at hown'
     obtain ⟨A', c', rfl, _, _⟩ := hown'.form
     have HOW := hid (hown'.base_le (B := w.heap.size) y.size)
     clear hown'
     go_ret
     exact ⟨A', c', rfl, HOW.out, Z0a y s1⟩
def Z3J (o : List At) (c : Ch) : List At := if c.gone = true then o.filter (fun a => !(a.key == c.key)) else Z3I o ⟨c.key, c.v⟩
def Z36 (p : List Ch) (s : List At) : List At := p.foldl Z3J s
theorem Y4M {l : List At} (h : Z1H l = true) (c : Int) :
 Z1H (l.filter (fun a => !(a.key == c))) = true ∧ (∀ k, lk At.key (l.filter (fun a => !(a.key == c))) k = if c = k then none else lk At.key l k) := by
 have hs := Z1c.1 h
 refine ⟨Z1c.2 (hs.filter At.key _), fun k => ?_⟩
 rw [Z6c At.key hs]
 cases hl : lk At.key l k with
 | none => simp
 | some a =>
   have := Z77 At.key hl
   by_cases hc : c = k
   ·simp [hc, Option.filter, this]
   ·have : ¬ a.key = c := by omega
    simp [hc, Option.filter, this]
theorem Y1w {o : List At} (ho : Z1H o = true) (c : Ch) : Z1H (Z3J o c) = true ∧ ∀ k, lk At.key (Z3J o c) k = if c.key = k then Z2P (some c) (lk At.key o k) else lk At.key o k := by
 unfold Z3J
 by_cases hg : c.gone = true
 ·rw [if_pos hg]
  obtain ⟨h1, h2⟩ := Y4M ho c.key
  refine ⟨h1, fun k => ?_⟩
  rw [h2 k]
  split
  ·simp [Z2P, hg]
  ·rfl
 ·rw [if_neg hg, Y3j ho]
  obtain ⟨h1, h2, _⟩ := Z9W ho ⟨c.key, c.v⟩
  refine ⟨h1, fun k => ?_⟩
  rw [h2 k]
  simp [Z2P, hg]
theorem Z7j : ∀ {p : List Ch}, Srt Ch.key p → ∀ {s : List At}, Z1H s = true → Z1H (Z36 p s) = true ∧ ∀ k, lk At.key (Z36 p s) k = Z2P (lk Ch.key p k) (lk At.key s k)
 | [], _, s, hs => ⟨hs, fun k => rfl⟩
 | c :: p, hp, s, hs => by
   obtain ⟨h1, h2⟩ := (Z1P Ch.key).1 hp
   obtain ⟨a1, a2⟩ := Y1w hs c
   obtain ⟨b1, b2⟩ := Z7j h2 a1
   have e : Z36 (c :: p) s = Z36 p (Z3J s c) := rfl
   rw [e]
   refine ⟨b1, fun k => ?_⟩
   rw [b2 k, a2 k, Z1b]
   by_cases hk : c.key = k
   ·rw [if_pos hk, if_pos hk, Z1Y Ch.key (fun d hd => by have := h1 d hd; omega)]
    rfl
   ·rw [if_neg hk, if_neg hk]
theorem Y3l {p : List Ch} {s : List At} (hp : Z1W p = true) (hs : Z1H s = true) : Z36 p s = Z04 p s := by
 obtain ⟨a1, a2⟩ := Z7j (Z1d.1 hp) hs
 obtain ⟨b1, b2, _⟩ := Z1Z (Z1d.1 hp) (Z1c.1 hs)
 exact Y1W At.key (Z1c.1 a1) b1 fun k => by rw [a2 k, b2 k]
theorem Y1x (o : List At) (c : Ch) : (Z3J o c).length ≤ o.length + 1 := by
 unfold Z3J
 split
 ·exact Nat.le_succ_of_le (List.length_filter_le _ _)
 ·exact Y1u _ _
end Go.Proofs.YtfnkjcodcoehcaaGreatDoor
