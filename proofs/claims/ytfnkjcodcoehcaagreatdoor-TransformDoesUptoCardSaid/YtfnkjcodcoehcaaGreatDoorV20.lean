/- Merged texts: Planned, ComStep, TranLaw, Do19, Makes15, Ones20, Com20. -/
import Derived.Deep.RegionHeldLaw
import Derived.Test.YtfnkjcodcoehcaaGreatDoorV19
import Derived.Test.YtfnkjcodcoehcaaGreatDoorV14
import Derived.Test.YtfnkjcodcoehcaaGreatDoorV15
import Derived.Test.YtfnkjcodcoehcaaGreatDoorV11
import Derived.Test.YtfnkjcodcoehcaaGreatDoorV16
import Derived.Deep.RegionHeld3
import Derived.Laws.Rows
import Derived.Test.YtfnkjcodcoehcaaGreatDoorV10
import Derived.Test.YtfnkjcodcoehcaaGreatDoorV8
import Derived.Test.YtfnkjcodcoehcaaGreatDoorV9
import Derived.Test.YtfnkjcodcoehcaaGreatDoorV7
import Derived.Test.YtfnkjcodcoehcaaGreatDoorV12
import Derived.Test.YtfnkjcodcoehcaaGreatDoorV13
import Derived.Test.YtfnkjcodcoehcaaGreatDoorV6
import Derived.Test.YtfnkjcodcoehcaaGreatDoorV18
namespace Go.Proofs.YtfnkjcodcoehcaaGreatDoor
open Go.RowKit Go.MapKept
set_option linter.unusedVariables false
set_option linter.unusedSimpArgs false

theorem Tryz.unPlan : Tryz.prog.underlying 161 = some (.struct (Tryz.prog.fieldsOf 161)) := by kernel_rfl
theorem Tryz.szPlan : (Tryz.prog.info? 161).map (·.size) = some 4 := by kernel_rfl
def PlanOut (U : List Opd) (w : World) (e : Ending) (w' : World) : Prop :=
  ∃ bI bG bP A c y, e = .returned (.agg #[.int .i64 (takPl y : Nat), .map (some bI), .map (some bG), .map (some bP)]) ∧ osOf y = U ∧ OpsC w' A y.length c y ∧ PlanAt w' bI bG bP y ∧ Below w.heap.size w w'
theorem PlanInv.new {w wq wy : World} (h1 : Below w.heap.size w wq) (h2 : wq.heap.size = w.heap.size + 5) (h3 : wq.heap[w.heap.size]? = some (.cells planZ 161 (0, 0))) (h4 : wq.heap[w.heap.size + 4]? = some (.cells (planC w.heap.size 0) 161 (0, 0)))
    (m1 : MapV wq (w.heap.size + 1) []) (m2 : MapV wq (w.heap.size + 2) []) (m3 : MapV wq (w.heap.size + 3) []) (y : Below wq.heap.size wq wy) : PlanInv w wy wy [] :=
  ⟨h1.trans (y.mono h1.size), by rw [← h2]; exact y.size, Nat.le_refl _, fun _ _ _ => rfl, (y.block _ (by omega)).trans h3, (y.block _ (by omega)).trans h4, [], [], [], wy.heap.size, m1.ext y, m2.ext y, m3.ext y, Nat.le_refl _, PlanRows.new _ _ _, fun g => rfl, fun g => rfl⟩
theorem own_highO {w : World} {b c n : Nat} {A : Option Addr} {L : List OpS} (h : OwOs w b (.slice A n c) L) : ∀ ad, A = some ad → 0 < L.length → b ≤ ad.block := fun ad hA hn => by
  obtain ⟨g, cur, hA', _, hb, _⟩ := h.row hn
  rw [hA] at hA'; injection hA' with hA'; subst hA'; exact hb
theorem PlanInv.cells {w wy wr : World} {X : List OpS} (h : PlanInv w wy wr X) : wr.cell? ⟨w.heap.size + 4, 0, none⟩ = some (.int .i64 (takPl X : Nat)) ∧ wr.cell? ⟨w.heap.size + 4, 1, none⟩ = some (.map (some (w.heap.size + 1))) ∧ wr.cell? ⟨w.heap.size + 4, 2, none⟩ = some (.map (some (w.heap.size + 2))) ∧ wr.cell? ⟨w.heap.size + 4, 3, none⟩ = some (.map (some (w.heap.size + 3))) ∧
    wr.cell? ⟨w.heap.size, 0, none⟩ = some (.int .i64 0) ∧ wr.cell? ⟨w.heap.size, 1, none⟩ = some (.map none) ∧ wr.cell? ⟨w.heap.size, 2, none⟩ = some (.map none) ∧ wr.cell? ⟨w.heap.size, 3, none⟩ = some (.map none) := by
  obtain ⟨_, _, _, _, h4, h5, _⟩ := h
  simp [World.cell?, h4, h5, planZ, planC]
theorem plan_cells {w : World} {s N : Nat} (h : w.heap[s + 4]? = some (.cells (planC s N) 161 (0, 0))) : w.cell? ⟨s + 4, 0, none⟩ = some (.int .i64 (N : Int)) ∧ w.cell? ⟨s + 4, 1, none⟩ = some (.map (some (s + 1))) ∧ w.cell? ⟨s + 4, 2, none⟩ = some (.map (some (s + 2))) ∧ w.cell? ⟨s + 4, 3, none⟩ = some (.map (some (s + 3))) := by
  simp [World.cell?, h, planC]
theorem PlanInv.size_ {w wy wr : World} {X : List OpS} (h : PlanInv w wy wr X) : w.heap.size + 5 ≤ wr.heap.size := Nat.le_trans h.2.1 h.2.2.1
theorem el_own {w wy wr : World} {X y : List OpS} {Ay : Option Addr} {cy B m : Nat} (h : PlanInv w wy wr X) (ho : OwOs wy B (.slice Ay y.length cy) y) (hB : w.heap.size + 5 ≤ B) (hm : m < y.length) :
    ∃ ad z, Ay = some ad ∧ y[m]? = some z ∧ CellsAt wr (ad.add (m * 5)) (OpS.enc z) := by
  obtain ⟨ad, z, hA, hb, _, hz, hc⟩ := (ho.rd OpS.enc_len).el hm
  have hh := own_highO ho ad hA (by omega)
  refine ⟨ad, z, hA, hz, hc.keep fun q hq => ?_⟩
  rw [add_block] at hq
  simp only [World.cell?, h.2.2.2.1 q.block (by rw [hq]; omega) (by rw [hq]; exact hb)]
theorem plan_start (w : World) : ∀ w5, w5 = ((((w.alloc (.cells planZ 161)).alloc (.map #[] 0)).alloc (.map #[] 0)).alloc (.map #[] 0)).alloc (.cells (planC w.heap.size 0) 161) →
    Below w.heap.size w w5 ∧ w5.heap.size = w.heap.size + 5 ∧ w5.heap[w.heap.size]? = some (.cells planZ 161 (0, 0)) ∧ w5.heap[w.heap.size + 4]? = some (.cells (planC w.heap.size 0) 161 (0, 0)) ∧
    MapV w5 (w.heap.size + 1) [] ∧ MapV w5 (w.heap.size + 2) [] ∧ MapV w5 (w.heap.size + 3) [] := by
  intro w5 h
  obtain ⟨a1, h1⟩ : ∃ X, X = w.alloc (.cells planZ 161) := ⟨_, rfl⟩
  obtain ⟨a2, h2⟩ : ∃ X, X = a1.alloc (.map #[] 0) := ⟨_, rfl⟩
  obtain ⟨a3, h3⟩ : ∃ X, X = a2.alloc (.map #[] 0) := ⟨_, rfl⟩
  obtain ⟨a4, h4⟩ : ∃ X, X = a3.alloc (.map #[] 0) := ⟨_, rfl⟩
  rw [← h1, ← h2, ← h3, ← h4] at h
  have e1 : a1.heap.size = w.heap.size + 1 := by rw [h1]; simp
  have e2 : a2.heap.size = w.heap.size + 2 := by rw [h2]; simp [e1]
  have e3 : a3.heap.size = w.heap.size + 3 := by rw [h3]; simp [e2]
  have e4 : a4.heap.size = w.heap.size + 4 := by rw [h4]; simp [e3]
  have b1 : Below w.heap.size w a1 := by rw [h1]; exact ext_alloc _ _
  have b2 : Below a1.heap.size a1 a2 := by rw [h2]; exact ext_alloc _ _
  have b3 : Below a2.heap.size a2 a3 := by rw [h3]; exact ext_alloc _ _
  have b4 : Below a3.heap.size a3 a4 := by rw [h4]; exact ext_alloc _ _
  have b5 : Below a4.heap.size a4 w5 := by rw [h]; exact ext_alloc _ _
  have m1 : MapV a2 (w.heap.size + 1) [] := by rw [← e1, h2]; exact MapV.new a1
  have m2 : MapV a3 (w.heap.size + 2) [] := by rw [← e2, h3]; exact MapV.new a2
  have m3 : MapV a4 (w.heap.size + 3) [] := by rw [← e3, h4]; exact MapV.new a3
  have c0 : a1.heap[w.heap.size]? = some (.cells planZ 161 (0, 0)) := by rw [h1]; exact heap_alloc_new _ _
  have c4 : w5.heap[w.heap.size + 4]? = some (.cells (planC w.heap.size 0) 161 (0, 0)) := by rw [← e4, h]; exact heap_alloc_new _ _
  have b25 := ext_trans b3 (ext_trans b4 b5)
  exact ⟨ext_trans b1 (ext_trans b2 b25), by rw [h]; simp [e4], ((ext_trans b2 b25).block _ (by omega)).trans c0, c4, m1.ext b25, m2.ext (ext_trans b4 b5), m3.ext b5⟩
theorem takPl_append (x z : List OpS) : takPl (x ++ z) = takPl x + takPl z := by
  induction x with
  | nil => simp [takPl]
  | cons a t ih => rw [List.cons_append, takPl, takPl, ih]; omega
theorem takPl_le {y : List OpS} {m : Nat} {z : OpS} (h : y[m]? = some z) : takPl (y.take m) + (if z.o.k = 2 then 0 else z.o.n.toNat) ≤ takPl y := by
  obtain ⟨hm, he⟩ := List.getElem?_eq_some_iff.1 h
  have e : y = y.take m ++ (z :: y.drop (m + 1)) := by rw [← he, ← List.drop_eq_getElem_cons hm, List.take_append_drop]
  have := takPl_append (y.take m) (z :: y.drop (m + 1))
  rw [← e] at this
  rw [this, takPl]
  omega
theorem PlanInv.fin {w wy wr w' : World} {y : List OpS} {Ay : Option Addr} {cy B : Nat} (h : PlanInv w wy wr y) (hs : ∀ j, j ≠ w.heap.size → w'.heap[j]? = wr.heap[j]?) (s2 : w'.heap.size = wr.heap.size) (s3 : w'.os = wr.os) (s4 : w'.tape = wr.tape) (s5 : w'.output = wr.output)
    (ho : OwOs wy B (.slice Ay y.length cy) y) (hp : ∀ z ∈ y, ∃ g, PartN wy B g z) (hB : w.heap.size + 5 ≤ B) :
    PlanAt w' (w.heap.size + 1) (w.heap.size + 2) (w.heap.size + 3) y ∧ Below w.heap.size w w' ∧ OwOs w' B (.slice Ay y.length cy) y ∧ ∀ z ∈ y, ∃ g, PartN w' B g z := by
  have hk : ∀ k, B ≤ k → k < wy.heap.size → w'.heap[k]? = wy.heap[k]? := fun k a b => by rw [hs k (by omega)]; exact h.2.2.2.1 k (by omega) b
  refine ⟨?_, inv_turn (N := 0) h.1 (Nat.le_refl _) hs s2 s3 s4 s5, ho.keep fun k hw => hk k (ho.wb_lt k hw).1 (ho.wb_lt k hw).2, fun z hz => ?_⟩
  · obtain ⟨h1, h0, h2, h3, h4, h5, kI, kG, kP, lo, m1, m2, m3, m4, m5, m6, m7⟩ := h
    refine ⟨kI, kG, kP, m1.keep (hs _ (by omega)), m2.keep (hs _ (by omega)), m3.keep (hs _ (by omega)), fun g => ?_, m6, m7⟩
    obtain ⟨A, n, c, e1, e2, e3, e4, e5⟩ := m5.2 g
    have hc := e3.cap
    have e3' := e3.keep (w' := w') fun k hw => hs k (by have := (e3.wb_lt k hw).1; omega)
    exact ⟨A, n, c, e1, e2, by omega, hc.2, e3'.rd OpS.enc_len⟩
  · obtain ⟨g, ⟨a1, a2⟩, ⟨b1, b2⟩, c1, c2⟩ := hp z hz
    exact ⟨g, ⟨a1.keep fun k hw => hk k (a1.wb_lt k hw).1 (a1.wb_lt k hw).2, a2⟩, ⟨b1.keep fun k hw => hk k (b1.wb_lt k hw).1 (b1.wb_lt k hw).2, b2⟩, c1.keep fun k hw => hk k (c1.wb_lt k hw).1 (c1.wb_lt k hw).2, c2⟩
set_option maxRecDepth 100000 in
set_option maxHeartbeats 4000000 in
theorem planned_any {w : World} {A : Option Addr} {n c : Nat} {l : List Ky} {x : List OpS} (h : OpsC w A n c x) (hm : mayO l x = 0) (hz : szN x ≤ 200000) :
    Calls Tryz.prog 122 #[.slice A n c] w (PlanOut (mkU (units (osOf x))) w) := by
  obtain ⟨gx, _, _⟩ := mayO_zero hm
  obtain ⟨s1, s2⟩ := sums_units x (good_isOp gx)
  have t1 := takes_sum gx (by have := h.at_.b; have := h.at_.len; omega)
  have t2 := makes_sum gx (by have := h.at_.b; have := h.at_.len; omega)
  have t5 := units_length (us := units (osOf x))
  have hs : ∀ o ∈ x, o.o.s.length ≤ 1000000 ∧ o.o.p.length ≤ 1000000 := fun o ho => by have h := one_facts (gx o ho); have := (mayS_zero h.2.2.2.1).1; have := (mayP_zero h.2.2.2.2).1; omega
  have ht := ofM_told (osOf x) (fun o ho => by obtain ⟨z, hz, rfl⟩ := List.mem_map.1 ho; exact good_isOp gx z hz) (by omega)
  have hok : ∀ u ∈ units (osOf x), okUn u := fun u hu => by
    obtain ⟨o, ho, hu⟩ := units_mem.1 hu
    exact okUn_of (h.at_.ok o ho) u hu
  have HT := Lib.hid ht
  have HO := Lib.hid hok
  have HM := Lib.hid (told_mkU ht)
  have HTK : Hid (takesU (units (osOf x)) ≤ 536870912) := Lib.hid (by omega)
  have HBB := Lib.hid (ofM_bndN x hs)
  have HSZ := Lib.hid hz
  have HX := Lib.hid h
  have HI := Lib.hid (good_isOp gx)
  have HSS := Lib.hid hs
  have PS := Lib.hid (plan_start w _ rfl)
  clear s1 s2 t1 t2 t5 hs ht hok gx h hm hz
  have hmm := @run_makeMap Tryz.prog
  go_enter Tryz.func122, Tryz.ntmps122
  go_wp2_with (go_at_call 79; refine Hid.out ?_)
  refine Lib.hid ?_
  refine (of16_any A n c x _ HX.out.at_.len HX.out.cap (HX.out.at_.rd.ext PS.out.1) HI.out (by have := HSZ.out; omega) HSS.out).mono ?_
  rintro e wy ⟨Ay, cy, y, rfl, hoy, howy, hpy, yb⟩
  have INV : Hid (PlanInv w wy wy []) := Lib.hid (PlanInv.new PS.out.1 PS.out.2.1 PS.out.2.2.1 PS.out.2.2.2.1 PS.out.2.2.2.2.1 PS.out.2.2.2.2.2.1 PS.out.2.2.2.2.2.2 yb)
  obtain ⟨B, hB⟩ : ∃ B, B = w.heap.size + 5 := ⟨_, rfl⟩
  have OY : Hid (OwOs wy B (.slice Ay y.length cy) y) := Lib.hid (by rw [hB, ← PS.out.2.1]; exact howy)
  have PY : Hid (∀ z ∈ y, ∃ g, PartN wy B g z) := Lib.hid (by rw [hB, ← PS.out.2.1]; exact hpy)
  have LB : Hid (w.heap.size + 5 ≤ B) := Lib.hid (by rw [hB]; exact Nat.le_refl _)
  have UY : Hid (osOf y = mkU (units (osOf x))) := Lib.hid (hoy.trans HM.out)
  have UM := Lib.hid hoy
  have TY : Hid (takPl y ≤ 536870912) := Lib.hid (by rw [takPl_units, mkU_units UY.out]; exact Nat.le_trans (nf_takes _) HTK.out)
  have NY : Hid (y.length ≤ 1000000) := Lib.hid (by have := (ok_made hoy HT.out HO.out HBB.out (by have := HSZ.out; omega) (by omega)).2; have := HSZ.out; omega)
  clear hoy howy hpy yb hB PS hmm
  go_wp2_with (fail)
  obtain ⟨ny, hny⟩ : ∃ X, X = y.length := ⟨_, rfl⟩
  rw [← hny]
  have LY := Lib.hid hny
  have NB : Hid (ny ≤ 1000000) := Lib.hid (by rw [hny]; exact NY.out)
  clear hny
  go_loopg [5] ny (fun g iv wr => ∃ m : Nat, m ≤ ny ∧ g = ny - m ∧ iv = .int .i64 (m : Int) ∧ Hid (PlanInv w wy wr (y.take m)))
  case atStart => exact ⟨0, by omega, rfl, rfl, by rw [List.take_zero]; exact INV⟩
  case round =>
    clear INV
    obtain ⟨m, hm, hg, rfl, INV⟩ := hrel
    have HG := Lib.hid hg
    clear hg
    by_cases hlt : m < ny
    · obtain ⟨wr0, hwr0⟩ : ∃ X, X = wr := ⟨_, rfl⟩
      subst hwr0
      obtain ⟨ad, z, rfl, hz, hc⟩ := el_own INV.out OY.out LB.out (m := m) (by have := LY.out; omega)
      have TS := Lib.hid (take_snoc hz)
      have TL := Lib.hid (takPl_le hz)
      have IZ := Lib.hid (mkU_isOp UY.out z (List.mem_of_getElem? hz))
      have hw2 : IntKind.i64.wrap ((m:Int) + 1) = (m : Int) + 1 := IntWalk.i64_in _ (by have := NB.out; omega)
      obtain ⟨X, hX⟩ : ∃ X, X = y.take m := ⟨_, rfl⟩
      have LX : Hid (X.length ≤ m) := Lib.hid (by rw [hX, List.length_take]; omega)
      rw [← hX] at INV TS TL
      clear hz hX
      obtain ⟨⟨k, nn, r, s, p⟩, Ar, cr, As, cs, Ap, cp⟩ := z
      obtain ⟨r0, r1, r2, r3, r4⟩ := op_cells hc
      clear hc
      have yx := ext_alloc wr0 (.cells #[.int .u8 k, .int .i64 nn, .slice Ar r.length cr, .slice As s.length cs, .slice Ap p.length cp] 50)
      have hbx := heap_alloc_new wr0 (.cells #[.int .u8 k, .int .i64 nn, .slice Ar r.length cr, .slice As s.length cs, .slice Ap p.length cp] 50)
      have HS5 := Lib.hid INV.out.size_
      have HBX := Lib.hid hbx
      have YX := Lib.hid yx
      clear hbx yx
      by_cases hk2 : k = 2
      · subst hk2
        go_wp2_with (fail)
        generalize hwB : wr0.alloc (.cells #[.int .u8 2, .int .i64 nn, .slice Ar r.length cr, .slice As s.length cs, .slice Ap p.length cp] 50) = wB at *
        obtain ⟨kvI, A0, n0, c0, mI, eV, eO, NX⟩ := INV.out.push (z := (⟨⟨2, nn, r, s, p⟩, Ar, cr, As, cs, Ap, cp⟩ : OpS)) rfl
        obtain ⟨N, hN⟩ : ∃ N, takPl X = N := ⟨_, rfl⟩
        rw [hN] at eV eO NX
        have hC := INV.out.cells
        rw [hN] at hC
        have LI : Hid ((insPl X N).length ≤ 1000000) := Lib.hid (Nat.le_trans (insPl_len X N) (by have := LX.out; have := NB.out; omega))
        have opq : ∀ {W : World}, W.heap[w.heap.size + 4]? = wr0.heap[w.heap.size + 4]? → W.heap[wr0.heap.size]? = wB.heap[wr0.heap.size]? → W.cell? ⟨w.heap.size + 4, 0, none⟩ = some (.int .i64 (N : Int)) ∧ W.cell? ⟨w.heap.size + 4, 1, none⟩ = some (.map (some (w.heap.size + 1))) ∧ W.cell? ⟨wr0.heap.size, 0, none⟩ = some (.int .u8 2) ∧ W.cell? ⟨wr0.heap.size, 1, none⟩ = some (.int .i64 nn) ∧ W.cell? ⟨wr0.heap.size, 2, none⟩ = some (.slice Ar r.length cr) ∧ W.cell? ⟨wr0.heap.size, 3, none⟩ = some (.slice As s.length cs) ∧ W.cell? ⟨wr0.heap.size, 4, none⟩ = some (.slice Ap p.length cp) := fun {W} e1 e2 => by
          refine ⟨?_, ?_, box_op (e2.trans HBX.out)⟩
          · have := hC.1; simp only [World.cell?] at this ⊢; rw [e1]; exact this
          · have := hC.2.1; simp only [World.cell?] at this ⊢; rw [e1]; exact this
        have opb : ∀ {W : World}, Below wB.heap.size wB W → W.cell? ⟨w.heap.size + 4, 0, none⟩ = some (.int .i64 (N : Int)) ∧ W.cell? ⟨w.heap.size + 4, 1, none⟩ = some (.map (some (w.heap.size + 1))) ∧ W.cell? ⟨wr0.heap.size, 0, none⟩ = some (.int .u8 2) ∧ W.cell? ⟨wr0.heap.size, 1, none⟩ = some (.int .i64 nn) ∧ W.cell? ⟨wr0.heap.size, 2, none⟩ = some (.slice Ar r.length cr) ∧ W.cell? ⟨wr0.heap.size, 3, none⟩ = some (.slice As s.length cs) ∧ W.cell? ⟨wr0.heap.size, 4, none⟩ = some (.slice Ap p.length cp) := fun {W} b => opq ((b.block _ (by have := YX.out.size; have := HS5.out; omega)).trans (YX.out.block _ (by have := HS5.out; omega))) (b.block _ (lt_of_some HBX.out))
        have nxt : ∀ {wa w5 : World}, wa.grownBy w5 (wb (.slice A0 n0 c0)) → Below wB.heap.size wB wa → (w5.cell? ⟨w.heap.size + 4, 0, none⟩ = some (.int .i64 (N : Int)) ∧ w5.cell? ⟨w.heap.size + 4, 1, none⟩ = some (.map (some (w.heap.size + 1))) ∧ w5.cell? ⟨wr0.heap.size, 0, none⟩ = some (.int .u8 2) ∧ w5.cell? ⟨wr0.heap.size, 1, none⟩ = some (.int .i64 nn) ∧ w5.cell? ⟨wr0.heap.size, 2, none⟩ = some (.slice Ar r.length cr) ∧ w5.cell? ⟨wr0.heap.size, 3, none⟩ = some (.slice As s.length cs) ∧ w5.cell? ⟨wr0.heap.size, 4, none⟩ = some (.slice Ap p.length cp)) ∧ MapV w5 (w.heap.size + 1) kvI ∧ w5.heap[w.heap.size + 4]? = wr0.heap[w.heap.size + 4]? ∧ w5.heap[wr0.heap.size]? = wB.heap[wr0.heap.size]? := fun {wa w5} hg b => by
          have hne : ∀ k, wb (.slice A0 n0 c0) = some k → w.heap.size + 5 ≤ k ∧ k < wr0.heap.size := fun k hk => by
            have h1 := eO.wb_lt k hk
            have h2 := INV.out.2.1
            exact ⟨by omega, h1.2⟩
          have hsz := b.size
          have hsz2 := YX.out.size
          have hs5 := HS5.out
          have hbl := lt_of_some HBX.out
          have q4 : w5.heap[w.heap.size + 4]? = wr0.heap[w.heap.size + 4]? := (hg.block _ (by omega) (fun e => by have := hne _ e.symm; omega)).trans ((b.block _ (by omega)).trans (YX.out.block _ (by omega)))
          have qb : w5.heap[wr0.heap.size]? = wB.heap[wr0.heap.size]? := (hg.block _ (by omega) (fun e => by have := hne _ e.symm; omega)).trans (b.block _ hbl)
          exact ⟨opq q4 qb, mI.keep ((hg.block _ (by omega) (fun e => by have := hne _ e.symm; omega)).trans ((b.block _ (by omega)).trans (YX.out.block _ (by omega)))), q4, qb⟩
        have YW : Hid (Below wB.heap.size wB wB.drew) := Lib.hid (up_drew (Below.refl _ _))
        have YB : Hid (Below wB.heap.size wB wB) := Lib.hid (Below.refl _ _)
        have BL : Hid (wy.heap.size ≤ wB.heap.size) := Lib.hid (Nat.le_trans INV.out.2.2.1 YX.out.size)
        have MI := Lib.hid mI
        have EV := Lib.hid eV
        have EO := Lib.hid eO
        have NXH := Lib.hid NX
        clear mI eV eO NX hC
        have Cw := opb YB.out
        have hl1 := (MI.out.ext (ext_trans YX.out YW.out)).look Tryz.mpOps Tryz.zeroOps (N : Int)
        have hl2 := (MI.out.ext (ext_trans YX.out (ext_trans (ext_alloc wB (.cells #[.int .u8 2, .int .i64 nn, .slice Ar r.length cr, .slice As s.length cs, .slice Ap p.length cp] 50)) (up_drew (Below.refl _ _))))).look Tryz.mpOps Tryz.zeroOps (N : Int)
        rw [EV.out] at hl1 hl2
        go_region_held_law (fun w' => w'.cell? ⟨w.heap.size + 4, 0, none⟩ = some (.int .i64 (N : Int)) ∧ w'.cell? ⟨w.heap.size + 4, 1, none⟩ = some (.map (some (w.heap.size + 1))) ∧ w'.cell? ⟨wr0.heap.size, 0, none⟩ = some (.int .u8 2) ∧ w'.cell? ⟨wr0.heap.size, 1, none⟩ = some (.int .i64 nn) ∧ w'.cell? ⟨wr0.heap.size, 2, none⟩ = some (.slice Ar r.length cr) ∧ w'.cell? ⟨wr0.heap.size, 3, none⟩ = some (.slice As s.length cs) ∧ w'.cell? ⟨wr0.heap.size, 4, none⟩ = some (.slice Ap p.length cp)) (first | exact C7 | exact C9 | exact opb (by repeat (first | exact YW.out | exact YB.out | refine ext_trans ?_ (ext_alloc _ _) | refine up_drew ?_))) (first
          | (refine step_os (l := insPl X N) (m := [(⟨⟨2, nn, r, s, p⟩, Ar, cr, As, cs, Ap, cp⟩ : OpS)]) rfl (.tmp 35) (.tmp 37) (by rfl) (by rfl) (EO.out.below (ext_trans YX.out (by repeat (first | exact YW.out | exact YB.out | refine ext_trans ?_ (ext_alloc _ _) | refine up_drew ?_))) (Nat.le_refl _)) _ _ 1 1 (by rfl) rfl (rd_one_at (enc := OpS.enc) (size := 5) _ _ (⟨⟨2, nn, r, s, p⟩, Ar, cr, As, cs, Ap, cp⟩ : OpS) rfl (by simp)) (by have := LI.out; simp only [List.length_singleton]; omega) (by have h1 := BL.out; simp; omega) ?_
             intro v5 w5 ho5 hg5 hv5
             have h9 := nxt hg5 (by repeat (first | exact YW.out | exact YB.out | refine ext_trans ?_ (ext_alloc _ _) | refine up_drew ?_))
             have C9 := h9.1
             have M5 := Lib.hid h9.2.1
             obtain ⟨w7, hrun, g1, g2, g3, g4, g5, g6⟩ := M5.out.store Tryz.mpOps (N : Int) v5
             have IV9 := Lib.hid (NXH.out _ w5 v5 w7 (ext_trans YX.out (by repeat (first | exact YW.out | exact YB.out | refine ext_trans ?_ (ext_alloc _ _) | refine up_drew ?_))) ho5 hg5 hv5 g1 g2 g3 g4 g5 g6)
             have C7 := opq ((g2 _ (by omega)).trans h9.2.2.1) ((g2 _ (by have := HS5.out; omega)).trans h9.2.2.2)
             clear h9 ho5 hg5 hv5 g1 g2 g3 g4 g5 g6))
        all_goals
          go_wp2_with (fail)
          go_roundg (ny - (m + 1))
        all_goals first
          | (have := HG.out; omega)
          | (exact ⟨m + 1, by omega, rfl, by go_num, by rw [TS.out]; exact IV9⟩)
      · have hkb : (k == 2) = false := beq_eq_false_iff_ne.2 hk2
        have IV1 := Lib.hid ((INV.out.zero (z := (⟨⟨k, nn, r, s, p⟩, Ar, cr, As, cs, Ap, cp⟩ : OpS)) hk2).ext YX.out)
        have NN : Hid (1 ≤ nn ∧ takPl X + nn.toNat ≤ 536870912) := Lib.hid (by
          have h1 := TL.out
          have h2 := TY.out
          rw [if_neg (show ¬ (⟨⟨k, nn, r, s, p⟩, Ar, cr, As, cs, Ap, cp⟩ : OpS).o.k = 2 from hk2)] at h1
          replace h1 : takPl X + nn.toNat ≤ takPl y := h1
          refine ⟨?_, by omega⟩
          rcases IZ.out with ⟨h3, _⟩ | ⟨_, h3, _⟩ | ⟨_, h3, _⟩
          · exact absurd h3 hk2
          · exact h3
          · exact h3)
        go_wp2_with (fail)
        generalize hwB : wr0.alloc (.cells #[.int .u8 k, .int .i64 nn, .slice Ar r.length cr, .slice As s.length cs, .slice Ap p.length cp] 50) = wB at *
        clear r0 r1 r2 r3 r4 INV
        go_loopg [7] nn.toNat (fun g iv wi => ∃ q : Nat, q ≤ nn.toNat ∧ g = nn.toNat - q ∧ iv = .int .i64 (q : Int) ∧ Hid (PlanInv w wy wi (X ++ [zk (⟨⟨k, nn, r, s, p⟩, Ar, cr, As, cs, Ap, cp⟩ : OpS) q])) ∧ Hid (wi.heap[wr0.heap.size]? = some (.cells #[.int .u8 k, .int .i64 nn, .slice Ar r.length cr, .slice As s.length cs, .slice Ap p.length cp] 50 (0, 0))))
        case atStart => exact ⟨0, by omega, rfl, rfl, IV1, HBX⟩
        case round =>
          clear IV1 HBX YX
          obtain ⟨q, hq, hg2, rfl, IV, HB⟩ := hrel
          have HG2 := Lib.hid hg2
          clear hg2
          obtain ⟨b0, b1, b2, b3, b4⟩ := box_op HB.out
          by_cases hlq : (q : Int) < nn
          · obtain ⟨N, hN⟩ : ∃ N, takPl X + q = N := ⟨_, rfl⟩
            have HP4 : Hid (wr.heap[w.heap.size + 4]? = some (.cells (planC w.heap.size N) 161 (0, 0))) := Lib.hid (by have h := IV.out.2.2.2.2.2.1; rw [takPl_zk hk2, hN] at h; exact h)
            obtain ⟨c0, c1, c2, c3⟩ := plan_cells HP4.out
            have hcast : ((N + 1 : Nat) : Int) = (N : Int) + 1 := by omega
            have hw3 : IntKind.i64.wrap ((q:Int) + 1) = (q : Int) + 1 := IntWalk.i64_in _ (by have := NN.out; omega)
            have hw4 : IntKind.i64.wrap ((N:Int) + 1) = (N : Int) + 1 := IntWalk.i64_in _ (by have := NN.out; omega)
            by_cases hk3 : k = 3
            · subst hk3
              obtain ⟨kv, MV, NX⟩ := IV.out.gone (z := (⟨⟨3, nn, r, s, p⟩, Ar, cr, As, cs, Ap, cp⟩ : OpS)) rfl
              rw [hN] at NX
              have MVH := Lib.hid MV
              have NXH := Lib.hid NX
              clear MV NX
              go_wp2_with (at_mapUpdate; refine wpList_putV rfl rfl _ _ _ rfl (N : Int) rfl rfl rfl Tryz.mpNum MVH.out ?_; intro w1 g1 g2 g3 g4 g5 g6; have e4 := (g2 (w.heap.size + 4) (by omega)).trans HP4.out; have hth := box_thaw e4 0; obtain ⟨d0, d1, d2, d3⟩ := plan_cells e4; have IV2 := Lib.hid (NXH.out w1 g1 g2 g3 g4 g5 g6); have HB2 := Lib.hid ((g2 wr0.heap.size (by have := HS5.out; omega)).trans HB.out); clear g1 g2 g3 g4 g5 g6 e4)
              rw [hcast] at IV2
              go_roundg (nn.toNat - (q + 1))
              case measure => have := HG2.out; omega
              case rel => exact ⟨q + 1, by omega, rfl, by go_num, IV2, Lib.hid ((Below.heap_setCell w1 ⟨w.heap.size + 4, 0, none⟩ _ wr0.heap.size (by show wr0.heap.size ≠ w.heap.size + 4; have := HS5.out; omega)).trans HB2.out)⟩
            · have hkc : (k == 3) = false := beq_eq_false_iff_ne.2 hk3
              obtain ⟨kv, MV, NX⟩ := IV.out.pat hk2 hk3
              rw [hN] at NX
              have MVH := Lib.hid MV
              have NXH := Lib.hid NX
              clear MV NX
              go_wp2_with (at_mapUpdate; refine wpList_putV rfl rfl _ _ _ rfl (N : Int) rfl rfl rfl Tryz.mpChs MVH.out ?_; intro w1 g1 g2 g3 g4 g5 g6; have e4 := (g2 (w.heap.size + 4) (by omega)).trans HP4.out; have hth := box_thaw e4 0; obtain ⟨d0, d1, d2, d3⟩ := plan_cells e4; have IV2 := Lib.hid (NXH.out w1 g1 g2 g3 g4 g5 g6); have HB2 := Lib.hid ((g2 wr0.heap.size (by have := HS5.out; omega)).trans HB.out); clear g1 g2 g3 g4 g5 g6 e4)
              rw [hcast] at IV2
              go_roundg (nn.toNat - (q + 1))
              case measure => have := HG2.out; omega
              case rel => exact ⟨q + 1, by omega, rfl, by go_num, IV2, Lib.hid ((Below.heap_setCell w1 ⟨w.heap.size + 4, 0, none⟩ _ wr0.heap.size (by show wr0.heap.size ≠ w.heap.size + 4; have := HS5.out; omega)).trans HB2.out)⟩
          · have hqn : q = nn.toNat := by omega
            have IV9 : Hid (PlanInv w wy wr (X ++ [(⟨⟨k, nn, r, s, p⟩, Ar, cr, As, cs, Ap, cp⟩ : OpS)])) := Lib.hid (by
              have h := IV.out
              rw [hqn, zk_all (z := (⟨⟨k, nn, r, s, p⟩, Ar, cr, As, cs, Ap, cp⟩ : OpS)) (by have := NN.out; show 0 ≤ nn; omega)] at h
              exact h)
            clear IV hqn
            go_wp2_with (fail)
            go_roundg (ny - (m + 1))
            case measure => have := HG.out; omega
            case rel => exact ⟨m + 1, by omega, rfl, by go_num, by rw [TS.out]; exact IV9⟩
    · have hmn : y.take m = y := List.take_of_length_le (by have := LY.out; omega)
      rw [hmn] at INV
      obtain ⟨N, hN⟩ : ∃ N, N = takPl y := ⟨_, rfl⟩
      have HN := Lib.hid hN
      have HP4 : Hid (wr.heap[w.heap.size + 4]? = some (.cells (planC w.heap.size N) 161 (0, 0))) := Lib.hid (by rw [hN]; exact INV.out.2.2.2.2.2.1)
      have HP0 : Hid (wr.heap[w.heap.size]? = some (.cells planZ 161 (0, 0))) := Lib.hid INV.out.2.2.2.2.1
      obtain ⟨c0, c1, c2, c3⟩ := plan_cells HP4.out
      have h0 := HP0.out
      unfold planZ at h0
      obtain ⟨z0, z1, z2, z3⟩ := box_v h0
      have f0 := box_thaw h0 0
      have f1 := box_thaw h0 1
      have f2 := box_thaw h0 2
      have f3 := box_thaw h0 3
      clear h0 hmn hN
      go_wp2_with (fail)
      obtain ⟨W, hW⟩ : ∃ X, X = ((((wr.setCell ⟨w.heap.size, 0, none⟩ (.int .i64 (N : Int))).setCell ⟨w.heap.size, 1, none⟩ (.map (some (w.heap.size + 1)))).setCell ⟨w.heap.size, 2, none⟩ (.map (some (w.heap.size + 2)))).setCell ⟨w.heap.size, 3, none⟩ (.map (some (w.heap.size + 3)))) := ⟨_, rfl⟩
      have q1 : W.heap[w.heap.size]? = some (.cells (planC w.heap.size N) 161 (0, 0)) := by
        have h1 := heap_setCell_self (j := 0) HP0.out (.int .i64 (N : Int))
        have h2 := heap_setCell_self (j := 1) h1 (.map (some (w.heap.size + 1)))
        have h3 := heap_setCell_self (j := 2) h2 (.map (some (w.heap.size + 2)))
        have h4 := heap_setCell_self (j := 3) h3 (.map (some (w.heap.size + 3)))
        rw [hW]
        simpa [planZ, planC] using h4
      have hs : ∀ j, j ≠ w.heap.size → W.heap[j]? = wr.heap[j]? := fun j hj => by
        rw [hW]
        exact (Below.heap_setCell _ ⟨w.heap.size, 3, none⟩ _ j hj).trans ((Below.heap_setCell _ ⟨w.heap.size, 2, none⟩ _ j hj).trans ((Below.heap_setCell _ ⟨w.heap.size, 1, none⟩ _ j hj).trans (Below.heap_setCell _ ⟨w.heap.size, 0, none⟩ _ j hj)))
      have hb : Below 0 wr W := by
        rw [hW]
        exact (((Below.setCell (Below.refl 0 wr) (p := ⟨w.heap.size, 0, none⟩) (Nat.zero_le _) _).setCell (p := ⟨w.heap.size, 1, none⟩) (Nat.zero_le _) _).setCell (p := ⟨w.heap.size, 2, none⟩) (Nat.zero_le _) _).setCell (p := ⟨w.heap.size, 3, none⟩) (Nat.zero_le _) _
      have hsz : W.heap.size = wr.heap.size := by rw [hW]; simp [World.setCell]
      obtain ⟨p1, p2, p3, p4⟩ := INV.out.fin hs hsz hb.os hb.tape hb.output OY.out PY.out LB.out
      obtain ⟨h1, h2⟩ := ok_made UM.out HT.out HO.out HBB.out (by have := HSZ.out; omega) (by omega)
      obtain ⟨c1', c2'⟩ := cap_own p3
      have OC : OpsC W Ay y.length cy y := ⟨⟨rd_made p3 p4, rfl, h1, by have := NY.out; omega⟩, c1', c2', fun z hz => by obtain ⟨g, hg⟩ := p4 z hz; exact cap_part hg⟩
      rw [hW] at q1 p1 p2 OC
      refine bodyPost_ret (results_cell_row (P := Tryz.prog) rfl _ _ w.heap.size 161 (planC w.heap.size N) (0, 0) _ rfl q1 Tryz.unPlan rfl Tryz.szPlan) rfl ?_
      exact ⟨_, _, _, Ay, cy, y, by rw [HN.out]; rfl, UY.out, OC, p1, p2⟩

def cutO (o : Opd) (a n : Nat) : Opd := if o.k = 2 then { o with r := (o.r.drop a).take n } else { o with n := n }
def lenO (o : Opd) : Nat := (sizeO o).toNat
theorem lenO_of {o : Opd} (h : isOp o) : 1 ≤ lenO o ∧ (lenO o : Int) = sizeO o := by
  unfold lenO
  rcases isOp_kind h with hk | hk | hk
  · obtain ⟨e, hr⟩ := opI_of h hk
    have h1 : sizeO o = o.r.length := by unfold sizeO; rw [if_pos hk]
    have := List.length_pos_iff.2 hr
    omega
  · obtain ⟨e, hn⟩ := opD_of h hk
    have h1 : sizeO o = o.n := by unfold sizeO; rw [if_neg (by rw [hk]; decide)]
    omega
  · obtain ⟨e, hn⟩ := opR_of h hk
    have h1 : sizeO o = o.n := by unfold sizeO; rw [if_neg (by rw [hk]; decide)]
    omega
def tookV (X : List OpS) (a n : Nat) (o : Opd) (X' : List OpS) (a' : Nat) : Prop :=
  match X with
  | [] => o = opR n [] ∧ X' = [] ∧ a' = 0
  | x :: t => o = cutO x.o a (min n (lenO x.o - a)) ∧ ((a + min n (lenO x.o - a) = lenO x.o ∧ X' = t ∧ a' = 0) ∨ (a + min n (lenO x.o - a) < lenO x.o ∧ X' = x :: t ∧ a' = a + min n (lenO x.o - a)))
def kindR (X : List OpS) : Int := match X with
  | [] => 1
  | o :: _ => o.o.k
theorem lenO_units {o : Opd} (h : isOp o) : (unitsO o).length = lenO o := by
  obtain ⟨_, h1⟩ := lenO_of h
  rcases isOp_kind h with hk | hk | hk
  · have h2 : (unitsO o).length = o.r.length := by unfold unitsO; rw [if_pos hk, List.length_map]
    have h3 : sizeO o = o.r.length := by unfold sizeO; rw [if_pos hk]
    omega
  · have h2 : (unitsO o).length = o.n.toNat := by unfold unitsO; rw [if_neg (by rw [hk]; decide), if_neg (by rw [hk]; decide), List.length_replicate]
    have h3 : sizeO o = o.n := by unfold sizeO; rw [if_neg (by rw [hk]; decide)]
    omega
  · have h2 : (unitsO o).length = o.n.toNat := by unfold unitsO; rw [if_neg (by rw [hk]; decide), if_pos hk, List.length_replicate]
    have h3 : sizeO o = o.n := by unfold sizeO; rw [if_neg (by rw [hk]; decide)]
    omega
def insN : List Un → Nat
  | [] => 0
  | .ins _ _ :: us => insN us + 1
  | _ :: us => insN us
theorem insN_append (a b : List Un) : insN (a ++ b) = insN a + insN b := by
  induction a with
  | nil => simp [insN]
  | cons u a ih => cases u <;> simp [insN, ih] <;> omega
theorem insN_ins (r : List Int) (s : List At) : insN (r.map (fun r => Un.ins r s)) = r.length := by
  induction r with
  | nil => rfl
  | cons a r ih => show insN _ + 1 = _; rw [ih]; rfl
theorem insN_x (x : List OpS) (h : ∀ o ∈ x, isOp o.o) : x.length + insN (units (osOf x)) ≤ szN x := by
  induction x with
  | nil => exact Nat.le_refl _
  | cons a x ih =>
    have h1 := ih (fun o ho => h o (List.mem_cons_of_mem _ ho))
    have e : units (osOf (a :: x)) = unitsO a.o ++ units (osOf x) := rfl
    rw [e, insN_append, szN_cons, List.length_cons]
    have : insN (unitsO a.o) ≤ a.o.r.length := by
      rcases isOp_kind (h a (by simp)) with hk | hk | hk
      · unfold unitsO; rw [if_pos hk, insN_ins]; exact Nat.le_refl _
      · have : ∀ k, insN (List.replicate k .del) = 0 := fun k => by
          induction k with
          | zero => rfl
          | succ k ih => rw [List.replicate_succ]; exact ih
        unfold unitsO; rw [if_neg (by rw [hk]; decide), if_neg (by rw [hk]; decide), this]; exact Nat.zero_le _
      · have : ∀ k p, insN (List.replicate k (.ret p)) = 0 := fun k p => by
          induction k with
          | zero => rfl
          | succ k ih => rw [List.replicate_succ]; exact ih
        unfold unitsO; rw [if_neg (by rw [hk]; decide), if_pos hk, this]; exact Nat.zero_le _
    omega
open Go.RowKit

theorem nf_trail (us : List Un) : ∀ n, nf (us ++ rets n) = nf us
  | 0 => by rw [show rets 0 = [] from rfl, List.append_nil]
  | n + 1 => by
    have e : rets (n + 1) = rets n ++ [.ret []] := by unfold rets; rw [List.replicate_succ']
    rw [e, ← List.append_assoc]
    unfold nf
    rw [canon_snoc_ret, trim_snoc]
    exact nf_trail us n
theorem mkU_trail (us : List Un) (n : Nat) : mkU (us ++ rets n) = mkU us := by unfold mkU; rw [nf_trail]
def skO (P : List OpS) (g : Nat) : Nat := (units (osOf (insPl P g))).length
def TranI (f : Bool) (P Q D : List OpS) (g : Nat) : Prop :=
  units (osOf D) ++ traU f (gapD (units (osOf P)) g) (gapD (units (osOf Q)) g) = traU f (units (osOf P)) (units (osOf Q))
theorem TranI.new (f : Bool) (P Q : List OpS) : TranI f P Q [] 0 := rfl
theorem units_app (a b : List OpS) : units (osOf (a ++ b)) = units (osOf a) ++ units (osOf b) := by unfold osOf; rw [List.map_append, units_append]
def gapM (f : Bool) (P Q : List OpS) (g : Nat) : List Un := if f = true then rets (skO P g) ++ units (osOf (insPl Q g)) else units (osOf (insPl Q g)) ++ rets (skO P g)
theorem dw_cons {us : List Un} {v : Un} (h : (us.dropWhile isIns).head? = some v) : us.dropWhile isIns = v :: (us.dropWhile isIns).tail := by
  cases hd : us.dropWhile isIns with
  | nil => rw [hd] at h; cases h
  | cons a t => rw [hd] at h; injection h with h; rw [h]; rfl
theorem TranI.cell {f : Bool} {P Q D M : List OpS} {g : Nat} {z : OpS} (h : TranI f P Q D g) (hz : celPl Q g = some z) (hM : units (osOf M) = gapM f P Q g ++ pastCell f ((celPl P g).map cel1) (cel1 z)) : TranI f P Q (D ++ M) (g + 1) := by
  unfold TranI at h ⊢
  obtain ⟨p1, p2⟩ := plan_units P g
  obtain ⟨q1, q2⟩ := plan_units Q g
  rw [hz] at q2
  rw [← h, units_app, hM, List.append_assoc, tra_gap f _ _ (dw_cons q2), p1, q1, p2]
  unfold gapM skO
  rw [List.append_assoc]
  rfl
theorem TranI.last {f : Bool} {P Q D M : List OpS} {g : Nat} (h : TranI f P Q D g) (hz : celPl Q g = none) (hM : units (osOf M) = gapM f P Q g) : ∃ n, n ≤ skO P g ∧ units (osOf (D ++ M)) = traU f (units (osOf P)) (units (osOf Q)) ++ rets n := by
  unfold TranI at h
  obtain ⟨p1, p2⟩ := plan_units P g
  obtain ⟨q1, q2⟩ := plan_units Q g
  rw [hz] at q2
  have hd : (gapD (units (osOf Q)) g).dropWhile isIns = [] := by
    cases hc : (gapD (units (osOf Q)) g).dropWhile isIns with
    | nil => rfl
    | cons a t => rw [hc] at q2; cases q2
  obtain ⟨n, hn⟩ := tra_last f _ (gapD (units (osOf P)) g) hd
  have e : gapM f P Q g = traU f (gapD (units (osOf P)) g) (gapD (units (osOf Q)) g) ++ rets n := by
    rw [← hn, p1, q1]; rfl
  refine ⟨n, ?_, by rw [units_app, hM, e, ← List.append_assoc, h]⟩
  have hl := congrArg List.length e
  have ht : (traU f (gapD (units (osOf P)) g) (gapD (units (osOf Q)) g)).length = (units (osOf (insPl Q g))).length ∨ True := .inr trivial
  rw [List.length_append] at hl
  have hr : (rets n).length = n := by unfold rets; simp
  have hi : (units (osOf (insPl Q g))).length ≤ (traU f (gapD (units (osOf P)) g) (gapD (units (osOf Q)) g)).length := by
    have : ∀ (vs us : List Un), (vs.takeWhile isIns).length ≤ (traU f us vs).length := by
      intro vs
      induction vs with
      | nil => intro us; simp
      | cons v vs ih =>
        intro us
        cases v with
        | ins r s =>
          show (Un.ins r s :: vs.takeWhile isIns).length ≤ _
          rw [traU]
          split
          · rw [List.length_append, List.length_cons, List.length_cons]; have := ih (us.dropWhile isIns); omega
          · rw [List.length_cons, List.length_cons]; have := ih us; omega
        | del => show (0 : Nat) ≤ _; omega
        | ret p => show (0 : Nat) ≤ _; omega
    have := this (gapD (units (osOf Q)) g) (gapD (units (osOf P)) g)
    rwa [q1] at this
  have hg : (gapM f P Q g).length = skO P g + (units (osOf (insPl Q g))).length := by
    unfold gapM
    have hs : (rets (skO P g)).length = skO P g := by unfold rets; simp
    split <;> rw [List.length_append, hs] <;> omega
  omega
theorem gapD_len (us : List Un) : ∀ g, (gapD us g).length ≤ us.length
  | 0 => Nat.le_refl _
  | g + 1 => by
    show (((gapD us g).dropWhile isIns).tail).length ≤ _
    rw [List.length_tail]
    have h1 : ((gapD us g).dropWhile isIns).length ≤ (gapD us g).length := (List.dropWhile_sublist _).length_le
    have := gapD_len us g
    omega
theorem skO_len (P : List OpS) (g : Nat) : skO P g ≤ (units (osOf P)).length := by
  unfold skO
  rw [← (plan_units P g).1]
  exact Nat.le_trans (List.takeWhile_sublist _).length_le (gapD_len _ _)
theorem TranI.len {f : Bool} {P Q D : List OpS} {g : Nat} (h : TranI f P Q D g) : (units (osOf D)).length ≤ (units (osOf P)).length + (units (osOf Q)).length := by
  have := congrArg List.length h
  rw [List.length_append] at this
  have := (tra_size f (units (osOf Q)) (units (osOf P))).2.2
  omega
theorem szN_unitsT {D : List OpS} (h : ∀ z ∈ D, isOp z.o) : szN D ≤ 2 * (units (osOf D)).length := by
  induction D with
  | nil => exact Nat.zero_le _
  | cons z t ih =>
    have e : units (osOf (z :: t)) = unitsO z.o ++ units (osOf t) := rfl
    have h1 := ih (fun y hy => h y (List.mem_cons_of_mem _ hy))
    obtain ⟨h2, h3⟩ := lenO_of (h z List.mem_cons_self)
    have h4 := lenO_units (h z List.mem_cons_self)
    rw [szN_cons, e, List.length_append, h4]
    have h5 : z.o.r.length ≤ lenO z.o := by
      rw [← h4]
      unfold unitsO
      by_cases hk : z.o.k = 2
      · rw [if_pos hk, List.length_map]; exact Nat.le_refl _
      · rcases h z List.mem_cons_self with h6 | ⟨_, _, h6, _⟩ | ⟨_, _, h6, _⟩
        · exact absurd h6.1 hk
        · rw [h6]; simp
        · rw [h6]; simp
    omega
theorem opR1_units (p : List Ch) : unitsO (opR 1 p) = [.ret p] := by rw [unitsO_R]; rfl
theorem opD1_units : unitsO (opD 1) = [.del] := by rw [unitsO_D]; rfl
theorem insPl_kind {P : List OpS} {g : Nat} : ∀ z ∈ insPl P g, z.o.k = 2 := fun z hz => (insPl_mem P g z hz).2
theorem ins_count : ∀ (L : List OpS), (∀ z ∈ L, z.o.k = 2) → (units (osOf L)).length = (L.map (fun z => z.o.r.length)).sum
  | [], _ => rfl
  | z :: t, h => by
    have e : units (osOf (z :: t)) = unitsO z.o ++ units (osOf t) := rfl
    rw [e, List.length_append, ins_count t (fun y hy => h y (List.mem_cons_of_mem _ hy)), List.map_cons, List.sum_cons]
    unfold unitsO
    rw [if_pos (h z List.mem_cons_self), List.length_map]
theorem sum_take {L : List OpS} {m : Nat} {z : OpS} (h : L[m]? = some z) : ((L.take (m + 1)).map (fun z => z.o.r.length)).sum = ((L.take m).map (fun z => z.o.r.length)).sum + z.o.r.length := by
  rw [take_snoc h, List.map_append, List.sum_append]; simp
theorem sum_le (L : List OpS) (m : Nat) : ((L.take m).map (fun z => z.o.r.length)).sum ≤ (L.map (fun z => z.o.r.length)).sum := by
  have := List.take_append_drop m L
  conv => rhs; rw [← this, List.map_append, List.sum_append]
  omega
def bndU (b : Nat) : Un → Prop
  | .ins _ s => s.length ≤ b
  | .ret p => p.length ≤ b
  | .del => True
theorem plan_bnd {b : Nat} {x y : List OpS} (hx : ∀ o ∈ x, o.o.s.length ≤ b ∧ o.o.p.length ≤ b) (hy : osOf y = mkU (units (osOf x))) : ∀ z ∈ y, z.o.s.length ≤ b ∧ z.o.p.length ≤ b := by
  have h1 : ∀ u ∈ units (osOf x), bndU b u := fun u hu => by
    obtain ⟨o, ho, hu⟩ := units_mem.1 hu
    unfold unitsO at hu
    split at hu
    · obtain ⟨r, _, rfl⟩ := List.mem_map.1 hu; exact (hx o ho).1
    · split at hu
      · have := List.eq_of_mem_replicate hu; subst this; exact (hx o ho).2
      · have := List.eq_of_mem_replicate hu; subst this; trivial
  have h2 := nf_all (P := bndU b) trivial h1
  rw [← mkU_units hy] at h2
  intro z hz
  have hi := mkU_isOp hy z hz
  have hm : ∀ u ∈ unitsO z.o, bndU b u := fun u hu => h2 u (units_mem.2 ⟨z, hz, hu⟩)
  rcases hi with ⟨h3, h4, h5, h6⟩ | ⟨h3, h4, h5, h6, h7⟩ | ⟨h3, h4, h5, h6⟩
  · rw [h6]
    refine ⟨?_, Nat.zero_le _⟩
    cases hr : z.o.r with
    | nil => exact absurd hr h5
    | cons a t => exact hm (.ins a z.o.s) (by unfold unitsO; rw [if_pos h3, hr]; exact List.mem_cons_self)
  · rw [h6, h7]; exact ⟨Nat.zero_le _, Nat.zero_le _⟩
  · rw [h6]
    refine ⟨Nat.zero_le _, hm (.ret z.o.p) ?_⟩
    unfold unitsO
    rw [if_neg (by rw [h3]; decide), if_pos h3]
    exact List.mem_replicate.2 ⟨by omega, rfl⟩

theorem units_take {x : List OpS} {m : Nat} {o : OpS} (h : x[m]? = some o) : units (osOf (x.take (m + 1))) = units (osOf (x.take m)) ++ unitsO o.o := by
  unfold osOf
  rw [List.take_add_one, h, List.map_append, units_append]
  congr 1
  exact units_one o.o
theorem units_pre (x : List OpS) (m : Nat) : ∃ vs, units (osOf x) = units (osOf (x.take m)) ++ vs := by
  refine ⟨units (osOf (x.drop m)), ?_⟩
  unfold osOf
  rw [← units_append, ← List.map_append, List.take_append_drop]

set_option maxHeartbeats 800000 in
theorem len15_any (k n : Int) (Ar As Ap : Option Addr) (r s p cr cs cp : Nat) (w : World) :
    Calls Tryz.prog 111 #[.agg #[.int .u8 k, .int .i64 n, .slice Ar r cr, .slice As s cs, .slice Ap p cp]] w fun e w' => e = .returned (.int .i64 (if k = 2 then (r : Int) else n)) ∧ Below w.heap.size w w' := by
  have y := ext_alloc w (.cells #[.int .u8 k, .int .i64 n, .slice Ar r cr, .slice As s cs, .slice Ap p cp] 50)
  have hbx := heap_alloc_new w (.cells #[.int .u8 k, .int .i64 n, .slice Ar r cr, .slice As s cs, .slice Ap p cp] 50)
  obtain ⟨q0, q1, q2, q3, q4⟩ := box_at hbx
  clear hbx
  by_cases hk : k = 2
  · subst hk
    rw [if_pos rfl]
    go_enter Tryz.func111, Tryz.ntmps111
    go_wp2_with (fail)
    go_ret
    exact ⟨rfl, y⟩
  · have hk' : (k == 2) = false := beq_eq_false_iff_ne.2 hk
    rw [if_neg hk]
    go_enter Tryz.func111, Tryz.ntmps111
    go_wp2_with (fail)
    go_ret
    exact ⟨rfl, y⟩
set_option maxRecDepth 100000 in
set_option maxHeartbeats 1600000 in
theorem makes15_any (A : Option Addr) (n c : Nat) (l : List OpS) (w : World) (hn : n = l.length) (h : RdOs w w.heap.size A l) (hb : n ≤ 140737488355328) :
    Calls Tryz.prog 110 #[.slice A n c] w fun e w' => e = .returned (.int .i64 (makesP l)) ∧ Below w.heap.size w w' := by
  have N := Lib.hid hn
  obtain ⟨R, hR⟩ : ∃ X, makesP l = X := ⟨_, rfl⟩
  rw [hR]
  have HR := Lib.hid hR
  clear hn hR
  go_enter Tryz.func110, Tryz.ntmps110
  go_wp2_with (fail)
  go_loopg [3, 4] n (fun g av iv wr => ∃ (m : Nat) (a : Int), m ≤ n ∧ g = n - m ∧ av = .int .i64 a ∧ iv = .int .i64 (m : Int) ∧ Below w.heap.size w wr ∧ Hid ((l.drop m).foldl makeStep a = R))
  case atStart => exact ⟨0, 0, by omega, rfl, rfl, rfl, Below.refl _ _, Lib.hid (by rw [List.drop_zero]; exact HR.out)⟩
  case round =>
    obtain ⟨m, a, hm, hg, rfl, rfl, y, HI⟩ := hrel
    have HG := Lib.hid hg
    clear hg HR
    by_cases hlt : m < n
    · have hl1 : m < l.length := by have := N.out; omega
      obtain ⟨ad, x, rfl, had, hd1, _, hc0⟩ := (h.below y (Nat.le_refl _)).el hl1
      have HI2 := Lib.hid (fold_drop hd1 HI.out)
      obtain ⟨⟨k, nn, r, s, p⟩, Ar, cr, As, cs, Ap, cp⟩ := x
      obtain ⟨r0, r1, r2, r3, r4⟩ := op_cells hc0
      clear hc0 hd1 HI
      have hw2 : IntKind.i64.wrap ((m:Int) + 1) = (m : Int) + 1 := IntWalk.i64_in _ (by omega)
      by_cases hk : k = 3
      · subst hk
        go_wp2_with (fail)
        go_roundg (n - (m + 1))
        case measure => have := HG.out; omega
        case rel => exact ⟨m + 1, a, by omega, rfl, rfl, by go_num, y, Lib.hid (by rw [← HI2.out]; simp [makeStep])⟩
      · have hb : (k == 3) = false := beq_eq_false_iff_ne.2 hk
        have HK := Lib.hid hk
        clear hk
        go_wp2_with (go_at_call 111; refine Hid.out ?_)
        refine Lib.hid ?_
        refine (len15_any k nn Ar As Ap r.length s.length p.length cr cs cp _).mono ?_
        rintro e w3 ⟨rfl, y3⟩
        have y4 := ext_trans y y3
        obtain ⟨Z, hZ⟩ : ∃ Z : Int, (if k = 2 then (r.length : Int) else nn) = Z := ⟨_, rfl⟩
        rw [hZ]
        have HZ : Hid (sizeO ⟨k, nn, r, s, p⟩ = Z) := Lib.hid hZ
        clear hZ
        obtain ⟨W, hW⟩ : ∃ W, IntKind.i64.wrap (a + Z) = W := ⟨_, rfl⟩
        go_wp2_with (fail)
        go_roundg (n - (m + 1))
        case measure => have := HG.out; omega
        case rel => exact ⟨m + 1, W, by omega, rfl, by first | rfl | (rw [← hW]; rfl), by go_num, y4, Lib.hid (by rw [← HI2.out]; simp only [makeStep]; rw [if_neg HK.out, HZ.out, hW])⟩
    · have HI9 : Hid (a = R) := Lib.hid (by have := HI.out; rwa [List.drop_of_length_le (by have := N.out; omega)] at this)
      have e := HI9.out
      clear HI HI9
      go_wp2_with (fail)
      go_ret
      subst e
      exact ⟨rfl, y⟩

theorem unitsO_nat {o : Opd} (h : isOp o) : (if o.k = 2 then (o.r.length : Int) else o.n) = ((unitsO o).length : Int) := by
  rcases isOp_kind h with hk | hk | hk
  · rw [if_pos hk, show unitsO o = o.r.map (fun r => Un.ins r o.s) from by unfold unitsO; rw [if_pos hk], List.length_map]
  · obtain ⟨e, hn⟩ := opD_of h hk
    rw [if_neg (by omega), show unitsO o = List.replicate o.n.toNat .del from by rw [e]; exact unitsO_D _, List.length_replicate]; omega
  · obtain ⟨e, hn⟩ := opR_of h hk
    rw [if_neg (by omega), show unitsO o = List.replicate o.n.toNat (.ret o.p) from by rw [e]; exact unitsO_R _ _, List.length_replicate]; omega

theorem part_of {w : World} {A : Option Addr} {D : List OpS} (h : RdOp w w.heap.size A D) {z : OpS} (hz : z ∈ D) : PartF w (fun _ => False) z := by
  obtain ⟨h1, h2, h3⟩ := h.2 z hz
  exact ⟨⟨h1, fun ad e hl hk => hk⟩, ⟨h2, fun ad e hl hk => hk⟩, ⟨h3, fun ad e hl hk => hk⟩⟩
theorem RowF.rdop {w : World} {B : Nat} {A : Option Addr} {n c : Nat} {D : List OpS} (h : RowF w (fun _ => False) B (.slice A n c) D) : RdOp w w.heap.size A D := ⟨h.own.rd OpS.enc_len, fun z hz => ⟨(h.parts z hz).1.1, (h.parts z hz).2.1.1, (h.parts z hz).2.2.1⟩⟩
end Go.Proofs.YtfnkjcodcoehcaaGreatDoor
