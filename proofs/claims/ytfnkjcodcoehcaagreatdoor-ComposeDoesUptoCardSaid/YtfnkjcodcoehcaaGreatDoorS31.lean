/- Merged texts: MkIn, Diff23W, Cell19, Do19, Makes15, Ones20. -/
import Derived.Test.YtfnkjcodcoehcaaGreatDoorS17
import Derived.Test.YtfnkjcodcoehcaaGreatDoorS24
import Derived.Deep.RegionHeld3
import Derived.Deep.RegionHeldLaw
import Derived.Test.YtfnkjcodcoehcaaGreatDoorS10
import Derived.Test.YtfnkjcodcoehcaaGreatDoorS23
import Derived.Test.YtfnkjcodcoehcaaGreatDoorS16
import Derived.Test.YtfnkjcodcoehcaaGreatDoorS15
import Derived.Test.YtfnkjcodcoehcaaGreatDoorS25
import Derived.Test.YtfnkjcodcoehcaaGreatDoorS28
import Derived.Test.YtfnkjcodcoehcaaGreatDoorS20
import Derived.Test.YtfnkjcodcoehcaaGreatDoorS21
import Derived.Test.YtfnkjcodcoehcaaGreatDoorS18
import Derived.Test.YtfnkjcodcoehcaaGreatDoorS11
import Derived.Test.YtfnkjcodcoehcaaGreatDoorS30
import Derived.Laws.Rows
import Derived.Test.YtfnkjcodcoehcaaGreatDoorS9
import Derived.Test.YtfnkjcodcoehcaaGreatDoorS19
import Derived.Test.YtfnkjcodcoehcaaGreatDoorS26
namespace Go.Proofs.YtfnkjcodcoehcaaGreatDoor
open Go.RowKit
set_option linter.unusedVariables false
set_option linter.unusedSimpArgs false

/-- a maker that this call has made -/
def MkIn (w wr : World) (b : Nat) (m : Mk) : Prop := ∃ F, Mkr wr F b m ∧ (∀ k, F k → w.heap.size ≤ k) ∧ Below w.heap.size w wr
theorem MkIn.out {w wr w2 : World} {b : Nat} {m2 : Mk} {F F2 : Nat → Prop} (hF : ∀ k, F k → w.heap.size ≤ k) (y : Below w.heap.size w wr) (h2 : Mkr w2 F2 b m2) (g : Grow wr F w2 F2) : MkIn w w2 b m2 :=
  ⟨F2, h2, g.low hF y.size, y.trans (g.below hF y.size)⟩
theorem MkIn.more {w wr w2 : World} {b : Nat} {m : Mk} {F : Nat → Prop} (hF : ∀ k, F k → w.heap.size ≤ k) (y : Below w.heap.size w wr) (h : Mkr wr F b m) (y2 : Below wr.heap.size wr w2) : MkIn w w2 b m :=
  ⟨F, h.below y2, hF, ext_trans y y2⟩
end Go.Proofs.YtfnkjcodcoehcaaGreatDoor
namespace Go.Proofs.YtfnkjcodcoehcaaGreatDoor
open Go.RowKit
set_option linter.unusedVariables false
set_option linter.unusedSimpArgs false

theorem szN_os (D : List OpS) : szN D = ((osOf D).map (fun o => 1 + o.r.length)).sum := by
  unfold szN osOf; rw [List.map_map]; rfl
theorem sum_le2 {α : Type} (f : α → Nat) (k : Nat) : ∀ l : List α, (∀ x ∈ l, f x ≤ k) → (l.map f).sum ≤ k * l.length
  | [], _ => Nat.le_refl _
  | a :: l, h => by
    rw [List.map_cons, List.sum_cons, List.length_cons, Nat.mul_succ]
    have h1 := h a (by simp)
    have h2 := sum_le2 f k l (fun x hx => h x (List.mem_cons_of_mem _ hx))
    omega
/-- a retain with a patch of the call's own set behind a row -/
theorem push_ret {w wr W1 w9 : World} {ov v9 : Value} {D : List OpS} {n : Int} {p : List Ch} {Ap : Option Addr} {cp : Nat} {O : Obj} (row : RowF wr (fun _ => False) w.heap.size ov D) (y : Below w.heap.size w wr) (y1 : Below wr.heap.size wr W1)
    (hq : OwCh W1 wr.heap.size (.slice Ap p.length cp) p)
    (ho : OwOs w9 w.heap.size v9 (D ++ [⟨opR n p, none, 0, none, 0, Ap, cp⟩])) (g : (W1.alloc O).grownBy w9 (wb ov)) (hv : v9 = ov ∧ w9 = W1.alloc O ∨ wb v9 = wb ov ∨ wb v9 = some (W1.alloc O).heap.size) :
    RowF w9 (fun _ => False) w.heap.size v9 (D ++ [⟨opR n p, none, 0, none, 0, Ap, cp⟩]) ∧ Below w.heap.size w w9 := by
  have y3 := ext_trans y1 (ext_alloc W1 O)
  have yy := ext_trans y y3
  have wl := row.own.wb_lt
  refine ⟨(row.ext y3).app (fun x hx => ?_) ho g hv, yy.grown g yy.size (fun k hk => (wl k hk).1)⟩
  rw [List.mem_singleton] at hx
  subst hx
  have hq2 := hq.below (ext_alloc W1 O) (Nat.le_refl _)
  refine ⟨⟨Rd.nil, OffF.zero⟩, ⟨Rd.nil, OffF.zero⟩, ⟨hq2.rd Ch.enc_len, ?_⟩⟩
  refine hq2.offF Ch.enc_len rfl (fun k hk hg => ?_)
  have h1 := (hq.wb_lt k hk).1
  rcases hg with hg | hg
  · exact hg
  · have := (wl _ hg).2; omega
/- MARK -/
end Go.Proofs.YtfnkjcodcoehcaaGreatDoor
namespace Go.Proofs.YtfnkjcodcoehcaaGreatDoor
open Go.RowKit
set_option linter.unusedVariables false
set_option linter.unusedSimpArgs false

set_option maxRecDepth 100000 in
set_option maxHeartbeats 3200000 in
theorem cell19_any (A0 : Option Addr) (n0 c0 : Nat) (l : List Ky) (r : Int) (As Ap : Option Addr) (n cs np cp : Nat) (set : List At) (p : List Ch) (w : World) (hn0 : n0 = l.length) (hK : RdKy w w.heap.size A0 l) (b0 : n0 ≤ 1048576) (hn : n = set.length) (hp : np = p.length) (h1 : RdAt w w.heap.size As set) (h2 : RdCh w w.heap.size Ap p)
    (b1 : n ≤ 1000000) (b2 : np ≤ 1000000) (rs : riseA set = true) (rp : riseC p = true) :
    Calls Tryz.prog 38 #[.slice A0 n0 c0, .agg #[.int .i32 r, .slice As n cs], .slice Ap np cp] w
      fun e w' => ∃ A c, e = .returned (.agg #[.int .i32 r, .slice A (actC l ⟨r, set⟩ p).s.length c]) ∧ OwAt w' w.heap.size (.slice A (actC l ⟨r, set⟩ p).s.length c) (actC l ⟨r, set⟩ p).s ∧ Below w.heap.size w w' := by
  have ya := ext_alloc w (.cells #[.int .i32 r, .slice As n cs] 38)
  have yb := ext_alloc (w.alloc (.cells #[.int .i32 r, .slice As n cs] 38)) (.cells #[.int .i32 0, .slice none 0 0] 38)
  have g1' := heap_alloc_new w (.cells #[.int .i32 r, .slice As n cs] 38)
  have g2' := heap_alloc_new (w.alloc (.cells #[.int .i32 r, .slice As n cs] 38)) (.cells #[.int .i32 0, .slice none 0 0] 38)
  have G1 := (yb.block w.heap.size (by simp)).trans g1'
  rw [World.size_alloc] at g2'
  have y := ext_trans ya yb
  have N := Lib.hid hn
  have P := Lib.hid hp
  have HN0 := Lib.hid hn0
  have HK := Lib.hid hK
  clear hn0 hK
  have HR : Hid (∃ X, (actC l ⟨r, set⟩ p).s = X ∧ applyR (partP l (r == 10) p) set = X) := Lib.hid ⟨_, rfl, applyR_is (riseC_srt.2 ((riseC_srt.1 rp).filter Ch.key _)) rs⟩
  obtain ⟨X, hX1, hX2⟩ := HR.out
  rw [hX1]
  have HX := Lib.hid hX2
  clear ya yb g1' hX1 hX2 HR hn hp
  have hbp : (partP l (r == 10) p).length ≤ np := by rw [P.out]; exact List.length_filter_le _ _
  have BND : Hid (np ≤ 1000000) := Lib.hid b2
  go_enter Tryz.func38, Tryz.ntmps38
  go_wp2_with (fail)
  obtain ⟨sz, hsz⟩ : ∃ z, w.heap.size = z := ⟨_, rfl⟩
  have HSZ := Lib.hid hsz
  generalize ((w.alloc (.cells #[.int .i32 r, .slice As n cs] 38)).alloc (.cells #[.int .i32 0, .slice none 0 0] 38)) = v at *
  have Y := Lib.hid y
  have HG1 := Lib.hid G1
  have HG2 := Lib.hid g2'
  obtain ⟨a0, a1⟩ := box_cl G1
  obtain ⟨e0, e1⟩ := box_cl g2'
  have hlt1 := lt_of_some G1
  have hlt2 := lt_of_some g2'
  rw [hsz] at a0 a1 e0 e1 hlt1 hlt2 ⊢
  have SF : Hid (∀ u, Below v.heap.size v u → (u.cell? ⟨sz, 0, none⟩ = some (.int .i32 r) ∧ u.cell? ⟨sz, 1, none⟩ = some (.slice As n cs)) ∧ (u.cell? ⟨sz + 1, 0, none⟩ = some (.int .i32 0) ∧ u.cell? ⟨sz + 1, 1, none⟩ = some (.slice none 0 0)) ∧ u.heap[sz + 1]? = some (.cells #[.int .i32 0, .slice none 0 0] 38 (0, 0))) := Lib.hid (fun u hu => by
    have q1 := (hu.block _ (by rw [← HSZ.out] at hlt1; exact hlt1)).trans HG1.out
    have q2 := (hu.block _ (by rw [← HSZ.out] at hlt2; exact hlt2)).trans HG2.out
    rw [HSZ.out] at q1 q2
    exact ⟨box_cl q1, box_cl q2, q2⟩)
  have hf0 : v.frozen? ⟨sz + 1, 0, none⟩ = false := box_thaw (SF.out v (Below.refl _ _)).2.2 0
  clear G1 g2' hlt1 hlt2 y hsz
  go_region_law (first
    | (refine step_fn rfl 96 [.tmp 11, .tmp 12, .tmp 15] #[22, 48, 4] rfl Tryz.f96 (by kernel_rfl) (by kernel_rfl) (by kernel_rfl) [.slice A0 n0 c0, .slice Ap np cp, .bool (r == 10)] (by rfl) (partR6_any A0 Ap n0 c0 np cp l (r == 10) p v.drew HN0.out (HK.out.ext (up_drew Y.out)) (by omega) P.out (h2.ext (up_drew Y.out)) (by omega)) ?_
       rintro e w3 ⟨A3, k3, rfl, o3, y3⟩
       refine ⟨_, rfl, ?_⟩
       have O3 := Lib.hid o3
       have Y3 : Hid (Below v.heap.size v w3) := Lib.hid ((up_drew (Below.refl _ _)).trans y3)
       obtain ⟨⟨c0, c1⟩, ⟨c2, c3⟩, c4⟩ := SF.out w3 Y3.out
       clear o3 y3)
    | (refine step_fn rfl 95 [.tmp 10, .tmp 16] #[36, 48] rfl Tryz.f95 (by kernel_rfl) (by kernel_rfl) (by kernel_rfl) [.slice As n cs, .slice A3 (partP l (r == 10) p).length k3] (by rfl) (apply06_any As A3 n cs (partP l (r == 10) p).length k3 set (partP l (r == 10) p) w3 N.out rfl (h1.ext (ext_trans Y.out Y3.out)) (O3.out.rd Ch.enc_len) b1 (by have := BND.out; omega)) ?_
       rw [HX.out]
       rintro e w4 ⟨A4, k4, rfl, o4, y4⟩
       refine ⟨_, rfl, ?_⟩
       have O4 := Lib.hid o4
       have Y4 : Hid (Below v.heap.size v w4) := Lib.hid (ext_trans Y3.out y4)
       obtain ⟨⟨d0, d1⟩, ⟨d2, d3⟩, d4⟩ := SF.out w4 Y4.out
       have hf4 : w4.frozen? ⟨sz + 1, 0, none⟩ = false := box_thaw d4 0
       have hf5 : w4.frozen? ⟨sz + 1, 1, none⟩ = false := box_thaw d4 1
       clear o4 y4))
  all_goals
    go_wp2_with (fail)
    have q1 : ((w4.setCell ⟨sz + 1, 0, none⟩ (.int .i32 r)).setCell ⟨sz + 1, 1, none⟩ (.slice A4 X.length k4)).heap[sz + 1]? = some (.cells #[.int .i32 r, .slice A4 X.length k4] 38 (0, 0)) := by
      have h1 := heap_setCell_self (j := 0) d4 (.int .i32 r)
      have h2 := heap_setCell_self (j := 1) h1 (.slice A4 X.length k4)
      simpa using h2
    refine bodyPost_ret (results_cell_row (P := Tryz.prog) rfl _ _ (sz + 1) 38 #[.int .i32 r, .slice A4 X.length k4] (0, 0) _ rfl q1 Tryz.unCl rfl Tryz.szCl) rfl ?_
    have ha := (O4.out.base_le (B := w.heap.size) (by have := Y3.out.size; have := Y.out.size; omega))
    have hne : ∀ k, wb (.slice A4 X.length k4) = some k → k ≠ sz + 1 := fun k hk => by
      have := (O4.out.wb_lt k hk).1
      have := lt_of_some c4
      omega
    refine ⟨A4, k4, rfl, (ha.setCell (p := ⟨sz + 1, 0, none⟩) (fun e => hne _ e rfl) _).setCell (p := ⟨sz + 1, 1, none⟩) (fun e => hne _ e rfl) _, ?_⟩
    exact ((ext_trans Y.out Y4.out).setCell (p := ⟨sz + 1, 0, none⟩) (by have := HSZ.out; simp only; omega) _).setCell (p := ⟨sz + 1, 1, none⟩) (by have := HSZ.out; simp only; omega) _
end Go.Proofs.YtfnkjcodcoehcaaGreatDoor
namespace Go.Proofs.YtfnkjcodcoehcaaGreatDoor
open Go.RowKit
set_option linter.unusedVariables false
set_option linter.unusedSimpArgs false

theorem app_retp (l : List Ky) (p : List Ch) (vs : List Un) : ∀ (n : Nat) (d : List Cl), n ≤ d.length → app l (List.replicate n (.ret p) ++ vs) d = (d.take n).map (fun c => actC l c p) ++ app l vs (d.drop n)
  | 0, d, _ => rfl
  | n + 1, [], h => by simp at h
  | n + 1, c :: d, h => by
    rw [List.replicate_succ]
    show [actC l c p] ++ app l (List.replicate n (.ret p) ++ vs) d = _
    rw [app_retp l p vs n d (by simpa using h)]
    simp
theorem app_insr (l : List Ky) (s : List At) (vs : List Un) (d : List Cl) : ∀ r : List Int, app l (r.map (fun r => Un.ins r s) ++ vs) d = r.map (fun r => (⟨r, s⟩ : Cl)) ++ app l vs d
  | [] => rfl
  | r :: t => by
    show (⟨r, s⟩ : Cl) :: app l (t.map (fun r => Un.ins r s) ++ vs) d = _
    rw [app_insr l s vs d t]; rfl
/-- how far a delta's first units have come: what is made, and what is taken -/
def DoneU (l : List Ky) (us : List Un) (d : List Cl) (M : List Cl) (a : Nat) : Prop := a = takesU us ∧ M.length = makesU us ∧ ∀ vs, app l (us ++ vs) d = M ++ app l vs (d.drop a)
theorem DoneU.nil (l : List Ky) (d : List Cl) : DoneU l [] d [] 0 := ⟨rfl, rfl, fun vs => rfl⟩
theorem DoneU.ret {l : List Ky} {us : List Un} {d M : List Cl} {a n : Nat} {p : List Ch} (h : DoneU l us d M a) (hn : a + n ≤ d.length) : DoneU l (us ++ List.replicate n (.ret p)) d (M ++ ((d.drop a).take n).map (fun c => actC l c p)) (a + n) := by
  obtain ⟨h1, h2, h3⟩ := h
  refine ⟨?_, ?_, fun vs => ?_⟩
  · rw [takesU_append, ← h1, takesU_ret]
  · rw [makesU_append, ← h2, List.length_append, List.length_map, List.length_take, List.length_drop, makesU_ret]; omega
  · rw [List.append_assoc, h3, app_retp l p vs n (d.drop a) (by rw [List.length_drop]; omega), List.drop_drop, List.append_assoc]
theorem DoneU.ins {l : List Ky} {us : List Un} {d M : List Cl} {a : Nat} (h : DoneU l us d M a) (r : List Int) (s : List At) : DoneU l (us ++ r.map (fun r => Un.ins r s)) d (M ++ r.map (fun r => (⟨r, s⟩ : Cl))) a := by
  obtain ⟨h1, h2, h3⟩ := h
  refine ⟨?_, ?_, fun vs => ?_⟩
  · rw [takesU_append, ← h1]
    have : takesU (r.map (fun r => Un.ins r s)) = 0 := by induction r with | nil => rfl | cons r t ih => exact ih
    omega
  · rw [makesU_append, ← h2, List.length_append, List.length_map]
    have : makesU (r.map (fun r => Un.ins r s)) = r.length := by induction r with | nil => rfl | cons r t ih => rw [List.map_cons, makesU_i, ih]; rfl
    omega
  · rw [List.append_assoc, h3, app_insr, List.append_assoc]
theorem DoneU.del {l : List Ky} {us : List Un} {d M : List Cl} {a n : Nat} (h : DoneU l us d M a) : DoneU l (us ++ List.replicate n .del) d M (a + n) := by
  obtain ⟨h1, h2, h3⟩ := h
  refine ⟨?_, ?_, fun vs => ?_⟩
  · rw [takesU_append, ← h1, takesU_del]
  · rw [makesU_append, ← h2, makesU_del]; rfl
  · rw [List.append_assoc, h3, app_dels', List.drop_drop]
theorem units_take {x : List OpS} {m : Nat} {o : OpS} (h : x[m]? = some o) : units (osOf (x.take (m + 1))) = units (osOf (x.take m)) ++ unitsO o.o := by
  unfold osOf
  rw [List.take_add_one, h, List.map_append, units_append]
  congr 1
  exact units_one o.o
theorem units_pre (x : List OpS) (m : Nat) : ∃ vs, units (osOf x) = units (osOf (x.take m)) ++ vs := by
  refine ⟨units (osOf (x.drop m)), ?_⟩
  unfold osOf
  rw [← units_append, ← List.map_append, List.take_append_drop]
end Go.Proofs.YtfnkjcodcoehcaaGreatDoor
namespace Go.Proofs.YtfnkjcodcoehcaaGreatDoor
open Go.RowKit
set_option linter.unusedVariables false
set_option linter.unusedSimpArgs false

set_option maxHeartbeats 800000 in
theorem len15_any (k n : Int) (Ar As Ap : Option Addr) (r s p cr cs cp : Nat) (w : World) :
    Calls Tryz.prog 111 #[.agg #[.int .u8 k, .int .i64 n, .slice Ar r cr, .slice As s cs, .slice Ap p cp]] w fun e w' => e = .returned (.int .i64 (if k = 2 then (r : Int) else n)) ∧ Below w.heap.size w w' := by
  have y := ext_alloc w (.cells #[.int .u8 k, .int .i64 n, .slice Ar r cr, .slice As s cs, .slice Ap p cp] 50)
  have hbx := heap_alloc_new w (.cells #[.int .u8 k, .int .i64 n, .slice Ar r cr, .slice As s cs, .slice Ap p cp] 50)
  obtain ⟨q0, q1, q2, q3, q4⟩ := box_at hbx
  clear hbx
  by_cases hk : k = 2
  · subst hk
    rw [if_pos rfl]
    go_enter Tryz.func111, Tryz.ntmps111
    go_wp2_with (fail)
    go_ret
    exact ⟨rfl, y⟩
  · have hk' : (k == 2) = false := beq_eq_false_iff_ne.2 hk
    rw [if_neg hk]
    go_enter Tryz.func111, Tryz.ntmps111
    go_wp2_with (fail)
    go_ret
    exact ⟨rfl, y⟩
set_option maxRecDepth 100000 in
set_option maxHeartbeats 1600000 in
theorem makes15_any (A : Option Addr) (n c : Nat) (l : List OpS) (w : World) (hn : n = l.length) (h : RdOs w w.heap.size A l) (hb : n ≤ 140737488355328) :
    Calls Tryz.prog 110 #[.slice A n c] w fun e w' => e = .returned (.int .i64 (makesP l)) ∧ Below w.heap.size w w' := by
  have N := Lib.hid hn
  obtain ⟨R, hR⟩ : ∃ X, makesP l = X := ⟨_, rfl⟩
  rw [hR]
  have HR := Lib.hid hR
  clear hn hR
  go_enter Tryz.func110, Tryz.ntmps110
  go_wp2_with (fail)
  go_loopg [3, 4] n (fun g av iv wr => ∃ (m : Nat) (a : Int), m ≤ n ∧ g = n - m ∧ av = .int .i64 a ∧ iv = .int .i64 (m : Int) ∧ Below w.heap.size w wr ∧ Hid ((l.drop m).foldl makeStep a = R))
  case atStart => exact ⟨0, 0, by omega, rfl, rfl, rfl, Below.refl _ _, Lib.hid (by rw [List.drop_zero]; exact HR.out)⟩
  case round =>
    obtain ⟨m, a, hm, hg, rfl, rfl, y, HI⟩ := hrel
    have HG := Lib.hid hg
    clear hg HR
    by_cases hlt : m < n
    · have hl1 : m < l.length := by have := N.out; omega
      obtain ⟨ad, x, rfl, had, hd1, _, hc0⟩ := (h.below y (Nat.le_refl _)).el hl1
      have HI2 := Lib.hid (fold_drop hd1 HI.out)
      obtain ⟨⟨k, nn, r, s, p⟩, Ar, cr, As, cs, Ap, cp⟩ := x
      obtain ⟨r0, r1, r2, r3, r4⟩ := op_cells hc0
      clear hc0 hd1 HI
      have hw2 : IntKind.i64.wrap ((m:Int) + 1) = (m : Int) + 1 := IntWalk.i64_in _ (by omega)
      by_cases hk : k = 3
      · subst hk
        go_wp2_with (fail)
        go_roundg (n - (m + 1))
        case measure => have := HG.out; omega
        case rel => exact ⟨m + 1, a, by omega, rfl, rfl, by go_num, y, Lib.hid (by rw [← HI2.out]; simp [makeStep])⟩
      · have hb : (k == 3) = false := beq_eq_false_iff_ne.2 hk
        have HK := Lib.hid hk
        clear hk
        go_wp2_with (go_at_call 111; refine Hid.out ?_)
        refine Lib.hid ?_
        refine (len15_any k nn Ar As Ap r.length s.length p.length cr cs cp _).mono ?_
        rintro e w3 ⟨rfl, y3⟩
        have y4 := ext_trans y y3
        obtain ⟨Z, hZ⟩ : ∃ Z : Int, (if k = 2 then (r.length : Int) else nn) = Z := ⟨_, rfl⟩
        rw [hZ]
        have HZ : Hid (sizeO ⟨k, nn, r, s, p⟩ = Z) := Lib.hid hZ
        clear hZ
        obtain ⟨W, hW⟩ : ∃ W, IntKind.i64.wrap (a + Z) = W := ⟨_, rfl⟩
        go_wp2_with (fail)
        go_roundg (n - (m + 1))
        case measure => have := HG.out; omega
        case rel => exact ⟨m + 1, W, by omega, rfl, by first | rfl | (rw [← hW]; rfl), by go_num, y4, Lib.hid (by rw [← HI2.out]; simp only [makeStep]; rw [if_neg HK.out, HZ.out, hW])⟩
    · have HI9 : Hid (a = R) := Lib.hid (by have := HI.out; rwa [List.drop_of_length_le (by have := N.out; omega)] at this)
      have e := HI9.out
      clear HI HI9
      go_wp2_with (fail)
      go_ret
      subst e
      exact ⟨rfl, y⟩
end Go.Proofs.YtfnkjcodcoehcaaGreatDoor
namespace Go.Proofs.YtfnkjcodcoehcaaGreatDoor
open Go.RowKit
set_option linter.unusedVariables false
set_option linter.unusedSimpArgs false

theorem Tryz.elI32s : Tryz.prog.elem 47 = 21 := by kernel_rfl
theorem Tryz.szI32s0 : (Tryz.prog.info? 21).map (·.size) = some 1 := by kernel_rfl
theorem Tryz.szI32s (W : World) : (sizeOf 21).run Tryz.prog W = .ok 1 W := by
  cases h : Tryz.prog.info? 21 with
  | none => have := Tryz.szI32s0; rw [h] at this; cases this
  | some i => have := Tryz.szI32s0; rw [h] at this; simp at this; simp [sizeOf, typeInfo, h, this]
theorem sl_rune1 {A A8 : Option Addr} {n c i c8 : Nat} (hA8 : advS A c i 1 = A8) (hc8 : c - i = c8) (h : i + 1 ≤ c) (W : World) : (Instr.slice 47 (.slice A n c) (some (.int .i64 (i : Int))) (some (.int .i64 ((i : Int) + 1))) none).run Tryz.prog W = .ok (.slice A8 1 c8) W :=
  sl_both (P := Tryz.prog) (n := n) (n' := 1) (y := (i : Int)) (z := (i : Int) + 1) (k := i) (l := i + 1) Tryz.slI32 Tryz.elI32s Tryz.szI32s rfl (by omega) hA8 (by omega) hc8 (by omega) h W
theorem off_app {w3 w9 : World} {ov v9 : Value} {bx : Nat} (h : ∀ q, wb ov = some q → q ≠ bx) (hb : bx < w3.heap.size) (hv : v9 = ov ∧ w9 = w3 ∨ wb v9 = wb ov ∨ wb v9 = some w3.heap.size) : ∀ q, wb v9 = some q → q ≠ bx := fun q hq => by
  rcases hv with ⟨rfl, _⟩ | hv | hv
  · exact h q hq
  · exact h q (hv ▸ hq)
  · rw [hv] at hq; injection hq with hq; omega
/-- an op the parts of which were there behind a row -/
theorem push_old {w wr w3 w9 : World} {ov v9 : Value} {D : List OpS} {x : OpS} (row : RowF wr (fun _ => False) w.heap.size ov D) (y : Below w.heap.size w wr) (y3 : Below wr.heap.size wr w3) (hp : PartF w (fun _ => False) x)
    (ho : OwOs w9 w.heap.size v9 (D ++ [x])) (g : w3.grownBy w9 (wb ov)) (hv : v9 = ov ∧ w9 = w3 ∨ wb v9 = wb ov ∨ wb v9 = some w3.heap.size) :
    RowF w9 (fun _ => False) w.heap.size v9 (D ++ [x]) ∧ Below w.heap.size w w9 ∧ ∀ q, q < wr.heap.size → (∀ z, wb ov = some z → z ≠ q) → w9.heap[q]? = wr.heap[q]? ∧ ∀ z, wb v9 = some z → z ≠ q := by
  have yy := ext_trans y y3
  have wl := row.own.wb_lt
  refine ⟨(row.ext y3).app (fun z hz => ?_) ho g hv, yy.grown g yy.size (fun k hk => (wl k hk).1), fun q hq hz => ⟨(g.block q (Nat.lt_of_lt_of_le hq y3.size) (fun e => hz q e.symm rfl)).trans (y3.block q hq), off_app hz (Nat.lt_of_lt_of_le hq y3.size) hv⟩⟩
  rw [List.mem_singleton] at hz
  subst hz
  exact hp.fresh yy row.low
theorem row_off {w : World} {F : Nat → Prop} {B : Nat} {v : Value} {D : List OpS} (h : RowF w F B v D) : ∀ q, wb v = some q → q ≠ w.heap.size := fun q hq => by have := (h.own.wb_lt q hq).2; omega
/-- a row that a call made of parts that were there -/
def NewRow (x : List Opd) (w : World) : Ending → World → Prop := fun e w' => ∃ (A : Option Addr) (c : Nat) (D : List OpS), e = .returned (.slice A D.length c) ∧ osOf D = x ∧ RowF w' (fun _ => False) w.heap.size (.slice A D.length c) D ∧ Below w.heap.size w w'
theorem ones_len (x : List OpS) {m : Nat} {o : OpS} (h : x[m]? = some o) (j : Nat) : ((units (osOf (x.take m)) ++ (unitsO o.o).take j).map op1).length ≤ (units (osOf x)).length := by
  obtain ⟨vs, hv⟩ := units_pre x (m + 1)
  rw [hv, units_take h, List.length_map, List.length_append, List.length_append, List.length_append, List.length_take]
  omega
theorem unitsO_nat {o : Opd} (h : isOp o) : (if o.k = 2 then (o.r.length : Int) else o.n) = ((unitsO o).length : Int) := by
  rcases isOp_kind h with hk | hk | hk
  · rw [if_pos hk, show unitsO o = o.r.map (fun r => Un.ins r o.s) from by unfold unitsO; rw [if_pos hk], List.length_map]
  · obtain ⟨e, hn⟩ := opD_of h hk
    rw [if_neg (by omega), show unitsO o = List.replicate o.n.toNat .del from by rw [e]; exact unitsO_D _, List.length_replicate]; omega
  · obtain ⟨e, hn⟩ := opR_of h hk
    rw [if_neg (by omega), show unitsO o = List.replicate o.n.toNat (.ret o.p) from by rw [e]; exact unitsO_R _ _, List.length_replicate]; omega
theorem take_one_at {α : Type} {r : List α} {j : Nat} {e : α} (h : r[j]? = some e) : (r.drop j).take 1 = [e] := by
  rw [List.take_one, List.head?_drop, h]; rfl
theorem ones_ins {nn : Int} {r : List Int} {s : List At} {p : List Ch} {j : Nat} {e : Int} (h : isOp ⟨2, nn, r, s, p⟩) (he : r[j]? = some e) : (unitsO ⟨2, nn, r, s, p⟩)[j]? = some (.ins e s) ∧ op1 (.ins e s) = ⟨2, 0, [e], s, p⟩ := by
  have hp : p = [] := by rcases h with h | ⟨h, _⟩ | ⟨h, _⟩
                         · exact h.2.2.2
                         · simp at h
                         · simp at h
  subst hp
  refine ⟨?_, rfl⟩
  unfold unitsO
  rw [if_pos rfl, List.getElem?_map, he]; rfl
theorem ones_not {k nn : Int} {r : List Int} {s : List At} {p : List Ch} {j : Nat} (h : isOp ⟨k, nn, r, s, p⟩) (hk : k ≠ 2) (hj : j < (unitsO ⟨k, nn, r, s, p⟩).length) : ∃ u, (unitsO ⟨k, nn, r, s, p⟩)[j]? = some u ∧ op1 u = ⟨k, 1, [], s, p⟩ := by
  rcases h with ⟨h, _⟩ | ⟨h1, h2, h3, h4, h5⟩ | ⟨h1, h2, h3, h4⟩
  · exact absurd h hk
  · simp only at h1 h2 h3 h4 h5
    subst h1; subst h3; subst h4; subst h5
    have e : unitsO ⟨3, nn, [], [], []⟩ = List.replicate nn.toNat .del := unitsO_D nn
    rw [e] at hj ⊢
    rw [List.length_replicate] at hj
    exact ⟨.del, by rw [List.getElem?_replicate, if_pos hj], rfl⟩
  · simp only at h1 h2 h3 h4
    subst h1; subst h3; subst h4
    have e : unitsO ⟨1, nn, [], [], p⟩ = List.replicate nn.toNat (.ret p) := unitsO_R nn p
    rw [e] at hj ⊢
    rw [List.length_replicate] at hj
    exact ⟨.ret p, by rw [List.getElem?_replicate, if_pos hj], rfl⟩
set_option maxRecDepth 100000 in
set_option maxHeartbeats 6400000 in
theorem ones20_any (A : Option Addr) (n c : Nat) (x : List OpS) (w : World) (hn : n = x.length) (h : RdOp w w.heap.size A x) (hi : ∀ o ∈ x, isOp o.o) (hc : ∀ o ∈ x, o.o.r.length ≤ o.cr) (hb : n ≤ 1000000) (hu : (units (osOf x)).length ≤ 1000000) :
    Calls Tryz.prog 112 #[.slice A n c] w (NewRow ((units (osOf x)).map op1) w) := by
  have N0 := Lib.hid hn
  have HR := Lib.hid h.1
  have HP := Lib.hid h.2
  have HI := Lib.hid hi
  have HC := Lib.hid hc
  have HU := Lib.hid hu
  clear hn h hi hc hu
  go_enter Tryz.func112, Tryz.ntmps112
  go_wp2_with (fail)
  go_loopg [3, 4] n (fun g ov iv wr => ∃ (m : Nat) (D : List OpS), m ≤ n ∧ g = n - m ∧ iv = .int .i64 (m : Int) ∧ RowF wr (fun _ => False) w.heap.size ov D ∧ Hid (osOf D = (units (osOf (x.take m))).map op1) ∧ Below w.heap.size w wr)
  case atStart => exact ⟨0, [], Nat.zero_le _, rfl, rfl, RowF.nil _ _ _, Lib.hid rfl, Below.refl _ _⟩
  case round =>
    obtain ⟨m, D, hm, hg, rfl, hrow, HD, y⟩ := hrel
    have HG := Lib.hid hg
    have HRW := Lib.hid hrow
    clear hg hrow
    by_cases hlt : m < n
    · have hlt' : (m : Int) < (n : Int) := by omega
      obtain ⟨ad, o, rfl, hab, _, hx, hcl⟩ := (HR.out.ext y).el (i := m) (by have := N0.out; omega)
      have om := List.mem_of_getElem? hx
      have PW := Lib.hid (HP.out o om)
      have OK := Lib.hid (HI.out o om)
      have CP := Lib.hid (HC.out o om)
      have UT := Lib.hid (units_take hx)
      have UL : Hid (∀ j, ((units (osOf (x.take m)) ++ (unitsO o.o).take j).map op1).length ≤ 1000000) := Lib.hid (fun j => Nat.le_trans (ones_len x hx j) HU.out)
      have hw2 : IntKind.i64.wrap ((m : Int) + 1) = (m : Int) + 1 := IntWalk.i64_in _ (by omega)
      obtain ⟨⟨k, nn, r, s, p⟩, Ar, cr, As, cs, Ap, cp⟩ := o
      simp only at OK PW CP UT UL
      obtain ⟨z0, z1, z2, z3, z4⟩ := op_cells hcl
      obtain ⟨wo, hwo⟩ : ∃ X, X = wr := ⟨_, rfl⟩
      subst hwo
      obtain ⟨N, hN⟩ : ∃ N : Nat, (if k = 2 then (r.length : Int) else nn) = (N : Int) := ⟨_, unitsO_nat OK.out⟩
      have HN := Lib.hid hN
      have NU : Hid ((unitsO ⟨k, nn, r, s, p⟩).length = N) := Lib.hid (by have h := unitsO_nat OK.out; simp only at h; omega)
      have NB : Hid (N ≤ 1000000) := Lib.hid (by have h := UL.out N; rw [List.length_map, List.length_append, List.length_take, NU.out] at h; omega)
      have hbx := heap_alloc_new wo (.cells #[.int .u8 k, .int .i64 nn, .slice Ar r.length cr, .slice As s.length cs, .slice Ap p.length cp] 50)
      have HBX := Lib.hid hbx
      have YB := Lib.hid (ext_alloc wo (.cells #[.int .u8 k, .int .i64 nn, .slice Ar r.length cr, .slice As s.length cs, .slice Ap p.length cp] 50))
      clear hx hcl om hab hN hbx
      go_wp2_with (fail)
      obtain ⟨bx, hbx⟩ : ∃ X, wo.heap.size = X := ⟨_, rfl⟩
      have RB := Lib.hid (HRW.out.ext YB.out)
      have NBX := Lib.hid (row_off HRW.out)
      rw [hbx] at NBX
      rw [hbx] at HBX ⊢
      generalize hwb : wo.alloc (.cells #[.int .u8 k, .int .i64 nn, .slice Ar r.length cr, .slice As s.length cs, .slice Ap p.length cp] 50) = wb0 at *
      have YW0 : Hid (Below w.heap.size w wb0) := Lib.hid (ext_trans y YB.out)
      clear hwb hbx z0 z1 z2 z3 z4 HRW YB
      go_loopg [3, 6] N (fun g ov iv wr => ∃ (j : Nat) (E : List OpS), j ≤ N ∧ g = N - j ∧ iv = .int .i64 (j : Int) ∧ RowF wr (fun _ => False) w.heap.size ov E ∧ Hid (osOf E = (units (osOf (x.take m)) ++ (unitsO ⟨k, nn, r, s, p⟩).take j).map op1) ∧ Hid (wr.heap[bx]? = some (.cells #[.int .u8 k, .int .i64 nn, .slice Ar r.length cr, .slice As s.length cs, .slice Ap p.length cp] 50 (0, 0))) ∧ Hid (∀ q, wb ov = some q → q ≠ bx) ∧ Below w.heap.size w wr)
      case atStart => exact ⟨0, D, Nat.zero_le _, rfl, rfl, RB.out, Lib.hid (by rw [List.take_zero, List.append_nil]; exact HD.out), HBX, NBX, YW0.out⟩
      case round =>
        clear RB HBX NBX YW0
        obtain ⟨j, E, hj, hg, rfl, hrow, HE, HBR, NBR, yi⟩ := hrel
        have HG2 := Lib.hid hg
        have HRW := Lib.hid hrow
        have YWR := Lib.hid yi
        clear hg hrow
        obtain ⟨q0, q1, q2, q3, q4⟩ := box_op HBR.out
        go_wp2_with (go_at_call 111; refine Hid.out ?_)
        refine Lib.hid ?_
        refine (len15_any k nn Ar As Ap r.length s.length p.length cr cs cp _).mono ?_
        rw [HN.out]
        rintro e w2 ⟨rfl, y2⟩
        have Y2 := Lib.hid y2
        clear q0 q1 q2 q3 q4
        have HB2 := Lib.hid ((y2.block bx (lt_of_some HBR.out)).trans HBR.out)
        obtain ⟨q0, q1, q2, q3, q4⟩ := box_op HB2.out
        clear y2
        by_cases hlj : j < N
        · have hlj' : (j : Int) < (N : Int) := by clear hw2; omega
          have hw5 : IntKind.i64.wrap ((j : Int) + 1) = (j : Int) + 1 := IntWalk.i64_in _ (by have := NB.out; clear hw2; omega)
          have EL : Hid (E.length ≤ 1000000) := Lib.hid (by have h := congrArg List.length HE.out; have h2 := UL.out j; rw [← h] at h2; unfold osOf at h2; rw [List.length_map] at h2; exact h2)
          by_cases hk : k = 2
          · subst hk
            obtain ⟨A8, hA8⟩ : ∃ X, advS Ar cr j 1 = X := ⟨_, rfl⟩
            obtain ⟨c8, hc8⟩ : ∃ X, cr - j = X := ⟨_, rfl⟩
            have NR : Hid (N = r.length) := Lib.hid (by have h := HN.out; rw [if_pos rfl] at h; clear hw2 hw5; omega)
            obtain ⟨e, he⟩ : ∃ e, r[j]? = some e := ⟨r[j]'(by have := NR.out; clear hw2 hw5; omega), List.getElem?_eq_getElem (by have := NR.out; clear hw2 hw5; omega)⟩
            have UJ := Lib.hid (ones_ins (s := s) OK.out he)
            have RE : Hid (RdI32 w w.heap.size A8 [e]) := Lib.hid (by
              have h := (PW.out.1.advS (k := j) (c := cr) (by have := NR.out; clear hw2 hw5; omega) CP.out).take 1
              rw [hA8, take_one_at he] at h
              exact h)
            have sl1 : ∀ W, (Instr.slice 47 (.slice Ar r.length cr) (some (.int .i64 (j : Int))) (some (.int .i64 ((j : Int) + 1))) none).run Tryz.prog W = .ok (.slice A8 1 c8) W := sl_rune1 hA8 hc8 (by have := CP.out; have := NR.out; clear hw2 hw5; omega)
            clear hA8 hc8 he
            obtain ⟨w3, hw3⟩ : ∃ X, w2.alloc (.cells #[.int .u8 2, .int .i64 0, .slice none 0 0, .slice As s.length cs, .slice Ap p.length cp] 50) = X := ⟨_, rfl⟩
            have y3 : Below w2.heap.size w2 w3 := hw3 ▸ ext_alloc w2 _
            have HB3 : Hid (w3.heap[bx]? = some (.cells #[.int .u8 2, .int .i64 nn, .slice Ar r.length cr, .slice As s.length cs, .slice Ap p.length cp] 50 (0, 0))) := Lib.hid ((y3.block bx (lt_of_some HB2.out)).trans HB2.out)
            have HN3 : w3.heap[w2.heap.size]? = some (.cells #[.int .u8 2, .int .i64 0, .slice none 0 0, .slice As s.length cs, .slice Ap p.length cp] 50 (0, 0)) := hw3 ▸ heap_alloc_new w2 _
            have YW3 := Lib.hid (ext_trans Y2.out (ext_alloc w2 (.cells #[.int .u8 2, .int .i64 0, .slice A8 1 c8, .slice As s.length cs, .slice Ap p.length cp] 50)))
            have HB4 := Lib.hid ((YW3.out.block bx (lt_of_some HBR.out)).trans HBR.out)
            obtain ⟨s0, s1, s2, s3, s4⟩ := box_op HB3.out
            have fz := box_thaw HN3 2
            subst hw3
            clear HN3 y3
            go_wp2_with ((at_builtin; refine app_os (l := E) (m := [(⟨⟨2, 0, [e], s, p⟩, A8, c8, As, cs, Ap, cp⟩ : OpS)]) rfl (.tmp 42) (.tmp 44) rfl rfl (HRW.out.own.below (ext_trans YW3.out (ext_alloc _ _)) (Nat.le_refl _)) _ _ 1 1 rfl rfl (rd_one_at (enc := OpS.enc) (size := 5) _ _ (⟨⟨2, 0, [e], s, p⟩, A8, c8, As, cs, Ap, cp⟩ : OpS) rfl (by simp)) (by have := EL.out; simp only [List.length_singleton]; clear hw2 hw5; omega) (Nat.le_trans YWR.out.size (ext_trans YW3.out (ext_alloc _ _)).size) ?_; intro v9 w9 ho9 hgr9 hw9))
            have RR := push_old HRW.out YWR.out (ext_trans YW3.out (ext_alloc _ _)) ⟨⟨RE.out, fun ad e hl hk => hk⟩, ⟨PW.out.2.1, fun ad e hl hk => hk⟩, ⟨PW.out.2.2, fun ad e hl hk => hk⟩⟩ ho9 hgr9 hw9
            have R9 := Lib.hid RR.1
            have Y9 := Lib.hid RR.2.1
            have RQ := RR.2.2 bx (lt_of_some HBR.out) NBR.out
            have HB9 := Lib.hid (RQ.1.trans HBR.out)
            have NB9 := Lib.hid RQ.2
            have HE9 : Hid (osOf (E ++ [(⟨⟨2, 0, [e], s, p⟩, A8, c8, As, cs, Ap, cp⟩ : OpS)]) = (units (osOf (x.take m)) ++ (unitsO ⟨2, nn, r, s, p⟩).take (j + 1)).map op1) := Lib.hid (by
              rw [List.take_add_one, UJ.out.1, show osOf (E ++ [(⟨⟨2, 0, [e], s, p⟩, A8, c8, As, cs, Ap, cp⟩ : OpS)]) = osOf E ++ [⟨2, 0, [e], s, p⟩] from by unfold osOf; rw [List.map_append]; rfl, HE.out, ← UJ.out.2]
              simp)
            clear ho9 hgr9 hw9 RR RQ
            go_wp2_with (fail)
            go_roundg (N - (j + 1))
            case measure => have := HG2.out; clear hw2 hw5; omega
            case rel => exact ⟨j + 1, _, by clear hw2 hw5; omega, rfl, by go_num, R9.out, HE9, HB9, NB9, Y9.out⟩
          · have hk1 : (k == 2) = false := beq_eq_false_iff_ne.2 hk
            have UJ : Hid (∃ u, (unitsO ⟨k, nn, r, s, p⟩)[j]? = some u ∧ op1 u = ⟨k, 1, [], s, p⟩) := Lib.hid (ones_not OK.out hk (by rw [NU.out]; exact hlj))
            obtain ⟨u, uj⟩ := UJ.out
            replace UJ := Lib.hid uj
            clear uj hk
            obtain ⟨w3, hw3⟩ : ∃ X, w2.alloc (.cells #[.int .u8 k, .int .i64 0, .slice none 0 0, .slice As s.length cs, .slice Ap p.length cp] 50) = X := ⟨_, rfl⟩
            have y3 : Below w2.heap.size w2 w3 := hw3 ▸ ext_alloc w2 _
            have HB3 : Hid (w3.heap[bx]? = some (.cells #[.int .u8 k, .int .i64 nn, .slice Ar r.length cr, .slice As s.length cs, .slice Ap p.length cp] 50 (0, 0))) := Lib.hid ((y3.block bx (lt_of_some HB2.out)).trans HB2.out)
            have HN3 : w3.heap[w2.heap.size]? = some (.cells #[.int .u8 k, .int .i64 0, .slice none 0 0, .slice As s.length cs, .slice Ap p.length cp] 50 (0, 0)) := hw3 ▸ heap_alloc_new w2 _
            have YW3 := Lib.hid (ext_trans Y2.out (ext_alloc w2 (.cells #[.int .u8 k, .int .i64 1, .slice none 0 0, .slice As s.length cs, .slice Ap p.length cp] 50)))
            have HB4 := Lib.hid ((YW3.out.block bx (lt_of_some HBR.out)).trans HBR.out)
            obtain ⟨s0, s1, s2, s3, s4⟩ := box_op HB3.out
            have fz := box_thaw HN3 1
            subst hw3
            clear HN3 y3
            go_wp2_with ((at_builtin; refine app_os (l := E) (m := [(⟨⟨k, 1, [], s, p⟩, none, 0, As, cs, Ap, cp⟩ : OpS)]) rfl (.tmp 42) (.tmp 44) rfl rfl (HRW.out.own.below (ext_trans YW3.out (ext_alloc _ _)) (Nat.le_refl _)) _ _ 1 1 rfl rfl (rd_one_at (enc := OpS.enc) (size := 5) _ _ (⟨⟨k, 1, [], s, p⟩, none, 0, As, cs, Ap, cp⟩ : OpS) rfl (by simp)) (by have := EL.out; simp only [List.length_singleton]; clear hw2 hw5; omega) (Nat.le_trans YWR.out.size (ext_trans YW3.out (ext_alloc _ _)).size) ?_; intro v9 w9 ho9 hgr9 hw9))
            have RR := push_old HRW.out YWR.out (ext_trans YW3.out (ext_alloc _ _)) ⟨⟨Rd.nil, fun ad e hl hk => hk⟩, ⟨PW.out.2.1, fun ad e hl hk => hk⟩, ⟨PW.out.2.2, fun ad e hl hk => hk⟩⟩ ho9 hgr9 hw9
            have R9 := Lib.hid RR.1
            have Y9 := Lib.hid RR.2.1
            have RQ := RR.2.2 bx (lt_of_some HBR.out) NBR.out
            have HB9 := Lib.hid (RQ.1.trans HBR.out)
            have NB9 := Lib.hid RQ.2
            have HE9 : Hid (osOf (E ++ [(⟨⟨k, 1, [], s, p⟩, none, 0, As, cs, Ap, cp⟩ : OpS)]) = (units (osOf (x.take m)) ++ (unitsO ⟨k, nn, r, s, p⟩).take (j + 1)).map op1) := Lib.hid (by
              rw [List.take_add_one, UJ.out.1, show osOf (E ++ [(⟨⟨k, 1, [], s, p⟩, none, 0, As, cs, Ap, cp⟩ : OpS)]) = osOf E ++ [⟨k, 1, [], s, p⟩] from by unfold osOf; rw [List.map_append]; rfl, HE.out, ← UJ.out.2]
              simp)
            clear ho9 hgr9 hw9 RR RQ
            go_wp2_with (fail)
            go_roundg (N - (j + 1))
            case measure => have := HG2.out; clear hw2 hw5; omega
            case rel => exact ⟨j + 1, _, by clear hw2 hw5; omega, rfl, by go_num, R9.out, HE9, HB9, NB9, Y9.out⟩
        have hlj' : ¬ (j : Int) < (N : Int) := by clear hw2; omega
        have hjn : j = N := by clear hw2; omega
        have HE9 : Hid (osOf E = (units (osOf (x.take (m + 1)))).map op1) := Lib.hid (by
          rw [UT.out, HE.out, hjn, List.take_of_length_le (l := unitsO ⟨k, nn, r, s, p⟩) (by rw [NU.out]; exact Nat.le_refl _)])
        have RE := Lib.hid (HRW.out.ext Y2.out)
        clear hjn
        go_wp2_with (fail)
        go_roundg (n - (m + 1))
        case measure => have := HG.out; clear hw2; omega
        case rel => exact ⟨m + 1, E, by clear hw2; omega, rfl, by go_num, RE.out, HE9, ext_trans YWR.out Y2.out⟩
    · have hlt' : ¬ (m : Int) < (n : Int) := by omega
      have hmn : x.take m = x := List.take_of_length_le (by have := N0.out; omega)
      have HF : Hid (osOf D = (units (osOf x)).map op1) := Lib.hid (by have h := HD.out; rw [hmn] at h; exact h)
      obtain ⟨A9, k9, hv9, _, _⟩ := HRW.out.own.form
      subst hv9
      clear hmn HD
      go_wp2_with (fail)
      go_ret
      exact ⟨A9, k9, D, rfl, HF.out, HRW.out, y⟩
end Go.Proofs.YtfnkjcodcoehcaaGreatDoor
