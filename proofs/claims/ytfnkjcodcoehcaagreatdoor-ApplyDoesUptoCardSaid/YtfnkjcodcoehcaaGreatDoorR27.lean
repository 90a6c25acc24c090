/- Merged texts: Of18, LeadLaw, Do19, FitsClass. -/
import Derived.Test.YtfnkjcodcoehcaaGreatDoorR23
import Derived.Test.YtfnkjcodcoehcaaGreatDoorR22
import Derived.Test.YtfnkjcodcoehcaaGreatDoorR9
import Derived.Test.YtfnkjcodcoehcaaGreatDoorR17
import Derived.Deep.RegionHeld3
import Derived.Deep.RegionHeldLaw
import Derived.Test.YtfnkjcodcoehcaaGreatDoorR26
import Derived.Test.YtfnkjcodcoehcaaGreatDoorR18
import Derived.Test.YtfnkjcodcoehcaaGreatDoorR16
import Derived.Test.YtfnkjcodcoehcaaGreatDoorR10
import Derived.Test.YtfnkjcodcoehcaaGreatDoorR13
namespace Go.Proofs.YtfnkjcodcoehcaaGreatDoor
open Go.RowKit
set_option linter.unusedVariables false
set_option linter.unusedSimpArgs false

set_option maxRecDepth 100000 in
set_option maxHeartbeats 4000000 in
theorem of18_any (A As : Option Addr) (n c ns cs : Nat) (l : List Int) (s : List At) (w : World) (hn : n = l.length) (hs : ns = s.length) (h : RdI32 w w.heap.size A l) (h2 : RdAt w w.heap.size As s) (hb : n ≤ 100000000) (hb2 : ns ≤ 100000000) :
    Calls Tryz.prog 124 #[.slice A n c, .slice As ns cs] w (NewCls (l.map (fun r => ⟨r, s⟩)) w) := by
  have N := Lib.hid hn
  have NS := Lib.hid hs
  have HX := Lib.hid h
  have HS := Lib.hid h2
  clear hn hs h h2
  go_enter Tryz.func124, Tryz.ntmps124
  go_wp2_with (fail)
  go_loopg [5, 6] n (fun g ov iv wr => ∃ (m : Nat) (D : List ClS), m ≤ n ∧ g = n - m ∧ iv = .int .i64 (m : Int) ∧ clsOf D = (l.take m).map (fun r => ⟨r, s⟩) ∧ D.length = m ∧ OwCs wr w.heap.size ov D ∧ Hid (∀ x ∈ D, PartC wr w.heap.size ov x) ∧ Below w.heap.size w wr)
  case atStart => exact ⟨0, [], by omega, rfl, rfl, rfl, rfl, Ow.nil _ _, Lib.hid (fun x hx => by cases hx), Below.refl _ _⟩
  case round =>
    obtain ⟨m, D, hm, hg, rfl, hDo, hD, hown, HP, y⟩ := hrel
    have HG := Lib.hid hg
    clear hg
    by_cases hlt : m < n
    · have hl1 : m < l.length := by have := N.out; omega
      have hlt' : (m : Int) < (n : Int) := by omega
      obtain ⟨ad, r, had0, hd0, hd1, hx1, hc0⟩ := (HX.out.ext y).el hl1
      subst had0
      have HM := Lib.hid hx1
      have HAD : Hid (ad.block < w.heap.size) := Lib.hid (by
        obtain ⟨ad', e', hb', _⟩ := HX.out (by omega)
        injection e' with e'; subst e'; exact hb')
      have HC := Lib.hid hc0
      have G2 := Lib.hid (HS.out.ext y)
      have hw2 : IntKind.i64.wrap ((m:Int) + 1) = (m : Int) + 1 := IntWalk.i64_in _ (by omega)
      clear hc0 hd1 hx1 hd0
      have HOW := Lib.hid hown
      go_wp2_with (fail)
      have opb : ∀ {W : World}, Below wr.heap.size wr W → W.cell? (ad.add m) = some (.int .i32 r) := fun {W} yw => by
        have := (HC.out.keep (w' := W) fun q hq => yw.cell (by rw [hq, add_block]; have := HAD.out; have := y.size; omega)) 0 _ rfl
        rwa [add_zero', Nat.mul_one] at this
      have YW : Hid (Below wr.heap.size wr wr.drew) := Lib.hid (up_drew (Below.refl _ _))
      have YB : Hid (Below wr.heap.size wr wr) := Lib.hid (Below.refl _ _)
      have Cw := opb YB.out
      go_region_held_law (fun w' => w'.cell? (ad.add m) = some (.int .i32 r)) (first | exact C9 | exact opb (by repeat (first | exact YW.out | exact YB.out | refine ext_trans ?_ (ext_alloc _ _) | refine up_drew ?_))) (first
        | (refine step_at_0 (m := s) rfl (.tmp 18) (.tmp 19) (by rfl) ⟨_, rfl⟩ wr.heap.size _ As cs ns (by rfl) NS.out (G2.out.ext (by repeat (first | exact YW.out | exact YB.out | refine ext_trans ?_ (ext_alloc _ _) | refine up_drew ?_))) (by have := NS.out; omega) (by exact ((by repeat (first | exact YW.out | exact YB.out | refine ext_trans ?_ (ext_alloc _ _) | refine up_drew ?_)) : Below wr.heap.size wr _).size) ?_
           intro vAt w6 hoAt hgrAt
           obtain ⟨A6, k6, hv6, _, _⟩ := hoAt.form
           subst hv6
           have OAt := Lib.hid hoAt
           have YW : Hid (Below wr.heap.size wr w6) := Lib.hid (grown0C (by repeat (first | exact YW.out | exact YB.out | refine ext_trans ?_ (ext_alloc _ _) | refine up_drew ?_)) hgrAt)
           have CAt := opb YW.out
           clear hoAt hgrAt)
        | (refine step_cl (l := D) (m := [(⟨⟨r, s⟩, A6, k6⟩ : ClS)]) rfl (.tmp 13) (.tmp 22) (by rfl) (by rfl) (HOW.out.below (ext_trans YW.out (ext_alloc _ _)) (Nat.le_refl _)) _ _ 1 1 (by rfl) rfl (rd_one (enc := ClS.enc) (size := 2) w6 _ (⟨⟨r, s⟩, A6, k6⟩ : ClS) rfl) (by simp only [List.length_singleton]; omega) (Nat.le_trans y.size (ext_trans YW.out (ext_alloc _ _)).size) ?_
           intro v9 w9 ho9 hgr9 hw9
           have O9 := Lib.hid ho9
           have HW9 := Lib.hid hw9
           have HG9 := Lib.hid hgr9
           have Y9 : Hid (Below w.heap.size w w9) := Lib.hid (below_app (y.trans ((ext_trans YW.out (ext_alloc _ _)).mono y.size)) (Nat.le_trans y.size (ext_trans YW.out (ext_alloc _ _)).size) (HOW.out.below (ext_trans YW.out (ext_alloc _ _)) (Nat.le_refl _)) (Nat.le_refl _) hgr9)
           have C9 : w9.cell? (ad.add m) = some (.int .i32 r) := by
             have := (HC.out.keep (w' := w9) fun q hq => (Y9.out.cell (by rw [hq, add_block]; exact HAD.out)).trans (y.cell (by rw [hq, add_block]; exact HAD.out)).symm) 0 _ rfl
             rwa [add_zero', Nat.mul_one] at this
           clear ho9 hgr9 hw9))
      all_goals
        have r := copy18_step (x' := ⟨⟨r, s⟩, A6, k6⟩) y HOW.out HP.out OAt.out (Below.refl _ _) YW.out HG9.out HW9.out
        have R1 := Lib.hid r.1
        have R2 := Lib.hid r.2
        clear r
        go_wp2_with (fail)
        go_roundg (n - (m + 1))
      all_goals first
        | (have := HG.out; omega)
        | (refine ⟨m + 1, D ++ [⟨⟨r, s⟩, A6, k6⟩], by omega, rfl, by go_num, ?_, by simp [hD], O9.out, R1, R2.out⟩
           rw [List.take_add_one, HM.out]
           unfold clsOf at hDo ⊢
           rw [List.map_append, List.map_append, hDo]; rfl)
    · have hml : m = n := by omega
      subst hml
      have hlt' : ¬ (m : Int) < (m : Int) := by omega
      have HO := Lib.hid hown
      have HD := Lib.hid hD
      have HDO := Lib.hid hDo
      clear hown hD hDo
      obtain ⟨A1, k1, hv1, _, _⟩ := HO.out.form
      subst hv1
      go_wp2_with (fail)
      go_ret
      exact ⟨A1, k1, D, rfl, by rw [HDO.out, N.out, List.take_length], HO.out, HP.out, y⟩
end Go.Proofs.YtfnkjcodcoehcaaGreatDoor
namespace Go.Proofs.YtfnkjcodcoehcaaGreatDoor
set_option linter.unusedVariables false
set_option linter.unusedSimpArgs false

theorem app_dels' (l : List Ky) (us : List Un) : ∀ (g : Nat) (d : List Cl), app l (List.replicate g .del ++ us) d = app l us (d.drop g)
  | 0, d => rfl
  | g + 1, d => by rw [List.replicate_succ]; show app l (List.replicate g .del ++ us) (d.drop 1) = _; rw [app_dels' l us g, List.drop_drop, Nat.add_comm 1]
end Go.Proofs.YtfnkjcodcoehcaaGreatDoor
namespace Go.Proofs.YtfnkjcodcoehcaaGreatDoor
open Go.RowKit
set_option linter.unusedVariables false
set_option linter.unusedSimpArgs false

theorem app_retp (l : List Ky) (p : List Ch) (vs : List Un) : ∀ (n : Nat) (d : List Cl), n ≤ d.length → app l (List.replicate n (.ret p) ++ vs) d = (d.take n).map (fun c => actC l c p) ++ app l vs (d.drop n)
  | 0, d, _ => rfl
  | n + 1, [], h => by simp at h
  | n + 1, c :: d, h => by
    rw [List.replicate_succ]
    show [actC l c p] ++ app l (List.replicate n (.ret p) ++ vs) d = _
    rw [app_retp l p vs n d (by simpa using h)]
    simp
theorem app_insr (l : List Ky) (s : List At) (vs : List Un) (d : List Cl) : ∀ r : List Int, app l (r.map (fun r => Un.ins r s) ++ vs) d = r.map (fun r => (⟨r, s⟩ : Cl)) ++ app l vs d
  | [] => rfl
  | r :: t => by
    show (⟨r, s⟩ : Cl) :: app l (t.map (fun r => Un.ins r s) ++ vs) d = _
    rw [app_insr l s vs d t]; rfl
/-- how far a delta's first units have come: what is made, and what is taken -/
def DoneU (l : List Ky) (us : List Un) (d : List Cl) (M : List Cl) (a : Nat) : Prop := a = takesU us ∧ M.length = makesU us ∧ ∀ vs, app l (us ++ vs) d = M ++ app l vs (d.drop a)
theorem DoneU.nil (l : List Ky) (d : List Cl) : DoneU l [] d [] 0 := ⟨rfl, rfl, fun vs => rfl⟩
theorem DoneU.ret {l : List Ky} {us : List Un} {d M : List Cl} {a n : Nat} {p : List Ch} (h : DoneU l us d M a) (hn : a + n ≤ d.length) : DoneU l (us ++ List.replicate n (.ret p)) d (M ++ ((d.drop a).take n).map (fun c => actC l c p)) (a + n) := by
  obtain ⟨h1, h2, h3⟩ := h
  refine ⟨?_, ?_, fun vs => ?_⟩
  · rw [takesU_append, ← h1, takesU_ret]
  · rw [makesU_append, ← h2, List.length_append, List.length_map, List.length_take, List.length_drop, makesU_ret]; omega
  · rw [List.append_assoc, h3, app_retp l p vs n (d.drop a) (by rw [List.length_drop]; omega), List.drop_drop, List.append_assoc]
theorem DoneU.ins {l : List Ky} {us : List Un} {d M : List Cl} {a : Nat} (h : DoneU l us d M a) (r : List Int) (s : List At) : DoneU l (us ++ r.map (fun r => Un.ins r s)) d (M ++ r.map (fun r => (⟨r, s⟩ : Cl))) a := by
  obtain ⟨h1, h2, h3⟩ := h
  refine ⟨?_, ?_, fun vs => ?_⟩
  · rw [takesU_append, ← h1]
    have : takesU (r.map (fun r => Un.ins r s)) = 0 := by induction r with | nil => rfl | cons r t ih => exact ih
    omega
  · rw [makesU_append, ← h2, List.length_append, List.length_map]
    have : makesU (r.map (fun r => Un.ins r s)) = r.length := by induction r with | nil => rfl | cons r t ih => rw [List.map_cons, makesU_i, ih]; rfl
    omega
  · rw [List.append_assoc, h3, app_insr, List.append_assoc]
theorem DoneU.del {l : List Ky} {us : List Un} {d M : List Cl} {a n : Nat} (h : DoneU l us d M a) : DoneU l (us ++ List.replicate n .del) d M (a + n) := by
  obtain ⟨h1, h2, h3⟩ := h
  refine ⟨?_, ?_, fun vs => ?_⟩
  · rw [takesU_append, ← h1, takesU_del]
  · rw [makesU_append, ← h2, makesU_del]; rfl
  · rw [List.append_assoc, h3, app_dels', List.drop_drop]
theorem units_take {x : List OpS} {m : Nat} {o : OpS} (h : x[m]? = some o) : units (osOf (x.take (m + 1))) = units (osOf (x.take m)) ++ unitsO o.o := by
  unfold osOf
  rw [List.take_add_one, h, List.map_append, units_append]
  congr 1
  exact units_one o.o
theorem units_pre (x : List OpS) (m : Nat) : ∃ vs, units (osOf x) = units (osOf (x.take m)) ++ vs := by
  refine ⟨units (osOf (x.drop m)), ?_⟩
  unfold osOf
  rw [← units_append, ← List.map_append, List.take_append_drop]
theorem pre_le (x : List OpS) (m : Nat) : takesU (units (osOf (x.take m))) ≤ takesU (units (osOf x)) ∧ makesU (units (osOf (x.take m))) ≤ makesU (units (osOf x)) := by
  obtain ⟨vs, h⟩ := units_pre x m
  rw [h, takesU_append, makesU_append]
  omega
/-- own cells set behind own cells -/
theorem parts_app {w wr w3 w9 : World} {ov v9 : Value} {D M : List ClS} (y : Below w.heap.size w wr) (how : OwCs wr w.heap.size ov D) (hp : ∀ x ∈ D, PartC wr w.heap.size ov x) (y3 : Below wr.heap.size wr w3)
    (hm : ∀ x ∈ M, OwAt w3 wr.heap.size (.slice x.As x.c.s.length x.cs) x.c.s) (g : w3.grownBy w9 (wb ov)) (hv : v9 = ov ∧ w9 = w3 ∨ wb v9 = wb ov ∨ wb v9 = some w3.heap.size) :
    (∀ x ∈ D ++ M, PartC w9 w.heap.size v9 x) ∧ Below w.heap.size w w9 := by
  have s0 := y.size
  refine ⟨fun x hx => ?_, ?_⟩
  · rcases List.mem_append.1 hx with hx | hx
    · exact ((hp x hx).below y3).app g hv
    · have o6 := hm x hx
      have p : PartC w3 w.heap.size ov x := ⟨o6.base_le (by omega), fun k hk he => by
        have h1 := (o6.wb_lt k hk).1
        have h2 := (how.wb_lt k he).2
        omega⟩
      exact p.app g hv
  · have yy := ext_trans y y3
    exact yy.grown g yy.size (fun k hk => (how.wb_lt k hk).1)
theorem Ow.ne_type {α : Type} {enc : α → List Value} {size : Nat} {e e' : TypeId} {w : World} {base g : Nat} {cur : Array Value} {v : Value} {l : List α} (h : Ow enc size e w base v l) (hg : w.heap[g]? = some (.cells cur e' (0, 0))) (he : e' ≠ e) : wb v ≠ some g := fun hw => by
  rcases h with ⟨rfl, A, rfl⟩ | ⟨_, ⟨rfl, _⟩ | ⟨g', cap, cur', rfl, _, hg', _⟩⟩
  · cases A <;> cases hw
  · cases hw
  · cases cap with
    | zero => cases hw
    | succ c =>
      injection hw with hw
      subst hw
      rw [hg] at hg'
      injection hg' with hg'
      injection hg' with _ hg' _
      exact he hg'
set_option maxRecDepth 100000 in
set_option maxHeartbeats 12800000 in
theorem do19_any {A0 A1 A2 : Option Addr} {n0 n1 n2 c0 c1 c2 : Nat} {l : List Ky} {d : List ClS} {x : List OpS} {w : World} (e0 : n0 = l.length) (r0 : RdKy w w.heap.size A0 l) (b0 : n0 ≤ 1048576) (e1 : n1 = d.length) (r1 : RdCl w w.heap.size A1 d) (b1 : n1 ≤ 10000) (k1 : n1 ≤ c1)
    (e2 : n2 = x.length) (r2 : RdOp w w.heap.size A2 x) (b2 : n2 ≤ 10000) (hs : ∀ z ∈ d, z.c.s.length ≤ 1000000 ∧ riseA z.c.s = true) (hi : ∀ o ∈ x, isOp o.o ∧ o.o.r.length ≤ 100000 ∧ o.o.s.length ≤ 1000000 ∧ o.o.p.length ≤ 1000000 ∧ riseC o.o.p = true)
    (ht : takesU (units (osOf x)) ≤ n1) (hm : makesU (units (osOf x)) ≤ 20000) :
    Calls Tryz.prog 92 #[.slice A0 n0 c0, .slice A1 n1 c1, .slice A2 n2 c2] w (NewCls (app l (units (osOf x)) (clsOf d)) w) := by
  have N0 := Lib.hid e0
  have R0 := Lib.hid r0
  have N1 := Lib.hid e1
  have R1 := Lib.hid r1
  have N2 := Lib.hid e2
  have R2 := Lib.hid r2
  have HS := Lib.hid hs
  have HI := Lib.hid hi
  have LD : Hid ((clsOf d).length = n1) := Lib.hid (by rw [clsOf_len, e1])
  have TM : Hid (∀ m, takesU (units (osOf (x.take m))) ≤ n1 ∧ makesU (units (osOf (x.take m))) ≤ 20000) := Lib.hid (fun m => by have := pre_le x m; omega)
  have RAS : Hid (∀ v, Below w.heap.size w v → ∀ z ∈ d, RdAt v v.heap.size z.As z.c.s) := Lib.hid (fun v hv z hz => (r1.2 z hz).ext hv)
  clear e0 r0 e1 e2 hs hi ht hm
  go_enter Tryz.func92, Tryz.ntmps92
  go_wp2_with (fail)
  go_loopg [7, 8, 9] n2 (fun g ov av iv wr => ∃ (m a : Nat) (D : List ClS), m ≤ n2 ∧ a ≤ n1 ∧ D.length ≤ 20000 ∧ g = n2 - m ∧ av = .int .i64 (a : Int) ∧ iv = .int .i64 (m : Int) ∧ OwCs wr w.heap.size ov D ∧ Hid (∀ z ∈ D, PartC wr w.heap.size ov z) ∧ Hid (DoneU l (units (osOf (x.take m))) (clsOf d) (clsOf D) a) ∧ Below w.heap.size w wr)
  case atStart => exact ⟨0, 0, [], Nat.zero_le _, Nat.zero_le _, Nat.zero_le _, rfl, rfl, rfl, Ow.nil _ _, Lib.hid (fun z hz => by cases hz), Lib.hid (DoneU.nil _ _), Below.refl _ _⟩
  case round =>
    obtain ⟨m, a, D, hm, ha, hdl, hg, rfl, rfl, hown, HP, HD, y⟩ := hrel
    have HG := Lib.hid hg
    have HOW := Lib.hid hown
    clear hg hown
    by_cases hlt : m < n2
    · have hlt' : (m : Int) < (n2 : Int) := by omega
      obtain ⟨ad, o, rfl, hab, _, hx, hc⟩ := (R2.out.ext y).1.el (i := m) (by have := N2.out; omega)
      have om := List.mem_of_getElem? hx
      have PO := Lib.hid ((R2.out.ext y).2 o om)
      have PW := Lib.hid (R2.out.2 o om)
      have OK := Lib.hid (HI.out o om)
      have UT := Lib.hid (units_take hx)
      have T1 := TM.out (m + 1)
      have hw2 : IntKind.i64.wrap ((m : Int) + 1) = (m : Int) + 1 := IntWalk.i64_in _ (by omega)
      obtain ⟨⟨k, nn, r, s, p⟩, Ar, cr, As, cs, Ap, cp⟩ := o
      simp only at PO OK PW
      obtain ⟨z0, z1, z2, z3, z4⟩ := op_cells hc
      obtain ⟨wo, hwo⟩ : ∃ X, X = wr := ⟨_, rfl⟩
      subst hwo
      have HDL : Hid (D.length = makesU (units (osOf (x.take m)))) := Lib.hid (by rw [← clsOf_len]; exact HD.out.2.1)
      have HAT : Hid (a = takesU (units (osOf (x.take m)))) := Lib.hid HD.out.1
      clear hx hc om hab
      rcases isOp_kind OK.out.1 with hk | hk | hk
      · -- an insert
        simp only at hk
        subst hk
        have UO : Hid (unitsO ⟨2, nn, r, s, p⟩ = r.map (fun r => Un.ins r s)) := Lib.hid (by unfold unitsO; rw [if_pos rfl])
        obtain ⟨q0, q1, q2, q3, q4⟩ := box_op (heap_alloc_new wo (.cells #[.int .u8 2, .int .i64 nn, .slice Ar r.length cr, .slice As s.length cs, .slice Ap p.length cp] 50))
        have YB := Lib.hid (ext_alloc wo (.cells #[.int .u8 2, .int .i64 nn, .slice Ar r.length cr, .slice As s.length cs, .slice Ap p.length cp] 50))
        obtain ⟨L, hL⟩ : ∃ X, r.map (fun r => (⟨r, s⟩ : Cl)) = X := ⟨_, rfl⟩
        have HLL := Lib.hid hL
        clear hL
        go_wp2_with (go_at_call 124; refine Hid.out ?_)
        refine Lib.hid ?_
        refine (of18_any Ar As r.length cr s.length cs r s _ rfl rfl (PO.out.1.ext YB.out) (PO.out.2.1.ext YB.out) (by have := OK.out.2.1; clear hw2; (try simp only at this); omega) (by have := OK.out.2.2.1; clear hw2; (try simp only at this); omega)).mono ?_
        rw [HLL.out]
        rintro e w3 ⟨A3, k3, L3, rfl, h3, o3, p3, y3⟩
        have Y3 := Lib.hid (ext_trans YB.out y3)
        have O3 := Lib.hid (o3.rd ClS.enc_len)
        have P3 : Hid (∀ z ∈ L3, OwAt w3 wo.heap.size (.slice z.As z.c.s.length z.cs) z.c.s) := Lib.hid (fun z hz => (p3 z hz).1.base_le (by simp))
        have E3 := Lib.hid h3
        have L3L : Hid (L3.length ≤ 100000) := Lib.hid (by have h := congrArg List.length h3; rw [clsOf_len, ← HLL.out, List.length_map] at h; have := OK.out.2.1; clear hw2; (try simp only at this); omega)
        clear h3 o3 p3 y3 q0 q1 q2 q3 q4 z0 z1 z2 z3 z4
        go_wp2_with ((at_builtin; refine app_cs (l := D) (m := L3) rfl (.tmp 55) (.tmp 60) rfl rfl (HOW.out.below Y3.out (Nat.le_refl _)) _ A3 k3 L3.length rfl rfl O3.out (by have := L3L.out; clear hw2; omega) (Nat.le_trans y.size Y3.out.size) ?_; intro v9 w9 ho9 hgr9 hw9))
        have RR := parts_app y HOW.out HP.out Y3.out P3.out hgr9 hw9
        have O9 := Lib.hid ho9
        have P9 := Lib.hid RR.1
        have Y9 := Lib.hid RR.2
        have D9 : Hid (DoneU l (units (osOf (x.take (m + 1)))) (clsOf d) (clsOf (D ++ L3)) a) := Lib.hid (by
          rw [UT.out, UO.out, show clsOf (D ++ L3) = clsOf D ++ clsOf L3 from by unfold clsOf; rw [List.map_append], E3.out, ← HLL.out]
          exact HD.out.ins r s)
        have N9 : Hid ((D ++ L3).length ≤ 20000) := Lib.hid (by rw [← clsOf_len, D9.out.2.1]; exact T1.2)
        clear ho9 hgr9 hw9 RR
        go_wp2_with (fail)
        go_roundg (n2 - (m + 1))
        case measure => have := HG.out; clear hw2; omega
        case rel => exact ⟨m + 1, a, D ++ L3, by clear hw2; omega, ha, N9.out, rfl, rfl, by go_num, O9.out, P9, D9, Y9.out⟩
      · -- a delete
        simp only at hk
        subst hk
        obtain ⟨N, rfl⟩ : ∃ N : Nat, nn = N := ⟨nn.toNat, by have := (opD_of OK.out.1 rfl).2; simp only at this; omega⟩
        have UO : Hid (unitsO ⟨3, (N : Int), r, s, p⟩ = List.replicate N .del) := Lib.hid (by unfold unitsO; rw [if_neg (show ¬ (3 : Int) = 2 by decide), if_neg (show ¬ (3 : Int) = 1 by decide)]; simp)
        have D9 : Hid (DoneU l (units (osOf (x.take (m + 1)))) (clsOf d) (clsOf D) (a + N)) := Lib.hid (by rw [UT.out, UO.out]; exact HD.out.del)
        have AN : a + N ≤ n1 := by rw [D9.out.1]; exact T1.1
        have hw3 : IntKind.i64.wrap ((a : Int) + (N : Int)) = ((a + N : Nat) : Int) := by rw [show (a : Int) + (N : Int) = ((a + N : Nat) : Int) by omega]; exact IntWalk.i64_in _ (by clear hw2; omega)
        obtain ⟨q0, q1, q2, q3, q4⟩ := box_op (heap_alloc_new wo (.cells #[.int .u8 3, .int .i64 (N : Int), .slice Ar r.length cr, .slice As s.length cs, .slice Ap p.length cp] 50))
        have YB := Lib.hid (ext_alloc wo (.cells #[.int .u8 3, .int .i64 (N : Int), .slice Ar r.length cr, .slice As s.length cs, .slice Ap p.length cp] 50))
        have P9 := Lib.hid (fun z (hz : z ∈ D) => (HP.out z hz).below YB.out)
        go_wp2_with (fail)
        go_roundg (n2 - (m + 1))
        case measure => have := HG.out; clear hw2 hw3; omega
        case rel => exact ⟨m + 1, a + N, D, by clear hw2 hw3; omega, AN, hdl, rfl, by first | rfl | go_num, by go_num, HOW.out.below YB.out (Nat.le_refl _), P9, D9, ext_trans y YB.out⟩
      · -- a retain
        simp only at hk
        subst hk
        obtain ⟨N, rfl⟩ : ∃ N : Nat, nn = N := ⟨nn.toNat, by have := (opR_of OK.out.1 rfl).2; simp only at this; omega⟩
        have UO : Hid (unitsO ⟨1, (N : Int), r, s, p⟩ = List.replicate N (.ret p)) := Lib.hid (by unfold unitsO; rw [if_neg (show ¬ (1 : Int) = 2 by decide), if_pos rfl]; simp)
        have AN : Hid (a + N ≤ n1) := Lib.hid (by have h := T1.1; rw [UT.out, UO.out, takesU_append, takesU_ret, ← HAT.out] at h; exact h)
        have hw3 : IntKind.i64.wrap ((a : Int) + (N : Int)) = ((a + N : Nat) : Int) := by rw [show (a : Int) + (N : Int) = ((a + N : Nat) : Int) by omega]; exact IntWalk.i64_in _ (by have := AN.out; clear hw2; omega)
        have hb := heap_alloc_new wo (.cells #[.int .u8 1, .int .i64 (N : Int), .slice Ar r.length cr, .slice As s.length cs, .slice Ap p.length cp] 50)
        obtain ⟨q0, q1, q2, q3, q4⟩ := box_op hb
        have HBX := Lib.hid hb
        have YB := Lib.hid (ext_alloc wo (.cells #[.int .u8 1, .int .i64 (N : Int), .slice Ar r.length cr, .slice As s.length cs, .slice Ap p.length cp] 50))
        clear hb
        go_wp2_with (fail)
        obtain ⟨bx, hbx⟩ : ∃ X, wo.heap.size = X := ⟨_, rfl⟩
        have HWS := Lib.hid hbx
        rw [hbx] at HBX ⊢
        generalize hwb : wo.alloc (.cells #[.int .u8 1, .int .i64 (N : Int), .slice Ar r.length cr, .slice As s.length cs, .slice Ap p.length cp] 50) = wb at *
        have YW0 : Hid (Below w.heap.size w wb) := Lib.hid (ext_trans y YB.out)
        have PB := Lib.hid (fun z (hz : z ∈ D) => (HP.out z hz).below YB.out)
        have OB := Lib.hid (HOW.out.below YB.out (Nat.le_refl _))
        clear hwb hbx q0 q1 q2 q3 q4 z0 z1 z2 z3 z4 HP HOW
        go_loopg [7, 11] N (fun g ov iv wr => ∃ (j : Nat) (E : List ClS), j ≤ N ∧ E.length ≤ 20000 + j ∧ g = N - j ∧ iv = .int .i64 (j : Int) ∧ OwCs wr w.heap.size ov E ∧ Hid (∀ z ∈ E, PartC wr w.heap.size ov z) ∧ Hid (clsOf E = clsOf D ++ (((clsOf d).drop a).take j).map (fun c => actC l c p)) ∧ Hid (wr.heap[bx]? = some (.cells #[.int .u8 1, .int .i64 (N : Int), .slice Ar r.length cr, .slice As s.length cs, .slice Ap p.length cp] 50 (0, 0))) ∧ Below w.heap.size w wr)
        case atStart => exact ⟨0, D, Nat.zero_le _, hdl, rfl, rfl, OB.out, PB, Lib.hid (by simp), HBX, YW0.out⟩
        case round =>
          clear OB PB HBX YW0 YB HWS
          obtain ⟨j, E, hj, hel, hg, rfl, hown, HPE, HE, HBR, yi⟩ := hrel
          have HG2 := Lib.hid hg
          have HOW := Lib.hid hown
          clear hg hown
          have YWR := Lib.hid yi
          obtain ⟨-, b1', -, -, b4'⟩ := box_op HBR.out
          by_cases hlj : j < N
          · have hlj' : (j : Int) < (N : Int) := by clear hw2 hw3; omega
            obtain ⟨q, hq⟩ : ∃ X, a + j = X := ⟨_, rfl⟩
            have HQ := Lib.hid hq
            have hw4 : IntKind.i64.wrap ((a : Int) + (j : Int)) = (q : Int) := by rw [show (a : Int) + (j : Int) = (q : Int) by clear hw2 hw3; omega]; exact IntWalk.i64_in _ (by have := AN.out; clear hw2 hw3; omega)
            have hw5 : IntKind.i64.wrap ((j : Int) + 1) = (j : Int) + 1 := IntWalk.i64_in _ (by have := AN.out; clear hw2 hw3 hw4; omega)
            have hq1 : q < n1 := by have := AN.out; clear hw2 hw3 hw4 hw5; omega
            have hq2 : (q : Int) < (n1 : Int) := by clear hw2 hw3 hw4 hw5; omega
            obtain ⟨ad1, z, rfl, _, _, hz1, hcz⟩ := (R1.out.ext yi).1.el (i := q) (by rw [← N1.out]; exact hq1)
            have HZ : Hid (((clsOf d).drop a)[j]? = some z.c) := Lib.hid (by rw [List.getElem?_drop, hq]; exact clsOf_at hz1)
            have zm := List.mem_of_getElem? hz1
            have SZ := Lib.hid (HS.out z zm)
            have GZ := Lib.hid (R1.out.2 z zm)
            have AD1 : Hid (ad1.block < w.heap.size) := Lib.hid (by
              obtain ⟨ad', e', hb', _⟩ := R1.out.1 (by rw [← N1.out]; clear hw2 hw3 hw4 hw5; omega)
              injection e' with e'; subst e'; exact hb')
            obtain ⟨⟨r1, s1⟩, As1, cs1⟩ := z
            simp only at SZ GZ HZ
            have HCZ := Lib.hid hcz
            obtain ⟨X, hX⟩ : ∃ X, (actC l ⟨r1, s1⟩ p).s = X := ⟨_, rfl⟩
            have HX := Lib.hid hX
            have HXC : Hid (actC l ⟨r1, s1⟩ p = ⟨r1, X⟩) := Lib.hid (by rw [← hX]; rfl)
            clear hz1 zm hcz hX hq b1' b4'
            have cel : ∀ {W : World}, Below w.heap.size w W → W.cell? (ad1.add (q * 2)) = some (.int .i32 r1) ∧ W.cell? { block := (ad1.add (q * 2)).block, off := (ad1.add (q * 2)).off + 1 } = some (.slice As1 s1.length cs1) := fun {W} yw =>
              cl_cells (HCZ.out.keep (w' := W) fun q hq => (yw.cell (by rw [hq, add_block]; exact AD1.out)).trans (YWR.out.cell (by rw [hq, add_block]; exact AD1.out)).symm)
            have opb : ∀ {W : World}, Below wr.heap.size wr W → W.cell? (ad1.add (q * 2)) = some (.int .i32 r1) ∧ W.cell? { block := (ad1.add (q * 2)).block, off := (ad1.add (q * 2)).off + 1 } = some (.slice As1 s1.length cs1) ∧ W.cell? ⟨bx, 4, none⟩ = some (.slice Ap p.length cp) := fun {W} yw => by
              obtain ⟨a1, a2⟩ := cel (ext_trans YWR.out yw)
              exact ⟨a1, a2, (box_op ((yw.block bx (lt_of_some HBR.out)).trans HBR.out)).2.2.2.2⟩
            have YW : Hid (Below wr.heap.size wr wr.drew) := Lib.hid (up_drew (Below.refl _ _))
            have YZ : Hid (Below wr.heap.size wr wr) := Lib.hid (Below.refl _ _)
            have Cw := opb YZ.out
            have Cn := (box_op HBR.out).2.1
            go_wp2_with (fail)
            clear Cn
            go_region_held_law (fun w' => w'.cell? (ad1.add (q * 2)) = some (.int .i32 r1) ∧ w'.cell? { block := (ad1.add (q * 2)).block, off := (ad1.add (q * 2)).off + 1 } = some (.slice As1 s1.length cs1) ∧ w'.cell? ⟨bx, 4, none⟩ = some (.slice Ap p.length cp)) (first | exact C9 | exact C8 | exact opb (by repeat (first | exact YW.out | exact YZ.out | refine ext_trans ?_ (ext_alloc _ _) | refine up_drew ?_))) (first
              | (refine step_fn rfl 38 [.tmp 37, .tmp 43, .tmp 45] #[22, 38, 48] rfl Tryz.f38 (by kernel_rfl) (by kernel_rfl) (by kernel_rfl) [.slice A0 n0 c0, .agg #[.int .i32 r1, .slice As1 s1.length cs1], .slice Ap p.length cp] (by rfl) (cell19_any A0 n0 c0 l r1 As1 Ap s1.length cs1 p.length cp s1 p _ N0.out (R0.out.ext (ext_trans YWR.out (by repeat (first | exact YW.out | exact YZ.out | refine ext_trans ?_ (ext_alloc _ _) | refine up_drew ?_)))) b0 rfl rfl (GZ.out.ext (ext_trans YWR.out (by repeat (first | exact YW.out | exact YZ.out | refine ext_trans ?_ (ext_alloc _ _) | refine up_drew ?_)))) (PW.out.2.2.ext (ext_trans YWR.out (by repeat (first | exact YW.out | exact YZ.out | refine ext_trans ?_ (ext_alloc _ _) | refine up_drew ?_)))) SZ.out.1 OK.out.2.2.2.1 SZ.out.2 OK.out.2.2.2.2) ?_
                 rw [HX.out]
                 rintro e7 w7 ⟨A7, c7, rfl, o7, y7⟩
                 refine ⟨_, rfl, ?_⟩
                 have O7 := Lib.hid o7
                 have YW : Hid (Below wr.heap.size wr w7) := Lib.hid (ext_trans (by repeat (first | exact YW.out | exact YZ.out | refine ext_trans ?_ (ext_alloc _ _) | refine up_drew ?_)) y7)
                 have C8 := opb YW.out
                 clear o7 y7)
              | (refine step_cl (l := E) (m := [(⟨⟨r1, X⟩, A7, c7⟩ : ClS)]) rfl (.tmp 36) (.tmp 47) (by rfl) (by rfl) (HOW.out.below (ext_trans YW.out (ext_alloc _ _)) (Nat.le_refl _)) _ _ 1 1 (by rfl) rfl (rd_one_at (enc := ClS.enc) (size := 2) _ _ (⟨⟨r1, X⟩, A7, c7⟩ : ClS) rfl (by simp)) (by have := AN.out; simp only [List.length_singleton]; clear hw2 hw3 hw4 hw5; omega) (Nat.le_trans YWR.out.size (ext_trans YW.out (ext_alloc _ _)).size) ?_
                 intro v9 w9 ho9 hgr9 hw9
                 have RR := parts_app YWR.out HOW.out HPE.out (ext_trans YW.out (ext_alloc _ _)) (M := [⟨⟨r1, X⟩, A7, c7⟩]) (fun z hz => by
                   rw [List.mem_singleton] at hz; subst hz
                   exact (O7.out.below (ext_alloc _ _) (Nat.le_refl _)).base_le (by simp)) hgr9 hw9
                 have O9 := Lib.hid ho9
                 have P9 := Lib.hid RR.1
                 have Y9 := Lib.hid RR.2
                 have HB9 : Hid (w9.heap[bx]? = some (.cells #[.int .u8 1, .int .i64 (N : Int), .slice Ar r.length cr, .slice As s.length cs, .slice Ap p.length cp] 50 (0, 0))) := Lib.hid ((hgr9.block bx (Nat.lt_of_lt_of_le (lt_of_some HBR.out) (ext_trans YW.out (ext_alloc _ _)).size) (fun e => HOW.out.ne_type HBR.out (by decide) e.symm)).trans (((ext_trans YW.out (ext_alloc _ _)).block bx (lt_of_some HBR.out)).trans HBR.out))
                 have C9 : w9.cell? (ad1.add (q * 2)) = some (.int .i32 r1) ∧ w9.cell? { block := (ad1.add (q * 2)).block, off := (ad1.add (q * 2)).off + 1 } = some (.slice As1 s1.length cs1) ∧ w9.cell? ⟨bx, 4, none⟩ = some (.slice Ap p.length cp) := by
                   obtain ⟨a1, a2⟩ := cel Y9.out
                   exact ⟨a1, a2, (box_op HB9.out).2.2.2.2⟩
                 clear ho9 hgr9 hw9 RR))
            all_goals
              go_wp2_with (fail)
              go_roundg (N - (j + 1))
            all_goals first
              | (have := HG2.out; clear hw2 hw3 hw4 hw5; omega)
              | (refine ⟨j + 1, E ++ [⟨⟨r1, X⟩, A7, c7⟩], by clear hw2 hw3 hw4 hw5; omega, by simp; clear hw2 hw3 hw4 hw5; omega, rfl, by go_num, O9.out, P9, Lib.hid ?_, HB9, Y9.out⟩
                 rw [show clsOf (E ++ [(⟨⟨r1, X⟩, A7, c7⟩ : ClS)]) = clsOf E ++ [⟨r1, X⟩] from by unfold clsOf; rw [List.map_append]; rfl, HE.out, List.take_add_one, HZ.out, List.map_append, List.append_assoc]
                 simp only [Option.toList_some, List.map_cons, List.map_nil, HXC.out])
          have hlj' : ¬ (j : Int) < (N : Int) := by clear hw2 hw3; omega
          have hjn : j = N := by clear hw2 hw3; omega
          have D9 : Hid (DoneU l (units (osOf (x.take (m + 1)))) (clsOf d) (clsOf E) (a + N)) := Lib.hid (by
            rw [UT.out, UO.out, HE.out, hjn]
            exact HD.out.ret (by rw [LD.out]; exact AN.out))
          have N9 : Hid (E.length ≤ 20000) := Lib.hid (by rw [← clsOf_len, D9.out.2.1]; exact T1.2)
          clear hjn HE HG2
          go_wp2_with (fail)
          go_roundg (n2 - (m + 1))
          case measure => have := HG.out; clear hw2 hw3; omega
          case rel => exact ⟨m + 1, a + N, E, by clear hw2 hw3; omega, AN.out, N9.out, rfl, by first | rfl | go_num, by go_num, HOW.out, HPE, D9, YWR.out⟩
    · have hlt' : ¬ (m : Int) < (n2 : Int) := by omega
      have hmn : x.take m = x := List.take_of_length_le (by have := N2.out; omega)
      have HF : Hid (app l (units (osOf x)) (clsOf d) = clsOf D ++ (clsOf d).drop a) := Lib.hid (by
        have h := HD.out.2.2 []
        rw [List.append_nil, hmn] at h
        exact h)
      obtain ⟨A8, hA8⟩ : ∃ X, advS A1 c1 a 2 = X := ⟨_, rfl⟩
      obtain ⟨n8, hn8⟩ : ∃ X, n1 - a = X := ⟨_, rfl⟩
      obtain ⟨c8, hc8⟩ : ∃ X, c1 - a = X := ⟨_, rfl⟩
      have sl1 : ∀ W, (Instr.slice 23 (.slice A1 n1 c1) (some (.int .i64 (a : Int))) none none).run Tryz.prog W = .ok (.slice A8 n8 c8) W := sl_from Tryz.slCl Tryz.elCl size_cl rfl hA8 hn8 hc8 ha k1
      have R8 : Hid (∀ v, Below w.heap.size w v → RdCl v v.heap.size A8 (d.drop a)) := Lib.hid (fun v hv => (R1.out.ext hv).from hA8 (by rw [← N1.out]; exact ha) (by rw [← N1.out]; exact k1))
      have L8 : Hid (n8 = (d.drop a).length) := Lib.hid (by rw [List.length_drop, ← N1.out]; exact hn8.symm)
      have B8 : Hid (n8 ≤ 10000) := Lib.hid (by omega)
      obtain ⟨R, hR⟩ : ∃ X, app l (units (osOf x)) (clsOf d) = X := ⟨_, rfl⟩
      have HR := Lib.hid hR
      rw [hR]
      clear hA8 hn8 hc8 hmn hR HD HG
      obtain ⟨wo, hwo⟩ : ∃ X, X = wr := ⟨_, rfl⟩
      subst hwo
      go_wp2_with (go_at_call 15; refine Hid.out ?_)
      refine Lib.hid ?_
      refine (copy18_any A8 n8 c8 (d.drop a) wo L8.out (R8.out wo y) (by have := B8.out; omega) (fun z hz => by have := (HS.out z (List.mem_of_mem_drop hz)).1; omega)).mono ?_
      rintro e w3 ⟨A3, k3, L3, rfl, h3, o3, p3, y3⟩
      have O3 := Lib.hid (o3.rd ClS.enc_len)
      have P3 : Hid (∀ z ∈ L3, OwAt w3 wo.heap.size (.slice z.As z.c.s.length z.cs) z.c.s) := Lib.hid (fun z hz => (p3 z hz).1)
      have E3 := Lib.hid h3
      have Y3 := Lib.hid y3
      have L3L : Hid (L3.length ≤ 10000) := Lib.hid (by have h := congrArg List.length h3; rw [clsOf_len, clsOf_len, ← L8.out] at h; have := B8.out; omega)
      clear h3 o3 p3 y3
      go_wp2_with ((at_builtin; refine app_cs (l := D) (m := L3) rfl (.tmp 62) (.tmp 66) rfl rfl (HOW.out.below Y3.out (Nat.le_refl _)) _ A3 k3 L3.length rfl rfl O3.out (by have := L3L.out; omega) (Nat.le_trans y.size Y3.out.size) ?_; intro v9 w9 ho9 hgr9 hw9))
      have RR := parts_app y HOW.out HP.out Y3.out P3.out hgr9 hw9
      obtain ⟨A9, k9, hv9, _, _⟩ := ho9.form
      subst hv9
      have O9 := Lib.hid ho9
      have P9 := Lib.hid RR.1
      have Y9 := Lib.hid RR.2
      clear ho9 hgr9 hw9 RR
      go_wp2_with (fail)
      go_ret
      refine ⟨A9, k9, D ++ L3, rfl, ?_, O9.out, P9.out, Y9.out⟩
      rw [HF.out, show clsOf (D ++ L3) = clsOf D ++ clsOf L3 from by unfold clsOf; rw [List.map_append], E3.out, clsOf_drop]
end Go.Proofs.YtfnkjcodcoehcaaGreatDoor
namespace Go.Proofs.YtfnkjcodcoehcaaGreatDoor
open Go.RowKit
set_option linter.unusedVariables false
set_option linter.unusedSimpArgs false

theorem all_drop {α : Type} {f : α → Bool} {l : List α} {m : Nat} {x : α} {R : Bool} (hd : l.drop m = x :: l.drop (m + 1)) (h : (l.drop m).all f = R) : (f x && (l.drop (m + 1)).all f) = R := by
  rw [hd] at h; simpa using h
theorem fitsR_class {A : Option Addr} {nn cc : Nat} {l : List Ky} {id k n f : Int} {t : ByteArray} {w : World} {O : List (Nat × Obj)} {b : Bool} (hT : Lib.Utf8Tabs 1 2 w) (hn : nn = l.length) (h : RdKy w w.heap.size A l) (hb : nn ≤ 140737488355328) (h0 : 0 ≤ f) (h1 : f < 18446744073709551616) (hsz : t.size ≤ 100000000) (x : GW w O) (hf : fitsK l id ⟨k, n, f, t⟩ = b) :
    Calls Tryz.prog 175 #[.slice A nn cc, .int .i64 id, .agg #[.int .u8 k, .int .i64 n, .int .u64 f, .string t]] x.val fun e w' => e = .returned (.bool b) ∧ ∃ y : GW w O, w' = y.val :=
  good_call x ((fitsR_any A nn cc l id k n f t x.val hn (h.ext x.ok.1) hb h0 h1 hsz (tabs_good hT x)).mono fun e w' h' => ⟨by rw [h'.1, hf], h'.2⟩)
end Go.Proofs.YtfnkjcodcoehcaaGreatDoor
