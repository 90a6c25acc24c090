/- The walk of rubriclaw19.ApplySteps. Printed by wip/gen_applylaws.py. -/
import Derived.Test.YtipoeidmblnbbaaDoorPk31
import Derived.Test.YtipoeidmblnbbaaDoorPk21
import Derived.Test.YtipoeidmblnbbaaDoorPk17
namespace Go.Proofs.YtipoeidmblnbbaaDoor
open Go.RowKit
theorem Tryd.elOp2 : Tryd.prog.elem 33 = 45 := by kernel_rfl
theorem Tryd.szOp2 : (Tryd.prog.info? 45).map (·.size) = some 5 := by kernel_rfl
theorem size_op2 (W : World) : (sizeOf 45).run Tryd.prog W = .ok 5 W := by
  cases h : Tryd.prog.info? 45 with
  | none => have := Tryd.szOp2; rw [h] at this; cases this
  | some i => have := Tryd.szOp2; rw [h] at this; simp at this; simp [sizeOf, typeInfo, h, this]
set_option linter.unusedVariables false
set_option linter.unusedSimpArgs false

set_option maxRecDepth 100000 in
set_option maxHeartbeats 6400000 in
theorem applySteps_any (A0 A1 A2 : Option Addr) (n0 n1 n2 c0 c1 c2 : Nat) (l0 : List Ky) (d : List ClS) (l2 : List OpS) (w : World)
    (e0 : n0 = l0.length) (e1 : n1 = d.length) (e2 : n2 = l2.length) (r0 : RdKy w w.heap.size A0 l0) (r1 : RdCl w w.heap.size A1 d) (r2 : RdOp w w.heap.size A2 l2) (b0 : n0 ≤ 1048576) (b1 : n1 ≤ 1048576) (b2 : n2 ≤ 1048576) (k1 : n1 ≤ c1) (k2 : n2 ≤ c2)
    (q1 : ∀ x ∈ d, x.c.s.length ≤ 100000000 ∧ okVr x.c.s) (g1 : ∀ x ∈ d, x.c.s.length ≤ x.cs ∧ x.cs ≤ maxLen) (q2 : ∀ o ∈ l2, okOp o.o) (z2 : szX l2 ≤ 4611686018427387904) (hT : Lib.Utf8Tabs 1 2 w) :
    Calls Tryd.prog 6 #[.slice A0 n0 c0, .slice A1 n1 c1, .slice A2 n2 c2] w fun e w' => e = .returned (.bool true) ∧ Below w.heap.size w w' := by
  have N0 := Lib.hid e0
  have N1 := Lib.hid e1
  have N2 := Lib.hid e2
  have R0 := Lib.hid r0
  have R1 := Lib.hid r1
  have R2 := Lib.hid r2
  have Q1 := Lib.hid q1
  have Q2 := Lib.hid q2
  have C1 := Lib.hid g1
  have Z2 := Lib.hid z2
  clear e0 e1 e2 r0 r1 r2 q1 q2 g1 z2
  go_enter Tryd.func6, Tryd.ntmps6
  go_wp2_with (go_at_call 19; refine Hid.out ?_)
  refine Lib.hid ?_
  have ya := ext_alloc w (.cells #[.slice A2 n2 c2] 33)
  have ra : Rd SX.enc 1 _ _ _ [⟨A2, c2, l2⟩] := Rd.new (enc := SX.enc) (size := 1) (fun _ => rfl) w 33 [⟨A2, c2, l2⟩] (cs := #[.slice A2 n2 c2]) (by simp [SX.enc, ← N2.out]) rfl
  refine (great19_any A0 A1 (some ⟨w.heap.size, 0, none⟩) n0 c0 n1 c1 1 1 d [⟨A2, c2, l2⟩] _ rfl ra (by omega) (by omega) (fun x hx => by
    simp only [List.mem_cons, List.not_mem_nil, or_false] at hx
    subst hx
    exact ⟨R2.out.ext ya, by have := N2.out; simp only; omega⟩) (by simpa [sumX] using Z2.out) N1.out (R1.out.ext ya) (by omega) (fun z hz => by have := (Q1.out z hz).1; omega)).mono ?_
  rintro e w1 ⟨gb, rfl, h1, x1, rfl⟩
  have Y1 := Lib.hid (ext_trans ya (ext_drew _ x1))
  clear ya ra
  generalize World.drewN (w.alloc (.cells #[.slice A2 n2 c2] 33)) x1 = w1 at *
  cases gb with
  | true =>
    clear h1
    go_wp2_with (go_at_call 20; refine Hid.out ?_)
    refine Lib.hid ?_
    refine (known19_any _ (Utf8Tabs_below hT Y1.out)).mono ?_
    rintro e wk ⟨rfl, yk⟩
    have yy := ext_trans Y1.out yk
    go_wp2_with (fail)
    go_ret
    exact ⟨rfl, yy⟩
  | false =>
  have h2 := h1 rfl
  have G0 := Lib.hid h2.1
  have G1 : Hid (n1 ≤ 400 ∧ ∀ c ∈ d, c.c.s.length ≤ 64) := Lib.hid ⟨h2.2.1, h2.2.2.1⟩
  have G3 : Hid (szX l2 ≤ 5000) := Lib.hid (by simpa [sumX] using h2.2.2.2)
  clear h1 h2
  by_cases h22 : (n2 : Int) < 2
  · skip
    go_wp2_with (go_at_call 20; refine Hid.out ?_)
    refine Lib.hid ?_
    refine (known19_any _ (Utf8Tabs_below hT Y1.out)).mono ?_
    rintro e wk ⟨rfl, yk⟩
    have yy := ext_trans Y1.out yk
    go_wp2_with (fail)
    go_ret
    exact ⟨rfl, yy⟩
  go_wp2_with (go_at_call 9; refine Hid.out ?_)
  refine Lib.hid ?_
  refine (new_any A0 n0 c0 l0 w1 N0.out (R0.out.ext Y1.out) (by omega)).mono ?_
  rintro e w3 ⟨y3, ⟨hm, s, rfl, hS⟩ | ⟨hm, rfl⟩⟩
  all_goals
    have Y3 := Lib.hid (ext_trans Y1.out y3)
    clear y3 hm
  rotate_left
  · skip
    go_wp2_with (go_at_call 20; refine Hid.out ?_)
    refine Lib.hid ?_
    refine (known19_any _ (Utf8Tabs_below hT Y3.out)).mono ?_
    rintro e wk ⟨rfl, yk⟩
    have yy := ext_trans Y3.out yk
    go_wp2_with (fail)
    go_ret
    exact ⟨rfl, yy⟩
  have HS := Lib.hid hS
  clear hS
  go_wp2_with (go_at_call 10; refine Hid.out ?_)
  refine Lib.hid ?_
  refine (mayCells_any s l0 A1 n1 c1 d w3 N1.out (R1.out.ext Y3.out) (by have := G1.out.1; omega) HS.out Q1.out (Utf8Tabs_below hT Y3.out)).mono ?_
  generalize hmd : mayD l0 (clsOf d) = md
  rintro e w4 ⟨rfl, y4⟩
  have Y4 := Lib.hid (ext_trans Y3.out y4)
  have HS4 := Lib.hid (HS.out.ext y4)
  clear y4 HS
  by_cases hd : md = 0
  rotate_left
  · have hd' : (md == 0) = false := beq_eq_false_iff_ne.2 hd
    clear hmd
    go_wp2_with (go_at_call 20; refine Hid.out ?_)
    refine Lib.hid ?_
    refine (known19_any _ (Utf8Tabs_below hT Y4.out)).mono ?_
    rintro e wk ⟨rfl, yk⟩
    have yy := ext_trans Y4.out yk
    go_wp2_with (fail)
    go_ret
    exact ⟨rfl, yy⟩
  subst hd
  have MD := Lib.hid hmd
  clear hmd
  obtain ⟨o, xs, hl2⟩ : ∃ o xs, l2 = o :: xs := by
    cases l2 with
    | nil => exfalso; have := N2.out; simp at this; omega
    | cons o xs => exact ⟨o, xs, rfl⟩
  have HL2 := Lib.hid hl2
  have RB : Hid (o.o.r.length ≤ 5000) := Lib.hid (by
    have h1 := szX_mem (x := l2) (o := o) (by rw [hl2]; simp)
    have h2 := G3.out
    unfold szO at h1
    omega)
  have LEN2 : Hid (n2 - 1 = xs.length ∧ 2 ≤ n2 ∧ xs.length ≤ 1048575) := Lib.hid (by have h := N2.out; rw [hl2] at h; simp at h; omega)
  clear hl2 h22
  go_wp2_with (go_at_call 21; refine Hid.out ?_)
  refine Lib.hid ?_
  refine (applyD_any s l0 A1 A2 n1 c1 n2 c2 d l2 10000 w4 N1.out N2.out k1 (by have := G1.out.1; omega) b2 (R1.out.ext Y4.out) (R2.out.ext Y4.out) HS4.out Q1.out C1.out Q2.out (Utf8Tabs_below hT Y4.out)).mono ?_
  unfold ApplyOut
  obtain ⟨E, hE⟩ : ∃ X, applyN l0 l2 (clsOf d) 10000 = X := ⟨_, rfl⟩
  rw [hE]
  have HE := Lib.hid hE
  clear hE
  rintro e w6 ⟨y6, ⟨hne, rfl⟩ | ⟨hz, A6, c6, LW, rfl, hL, oL, pL⟩⟩
  · have Y6 := Lib.hid (ext_trans Y4.out y6)
    have hne' : (E == 0) = false := beq_eq_false_iff_ne.2 hne
    clear y6 hne
    go_wp2_with (go_at_call 20; refine Hid.out ?_)
    refine Lib.hid ?_
    refine (known19_any _ (Utf8Tabs_below hT Y6.out)).mono ?_
    rintro e wk ⟨rfl, yk⟩
    have yy := ext_trans Y6.out yk
    go_wp2_with (fail)
    go_ret
    exact ⟨rfl, yy⟩
  have Y6 := Lib.hid (ext_trans Y4.out y6)
  have HS5 := Lib.hid (HS4.out.ext y6)
  subst hz
  obtain ⟨hg, hf, cm⟩ := came (l := l0) (x := l2) (d := clsOf d) (most := 10000) (by rw [← N0.out]; exact G0.out) (by have := N2.out; omega) (by omega) Q2.out (fun c hc => by
    obtain ⟨z, hz, rfl⟩ := List.mem_map.1 hc
    exact (Q1.out z hz).2) HE.out
  have S64 : Hid (∀ z ∈ LW, z.c.s.length ≤ 64) := Lib.hid (fun z hz => cm.s64 _ (by rw [← hL]; unfold clsOf; exact List.mem_map_of_mem hz))
  have LWB : Hid (LW.length ≤ 11000) := Lib.hid (by
    have h1 := cm.len
    have h2 := hf.m
    rw [← hL, clsOf_len] at h1
    omega)
  have RLW : Hid (RdCl w6 w6.heap.size A6 LW) := Lib.hid ⟨oL.rd ClS.enc_len, fun z hz => (pL z hz).1.rd At.enc_len⟩
  rw [HL2.out] at hg hf hL
  have HG := Lib.hid hg
  have HF := Lib.hid hf
  have HW := Lib.hid hL
  have Z1 : Hid (applyN l0 [o] (clsOf d) 10000 = 0) := Lib.hid (steps_one hg hf MD.out (by rw [clsOf_len, ← N1.out]; exact G1.out.1) RB.out)
  have Q1o : Hid (∀ z ∈ [o], okOp z.o) := Lib.hid (fun z hz => by
    simp only [List.mem_cons, List.not_mem_nil, or_false] at hz
    subst hz; exact Q2.out z (by rw [HL2.out]; simp))
  have QXS : Hid (∀ z ∈ xs, okOp z.o) := Lib.hid (fun z hz => Q2.out z (by rw [HL2.out]; exact List.mem_cons_of_mem _ hz))
  have R2a : Hid (RdOp w6 w6.heap.size A2 [o]) := Lib.hid (by
    have h := R2.out.ext Y6.out
    rw [HL2.out] at h
    exact ⟨h.1.take 1, fun z hz => h.2 z (by simp only [List.mem_cons, List.not_mem_nil, or_false] at hz; subst hz; simp)⟩)
  have sl1 : ∀ W, (Instr.slice 33 (.slice A2 n2 c2) none (some (.int .i64 1)) none).run Tryd.prog W = .ok (.slice A2 1 c2) W := sl_to (l := 1) Tryd.slOp Tryd.elOp2 size_op2 rfl (by have := LEN2.out; omega)
  clear hL oL pL hf hg cm y6 HE HS4
  go_wp2_with (go_at_call 21; refine Hid.out ?_)
  refine Lib.hid ?_
  refine (applyD_any s l0 A1 A2 n1 c1 1 c2 d [o] 10000 w6 N1.out rfl k1 (by have := G1.out.1; omega) (by omega) (R1.out.ext Y6.out) R2a.out HS5.out Q1.out C1.out Q1o.out (Utf8Tabs_below hT Y6.out)).mono ?_
  unfold ApplyOut
  rintro e w7 ⟨y7, ⟨hne, _⟩ | ⟨_, A7, c7, LA, rfl, hL, oL, pL⟩⟩
  · exact absurd Z1.out hne
  have YA := Lib.hid y7
  have Y7 := Lib.hid (ext_trans Y6.out y7)
  have HS6 := Lib.hid (HS5.out.ext y7)
  obtain ⟨_, _, cm⟩ := came (l := l0) (x := [o]) (d := clsOf d) (most := 10000) (by rw [← N0.out]; exact G0.out) (by simp) (by omega) Q1o.out (fun c hc => by
    obtain ⟨z, hz, rfl⟩ := List.mem_map.1 hc
    exact (Q1.out z hz).2) Z1.out
  rw [← hL] at cm
  have CA := Lib.hid cm
  have hmem : ∀ z ∈ LA, z.c ∈ clsOf LA := fun z hz => by unfold clsOf; exact List.mem_map_of_mem hz
  have HCS : Hid (∀ z ∈ LA, z.c.s.length ≤ 100000000 ∧ okVr z.c.s) := Lib.hid (fun z hz => ⟨by have := cm.s64 _ (hmem z hz); omega, cm.vr _ (hmem z hz)⟩)
  have HCAP : Hid (∀ z ∈ LA, z.c.s.length ≤ z.cs ∧ z.cs ≤ maxLen) := Lib.hid (fun z hz => by
    obtain ⟨_, _, hv, hc1, hc2⟩ := (pL z hz).1.form
    injection hv with _ _ hcc
    subst hcc
    exact ⟨hc1, hc2⟩)
  have CAPA : Hid (LA.length ≤ c7) := Lib.hid oL.cap.1
  have LAB : Hid (LA.length ≤ 11000) := Lib.hid (by
    have h1 := cm.len
    rw [clsOf_len, clsOf_len, units_sing] at h1
    have h2 := makes_small (good_isOp HG.out o (by simp))
    have h3 := RB.out
    have h4 := G1.out.1
    have h5 := N1.out
    omega)
  have RLA : Hid (RdCl w7 w7.heap.size A7 LA) := Lib.hid ⟨oL.rd ClS.enc_len, fun z hz => (pL z hz).1.rd At.enc_len⟩
  have OP := Lib.hid (good_isOp HG.out o (by simp))
  have IXS : Hid (∀ z ∈ xs, isOp z.o) := Lib.hid (fun z hz => good_isOp HG.out z (List.mem_cons_of_mem _ hz))
  obtain ⟨A8, hA8⟩ : ∃ X, advS A2 c2 1 5 = X := ⟨_, rfl⟩
  obtain ⟨n8, hn8⟩ : ∃ X, n2 - 1 = X := ⟨_, rfl⟩
  obtain ⟨c8, hc8⟩ : ∃ X, c2 - 1 = X := ⟨_, rfl⟩
  have sl2 : ∀ W, (Instr.slice 33 (.slice A2 n2 c2) (some (.int .i64 1)) none none).run Tryd.prog W = .ok (.slice A8 n8 c8) W := sl_from (k := 1) Tryd.slOp Tryd.elOp2 size_op2 rfl hA8 hn8 hc8 (by have := LEN2.out; omega) k2
  have N8 : Hid (n8 = xs.length) := Lib.hid (by have := LEN2.out; omega)
  have R8 : Hid (∀ v, Below w7.heap.size w7 v → RdOp v v.heap.size A8 xs) := Lib.hid (fun v hv => by
    have h := R2.out.ext (ext_trans Y7.out hv)
    have h2 := h.1.advS (k := 1) (c := c2) (by rw [HL2.out]; simp) (by have := N2.out; omega)
    rw [hA8] at h2
    rw [HL2.out] at h h2
    exact ⟨h2, fun z hz => h.2 z (List.mem_cons_of_mem _ hz)⟩)
  obtain ⟨ad, o', hA2, had, _, hoi, hco⟩ := R2.out.1.el (i := 0) (by rw [HL2.out]; simp)
  have hoo : o' = o := by rw [HL2.out] at hoi; simpa using hoi.symm
  subst hoo
  have HOC : Hid (CellsAt w7 (ad.add (0 * 5)) o'.enc) := Lib.hid (hco.keep fun q hq => Y7.out.cell (by rw [hq, add_block]; exact had))
  subst hA2
  clear hL oL pL cm hmem y7 hA8 hn8 hc8 hoi hco had sl1
  obtain ⟨⟨ok, on, or', os', op⟩, Ar, cr, As, cs, Ap, cp⟩ := o'
  have hco := HOC.out
  rw [Nat.zero_mul, add_zero'] at hco
  obtain ⟨f0, f1, f2, f3, f4⟩ := op_cells hco
  clear hco HOC
  rcases isOp_kind OP.out with hk | hk | hk
  · have hk : ok = 2 := hk
    subst hk
    obtain ⟨e, hr⟩ := opI_of OP.out rfl
    have hr1 : 1 ≤ or'.length := List.length_pos_iff.2 hr
    obtain ⟨mk, hmk⟩ : ∃ X, or'.length = X := ⟨_, rfl⟩
    have MK : Hid (1 ≤ mk ∧ mk ≤ 5000 ∧ makesU (unitsO ⟨2, on, or', os', op⟩) = mk) := Lib.hid ⟨by omega, by have := RB.out; simp only at this; omega, by unfold unitsO; rw [if_pos rfl]; rw [makesU_ins]; exact hmk⟩
    rw [hmk] at f2
    clear e hr hr1 hmk
    have mpos : (0 : Int) < (mk : Int) := by have := MK.out.1; omega
    have mpos' : 0 < mk := MK.out.1
    have yb := ext_alloc w7 (.cells #[.int .u8 1, .int .i64 (mk : Int), .slice none 0 0, .slice none 0 0, .slice none 0 0] 45)
    have ob : OwOs (w7.alloc (.cells #[.int .u8 1, .int .i64 (mk : Int), .slice none 0 0, .slice none 0 0, .slice none 0 0] 45)) w7.heap.size (.slice (some ⟨w7.heap.size, 0, none⟩) 1 1) [⟨opR (mk : Int) [], none, 0, none, 0, none, 0⟩] :=
      Ow.new (enc := OpS.enc) (size := 5) OpS.enc_len w7 45 [⟨opR (mk : Int) [], none, 0, none, 0, none, 0⟩] rfl rfl (by unfold maxLen; omega) (Nat.le_refl _) rfl
    go_wp2_with (first
      | (at_builtin; refine app_os (m := xs) rfl (.tmp 85) (.tmp 86) rfl rfl ob _ A8 c8 n8 rfl N8.out (R8.out _ yb).1 (by have := LEN2.out; simp only [List.length_singleton]; omega) (by simp) ?_; intro v' w9 hown' hgr hv'; obtain ⟨A9, c9, hv5, hc5, hm5⟩ := hown'.form; subst hv5))
    have y9 : Below w7.heap.size w7 w9 := below_app yb (by simp) ob (Nat.le_refl _) hgr
    have Y9 := Lib.hid y9
    obtain ⟨x9, hx9⟩ : ∃ X : List OpS, [(⟨opR (mk : Int) [], none, 0, none, 0, none, 0⟩ : OpS)] ++ xs = X := ⟨_, rfl⟩
    have hx9l : xs.length + 1 = x9.length := by rw [← hx9]; simp
    rw [hx9] at hown'
    rw [hx9l]
    clear hx9l
    have hmem9 : ∀ z ∈ x9, z = ⟨opR (mk : Int) [], none, 0, none, 0, none, 0⟩ ∨ z ∈ xs := fun z hz => by rw [← hx9] at hz; simpa using hz
    have R9 : Hid (RdOp w9 w9.heap.size A9 x9) := Lib.hid ⟨hown'.rd OpS.enc_len, fun z hz => by
      rcases hmem9 z hz with rfl | hz
      · exact ⟨Rd.nil, Rd.nil, Rd.nil⟩
      · exact (R8.out w9 y9).2 z hz⟩
    have Q9 : Hid (∀ z ∈ x9, okOp z.o) := Lib.hid (fun z hz => by
      rcases hmem9 z hz with rfl | hz
      · exact ok_small _ rfl rfl (by simp [opR])
      · exact QXS.out z hz)
    have I9 : Hid (∀ z ∈ x9, isOp z.o) := Lib.hid (fun z hz => by
      rcases hmem9 z hz with rfl | hz
      · exact opR_one MK.out.1
      · exact IXS.out z hz)
    have U9 : Hid (units (osOf x9) = List.replicate (makesU (unitsO ⟨2, on, or', os', op⟩)) (.ret []) ++ units (osOf xs)) := Lib.hid (by
      rw [MK.out.2.2, ← hx9]
      show unitsO (opR (mk : Int) []) ++ units (osOf xs) = _
      rw [unitsO_R]; rfl)
    have B9 : Hid (x9.length ≤ 1048576) := Lib.hid (by rw [← hx9]; have := LEN2.out; simp; omega)
    have N9 : Hid (x9.length = x9.length) := Lib.hid rfl
    clear yb ob hgr hv' hown' hc5 hm5 y9 hx9 hmem9
    obtain ⟨Z3, E3⟩ := (show Hid (applyN l0 x9 (clsOf LA) 10000 = 0 ∧ app l0 (units (osOf x9)) (clsOf LA) = clsOf LW) from Lib.hid (by
      have h := steps_rest HG.out HF.out (by rw [clsOf_len, ← N1.out]; exact G1.out.1) RB.out CA.out U9.out I9.out (by have := B9.out; omega)
      exact ⟨h.1, h.2.trans HW.out.symm⟩)).out
    have E3 := Lib.hid E3
    have Z3 := Lib.hid Z3
    go_wp2_with (go_at_call 21; refine Hid.out ?_)
    refine Lib.hid ?_
    refine (applyD_any s l0 A7 A9 LA.length c7 x9.length c9 LA x9 10000 w9 rfl (by first | exact N9.out | rfl) CAPA.out (by have := LAB.out; omega) (by have := B9.out;  omega) (RLA.out.ext Y9.out) R9.out (HS6.out.ext Y9.out) HCS.out HCAP.out Q9.out (Utf8Tabs_below hT (ext_trans Y7.out Y9.out))).mono ?_
    unfold ApplyOut
    rintro e w10 ⟨y10, ⟨hne, _⟩ | ⟨_, A10, c10, LB, rfl, hLB, oLB, pLB⟩⟩
    · exact absurd Z3.out hne
    have Y10 := Lib.hid (ext_trans Y9.out y10)
    have RLB : Hid (RdCl w10 w10.heap.size A10 LB) := Lib.hid ⟨oLB.rd ClS.enc_len, fun z hz => (pLB z hz).1.rd At.enc_len⟩
    have EB : Hid (clsOf LB = clsOf LW) := Lib.hid (hLB.trans E3.out)
    have LBN : Hid (LB.length ≤ 11000) := Lib.hid (by rw [← clsOf_len, EB.out, clsOf_len]; exact LWB.out)
    have SB : Hid (∀ z ∈ LB, z.c.s.length ≤ 140737488355328) := Lib.hid (fun z hz => by
      have hm : z.c ∈ clsOf LB := by unfold clsOf; exact List.mem_map_of_mem hz
      rw [EB.out] at hm
      obtain ⟨z2, hz2, e2⟩ := List.mem_map.1 hm
      have := S64.out z2 hz2
      rw [← e2]; omega)
    have SM : Hid (decide (clsOf LB = clsOf LW) = true) := Lib.hid (decide_eq_true EB.out)
    clear hLB oLB pLB y10
    go_wp2_with (go_at_call 11; refine Hid.out ?_)
    refine Lib.hid ?_
    refine (cellsSame_any A10 A6 LB.length LW.length c10 c6 LB LW w10 rfl rfl RLB.out (RLW.out.ext (ext_trans YA.out Y10.out)) (by have := LBN.out; omega) (by have := LWB.out; omega) SB.out (fun z hz => by have := S64.out z hz; omega)).mono ?_
    rw [SM.out]
    rintro e w11 ⟨rfl, y11⟩
    have Y11 := Lib.hid (ext_trans Y7.out (ext_trans Y10.out y11))
    clear y11
    go_wp2_with (go_at_call 20; refine Hid.out ?_)
    refine Lib.hid ?_
    refine (known19_any _ (Utf8Tabs_below hT Y11.out)).mono ?_
    rintro e wk ⟨rfl, yk⟩
    have yy := ext_trans Y11.out yk
    go_wp2_with (fail)
    go_ret
    exact ⟨rfl, yy⟩
  · have hk : ok = 3 := hk
    subst hk
    have MK : Hid (makesU (unitsO ⟨3, on, or', os', op⟩) = 0) := Lib.hid (by
      have h : ((makesU (unitsO ⟨3, on, or', os', op⟩) : Nat) : Int) = 0 := (takes_one OP.out).2
      omega)
    have U9 : Hid (units (osOf xs) = List.replicate (makesU (unitsO ⟨3, on, or', os', op⟩)) (.ret []) ++ units (osOf xs)) := Lib.hid (by rw [MK.out]; rfl)
    go_wp2_with (fail)
    have Y9 := Lib.hid (Below.refl w7.heap.size w7)
    have R9 := Lib.hid (R8.out w7 Y9.out)
    have N9 := N8
    have Q9 := QXS
    have I9 := IXS
    have B9 : Hid (xs.length ≤ 1048576) := Lib.hid (by have := LEN2.out; omega)
    obtain ⟨w9, hw9⟩ : ∃ w9, w7 = w9 := ⟨_, rfl⟩
    obtain ⟨Z3, E3⟩ := (show Hid (applyN l0 xs (clsOf LA) 10000 = 0 ∧ app l0 (units (osOf xs)) (clsOf LA) = clsOf LW) from Lib.hid (by
      have h := steps_rest HG.out HF.out (by rw [clsOf_len, ← N1.out]; exact G1.out.1) RB.out CA.out U9.out I9.out (by have := B9.out; omega)
      exact ⟨h.1, h.2.trans HW.out.symm⟩)).out
    have E3 := Lib.hid E3
    have Z3 := Lib.hid Z3
    go_wp2_with (go_at_call 21; refine Hid.out ?_)
    refine Lib.hid ?_
    refine (applyD_any s l0 A7 A8 LA.length c7 n8 c8 LA xs 10000 w7 rfl (by first | exact N9.out | rfl) CAPA.out (by have := LAB.out; omega) (by have := B9.out; have := N9.out; omega) (RLA.out.ext Y9.out) R9.out (HS6.out.ext Y9.out) HCS.out HCAP.out Q9.out (Utf8Tabs_below hT (ext_trans Y7.out Y9.out))).mono ?_
    unfold ApplyOut
    rintro e w10 ⟨y10, ⟨hne, _⟩ | ⟨_, A10, c10, LB, rfl, hLB, oLB, pLB⟩⟩
    · exact absurd Z3.out hne
    have Y10 := Lib.hid (ext_trans Y9.out y10)
    have RLB : Hid (RdCl w10 w10.heap.size A10 LB) := Lib.hid ⟨oLB.rd ClS.enc_len, fun z hz => (pLB z hz).1.rd At.enc_len⟩
    have EB : Hid (clsOf LB = clsOf LW) := Lib.hid (hLB.trans E3.out)
    have LBN : Hid (LB.length ≤ 11000) := Lib.hid (by rw [← clsOf_len, EB.out, clsOf_len]; exact LWB.out)
    have SB : Hid (∀ z ∈ LB, z.c.s.length ≤ 140737488355328) := Lib.hid (fun z hz => by
      have hm : z.c ∈ clsOf LB := by unfold clsOf; exact List.mem_map_of_mem hz
      rw [EB.out] at hm
      obtain ⟨z2, hz2, e2⟩ := List.mem_map.1 hm
      have := S64.out z2 hz2
      rw [← e2]; omega)
    have SM : Hid (decide (clsOf LB = clsOf LW) = true) := Lib.hid (decide_eq_true EB.out)
    clear hLB oLB pLB y10
    go_wp2_with (go_at_call 11; refine Hid.out ?_)
    refine Lib.hid ?_
    refine (cellsSame_any A10 A6 LB.length LW.length c10 c6 LB LW w10 rfl rfl RLB.out (RLW.out.ext (ext_trans YA.out Y10.out)) (by have := LBN.out; omega) (by have := LWB.out; omega) SB.out (fun z hz => by have := S64.out z hz; omega)).mono ?_
    rw [SM.out]
    rintro e w11 ⟨rfl, y11⟩
    have Y11 := Lib.hid (ext_trans Y7.out (ext_trans Y10.out y11))
    clear y11
    go_wp2_with (go_at_call 20; refine Hid.out ?_)
    refine Lib.hid ?_
    refine (known19_any _ (Utf8Tabs_below hT Y11.out)).mono ?_
    rintro e wk ⟨rfl, yk⟩
    have yy := ext_trans Y11.out yk
    go_wp2_with (fail)
    go_ret
    exact ⟨rfl, yy⟩
  · have hk : ok = 1 := hk
    subst hk
    obtain ⟨e, hr⟩ := opR_of OP.out rfl
    simp only at hr
    obtain ⟨mk, rfl⟩ : ∃ m : Nat, on = (m : Int) := ⟨on.toNat, by omega⟩
    have MK : Hid (1 ≤ mk ∧ mk ≤ 5000 ∧ makesU (unitsO ⟨1, (mk : Int), or', os', op⟩) = mk) := Lib.hid (by
      have h1 : ((takesU (unitsO ⟨1, (mk : Int), or', os', op⟩) : Nat) : Int) = (mk : Int) := (takes_one OP.out).1.trans (by show (if (1 : Int) = 2 then 0 else (mk : Int)) = mk; rw [if_neg (by decide)])
      have h2 : ((makesU (unitsO ⟨1, (mk : Int), or', os', op⟩) : Nat) : Int) = (mk : Int) := (takes_one OP.out).2.trans (by show (if (1 : Int) = 3 then 0 else if (1 : Int) = 2 then (or'.length : Int) else (mk : Int)) = mk; rw [if_neg (by decide), if_neg (by decide)])
      have h3 := HF.out.t
      have h4 : units (osOf (⟨⟨1, (mk : Int), or', os', op⟩, Ar, cr, As, cs, Ap, cp⟩ :: xs)) = unitsO ⟨1, (mk : Int), or', os', op⟩ ++ units (osOf xs) := rfl
      rw [h4, takesU_append, clsOf_len] at h3
      have h5 := N1.out
      have h6 := G1.out.1
      omega)
    clear e hr
    have mpos : (0 : Int) < (mk : Int) := by have := MK.out.1; omega
    have mpos' : 0 < mk := MK.out.1
    have yb := ext_alloc w7 (.cells #[.int .u8 1, .int .i64 (mk : Int), .slice none 0 0, .slice none 0 0, .slice none 0 0] 45)
    have ob : OwOs (w7.alloc (.cells #[.int .u8 1, .int .i64 (mk : Int), .slice none 0 0, .slice none 0 0, .slice none 0 0] 45)) w7.heap.size (.slice (some ⟨w7.heap.size, 0, none⟩) 1 1) [⟨opR (mk : Int) [], none, 0, none, 0, none, 0⟩] :=
      Ow.new (enc := OpS.enc) (size := 5) OpS.enc_len w7 45 [⟨opR (mk : Int) [], none, 0, none, 0, none, 0⟩] rfl rfl (by unfold maxLen; omega) (Nat.le_refl _) rfl
    go_wp2_with (first
      | (at_builtin; refine app_os (m := xs) rfl (.tmp 85) (.tmp 86) rfl rfl ob _ A8 c8 n8 rfl N8.out (R8.out _ yb).1 (by have := LEN2.out; simp only [List.length_singleton]; omega) (by simp) ?_; intro v' w9 hown' hgr hv'; obtain ⟨A9, c9, hv5, hc5, hm5⟩ := hown'.form; subst hv5))
    have y9 : Below w7.heap.size w7 w9 := below_app yb (by simp) ob (Nat.le_refl _) hgr
    have Y9 := Lib.hid y9
    obtain ⟨x9, hx9⟩ : ∃ X : List OpS, [(⟨opR (mk : Int) [], none, 0, none, 0, none, 0⟩ : OpS)] ++ xs = X := ⟨_, rfl⟩
    have hx9l : xs.length + 1 = x9.length := by rw [← hx9]; simp
    rw [hx9] at hown'
    rw [hx9l]
    clear hx9l
    have hmem9 : ∀ z ∈ x9, z = ⟨opR (mk : Int) [], none, 0, none, 0, none, 0⟩ ∨ z ∈ xs := fun z hz => by rw [← hx9] at hz; simpa using hz
    have R9 : Hid (RdOp w9 w9.heap.size A9 x9) := Lib.hid ⟨hown'.rd OpS.enc_len, fun z hz => by
      rcases hmem9 z hz with rfl | hz
      · exact ⟨Rd.nil, Rd.nil, Rd.nil⟩
      · exact (R8.out w9 y9).2 z hz⟩
    have Q9 : Hid (∀ z ∈ x9, okOp z.o) := Lib.hid (fun z hz => by
      rcases hmem9 z hz with rfl | hz
      · exact ok_small _ rfl rfl (by simp [opR])
      · exact QXS.out z hz)
    have I9 : Hid (∀ z ∈ x9, isOp z.o) := Lib.hid (fun z hz => by
      rcases hmem9 z hz with rfl | hz
      · exact opR_one MK.out.1
      · exact IXS.out z hz)
    have U9 : Hid (units (osOf x9) = List.replicate (makesU (unitsO ⟨1, (mk : Int), or', os', op⟩)) (.ret []) ++ units (osOf xs)) := Lib.hid (by
      rw [MK.out.2.2, ← hx9]
      show unitsO (opR (mk : Int) []) ++ units (osOf xs) = _
      rw [unitsO_R]; rfl)
    have B9 : Hid (x9.length ≤ 1048576) := Lib.hid (by rw [← hx9]; have := LEN2.out; simp; omega)
    have N9 : Hid (x9.length = x9.length) := Lib.hid rfl
    clear yb ob hgr hv' hown' hc5 hm5 y9 hx9 hmem9
    obtain ⟨Z3, E3⟩ := (show Hid (applyN l0 x9 (clsOf LA) 10000 = 0 ∧ app l0 (units (osOf x9)) (clsOf LA) = clsOf LW) from Lib.hid (by
      have h := steps_rest HG.out HF.out (by rw [clsOf_len, ← N1.out]; exact G1.out.1) RB.out CA.out U9.out I9.out (by have := B9.out; omega)
      exact ⟨h.1, h.2.trans HW.out.symm⟩)).out
    have E3 := Lib.hid E3
    have Z3 := Lib.hid Z3
    go_wp2_with (go_at_call 21; refine Hid.out ?_)
    refine Lib.hid ?_
    refine (applyD_any s l0 A7 A9 LA.length c7 x9.length c9 LA x9 10000 w9 rfl (by first | exact N9.out | rfl) CAPA.out (by have := LAB.out; omega) (by have := B9.out;  omega) (RLA.out.ext Y9.out) R9.out (HS6.out.ext Y9.out) HCS.out HCAP.out Q9.out (Utf8Tabs_below hT (ext_trans Y7.out Y9.out))).mono ?_
    unfold ApplyOut
    rintro e w10 ⟨y10, ⟨hne, _⟩ | ⟨_, A10, c10, LB, rfl, hLB, oLB, pLB⟩⟩
    · exact absurd Z3.out hne
    have Y10 := Lib.hid (ext_trans Y9.out y10)
    have RLB : Hid (RdCl w10 w10.heap.size A10 LB) := Lib.hid ⟨oLB.rd ClS.enc_len, fun z hz => (pLB z hz).1.rd At.enc_len⟩
    have EB : Hid (clsOf LB = clsOf LW) := Lib.hid (hLB.trans E3.out)
    have LBN : Hid (LB.length ≤ 11000) := Lib.hid (by rw [← clsOf_len, EB.out, clsOf_len]; exact LWB.out)
    have SB : Hid (∀ z ∈ LB, z.c.s.length ≤ 140737488355328) := Lib.hid (fun z hz => by
      have hm : z.c ∈ clsOf LB := by unfold clsOf; exact List.mem_map_of_mem hz
      rw [EB.out] at hm
      obtain ⟨z2, hz2, e2⟩ := List.mem_map.1 hm
      have := S64.out z2 hz2
      rw [← e2]; omega)
    have SM : Hid (decide (clsOf LB = clsOf LW) = true) := Lib.hid (decide_eq_true EB.out)
    clear hLB oLB pLB y10
    go_wp2_with (go_at_call 11; refine Hid.out ?_)
    refine Lib.hid ?_
    refine (cellsSame_any A10 A6 LB.length LW.length c10 c6 LB LW w10 rfl rfl RLB.out (RLW.out.ext (ext_trans YA.out Y10.out)) (by have := LBN.out; omega) (by have := LWB.out; omega) SB.out (fun z hz => by have := S64.out z hz; omega)).mono ?_
    rw [SM.out]
    rintro e w11 ⟨rfl, y11⟩
    have Y11 := Lib.hid (ext_trans Y7.out (ext_trans Y10.out y11))
    clear y11
    go_wp2_with (go_at_call 20; refine Hid.out ?_)
    refine Lib.hid ?_
    refine (known19_any _ (Utf8Tabs_below hT Y11.out)).mono ?_
    rintro e wk ⟨rfl, yk⟩
    have yy := ext_trans Y11.out yk
    go_wp2_with (fail)
    go_ret
    exact ⟨rfl, yy⟩
end Go.Proofs.YtipoeidmblnbbaaDoor
