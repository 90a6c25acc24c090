/- The walk of rubriclaw18.CellsApart. -/
import Derived.Test.YtipoeidmblnbbaaDoorPk17
import Derived.Test.YtipoeidmblnbbaaDoorPk2
namespace Go.Proofs.YtipoeidmblnbbaaDoor
open Go.RowKit
set_option linter.unusedVariables false
set_option linter.unusedSimpArgs false

set_option maxRecDepth 100000 in
set_option maxHeartbeats 3200000 in
theorem cellsApart_any (A0 A1 A2 : Option Addr) (n0 n1 n2 c0 c1 c2 : Nat) (l0 : List Ky) (d o : List ClS) (w : World)
    (e0 : n0 = l0.length) (e1 : n1 = d.length) (e2 : n2 = o.length) (r0 : RdKy w w.heap.size A0 l0) (r1 : RdCl w w.heap.size A1 d) (r2 : RdCl w w.heap.size A2 o) (b0 : n0 ≤ 1048576) (b1 : n1 ≤ 1048576) (b2 : n2 ≤ 1048576) (k1 : n1 ≤ c1) (k2 : n2 ≤ c2)
    (q1 : ∀ x ∈ d, x.c.s.length ≤ 100000000 ∧ okVr x.c.s) (q2 : ∀ x ∈ o, x.c.s.length ≤ 100000000 ∧ okVr x.c.s) (hT : Lib.Utf8Tabs 1 2 w) :
    Calls Tryd.prog 3 #[.slice A0 n0 c0, .slice A1 n1 c1, .slice A2 n2 c2] w fun e w' => e = .returned (.bool true) ∧ Below w.heap.size w w' := by
  have N0 := Lib.hid e0
  have N1 := Lib.hid e1
  have N2 := Lib.hid e2
  have R0 := Lib.hid r0
  have R1 := Lib.hid r1
  have R2 := Lib.hid r2
  have Q1 := Lib.hid q1
  have Q2 := Lib.hid q2
  clear e0 e1 e2 r0 r1 r2 q1 q2
  go_enter Tryd.func3, Tryd.ntmps3
  by_cases h64 : (64 : Int) < (n0 : Int)
  · go_wp2_with (go_at_call 8; refine Hid.out ?_)
    refine Lib.hid ?_
    refine (known18_any _ hT).mono ?_
    rintro e w1 ⟨rfl, y⟩
    go_wp2_with (fail)
    go_ret
    exact ⟨rfl, y⟩
  go_wp2_with (go_at_call 7; refine Hid.out ?_)
  refine Lib.hid ?_
  refine (great18_any A1 n1 c1 d 500 w N1.out R1.out (by omega) (fun x hx => by have := (Q1.out x hx).1; omega)).mono ?_
  rintro e w1 ⟨g1, rfl, h1, x1, rfl⟩
  cases g1 with
  | true =>
    clear h1
    go_wp2_with (go_at_call 8; refine Hid.out ?_)
    refine Lib.hid ?_
    refine (known18_any _ (Utf8Tabs_below hT (ext_drew w x1))).mono ?_
    rintro e w2 ⟨rfl, y⟩
    have yy := ext_trans (ext_drew w x1) y
    go_wp2_with (fail)
    go_ret
    exact ⟨rfl, yy⟩
  | false =>
  have G1 := Lib.hid (h1 rfl)
  clear h1
  have Y1 := Lib.hid (ext_drew w x1)
  generalize w.drewN x1 = w1 at *
  go_wp2_with (go_at_call 7; refine Hid.out ?_)
  refine Lib.hid ?_
  refine (great18_any A2 n2 c2 o 500 w1 N2.out (R2.out.ext Y1.out) (by omega) (fun x hx => by have := (Q2.out x hx).1; omega)).mono ?_
  rintro e w2 ⟨g2, rfl, h2, x2, rfl⟩
  have Y2 := Lib.hid (ext_trans Y1.out (ext_drew w1 x2))
  generalize w1.drewN x2 = w2 at *
  cases g2 with
  | true =>
    clear h2
    go_wp2_with (go_at_call 8; refine Hid.out ?_)
    refine Lib.hid ?_
    refine (known18_any _ (Utf8Tabs_below hT Y2.out)).mono ?_
    rintro e w3 ⟨rfl, y⟩
    have yy := ext_trans Y2.out y
    go_wp2_with (fail)
    go_ret
    exact ⟨rfl, yy⟩
  | false =>
  have G2 := Lib.hid (h2 rfl)
  clear h2
  go_wp2_with (go_at_call 9; refine Hid.out ?_)
  refine Lib.hid ?_
  refine (new_any A0 n0 c0 l0 w2 N0.out (R0.out.ext Y2.out) (by omega)).mono ?_
  rintro e w3 ⟨y3, ⟨hm, s, rfl, hS⟩ | ⟨hm, rfl⟩⟩
  all_goals
    have Y3 := Lib.hid (ext_trans Y2.out y3)
    clear y3 hm
  rotate_left
  · go_wp2_with (go_at_call 8; refine Hid.out ?_)
    refine Lib.hid ?_
    refine (known18_any _ (Utf8Tabs_below hT Y3.out)).mono ?_
    rintro e w9 ⟨rfl, y⟩
    have yy := ext_trans Y3.out y
    go_wp2_with (fail)
    go_ret
    exact ⟨rfl, yy⟩
  have HS := Lib.hid hS
  clear hS
  go_wp2_with (go_at_call 10; refine Hid.out ?_)
  refine Lib.hid ?_
  refine (mayCells_any s l0 A1 n1 c1 d w3 N1.out (R1.out.ext Y3.out) (by have := G1.out.1; omega) HS.out Q1.out (Utf8Tabs_below hT Y3.out)).mono ?_
  generalize hmd : mayD l0 (clsOf d) = md
  rintro e w4 ⟨rfl, y4⟩
  have Y4 := Lib.hid (ext_trans Y3.out y4)
  have HS4 := Lib.hid (HS.out.ext y4)
  clear y4
  by_cases hd : md = 0
  rotate_left
  · have hd' : (md == 0) = false := beq_eq_false_iff_ne.2 hd
    clear hmd
    go_wp2_with (go_at_call 8; refine Hid.out ?_)
    refine Lib.hid ?_
    refine (known18_any _ (Utf8Tabs_below hT Y4.out)).mono ?_
    rintro e w9 ⟨rfl, y⟩
    have yy := ext_trans Y4.out y
    go_wp2_with (fail)
    go_ret
    exact ⟨rfl, yy⟩
  subst hd
  have MD := Lib.hid hmd
  clear hmd
  go_wp2_with (go_at_call 10; refine Hid.out ?_)
  refine Lib.hid ?_
  refine (mayCells_any s l0 A2 n2 c2 o w4 N2.out (R2.out.ext Y4.out) (by have := G2.out.1; omega) HS4.out Q2.out (Utf8Tabs_below hT Y4.out)).mono ?_
  generalize hmo : mayD l0 (clsOf o) = mo
  rintro e w5 ⟨rfl, y5⟩
  have Y5 := Lib.hid (ext_trans Y4.out y5)
  clear y5
  by_cases hd : mo = 0
  rotate_left
  · have hd' : (mo == 0) = false := beq_eq_false_iff_ne.2 hd
    clear hmo
    go_wp2_with (go_at_call 8; refine Hid.out ?_)
    refine Lib.hid ?_
    refine (known18_any _ (Utf8Tabs_below hT Y5.out)).mono ?_
    rintro e w9 ⟨rfl, y⟩
    have yy := ext_trans Y5.out y
    go_wp2_with (fail)
    go_ret
    exact ⟨rfl, yy⟩
  subst hd
  have MO := Lib.hid hmo
  clear hmo
  have LD : Hid ((clsOf d).length = n1) := Lib.hid (by rw [N1.out]; unfold clsOf; simp)
  have LO : Hid ((clsOf o).length = n2) := Lib.hid (by rw [N2.out]; unfold clsOf; simp)
  have SD : Hid (∀ c ∈ clsOf d, c.s.length ≤ 64) := Lib.hid (fun c hc => by
    unfold clsOf at hc
    obtain ⟨x, hx, rfl⟩ := List.mem_map.1 hc
    exact G1.out.2 x hx)
  have SO : Hid (∀ c ∈ clsOf o, c.s.length ≤ 64) := Lib.hid (fun c hc => by
    unfold clsOf at hc
    obtain ⟨x, hx, rfl⟩ := List.mem_map.1 hc
    exact G2.out.2 x hx)
  have BD := Lib.hid (delta_bounds (clsOf d) (by rw [LD.out]; have := G1.out.1; omega) SD.out)
  have BO := Lib.hid (delta_bounds (clsOf o) (by rw [LO.out]; have := G2.out.1; omega) SO.out)
  have AP := Lib.hid (apart MD.out MO.out (by rw [LD.out]; have := G1.out.1; omega) (by rw [LO.out]; have := G2.out.1; omega))
  go_wp2_with (go_at_call 11; refine Hid.out ?_)
  refine Lib.hid ?_
  refine (cellsSame_any A1 A2 n1 n2 c1 c2 d o w5 N1.out N2.out (R1.out.ext Y5.out) (R2.out.ext Y5.out) (by omega) (by omega) (fun x hx => by have := (Q1.out x hx).1; omega) (fun x hx => by have := (Q2.out x hx).1; omega)).mono ?_
  generalize hsame : decide (clsOf d = clsOf o) = same
  rintro e w6 ⟨rfl, y6⟩
  have Y6 := Lib.hid (ext_trans Y5.out y6)
  have SM := Lib.hid hsame
  clear y6 hsame
  go_wp2_with (go_at_call 13; refine Hid.out ?_)
  refine Lib.hid ?_
  refine (delta_any A1 n1 c1 d w6 N1.out k1 (R1.out.ext Y6.out) (by have := G1.out.1; omega) G1.out.2 (fun x hx => by rw [diff_new, List.length_map]; have := G1.out.2 x hx; omega) BD.out.1 BD.out.2).mono ?_
  rintro e w7 ⟨A7, c7, x7, rfl, o7, p7, s7, y7⟩
  have Y7 := Lib.hid (ext_trans Y6.out y7)
  have O7 := Lib.hid o7
  have P7 := Lib.hid p7
  have S7 := Lib.hid s7
  clear y7 o7 p7 s7
  go_wp2_with (go_at_call 13; refine Hid.out ?_)
  refine Lib.hid ?_
  refine (delta_any A2 n2 c2 o w7 N2.out k2 (R2.out.ext Y7.out) (by have := G2.out.1; omega) G2.out.2 (fun x hx => by rw [diff_new, List.length_map]; have := G2.out.2 x hx; omega) BO.out.1 BO.out.2).mono ?_
  rintro e w8 ⟨A8, c8, x8, rfl, o8, p8, s8, y8⟩
  have Y8 := Lib.hid (ext_trans Y7.out y8)
  have O8 := Lib.hid o8
  have P8 := Lib.hid p8
  have S8 := Lib.hid s8
  have YY8 := Lib.hid y8
  clear y8 o8 p8 s8
  have bnd : ∀ (dd : List Cl) (x : List OpS), dd.length ≤ 100000 → (∀ c ∈ dd, c.s.length ≤ 64) → osOf x = mkOps (deltaM dd) → x.length ≤ 10000001 ∧ ∀ z ∈ x, z.o.r.length ≤ 140737488355328 ∧ z.o.s.length ≤ 140737488355328 ∧ z.o.p.length ≤ 140737488355328 := by
    intro dd x hl hs hx
    obtain ⟨a1, a2⟩ := delta_bounds dd hl hs
    have hlen : x.length = (mkOps (deltaM dd)).length := by rw [← hx]; unfold osOf; simp
    have hsub : ∀ z ∈ mkOps (deltaM dd), z ∈ (deltaM dd).done ++ mkGap (deltaM dd) := fun z hz => by
      unfold mkOps cutR at hz
      split at hz
      · split at hz
        · exact (List.dropLast_sublist _).subset hz
        · exact hz
      · exact hz
    have hle : (mkOps (deltaM dd)).length ≤ ((deltaM dd).done ++ mkGap (deltaM dd)).length := by
      unfold mkOps cutR
      split
      · split
        · exact (List.dropLast_sublist _).length_le
        · exact Nat.le_refl _
      · exact Nat.le_refl _
    have hg : (mkGap (deltaM dd)).length ≤ (deltaM dd).ins.length + 1 := by
      unfold mkGap
      rw [List.length_append]
      split <;> simp
    rw [List.length_append] at hle
    refine ⟨by omega, fun z hz => ?_⟩
    have hm : z.o ∈ mkOps (deltaM dd) := by rw [← hx]; unfold osOf; exact List.mem_map_of_mem hz
    obtain ⟨b1, b2, b3⟩ := a2 _ (hsub _ hm)
    exact ⟨by omega, by omega, by omega⟩
  have U7 := Lib.hid (bnd (clsOf d) x7 (by rw [LD.out]; have := G1.out.1; omega) SD.out O7.out)
  have U8 := Lib.hid (bnd (clsOf o) x8 (by rw [LO.out]; have := G2.out.1; omega) SO.out O8.out)
  clear bnd
  have R7 : Hid (RdOp w8 w8.heap.size A7 x7) := Lib.hid (RdOp.ext ⟨P7.out.rd OpS.enc_len, fun z hz => by
    obtain ⟨g, h1, h2, h3⟩ := S7.out z hz
    exact ⟨h1.1.rd encI32_len, h2.1.rd At.enc_len, h3.1.rd Ch.enc_len⟩⟩ YY8.out)
  have R8 : Hid (RdOp w8 w8.heap.size A8 x8) := Lib.hid ⟨P8.out.rd OpS.enc_len, fun z hz => by
    obtain ⟨g, h1, h2, h3⟩ := S8.out z hz
    exact ⟨h1.1.rd encI32_len, h2.1.rd At.enc_len, h3.1.rd Ch.enc_len⟩⟩
  go_wp2_with (go_at_call 12; refine Hid.out ?_)
  refine Lib.hid ?_
  refine (opsSame_any A7 A8 x7.length x8.length c7 c8 x7 x8 w8 rfl rfl R7.out R8.out (by have := U7.out.1; omega) (by have := U8.out.1; omega) U7.out.2 U8.out.2).mono ?_
  rw [show decide (osOf x7 = osOf x8) = same by rw [O7.out, O8.out, AP.out, SM.out]]
  rintro e w9 ⟨rfl, y9⟩
  have Y9 := Lib.hid (ext_trans Y8.out y9)
  clear y9
  cases same with
  | false =>
    go_wp2_with (go_at_call 8; refine Hid.out ?_)
    refine Lib.hid ?_
    refine (known18_any _ (Utf8Tabs_below hT Y9.out)).mono ?_
    rintro e wx ⟨rfl, y⟩
    have yy := ext_trans Y9.out y
    go_wp2_with (fail)
    go_ret
    exact ⟨rfl, yy⟩
  | true =>
    have hdo : clsOf d = clsOf o := of_decide_eq_true SM.out
    have hT' : d.map (·.c.r) = o.map (·.c.r) := by
      have h := congrArg (fun x : List Cl => x.map (·.r)) hdo
      unfold clsOf at h
      simpa [List.map_map, Function.comp_def] using h
    have HT' := Lib.hid hT'
    clear hdo hT'
    go_wp2_with (go_at_call 15; refine Hid.out ?_)
    refine Lib.hid ?_
    refine (cellsText_any A1 n1 c1 d w9 N1.out (R1.out.1.ext Y9.out) (by omega)).mono ?_
    rintro e wa ⟨Aa, ca, rfl, pa, ya⟩
    have Ya := Lib.hid (ext_trans Y9.out ya)
    have Pa := Lib.hid (pa.rd encI32_len)
    clear pa ya
    go_wp2_with (go_at_call 15; refine Hid.out ?_)
    refine Lib.hid ?_
    refine (cellsText_any A2 n2 c2 o wa N2.out (R2.out.1.ext Ya.out) (by omega)).mono ?_
    rintro e wb ⟨Ab, cb, rfl, pb, yb⟩
    have Yb := Lib.hid (ext_trans Ya.out yb)
    have Pb := Lib.hid (pb.rd encI32_len)
    have Pa' := Lib.hid (Pa.out.ext yb)
    clear pb yb
    go_wp2_with (go_at_call 14; refine Hid.out ?_)
    refine Lib.hid ?_
    refine (refSame_any Aa Ab _ _ ca cb (d.map (·.c.r)) (o.map (·.c.r)) wb (by simp) (by simp) Pa'.out Pb.out (by have := N1.out; omega) (by have := N2.out; omega)).mono ?_
    rw [decide_eq_true HT'.out]
    rintro e wc ⟨rfl, qc, rfl⟩
    have Yc := Lib.hid (below_drewN Yb.out qc)
    go_wp2_with (go_at_call 8; refine Hid.out ?_)
    refine Lib.hid ?_
    refine (known18_any _ (Utf8Tabs_below hT Yc.out)).mono ?_
    rintro e wx ⟨rfl, y⟩
    have yy := ext_trans Yc.out y
    go_wp2_with (fail)
    go_ret
    exact ⟨rfl, yy⟩
end Go.Proofs.YtipoeidmblnbbaaDoor
