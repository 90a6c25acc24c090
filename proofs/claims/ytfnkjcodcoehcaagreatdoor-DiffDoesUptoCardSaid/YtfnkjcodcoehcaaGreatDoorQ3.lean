/- Merged texts: DiffKit, DiffDoes. -/
import Derived.Test.YtfnkjcodcoehcaaGreatDoorQ2
import Derived.Test.YtfnkjcodcoehcaaGreatDoorP24
import Derived.Test.YtfnkjcodcoehcaaGreatDoorP36
import Derived.Test.YtfnkjcodcoehcaaGreatDoorP11
import Derived.Test.YtfnkjcodcoehcaaGreatDoorP23
namespace Go.Proofs.YtfnkjcodcoehcaaGreatDoor
open Go.RowKit
set_option linter.unusedVariables false
set_option linter.unusedSimpArgs false

set_option maxRecDepth 100000 in
set_option maxHeartbeats 1600000 in
theorem diffBadD {s : Nat} {l : List Ky} {A1 A2 : Option Addr} {n1 n2 c1 c2 : Nat} {d e : List ClS} {w : World} (d1 : DocAt w A1 n1 c1 d) (d2 : DocAt w A2 n2 c2 e) (hS : Sch w s l)
    (hT : Lib.Utf8Tabs 1 2 w) (hm : mayD l (clsOf d) ≠ 0 ∨ mayD l (clsOf e) ≠ 0) :
    Calls Tryz.prog 28 #[.pointer (some ⟨s, 0, none⟩), .slice A1 n1 c1, .slice A2 n2 c2] w fun e w' => e = .returned (.tuple #[.slice none 0 0, .int .i64 3]) ∧ Below w.heap.size w w' := by
  have D1 := Lib.hid d1
  have D2 := Lib.hid d2
  have HS := Lib.hid hS
  have HT := Lib.hid hT
  obtain ⟨ma, hma⟩ : ∃ X, mayD l (clsOf d) = X := ⟨_, rfl⟩
  obtain ⟨mb, hmb⟩ : ∃ X, mayD l (clsOf e) = X := ⟨_, rfl⟩
  have M1 := Lib.hid hma
  have M2 := Lib.hid hmb
  rw [hma, hmb] at hm
  have hx := Below.refl w.heap.size w
  clear hma hmb d1 d2 hS hT
  go_enter Tryz.func28, Tryz.ntmps28
  go_wp2_with (go_at_call 56; refine Hid.out ?_)
  refine Lib.hid ?_
  refine (mayDoc D1.out HS.out HT.out M1.out).mono ?_
  rintro r1 wn ⟨rfl, y⟩
  have D2 := Lib.hid (D2.out.ext y)
  have HS := Lib.hid (HS.out.ext y)
  have HT := Lib.hid (Utf8Tabs_below HT.out y)
  replace hx := ext_trans hx y
  clear y
  by_cases h1 : ma = 0
  rotate_left
  · have h1' : (ma == 0) = false := beq_eq_false_iff_ne.2 h1
    have h1'' : (ma != 0) = true := by rw [bne, h1']; rfl
    go_wp2_with (fail)
    refine bodyPost_ret (v := .tuple #[.slice none 0 0, .int .i64 3]) (by simp [results, Tryz.results28, go_sem]) rfl ?_
    exact ⟨rfl, hx⟩
  have h2 : mb ≠ 0 := by rcases hm with h | h; exact absurd h1 h; exact h
  subst h1
  go_wp2_with (go_at_call 56; refine Hid.out ?_)
  refine Lib.hid ?_
  refine (mayDoc D2.out HS.out HT.out M2.out).mono ?_
  rintro r1 wn ⟨rfl, y⟩
  replace hx := ext_trans hx y
  clear y
  have h1' : (mb == 0) = false := beq_eq_false_iff_ne.2 h2
  have h1'' : (mb != 0) = true := by rw [bne, h1']; rfl
  go_wp2_with (fail)
  refine bodyPost_ret (v := .tuple #[.slice none 0 0, .int .i64 3]) (by simp [results, Tryz.results28, go_sem]) rfl ?_
  exact ⟨rfl, hx⟩
theorem diffWr {s : Nat} {l : List Ky} {A1 A2 : Option Addr} {n1 n2 c1 c2 : Nat} {d e : List ClS} {w : World} (D1 : DocAt w A1 n1 c1 d) (D2 : DocAt w A2 n2 c2 e) (hS : Sch w s l)
    (hT : Lib.Utf8Tabs 1 2 w) (m1 : mayD l (clsOf d) = 0) (m2 : mayD l (clsOf e) = 0) (h1 : n1 ≤ 400) (h2 : n2 ≤ 400) :
    Calls Tryz.prog 28 #[.pointer (some ⟨s, 0, none⟩), .slice A1 n1 c1, .slice A2 n2 c2] w fun e' w' =>
      ∃ A c x, e' = .returned (.tuple #[.slice A x.length c, .int .i64 0]) ∧ osOf x = mkU (diffU (clsOf d) (clsOf e)) ∧ WrO w' w.heap.size A x.length c x ∧ RdOp w' w'.heap.size A x ∧ (x.length ≤ 5000 ∧ ∀ o ∈ x, o.o.r.length ≤ 100000 ∧ o.o.s.length ≤ 1000 ∧ o.o.p.length ≤ 1000) ∧ Below w.heap.size w w' := by
  have vr : ∀ {D : List ClS}, (∀ z ∈ D, z.c.s.length ≤ 1000000 ∧ okVr z.c.s) → ∀ z ∈ D, z.c.s.length ≤ 100000000 ∧ okVr z.c.s := fun h z hz => ⟨by have := (h z hz).1; omega, (h z hz).2⟩
  refine (cdiff_ok s l A1 A2 n1 n2 c1 c2 d e w D1.len D2.len D1.rd D2.rd D1.cap D2.cap (by have := D1.b; omega) (by have := D2.b; omega) hS (vr D1.vr) (vr D2.vr) D1.caps hT m1 m2).mono ?_
  rintro e1 w' ⟨A, c, x, he, hx, ho, hp, y⟩
  have l1 : (clsOf d).length ≤ 400 := by rw [clsOf_len, ← D1.len]; exact h1
  have l2 : (clsOf e).length ≤ 400 := by rw [clsOf_len, ← D2.len]; exact h2
  have ht := diff_told (by omega) (by omega) (mayD_end m1).1 (mayD_end m2).1
  obtain ⟨b1, b2⟩ := (diffM_B m1 m2).ops
  rw [← hx] at b1 b2
  refine ⟨A, c, x, he, hx.trans (told_mkU ht), WrO.of ho hp, rd_made ho hp, ⟨by unfold osOf at b1; rw [List.length_map] at b1; omega, fun o hm => ?_⟩, y⟩
  obtain ⟨h1, h2, h3⟩ := b2 o.o (by unfold osOf; exact List.mem_map_of_mem hm)
  omega
theorem len_opsK {x : List OpS} (h : ∀ o ∈ x, o.o.r.length ≤ 100000 ∧ o.o.s.length ≤ 1000 ∧ o.o.p.length ≤ 1000) : ∀ o ∈ x, o.o.r.length ≤ 100000000 ∧ o.o.s.length ≤ 100000000 ∧ o.o.p.length ≤ 100000000 := fun o ho => by
  obtain ⟨a, b, c⟩ := h o ho; omega
theorem len_opsK2 {x z : List OpS} (e : osOf z = osOf x) (h : ∀ o ∈ x, o.o.r.length ≤ 100000 ∧ o.o.s.length ≤ 1000 ∧ o.o.p.length ≤ 1000) : z.length = x.length ∧ ∀ o ∈ z, o.o.r.length ≤ 100000000 ∧ o.o.s.length ≤ 100000000 ∧ o.o.p.length ≤ 100000000 := by
  refine ⟨?_, fun o ho => ?_⟩
  · have h := congrArg List.length e
    unfold osOf at h
    rwa [List.length_map, List.length_map] at h
  · have hm : o.o ∈ osOf z := by unfold osOf; exact List.mem_map_of_mem ho
    rw [e] at hm
    obtain ⟨y, hy, he⟩ := List.mem_map.1 hm
    rw [← he]
    exact len_opsK h y hy
theorem WrO.nil (w : World) (base : Nat) : WrO w base none 0 0 [] := ⟨rfl, Ow.nil _ _, fun z hz => by cases hz⟩
end Go.Proofs.YtfnkjcodcoehcaaGreatDoor
namespace Go.Proofs.YtfnkjcodcoehcaaGreatDoor
open Go.RowKit
set_option linter.unusedVariables false
set_option linter.unusedSimpArgs false

set_option maxRecDepth 100000 in
set_option maxHeartbeats 12800000 in
theorem diffDoes_any (A0 A1 A2 : Option Addr) (n0 n1 n2 c0 c1 c2 : Nat) (l0 : List Ky) (d o : List ClS) (w : World)
    (e0 : n0 = l0.length) (r0 : RdKy w w.heap.size A0 l0) (b0 : n0 ≤ 1048576)
    (e1 : n1 = d.length) (r1 : RdCl w w.heap.size A1 d) (b1 : n1 ≤ 1048576) (k1 : n1 ≤ c1) (q1 : ∀ x ∈ d, x.c.s.length ≤ 100000000 ∧ okVr x.c.s) (g1 : ∀ x ∈ d, x.c.s.length ≤ x.cs ∧ x.cs ≤ maxLen) (t1 : ∀ x ∈ d, okVa x.c.s)
    (e2 : n2 = o.length) (r2 : RdCl w w.heap.size A2 o) (b2 : n2 ≤ 1048576) (k2 : n2 ≤ c2) (q2 : ∀ x ∈ o, x.c.s.length ≤ 100000000 ∧ okVr x.c.s) (g2 : ∀ x ∈ o, x.c.s.length ≤ x.cs ∧ x.cs ≤ maxLen) (t2 : ∀ x ∈ o, okVa x.c.s) (hT : Lib.Utf8Tabs 1 2 w) :
    Calls Tryz.prog 4 #[.slice A0 n0 c0, .slice A1 n1 c1, .slice A2 n2 c2] w fun e w' => e = .returned (.bool true) ∧ Below w.heap.size w w' := by
  have N0 := Lib.hid e0
  have R0 := Lib.hid r0
  have HT := Lib.hid hT
  have hx := Below.refl w.heap.size w
  have N1 := Lib.hid e1
  have R1 := Lib.hid r1
  have Q1 := Lib.hid q1
  have C1 := Lib.hid g1
  have T1 := Lib.hid t1
  have N2 := Lib.hid e2
  have R2 := Lib.hid r2
  have Q2 := Lib.hid q2
  have C2 := Lib.hid g2
  have T2 := Lib.hid t2
  clear e0 r0 hT e1 r1 q1 g1 t1 e2 r2 q2 g2 t2
  go_enter Tryz.func4, Tryz.ntmps4
  have ra : Rd DocS.enc 1 _ _ _ [⟨A1, n1, c1, d⟩, ⟨A2, n2, c2, o⟩] := Rd.new (enc := DocS.enc) (size := 1) DocS.enc_len w 23 [⟨A1, n1, c1, d⟩, ⟨A2, n2, c2, o⟩] (cs := #[.slice A1 n1 c1, .slice A2 n2 c2]) rfl rfl
  have y := ext_alloc w (.cells #[.slice A1 n1 c1, .slice A2 n2 c2] 23)
  have R0 := Lib.hid (R0.out.ext y)
  have HT := Lib.hid (Utf8Tabs_below HT.out y)
  have R1 := Lib.hid (R1.out.ext y)
  have R2 := Lib.hid (R2.out.ext y)
  replace hx := ext_trans hx y
  clear y
  go_wp2_with (go_at_call 26; refine Hid.out ?_)
  refine Lib.hid ?_
  refine (great23_any A0 (some ⟨w.heap.size, 0, none⟩) n0 c0 2 2 [⟨A1, n1, c1, d⟩, ⟨A2, n2, c2, o⟩] _ rfl ra (by omega) (by omega) (fun x hx => by
    simp only [List.mem_cons, List.not_mem_nil, or_false] at hx
    rcases hx with rfl | rfl
    · exact ⟨N1.out, R1.out, by simp only; omega, fun z hz => by have := (Q1.out z hz).1; omega⟩
    · exact ⟨N2.out, R2.out, by simp only; omega, fun z hz => by have := (Q2.out z hz).1; omega⟩)).mono ?_
  rintro e wn ⟨gb, rfl, h1, dr, hd⟩
  have y := drew_ext hd
  clear hd ra
  have R0 := Lib.hid (R0.out.ext y)
  have HT := Lib.hid (Utf8Tabs_below HT.out y)
  have R1 := Lib.hid (R1.out.ext y)
  have R2 := Lib.hid (R2.out.ext y)
  replace hx := ext_trans hx y
  clear y
  cases gb
  case true =>
    clear h1
    go_wp2_with (go_at_call 27; refine Hid.out ?_)
    refine Lib.hid ?_
    refine (known23_any _ HT.out).mono ?_
    rintro e w2 ⟨rfl, y⟩
    replace hx := ext_trans hx y
    go_wp2_with (fail)
    go_ret
    exact ⟨rfl, hx⟩
  have h2 := h1 rfl
  have G0 := Lib.hid h2.1
  have G1 : Hid (n1 ≤ 400 ∧ ∀ c ∈ d, c.c.s.length ≤ 64) := Lib.hid (h2.2 ⟨A1, n1, c1, d⟩ (by simp))
  have G2 : Hid (n2 ≤ 400 ∧ ∀ c ∈ o, c.c.s.length ≤ 64) := Lib.hid (h2.2 ⟨A2, n2, c2, o⟩ (by simp))
  clear h1 h2
  go_wp2_with (go_at_call 13; refine Hid.out ?_)
  refine Lib.hid ?_
  refine (new_any A0 n0 c0 l0 _ N0.out R0.out (by omega)).mono ?_
  rintro e wn ⟨y, ⟨hm, s, rfl, hS⟩ | ⟨hm, rfl⟩⟩
  all_goals
    have R0 := Lib.hid (R0.out.ext y)
    have HT := Lib.hid (Utf8Tabs_below HT.out y)
    have R1 := Lib.hid (R1.out.ext y)
    have R2 := Lib.hid (R2.out.ext y)
    replace hx := ext_trans hx y
    have HM := Lib.hid hm
    clear y hm
  rotate_left
  · skip
    go_wp2_with (go_at_call 14; refine Hid.out ?_)
    refine Lib.hid ?_
    refine (mayR4_any A0 n0 c0 l0 _ N0.out R0.out (by omega)).mono ?_
    rw [HM.out]
    rintro e wn ⟨rfl, y⟩
    have R0 := Lib.hid (R0.out.ext y)
    have HT := Lib.hid (Utf8Tabs_below HT.out y)
    have R1 := Lib.hid (R1.out.ext y)
    have R2 := Lib.hid (R2.out.ext y)
    replace hx := ext_trans hx y
    clear y
    go_wp2_with (go_at_call 27; refine Hid.out ?_)
    refine Lib.hid ?_
    refine (known23_any _ HT.out).mono ?_
    rintro e w2 ⟨rfl, y⟩
    replace hx := ext_trans hx y
    go_wp2_with (fail)
    go_ret
    exact ⟨rfl, hx⟩
  have HS := Lib.hid hS
  clear hS
  have D1 : Hid (DocAt _ A1 n1 c1 d) := Lib.hid ⟨R1.out, N1.out, k1, C1.out, fun z hz => ⟨by have := G1.out.2 z hz; omega, (Q1.out z hz).2⟩, by have := G1.out; omega⟩
  have L1 : Hid ((clsOf d).length = n1) := Lib.hid D1.out.clen
  have B1 := Lib.hid G1.out.1
  have D2 : Hid (DocAt _ A2 n2 c2 o) := Lib.hid ⟨R2.out, N2.out, k2, C2.out, fun z hz => ⟨by have := G2.out.2 z hz; omega, (Q2.out z hz).2⟩, by have := G2.out; omega⟩
  have L2 : Hid ((clsOf o).length = n2) := Lib.hid D2.out.clen
  have B2 := Lib.hid G2.out.1
  go_wp2_with (go_at_call 15; refine Hid.out ?_)
  refine Lib.hid ?_
  refine (copy18D D1.out).mono ?_
  rintro e wn ⟨A3, c3, P, rfl, h_1, d_1, y⟩
  have R0 := Lib.hid (R0.out.ext y)
  have HT := Lib.hid (Utf8Tabs_below HT.out y)
  have HS := Lib.hid (HS.out.ext y)
  have D1 := Lib.hid (D1.out.ext y)
  have D2 := Lib.hid (D2.out.ext y)
  replace hx := ext_trans hx y
  have D_P := Lib.hid d_1
  have E_P := Lib.hid h_1
  clear d_1 h_1
  clear y
  obtain ⟨nn, hn3⟩ : ∃ X, P.length = X := ⟨_, rfl⟩
  have N3 : nn = n1 := by rw [← hn3, ← clsOf_len, E_P.out, L1.out]
  rw [hn3] at D_P ⊢
  clear hn3
  have n3e := N3.symm
  subst n3e
  clear N3
  go_wp2_with (go_at_call 15; refine Hid.out ?_)
  refine Lib.hid ?_
  refine (copy18D D2.out).mono ?_
  rintro e wn ⟨A4, c4, Q, rfl, h_1, d_1, y⟩
  have R0 := Lib.hid (R0.out.ext y)
  have HT := Lib.hid (Utf8Tabs_below HT.out y)
  have HS := Lib.hid (HS.out.ext y)
  have D1 := Lib.hid (D1.out.ext y)
  have D2 := Lib.hid (D2.out.ext y)
  have D_P := Lib.hid (D_P.out.ext y)
  replace hx := ext_trans hx y
  have D_Q := Lib.hid d_1
  have E_Q := Lib.hid h_1
  clear d_1 h_1
  clear y
  obtain ⟨nn, hn3⟩ : ∃ X, Q.length = X := ⟨_, rfl⟩
  have N3 : nn = n2 := by rw [← hn3, ← clsOf_len, E_Q.out, L2.out]
  rw [hn3] at D_Q ⊢
  clear hn3
  have n3e := N3.symm
  subst n3e
  clear N3
  obtain ⟨ma, hma⟩ : ∃ X, mayD l0 (clsOf d) = X := ⟨_, rfl⟩
  obtain ⟨mb, hmb⟩ : ∃ X, mayD l0 (clsOf o) = X := ⟨_, rfl⟩
  have M1 := Lib.hid hma
  have M2 := Lib.hid hmb
  have M3 : Hid (mayD l0 (clsOf P) = ma) := Lib.hid (by rw [E_P.out]; exact hma)
  have M4 : Hid (mayD l0 (clsOf Q) = mb) := Lib.hid (by rw [E_Q.out]; exact hmb)
  clear hma hmb
  obtain ⟨wm1, hwm⟩ : ∃ X, X = wn := ⟨_, rfl⟩
  subst hwm
  have R0_1 := R0
  have HT_1 := HT
  have HS_1 := HS
  have D1_1 := D1
  have D2_1 := D2
  have D_P_1 := D_P
  have D_Q_1 := D_Q
  have hx_1 := hx
  by_cases hmm : ma = 0 ∧ mb = 0
  · skip
    obtain ⟨hm1, hm2⟩ := hmm
    subst hm1
    subst hm2
    go_wp2_with (go_at_call 28; refine Hid.out ?_)
    refine Lib.hid ?_
    refine (diffWr D_P.out D_Q.out HS.out HT.out M3.out M4.out B1.out B2.out).mono ?_
    rintro e wn ⟨A6, c6, X6, rfl, h_1, w_1, o_1, l_1, y⟩
    have R0 := Lib.hid (R0.out.ext y)
    have HT := Lib.hid (Utf8Tabs_below HT.out y)
    have HS := Lib.hid (HS.out.ext y)
    have D1 := Lib.hid (D1.out.ext y)
    have D2 := Lib.hid (D2.out.ext y)
    have D_P := Lib.hid (D_P.out.ext y)
    have D_Q := Lib.hid (D_Q.out.ext y)
    replace hx := ext_trans hx y
    have W_K := Lib.hid w_1
    have E_6 := Lib.hid h_1
    have S_6 := Lib.hid l_1
    have R_6 := Lib.hid o_1
    have YB := Lib.hid y
    clear w_1 h_1 y o_1 l_1
    obtain ⟨n6, hn6⟩ : ∃ X, X6.length = X := ⟨_, rfl⟩
    have N6 := Lib.hid hn6
    rw [hn6] at W_K ⊢
    clear hn6
    have B6 : Hid (n6 ≤ 5000) := Lib.hid (by have h := S_6.out.1; have := N6.out; omega)
    go_wp2_with (go_at_call 29; refine Hid.out ?_)
    refine Lib.hid ?_
    refine (diff23Ok N0.out R0.out (by omega) D1.out D2.out T1.out T2.out HT.out M1.out M2.out B1.out B2.out).mono ?_
    rintro e wn ⟨A7, c7, X7, rfl, h7, o7, p7, y⟩
    have W_K := Lib.hid (W_K.out.below y)
    have YB := Lib.hid (ext_trans YB.out y)
    have R0 := Lib.hid (R0.out.ext y)
    have HT := Lib.hid (Utf8Tabs_below HT.out y)
    have HS := Lib.hid (HS.out.ext y)
    have D1 := Lib.hid (D1.out.ext y)
    have D2 := Lib.hid (D2.out.ext y)
    have D_P := Lib.hid (D_P.out.ext y)
    have D_Q := Lib.hid (D_Q.out.ext y)
    have R_6 := Lib.hid (R_6.out.ext y)
    replace hx := ext_trans hx y
    have R_7 := Lib.hid (rd_made o7 p7)
    have E_7 : Hid (osOf X7 = osOf X6) := Lib.hid (by rw [h7, E_6.out, E_P.out, E_Q.out])
    clear y h7 o7 p7
    have LE := Lib.hid (len_opsK2 E_7.out S_6.out.2)
    obtain ⟨n7, hn7⟩ : ∃ X, X7.length = X := ⟨_, rfl⟩
    have N7 := Lib.hid hn7
    rw [hn7]
    have N76 : Hid (n7 = n6) := Lib.hid (by rw [← hn7, LE.out.1, N6.out])
    clear hn7
    go_wp2_with (go_at_call 22; refine Hid.out ?_)
    refine Lib.hid ?_
    refine (same15_any A6 A7 n6 n7 c6 c7 X6 X7 _ N6.out.symm N7.out.symm R_6.out R_7.out (by have := B6.out; omega) (by have := B6.out; have := N76.out; omega) (len_opsK S_6.out.2) LE.out.2).mono ?_
    rw [decide_eq_true E_7.out.symm]
    rintro e wn ⟨rfl, y⟩
    have W_K := Lib.hid (W_K.out.below y)
    have YB := Lib.hid (ext_trans YB.out y)
    have R0 := Lib.hid (R0.out.ext y)
    have HT := Lib.hid (Utf8Tabs_below HT.out y)
    have HS := Lib.hid (HS.out.ext y)
    have D1 := Lib.hid (D1.out.ext y)
    have D2 := Lib.hid (D2.out.ext y)
    have D_P := Lib.hid (D_P.out.ext y)
    have D_Q := Lib.hid (D_Q.out.ext y)
    have R_6 := Lib.hid (R_6.out.ext y)
    have R_7 := Lib.hid (R_7.out.ext y)
    replace hx := ext_trans hx y
    clear y
    clear E_7 LE N7 N76
    clear R_7
    clear R_6
    go_wp2_with (fail)
    go_loopg [65] n6 (fun g iv wr => ∃ m : Nat, m ≤ n6 ∧ g = n6 - m ∧ iv = .int .i64 (m : Int) ∧ Hid (WrO wr wm1.heap.size A6 n6 c6 X6) ∧ Below wm1.heap.size wm1 wr)
    case atStart => exact ⟨0, Nat.zero_le _, rfl, rfl, W_K, YB.out⟩
    case round =>
      obtain ⟨m, hm, hg, rfl, HW, y⟩ := hrel
      have HG := Lib.hid hg
      clear hg
      by_cases hlt : m < n6
      · have hlt' : (m : Int) < (n6 : Int) := by omega
        obtain ⟨ad, x, had, hxm, hc⟩ := HW.out.el hlt
        subst had
        have HX := Lib.hid hxm
        have SB := Lib.hid (S_6.out.2 x (List.mem_of_getElem? hxm))
        obtain ⟨⟨ok, on, r8, s8, p8⟩, Ar, cr, As, cs, Ap, cp⟩ := x
        try simp only at SB
        have hw2 : IntKind.i64.wrap ((m : Int) + 1) = (m : Int) + 1 := IntWalk.i64_in _ (by have := B6.out; omega)
        have HLT := Lib.hid hlt
        clear hxm hc hlt
        obtain ⟨kS, hk8⟩ : ∃ X, s8.length = X := ⟨_, rfl⟩
        have KS := Lib.hid hk8
        have BS : Hid (kS ≤ 1000000) := Lib.hid (by have := SB.out; have := KS.out; omega)
        clear hk8
        obtain ⟨wv, hwv⟩ : ∃ X, X = wr := ⟨_, rfl⟩
        subst hwv
        obtain ⟨-, -, -, z3, -⟩ := op_cells (HW.out.cells HLT.out HX.out)
        simp only at z3
        rw [KS.out] at z3
        go_wp2_with (fail)
        clear z3
        go_loopg [74] kS (fun g iv wr => ∃ j : Nat, j ≤ kS ∧ g = kS - j ∧ iv = .int .i64 (j : Int) ∧ Hid (WrO wr wm1.heap.size (some ad) n6 c6 X6) ∧ Below wm1.heap.size wm1 wr)
        case atStart => exact ⟨0, Nat.zero_le _, rfl, rfl, HW, y⟩
        case round =>
          clear HW y
          obtain ⟨j, hj, hg, rfl, HW, y⟩ := hrel
          have HG2 := Lib.hid hg
          clear hg
          by_cases hlj : j < kS
          · have hlj' : (j : Int) < (kS : Int) := by omega
            obtain ⟨g9, q9, hAs, hb9, c9, f9, hS9⟩ := HW.out.keyS HX.out (j := j) (by have := KS.out; simp only; omega)
            obtain ⟨-, -, -, z3, -⟩ := op_cells (HW.out.cells HLT.out HX.out)
            simp only at hAs z3
            subst hAs
            rw [KS.out] at z3
            have hw3 : IntKind.i64.wrap ((j : Int) + 1) = (j : Int) + 1 := IntWalk.i64_in _ (by have := BS.out; omega)
            obtain ⟨q8, hq8⟩ : ∃ X, IntKind.i64.wrap (q9 + 1) = X := ⟨_, rfl⟩
            have HS9 := Lib.hid (hS9 q8)
            have YC := Lib.hid (setCell_up y hb9 (j * 5) (.int .i64 q8))
            clear hS9
            go_wp2_with (fail)
            go_roundg (kS - (j + 1))
            case measure => have := HG2.out; clear hw2 hw3; omega
            case rel => exact ⟨j + 1, by clear hw2 hw3; omega, rfl, by go_num, HS9, YC.out⟩
          have hlj' : ¬ (j : Int) < (kS : Int) := by omega
          go_wp2_with (fail)
          go_roundg (n6 - (m + 1))
          case measure => have := HG.out; have := HLT.out; clear hw2; omega
          case rel => exact ⟨m + 1, by have := HLT.out; clear hw2; omega, rfl, by go_num, HW, y⟩
      have hlt' : ¬ (m : Int) < (n6 : Int) := by omega
      clear HG
      obtain ⟨wn, hwv⟩ : ∃ X, X = wr := ⟨_, rfl⟩
      subst hwv
      go_wp2_with (fail)
      clear W_K YB HW
      clear R0
      clear HT
      clear HS
      clear D1
      clear D2
      clear D_P
      clear D_Q
      clear hx
      have R0 := Lib.hid (R0_1.out.ext y)
      have HT := Lib.hid (Utf8Tabs_below HT_1.out y)
      have HS := Lib.hid (HS_1.out.ext y)
      have D1 := Lib.hid (D1_1.out.ext y)
      have D2 := Lib.hid (D2_1.out.ext y)
      have D_P := Lib.hid (D_P_1.out.ext y)
      have D_Q := Lib.hid (D_Q_1.out.ext y)
      have hx := ext_trans hx_1 y
      clear R0_1
      clear HT_1
      clear HS_1
      clear D1_1
      clear D2_1
      clear D_P_1
      clear D_Q_1
      clear hx_1
      clear y hlt hlt'
      go_wp2_with (go_at_call 19; refine Hid.out ?_)
      refine Lib.hid ?_
      refine (same18D D_P.out D1.out (decide_eq_true E_P.out)).mono ?_
      rintro e wn ⟨rfl, y⟩
      have R0 := Lib.hid (R0.out.ext y)
      have HT := Lib.hid (Utf8Tabs_below HT.out y)
      have HS := Lib.hid (HS.out.ext y)
      have D1 := Lib.hid (D1.out.ext y)
      have D2 := Lib.hid (D2.out.ext y)
      have D_P := Lib.hid (D_P.out.ext y)
      have D_Q := Lib.hid (D_Q.out.ext y)
      replace hx := ext_trans hx y
      clear y
      go_wp2_with (go_at_call 19; refine Hid.out ?_)
      refine Lib.hid ?_
      refine (same18D D_Q.out D2.out (decide_eq_true E_Q.out)).mono ?_
      rintro e wn ⟨rfl, y⟩
      have R0 := Lib.hid (R0.out.ext y)
      have HT := Lib.hid (Utf8Tabs_below HT.out y)
      have HS := Lib.hid (HS.out.ext y)
      have D1 := Lib.hid (D1.out.ext y)
      have D2 := Lib.hid (D2.out.ext y)
      have D_P := Lib.hid (D_P.out.ext y)
      have D_Q := Lib.hid (D_Q.out.ext y)
      replace hx := ext_trans hx y
      clear y
      go_wp2_with (go_at_call 27; refine Hid.out ?_)
      refine Lib.hid ?_
      refine (known23_any _ HT.out).mono ?_
      rintro e w2 ⟨rfl, y⟩
      replace hx := ext_trans hx y
      go_wp2_with (fail)
      go_ret
      exact ⟨rfl, hx⟩
  have hb : ma ≠ 0 ∨ mb ≠ 0 := by
    by_cases h : ma = 0
    · exact .inr (fun h2 => hmm ⟨h, h2⟩)
    · exact .inl h
  clear hmm
  go_wp2_with (go_at_call 28; refine Hid.out ?_)
  refine Lib.hid ?_
  refine (diffBadD (l := l0) D_P.out D_Q.out HS.out HT.out (by rw [M3.out, M4.out]; exact hb)).mono ?_
  rintro e wn ⟨rfl, y⟩
  have R0 := Lib.hid (R0.out.ext y)
  have HT := Lib.hid (Utf8Tabs_below HT.out y)
  have HS := Lib.hid (HS.out.ext y)
  have D1 := Lib.hid (D1.out.ext y)
  have D2 := Lib.hid (D2.out.ext y)
  have D_P := Lib.hid (D_P.out.ext y)
  have D_Q := Lib.hid (D_Q.out.ext y)
  replace hx := ext_trans hx y
  clear y
  go_wp2_with (go_at_call 29; refine Hid.out ?_)
  refine Lib.hid ?_
  refine (diff23Bad N0.out R0.out (by omega) D1.out D2.out T1.out T2.out HT.out (by rw [M1.out, M2.out]; exact hb)).mono ?_
  rintro e wn ⟨rfl, y⟩
  have R0 := Lib.hid (R0.out.ext y)
  have HT := Lib.hid (Utf8Tabs_below HT.out y)
  have HS := Lib.hid (HS.out.ext y)
  have D1 := Lib.hid (D1.out.ext y)
  have D2 := Lib.hid (D2.out.ext y)
  have D_P := Lib.hid (D_P.out.ext y)
  have D_Q := Lib.hid (D_Q.out.ext y)
  replace hx := ext_trans hx y
  clear y
  go_wp2_with (go_at_call 22; refine Hid.out ?_)
  refine Lib.hid ?_
  refine (same15_any none none 0 0 0 0 [] [] _ rfl rfl ⟨Rd.nil, fun z hz => by cases hz⟩ ⟨Rd.nil, fun z hz => by cases hz⟩ (by omega) (by omega) (fun z hz => by cases hz) (fun z hz => by cases hz)).mono ?_
  rw [decide_eq_true rfl]
  rintro e wn ⟨rfl, y⟩
  have R0 := Lib.hid (R0.out.ext y)
  have HT := Lib.hid (Utf8Tabs_below HT.out y)
  have HS := Lib.hid (HS.out.ext y)
  have D1 := Lib.hid (D1.out.ext y)
  have D2 := Lib.hid (D2.out.ext y)
  have D_P := Lib.hid (D_P.out.ext y)
  have D_Q := Lib.hid (D_Q.out.ext y)
  replace hx := ext_trans hx y
  clear y
  go_wp2_with (fail)
  go_loopg [65] 0 (fun g iv wr => iv = .int .i64 0 ∧ wr = wn)
  case atStart => exact ⟨rfl, rfl⟩
  case round =>
    obtain ⟨rfl, rfl⟩ := hrel
    go_wp2_with (go_at_call 19; refine Hid.out ?_)
    refine Lib.hid ?_
    refine (same18D D_P.out D1.out (decide_eq_true E_P.out)).mono ?_
    rintro e wn ⟨rfl, y⟩
    have R0 := Lib.hid (R0.out.ext y)
    have HT := Lib.hid (Utf8Tabs_below HT.out y)
    have HS := Lib.hid (HS.out.ext y)
    have D1 := Lib.hid (D1.out.ext y)
    have D2 := Lib.hid (D2.out.ext y)
    have D_P := Lib.hid (D_P.out.ext y)
    have D_Q := Lib.hid (D_Q.out.ext y)
    replace hx := ext_trans hx y
    clear y
    go_wp2_with (go_at_call 19; refine Hid.out ?_)
    refine Lib.hid ?_
    refine (same18D D_Q.out D2.out (decide_eq_true E_Q.out)).mono ?_
    rintro e wn ⟨rfl, y⟩
    have R0 := Lib.hid (R0.out.ext y)
    have HT := Lib.hid (Utf8Tabs_below HT.out y)
    have HS := Lib.hid (HS.out.ext y)
    have D1 := Lib.hid (D1.out.ext y)
    have D2 := Lib.hid (D2.out.ext y)
    have D_P := Lib.hid (D_P.out.ext y)
    have D_Q := Lib.hid (D_Q.out.ext y)
    replace hx := ext_trans hx y
    clear y
    go_wp2_with (go_at_call 27; refine Hid.out ?_)
    refine Lib.hid ?_
    refine (known23_any _ HT.out).mono ?_
    rintro e w2 ⟨rfl, y⟩
    replace hx := ext_trans hx y
    go_wp2_with (fail)
    go_ret
    exact ⟨rfl, hx⟩
end Go.Proofs.YtfnkjcodcoehcaaGreatDoor
