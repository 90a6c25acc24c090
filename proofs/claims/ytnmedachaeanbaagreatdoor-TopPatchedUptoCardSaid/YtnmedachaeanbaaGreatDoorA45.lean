/- Merged texts. -/
import Derived.Test.YtnmedachaeanbaaGreatDoorA44
import Derived.Deep.RegionHeldLaw
import Derived.Test.YtnmedachaeanbaaGreatDoorA26
import Derived.Test.YtnmedachaeanbaaGreatDoorCards
import Derived.Test.YtnmedachaeanbaaGreatDoorTie
import Derived.ProofKit
import Derived.Deep.Slices
import Derived.JoinedCond
import Derived.OpenShut
import Derived.Deep.DeepHandedRow
import Derived.Lib.LaidTab
namespace Go.Proofs.YtnmedachaeanbaaGreatDoor
set_option maxRecDepth 100000
set_option maxHeartbeats 12800000
open Go.RowKit
open Go.Lib (hid Utf8Tabs)
set_option linter.unusedVariables false
theorem lives_any (w : World) : Calls Tryz.prog 8 #[] w fun e w' => e = .returned (.bool true) ∧ Below w.heap.size w w' :=
 (Go.Sy.Run.lives_any w).mono fun _ _ ⟨h1, h2⟩ => ⟨h1, h2.os, h2.tape, h2.output, h2.size, h2.block⟩
set_option linter.unusedSimpArgs false
theorem Z6H (A0 A1 A2 A3 : Option Addr) (n0 n1 n2 n3 c0 c1 c2 c3 : Nat) (l0 : List Ky) (d : List ClS) (p q : List Ch) (w : World)
 (e0 : n0 = l0.length) (r0 : RdKy w w.heap.size A0 l0) (b0 : n0 ≤ 1048576) (e1 : n1 = d.length) (r1 : RdCl w w.heap.size A1 d) (b1 : n1 ≤ 1048576) (k1 : n1 ≤ c1) (q1 : ∀ x ∈ d, x.c.s.length ≤ 100000000 ∧ okVr x.c.s) (g1 : ∀ x ∈ d, x.c.s.length ≤ x.cs ∧ x.cs ≤ maxLen)
 (e2 : n2 = p.length) (r2 : RdCh w w.heap.size A2 p) (b2 : n2 ≤ 1048576) (k2 : n2 ≤ c2) (m2 : c2 ≤ maxLen) (q2 : ∀ c ∈ p, okV c.v ∧ c.v.s.size ≤ 100000000)
 (e3 : n3 = q.length) (r3 : RdCh w w.heap.size A3 q) (b3 : n3 ≤ 1048576) (k3 : n3 ≤ c3) (m3 : c3 ≤ maxLen) (q3 : ∀ c ∈ q, okV c.v ∧ c.v.s.size ≤ 100000000)
 (hT : Utf8Tabs 0 1 w) :
 Calls Tryz.prog 3 #[.slice A0 n0 c0, .slice A1 n1 c1, .slice A2 n2 c2, .slice A3 n3 c3] w fun e w' => e = .returned (.bool true) ∧ Below w.heap.size w w' := by
 have N0 := hid e0
 have R0 := hid r0
 have HT := hid hT
 have hx := Below.refl w.heap.size w
 have N1 := hid e1
 have R1 := hid r1
 have Q1 := hid q1
 have C1 := hid g1
 have N2 := hid e2
 have R2 := hid r2
 have Q2 := hid q2
 have N3 := hid e3
 have R3 := hid r3
 have Q3 := hid q3
 clear e0 r0 hT e1 r1 q1 g1 e2 r2 q2 e3 r3 q3
 go_enter Tryz.func3, Tryz.ntmps3
 go_wp2_with (go_at_call 6; refine Hid.out ?_)
 refine hid ?_
 refine (Y1q A0 A1 n0 n1 c0 c1 d _ b0 N1.out R1.out b1 (fun z hz => (Q1.out z hz).1)).mono ?_
 rintro e wn ⟨g, rfl, hgr, dr, hd⟩
 have y := Y4H hd
 clear hd
 have R0 := hid (R0.out.ext y)
 have HT := hid (Utf8Tabs_below HT.out y)
 have R1 := hid (R1.out.ext y)
 have R2 := hid (R2.out.ext y)
 have R3 := hid (R3.out.ext y)
 replace hx := Z0a hx y
 clear y
 cases g
 case false =>
  clear hgr
  go_wp2_with (go_at_call 8; refine Hid.out ?_)
  refine hid ?_
  refine (lives_any _).mono ?_
  rintro e w2 ⟨rfl, y⟩
  replace hx := Z0a hx y
  go_wp2_with (fail)
  go_ret
  exact ⟨rfl, hx⟩
 have G1 : Hid (n0 ≤ 64 ∧ n1 ≤ 300 ∧ ∀ z ∈ d, z.c.s.length ≤ 64) := hid (hgr rfl)
 clear hgr
 by_cases t2 : (64 : Int) < (n2 : Int)
 ·go_wp2_with (go_at_call 8; refine Hid.out ?_)
  refine hid ?_
  refine (lives_any _).mono ?_
  rintro e w2 ⟨rfl, y⟩
  replace hx := Z0a hx y
  go_wp2_with (fail)
  go_ret
  exact ⟨rfl, hx⟩
 by_cases t3 : (64 : Int) < (n3 : Int)
 ·go_wp2_with (go_at_call 8; refine Hid.out ?_)
  refine hid ?_
  refine (lives_any _).mono ?_
  rintro e w2 ⟨rfl, y⟩
  replace hx := Z0a hx y
  go_wp2_with (fail)
  go_ret
  exact ⟨rfl, hx⟩
 go_wp2_with (go_at_call 7; refine Hid.out ?_)
 refine hid ?_
 refine (Z8v A0 A2 n0 c0 n2 c2 l0 p _ N0.out R0.out (by omega) N2.out R2.out (by omega) Q2.out HT.out).mono ?_
 obtain ⟨rp, hrp⟩ : ∃ X, mayP l0 p = X := ⟨_, rfl⟩
 rw [hrp]
 rintro e wn ⟨rfl, y⟩
 have R0 := hid (R0.out.ext y)
 have HT := hid (Utf8Tabs_below HT.out y)
 have R1 := hid (R1.out.ext y)
 have R2 := hid (R2.out.ext y)
 have R3 := hid (R3.out.ext y)
 replace hx := Z0a hx y
 clear y
 by_cases h0 : rp = 0
 rotate_left
 ·have h0' : (rp == 0) = false := beq_eq_false_iff_ne.2 h0
  have h0'' : (rp != 0) = true := by rw [bne, h0']; rfl
  clear hrp
  go_wp2_with (go_at_call 8; refine Hid.out ?_)
  refine hid ?_
  refine (lives_any _).mono ?_
  rintro e w2 ⟨rfl, y⟩
  replace hx := Z0a hx y
  go_wp2_with (fail)
  go_ret
  exact ⟨rfl, hx⟩
 subst h0
 have MP := hid hrp
 clear hrp
 go_wp2_with (go_at_call 7; refine Hid.out ?_)
 refine hid ?_
 refine (Z8v A0 A3 n0 c0 n3 c3 l0 q _ N0.out R0.out (by omega) N3.out R3.out (by omega) Q3.out HT.out).mono ?_
 obtain ⟨rq, hrq⟩ : ∃ X, mayP l0 q = X := ⟨_, rfl⟩
 rw [hrq]
 rintro e wn ⟨rfl, y⟩
 have R0 := hid (R0.out.ext y)
 have HT := hid (Utf8Tabs_below HT.out y)
 have R1 := hid (R1.out.ext y)
 have R2 := hid (R2.out.ext y)
 have R3 := hid (R3.out.ext y)
 replace hx := Z0a hx y
 clear y
 by_cases h0 : rq = 0
 rotate_left
 ·have h0' : (rq == 0) = false := beq_eq_false_iff_ne.2 h0
  have h0'' : (rq != 0) = true := by rw [bne, h0']; rfl
  clear hrq
  go_wp2_with (go_at_call 8; refine Hid.out ?_)
  refine hid ?_
  refine (lives_any _).mono ?_
  rintro e w2 ⟨rfl, y⟩
  replace hx := Z0a hx y
  go_wp2_with (fail)
  go_ret
  exact ⟨rfl, hx⟩
 subst h0
 have MQ := hid hrq
 clear hrq
 have L23 : Hid (n2 ≤ 64 ∧ n3 ≤ 64) := hid (by omega)
 go_wp2_with (go_at_call 9; refine Hid.out ?_)
 refine hid ?_
 refine (Y5Y A0 n0 c0 l0 _ N0.out R0.out (by omega)).mono ?_
 rintro e wn ⟨y, ⟨hm, s, rfl, hS⟩ | ⟨hm, rfl⟩⟩
 all_goals
  have R0 := hid (R0.out.ext y)
  have HT := hid (Utf8Tabs_below HT.out y)
  have R1 := hid (R1.out.ext y)
  have R2 := hid (R2.out.ext y)
  have R3 := hid (R3.out.ext y)
  replace hx := Z0a hx y
  clear y hm t2 t3
 rotate_left
 ·skip
  go_wp2_with (go_at_call 8; refine Hid.out ?_)
  refine hid ?_
  refine (lives_any _).mono ?_
  rintro e w2 ⟨rfl, y⟩
  replace hx := Z0a hx y
  go_wp2_with (fail)
  go_ret
  exact ⟨rfl, hx⟩
 have HS := hid hS
 clear hS
 have H64 : Hid (l0.length ≤ 64) := hid (by have := N0.out; have := G1.out; omega)
 have D1 : Hid (DocAt _ A1 n1 c1 d) := hid ⟨R1.out, N1.out, k1, C1.out, fun z hz => ⟨by have := G1.out.2.2 z hz; omega, (Q1.out z hz).2⟩, by have := G1.out; omega⟩
 have LD : Hid ((Z0i d).length = n1) := hid D1.out.clen
 obtain ⟨rd, hrd⟩ : ∃ X, mayD l0 (Z0i d) = X := ⟨_, rfl⟩
 go_wp2_with (go_at_call 10; refine Hid.out ?_)
 refine hid ?_
 refine (Y65 D1.out HS.out HT.out hrd).mono ?_
 rintro e wn ⟨rfl, y⟩
 have R0 := hid (R0.out.ext y)
 have HT := hid (Utf8Tabs_below HT.out y)
 have HS := hid (HS.out.ext y)
 have D1 := hid (D1.out.ext y)
 have R2 := hid (R2.out.ext y)
 have R3 := hid (R3.out.ext y)
 replace hx := Z0a hx y
 clear y R1
 by_cases h0 : rd = 0
 rotate_left
 ·have h0' : (rd == 0) = false := beq_eq_false_iff_ne.2 h0
  have h0'' : (rd != 0) = true := by rw [bne, h0']; rfl
  clear hrd
  go_wp2_with (go_at_call 8; refine Hid.out ?_)
  refine hid ?_
  refine (lives_any _).mono ?_
  rintro e w2 ⟨rfl, y⟩
  replace hx := Z0a hx y
  go_wp2_with (fail)
  go_ret
  exact ⟨rfl, hx⟩
 subst h0
 have MD := hid hrd
 clear hrd
 -- the two ops
 have y1 := Z0c wn (.cells #[.int .u8 1, .int .i64 (n1 : Int), .slice none 0 0, .slice none 0 0, .slice A2 n2 c2] 36)
 have ra := Y5F wn [topX n1 p A2 c2] (fun z hz => by
  simp only [List.mem_cons, List.not_mem_nil, or_false] at hz
  subst hz; exact ⟨Rd.nil, Rd.nil, R2.out⟩) (cs := #[.int .u8 1, .int .i64 (n1 : Int), .slice none 0 0, .slice none 0 0, .slice A2 n2 c2]) (by simp [topX, OpS.enc, opR, ← N2.out]) (b := wn.heap.size) rfl
 have sz1 : (wn.alloc (.cells #[.int .u8 1, .int .i64 (n1 : Int), .slice none 0 0, .slice none 0 0, .slice A2 n2 c2] 36)).heap.size = wn.heap.size + 1 := by simp
 have R3' := R3.out.ext y1
 have y2 := Z0c (wn.alloc (.cells #[.int .u8 1, .int .i64 (n1 : Int), .slice none 0 0, .slice none 0 0, .slice A2 n2 c2] 36)) (.cells #[.int .u8 1, .int .i64 (n1 : Int), .slice none 0 0, .slice none 0 0, .slice A3 n3 c3] 36)
 have rb := Y5F (wn.alloc (.cells #[.int .u8 1, .int .i64 (n1 : Int), .slice none 0 0, .slice none 0 0, .slice A2 n2 c2] 36)) [topX n1 q A3 c3] (fun z hz => by
  simp only [List.mem_cons, List.not_mem_nil, or_false] at hz
  subst hz; exact ⟨Rd.nil, Rd.nil, R3'⟩) (cs := #[.int .u8 1, .int .i64 (n1 : Int), .slice none 0 0, .slice none 0 0, .slice A3 n3 c3]) (by simp [topX, OpS.enc, opR, ← N3.out]) (b := wn.heap.size + 1) sz1.symm
 have ra := ra.ext y2
 have y := Z0a y1 y2
 have R0 := hid (R0.out.ext y)
 have HT := hid (Utf8Tabs_below HT.out y)
 have HS := hid (HS.out.ext y)
 have D1 := hid (D1.out.ext y)
 have R2 := hid (R2.out.ext y)
 have R3 := hid (R3.out.ext y)
 replace hx := Z0a hx y
 have okt : ∀ {n : Nat} {u : List Ch} {A : Option Addr} {c m : Nat}, m = u.length → m ≤ 64 → (∀ c ∈ u, okV c.v ∧ c.v.s.size ≤ 100000000) → ∀ o ∈ [topX n u A c], okOp o.o := fun {n} {u} {A} {c} {m} hm h64 hu o ho => by
  simp only [List.mem_cons, List.not_mem_nil, or_false] at ho
  subst ho
  exact ⟨(fun c hc => by cases hc), hu, by simp [topX, opR], by simp [topX, opR], by simp [topX, opR]; omega⟩
 have cpt : ∀ {n : Nat} {u : List Ch} {A : Option Addr} {c m : Nat}, m = u.length → m ≤ c → c ≤ maxLen → ∀ o ∈ [topX n u A c], capO o := fun {n} {u} {A} {c} {m} hm h1 h2 o ho => by
  simp only [List.mem_cons, List.not_mem_nil, or_false] at ho
  subst ho
  exact ⟨⟨Nat.le_refl _, Nat.zero_le _⟩, ⟨Nat.le_refl _, Nat.zero_le _⟩, by show u.length ≤ c; omega, h2⟩
 have OX : Hid (OpsC _ (some ⟨wn.heap.size, 0, none⟩) 1 1 [topX n1 p A2 c2]) := hid ⟨⟨ra, rfl, okt N2.out L23.out.1 Q2.out, by omega⟩, Nat.le_refl _, by unfold maxLen; omega, cpt N2.out k2 m2⟩
 have OY : Hid (OpsC _ (some ⟨wn.heap.size + 1, 0, none⟩) 1 1 [topX n1 q A3 c3]) := hid ⟨⟨rb, rfl, okt N3.out L23.out.2 Q3.out, by omega⟩, Nat.le_refl _, by unfold maxLen; omega, cpt N3.out k3 m3⟩
 clear okt cpt ra rb R3' y y1 y2 sz1
 obtain ⟨Na, ha⟩ := Y5I (Ap := A2) (c := c2) MP.out MD.out (by rw [LD.out]; have := G1.out; omega)
 obtain ⟨Nb, hb⟩ := Y5I (Ap := A3) (c := c3) MQ.out MD.out (by rw [LD.out]; have := G1.out; omega)
 rw [LD.out] at ha hb
 have IA := hid ha
 have IB := hid hb
 clear ha hb
 have RI : Hid (∀ c ∈ Z0i d, Z1D c.s = true) := hid (fun c hc => (Z1K ((Z3D.1 MD.out).2.1 c hc).2.1).2.1)
 have HU : Hid (app l0 (traU true (nf (Z0e (osOf [topX n1 p A2 c2]))) (nf (Z0e (osOf [topX n1 q A3 c3])))) (app l0 (Z0e (osOf [topX n1 p A2 c2])) (Z0i d)) = (Z0i d).map (fun c => actC l0 (actC l0 c q) p)) := hid (by
  rw [Z6o, Z6o, ← LD.out]
  exact Y4X MP.out MQ.out RI.out)
 go_wp2_with (go_at_call 11; refine Hid.out ?_)
 refine hid ?_
 refine (Z9A s l0 A1 _ _ n1 c1 1 1 1 1 d [topX n1 p A2 c2] [topX n1 q A3 c3] (n1 : Int) _ D1.out OX.out OY.out HS.out H64.out HT.out IA.out IB.out (by rw [(Z8C MP.out).2]; omega) (by rw [(Z8C MQ.out).2]; omega) (by
  have h1 := (Z8C (n := n1) (Ap := A2) (c := c2) MP.out).1
  have h2 := (Z8C (n := n1) (Ap := A3) (c := c3) MQ.out).1
  rw [LD.out]
  have := G1.out
  omega)).mono ?_
 rw [HU.out]
 have LU : Hid (((Z0i d).map (fun c => actC l0 (actC l0 c q) p)).length = n1) := hid (by rw [List.length_map]; exact LD.out)
 rw [LU.out]
 rintro e wq ⟨y, ⟨_, A5, c5, M, rfl, hM, mM, dM⟩ | ⟨hlt, rfl⟩⟩
 rotate_left
 ·omega
 have R0 := hid (R0.out.ext y)
 have HT := hid (Utf8Tabs_below HT.out y)
 have D1 := hid (D1.out.ext y)
 have R2 := hid (R2.out.ext y)
 have R3 := hid (R3.out.ext y)
 replace hx := Z0a hx y
 have hLM : M.length = n1 := by rw [← Z0D, hM, LU.out]
 rw [hLM] at dM ⊢
 have DM := hid dM
 have EM := hid hM
 clear y dM hM mM hLM IA IB OX OY HU LU HS
 go_wp2_with (fail)
 go_loopg [90] n1 (fun g iv wr => ∃ i : Nat, i ≤ n1 ∧ g = n1 - i ∧ iv = .int .i64 (i : Int) ∧ Hid (Below wq.heap.size wq wr))
 case atStart => exact ⟨0, Nat.zero_le _, rfl, rfl, hid (Below.refl _ _)⟩
 case round =>
  obtain ⟨i, hi, hg, rfl, HY⟩ := hrel
  have HG := hid hg
  clear hg
  by_cases hlt : i < n1
  ·have hl1 : i < d.length := by have := N1.out; omega
   have hl2 : i < M.length := by have := DM.out.len; omega
   have hlt' : (i : Int) < (n1 : Int) := by omega
   obtain ⟨ad, x, rfl, hb1, hd1, hx1, hc1⟩ := (D1.out.ext HY.out).rd.1.el hl1
   obtain ⟨ad2, x', rfl, hb2, hd2, hx2, hc2⟩ := (DM.out.ext HY.out).rd.1.el hl2
   have hm1 := List.mem_of_getElem? hx1
   have hm2 := List.mem_of_getElem? hx2
   have p1 := hid ((D1.out.ext HY.out).rd.2 x hm1)
   have p2 := hid ((DM.out.ext HY.out).rd.2 x' hm2)
   have bb1 := hid (G1.out.2.2 x hm1)
   have bb2 := hid (DM.out.vr x' hm2).1
   have hc : x'.c = actC l0 (actC l0 x.c q) p := by
    have h1 := Z3E hx2
    rw [EM.out, List.getElem?_map, Z3E hx1] at h1
    exact (Option.some.inj h1).symm
   have hs := RI.out _ (List.mem_of_getElem? (Z3E hx1))
   have hw := Y4Z MP.out MQ.out hs
   clear hd1 hd2 hx1 hx2 hm1 hm2 hl1 hl2
   obtain ⟨⟨r1, s1⟩, As1, cs1⟩ := x
   obtain ⟨⟨r2, s2⟩, As2, cs2⟩ := x'
   have hr : r2 = r1 := congrArg Cl.r hc
   have hs2 : s2 = (actC l0 (actC l0 ⟨r1, s1⟩ q) p).s := congrArg Cl.s hc
   rw [← hs2] at hw
   simp only at hw
   subst hr
   clear hc hs hs2
   obtain ⟨z0, z1⟩ := Z1I hc1
   obtain ⟨u0, u1⟩ := Z1I hc2
   clear hc1 hc2
   have hw2 : IntKind.i64.wrap ((i:Int) + 1) = (i : Int) + 1 := IntWalk.i64_in _ (by omega)
   obtain ⟨ln, hln⟩ : ∃ X, (r2 == 10) = X := ⟨_, rfl⟩
   rw [hln] at hw
   obtain ⟨X1, hX1⟩ : ∃ X, Z2m (Z0T l0 ln q) s1 = X := ⟨_, rfl⟩
   rw [hX1] at hw
   have HX1 := hid hX1
   have HX2 := hid hw
   clear hX1 hw
   have BP : Hid ((Z0T l0 ln p).length ≤ 64 ∧ (Z0T l0 ln q).length ≤ 64) := hid ⟨by have h1 := List.length_filter_le (fun c : Ch => Z1v l0 ln c.key) p; have := N2.out; have := L23.out; unfold Z0T; omega, by have h1 := List.length_filter_le (fun c : Ch => Z1v l0 ln c.key) q; have := N3.out; have := L23.out; unfold Z0T; omega⟩
   have BX : Hid (X1.length ≤ 1000000) := hid (by have h1 := Z64 (Z0T l0 ln q) s1; rw [HX1.out] at h1; have := BP.out; have := bb1.out; simp only at this; omega)
   have hb1' : (ad.add (i * 2)).block < wr.heap.size := by rw [Z0U]; exact hb1
   have hb2' : (ad2.add (i * 2)).block < wr.heap.size := by rw [Z0U]; exact hb2
   have SF : Hid (∀ u, Below wr.heap.size wr u → (u.cell? (ad.add (i * 2)) = some (.int .i32 r2) ∧ u.cell? { block := (ad.add (i * 2)).block, off := (ad.add (i * 2)).off + 1 } = some (.slice As1 s1.length cs1)) ∧ u.cell? (ad2.add (i * 2)) = some (.int .i32 r2) ∧ u.cell? { block := (ad2.add (i * 2)).block, off := (ad2.add (i * 2)).off + 1 } = some (.slice As2 s2.length cs2)) := hid (fun u hu => ⟨⟨(hu.cell (p := ad.add (i * 2)) hb1').trans z0, (hu.cell (p := { block := (ad.add (i * 2)).block, off := (ad.add (i * 2)).off + 1 }) hb1').trans z1⟩, (hu.cell (p := ad2.add (i * 2)) hb2').trans u0, (hu.cell (p := { block := (ad2.add (i * 2)).block, off := (ad2.add (i * 2)).off + 1 }) hb2').trans u1⟩)
   clear hb1 hb2 hb1' hb2'
   go_wp2_with (fail)
   have C0 := (SF.out wr (Below.refl _ _)).1.2
   go_region_held_law (fun w' => w'.cell? { block := (ad.add (i * 2)).block, off := (ad.add (i * 2)).off + 1 } = some (.slice As1 s1.length cs1)) (first | exact (SF.out _ (Below.refl _ _)).1.2 | exact (SF.out _ (Z0v (Below.refl _ _))).1.2 | exact (SF.out _ Y4.out).1.2 | exact (SF.out _ Y3.out).1.2 | exact (SF.out _ Y2.out).1.2 | exact (SF.out _ Y1.out).1.2) (first
    | (refine Z0E rfl 13 [.tmp 104, .tmp 105, .tmp 106] #[22, 24, 4] rfl Tryz.f13 (by kernel_rfl) (by kernel_rfl) (by kernel_rfl) [.slice A0 n0 c0, .slice A3 n3 c3, .bool ln] (by rfl) (Z6Y A0 A3 n0 c0 n3 c3 l0 ln q wr.drew N0.out (R0.out.ext (Z0v HY.out)) (by have := G1.out; omega) N3.out (R3.out.ext (Z0v HY.out)) (by have := L23.out; omega)) ?_
       rintro e w3 ⟨B1, j1, rfl, o1, y1⟩
       refine ⟨_, rfl, ?_⟩
       have O1 := hid o1
       have Y1 : Hid (Below wr.heap.size wr w3) := hid ((Z0v (Below.refl _ _)).trans y1)
       obtain ⟨⟨a0, a1⟩, a2, a3⟩ := SF.out w3 Y1.out
       clear o1 y1)
    | (refine Z0E rfl 12 [.tmp 103, .tmp 107] #[34, 24] rfl Tryz.f12 (by kernel_rfl) (by kernel_rfl) (by kernel_rfl) [.slice As1 s1.length cs1, .slice B1 (Z0T l0 ln q).length j1] (by rfl) (Z6i As1 B1 s1.length cs1 (Z0T l0 ln q).length j1 s1 (Z0T l0 ln q) w3 rfl rfl (p1.out.ext Y1.out) (O1.out.rd Ch.enc_len) (Nat.le_trans bb1.out (by decide)) (by have := BP.out; omega)) ?_
       rw [HX1.out]
       rintro e w4 ⟨B2, j2, rfl, o2, y2⟩
       refine ⟨_, rfl, ?_⟩
       have O2 := hid o2
       have Y2 : Hid (Below wr.heap.size wr w4) := hid (Z0a Y1.out y2)
       obtain ⟨⟨e0, e1⟩, e2, e3⟩ := SF.out w4 Y2.out
       clear o2 y2)
    | (refine Z0E rfl 13 [.tmp 109, .tmp 110, .tmp 111] #[22, 24, 4] rfl Tryz.f13 (by kernel_rfl) (by kernel_rfl) (by kernel_rfl) [.slice A0 n0 c0, .slice A2 n2 c2, .bool ln] (by rfl) (Z6Y A0 A2 n0 c0 n2 c2 l0 ln p w4 N0.out (R0.out.ext (Z0a HY.out Y2.out)) (by have := G1.out; omega) N2.out (R2.out.ext (Z0a HY.out Y2.out)) (by have := L23.out; omega)) ?_
       rintro e w5 ⟨B3, j3, rfl, o3, y3⟩
       refine ⟨_, rfl, ?_⟩
       have O3 := hid o3
       have RX := hid ((O2.out.rd At.enc_len).ext y3)
       have Y3 : Hid (Below wr.heap.size wr w5) := hid (Z0a Y2.out y3)
       obtain ⟨⟨f0, f1⟩, f2, f3⟩ := SF.out w5 Y3.out
       clear o3 y3)
    | (refine Z0E rfl 12 [.tmp 108, .tmp 112] #[34, 24] rfl Tryz.f12 (by kernel_rfl) (by kernel_rfl) (by kernel_rfl) [.slice B2 X1.length j2, .slice B3 (Z0T l0 ln p).length j3] (by rfl) (Z6i B2 B3 X1.length j2 (Z0T l0 ln p).length j3 X1 (Z0T l0 ln p) w5 rfl rfl RX.out (O3.out.rd Ch.enc_len) (by have := BX.out; omega) (by have := BP.out; omega)) ?_
       rw [HX2.out]
       rintro e w6 ⟨B4, j4, rfl, o4, y4⟩
       refine ⟨_, rfl, ?_⟩
       have O4 := hid o4
       have Y4 : Hid (Below wr.heap.size wr w6) := hid (Z0a Y3.out y4)
       obtain ⟨⟨d0, d1⟩, d2, d3⟩ := SF.out w6 Y4.out
       clear o4 y4))
   all_goals
    have hrr : (r2 != r2) = false := by simp
    have HSM : Hid (∀ v : Nat, Calls Tryz.prog 14 #[.slice As2 s2.length cs2, .slice B4 s2.length j4] (w6.drewN v) (fun e w' => e = .returned (.bool true) ∧ ∃ m, w' = (w6.drewN v).drewN m)) := hid (fun v => by
     have h := Y1W As2 B4 s2.length s2.length cs2 j4 s2 s2 (w6.drewN v) rfl rfl ((p2.out.ext Y4.out).ext (Z0p _ v)) ((O4.out.rd At.enc_len).ext (Z0p _ v)) (Nat.le_trans bb2.out (by decide)) (Nat.le_trans bb2.out (by decide))
     rw [decide_eq_true rfl] at h
     exact h)
    go_wp2_with (fail)
    rename_i dst5 d5 heq5
    have hd5 : d5 = 113 := Option.some.inj (heq5.symm.trans rfl)
    subst hd5
    clear heq5
    go_quiet ((go_at_call 14; exact Calls.quiet_of (HSM.out _)))
    go_wp2_with (fail)
    go_roundg (n1 - (i + 1))
    case measure => have := HG.out; omega
    case rel => exact ⟨i + 1, by omega, rfl, by go_num, hid (Z0L (Z0a HY.out Y4.out) _)⟩
  ·have hlt' : ¬ (i : Int) < (n1 : Int) := by omega
   have hx := Z0a hx HY.out
   go_wp2_with (go_at_call 8; refine Hid.out ?_)
   refine hid ?_
   refine (lives_any _).mono ?_
   rintro e w2 ⟨rfl, y⟩
   replace hx := Z0a hx y
   go_wp2_with (fail)
   go_ret
   exact ⟨rfl, hx⟩
open Go.ChangeShapes Go.WideShapes Go.ChangeAt Go.RowKit Go.Deep
set_option linter.constructorNameAsVariable false
set_option maxRecDepth 20000
theorem Tryz.own : ownKnob Tryz.prog.godebug = none := by kernel_rfl
theorem Tryz.laidOut : laidOutB Tryz.prog = true := by kernel_rfl
theorem Tryz.undBool : Tryz.prog.underlying 4 = some .bool := by kernel_rfl
theorem Tryz.uI32 : Tryz.prog.underlying 21 = some (.int .i32) := by kernel_rfl
theorem Tryz.clU8 : Tryz.prog.cellsOf 5 = 1 := by kernel_rfl
theorem Tryz.uTab : Tryz.prog.underlying 341 = some (.array 256 5) := by kernel_rfl
theorem Tryz.clTab : Tryz.prog.cellsOf 341 = 256 := by kernel_rfl
theorem Tryz.uAcc : Tryz.prog.underlying 344 = some (.array 16 343) := by kernel_rfl
theorem Tryz.uAccR : Tryz.prog.underlying 343 = some (.struct (Tryz.prog.fieldsOf 343)) := by kernel_rfl
theorem Tryz.clAccR : Tryz.prog.cellsOf 343 = 2 := by kernel_rfl
theorem Tryz.fdAccR : (Tryz.prog.fieldsOf 343).toList.map (fun f => (f.type, f.offset)) = [(5, 0), (5, 1)] := by kernel_rfl
theorem Tryz.gFirst : Tryz.prog.globalNamed "unicode/utf8.first" = some 0 := by kernel_rfl
theorem Tryz.gAcc : Tryz.prog.globalNamed "unicode/utf8.acceptRanges" = some 1 := by kernel_rfl
theorem Tryz.gtFirst : (Tryz.prog.globals[0]?).map (·.type) = some 341 := by kernel_rfl
theorem Tryz.gtAcc : (Tryz.prog.globals[1]?).map (·.type) = some 344 := by kernel_rfl
def Z4z : List (String × DataW Unit) := [("unicode/utf8.acceptRanges", Rows.laid_unicode_utf8_acceptRanges), ("unicode/utf8.first", Rows.laid_unicode_utf8_first)]
theorem Y6F : Rows.laid_unicode_utf8_first = Lib.firstData := by kernel_rfl
theorem accEq : (Rows.laid_unicode_utf8_acceptRanges : DataW Unit) = Lib.acceptData := by kernel_rfl
theorem Y7v {fs : Array Field} {l : List (TypeId × Nat)} (h : fs.toList.map (fun f => (f.type, f.offset)) = l) {i : Nat} {f : Field} (hf : fs[i]? = some f) : l[i]? = some (f.type, f.offset) := by
 rw [← h, List.getElem?_map, Array.getElem?_toList, hf]
 rfl
theorem tabs {W : World} (h : laidMetH Tryz.prog Z4z W) : Utf8Tabs 0 1 W := by
 have h' : laidMet Tryz.prog Z4z W := by
  unfold laidMetH at h
  rw [show (Z4z.filter fun x => x.2.handleName?.isSome) = [] from by kernel_rfl] at h
  exact h
 have r1 := Lib.laidMet.reads h' (n := "unicode/utf8.first") (d := Rows.laid_unicode_utf8_first) (by simp [Z4z])
 have r2 := Lib.laidMet.reads h' (n := "unicode/utf8.acceptRanges") (d := Rows.laid_unicode_utf8_acceptRanges) (by simp [Z4z])
 rw [Y6F] at r1
 rw [accEq] at r2
 refine ⟨fun c hc => ?_, fun i hi => ?_⟩
 ·obtain ⟨g, t, cs, fuel, p, hg, hty, hvar, hd⟩ := r1
  obtain rfl := Option.some.inj (Tryz.gFirst.symm.trans hg)
  obtain rfl := Option.some.inj (Tryz.gtFirst.symm.trans hty)
  have hcs := Lib.cells_of_tab Tryz.uTab Tryz.uU8 Tryz.clU8 Tryz.clTab hd
  rw [World.var?_cell hg hvar c, ← Array.getElem?_toList, hcs]
  simp [Lib.firstTab, hc]
 ·obtain ⟨g, t, cs, fuel, p, hg, hty, hvar, hd⟩ := r2
  obtain rfl := Option.some.inj (Tryz.gAcc.symm.trans hg)
  obtain rfl := Option.some.inj (Tryz.gtAcc.symm.trans hty)
  obtain ⟨fuel', d, q, hdi, he⟩ := Lib.array_elem Tryz.uAcc hd i hi
  simp only [List.getElem?_map, List.getElem?_range hi, Option.map_some, Option.some.injEq] at hdi
  subst hdi
  rw [Tryz.clAccR] at he
  have hcs := Lib.ints_of_struct Tryz.uAccR (fun j f hj => by
   have h2 := Y7v Tryz.fdAccR hj
   match j, h2 with
   | 0, h2 => injection h2 with h2; injection h2 with h2 h3; rw [← h2, ← h3]; exact ⟨Tryz.uU8, rfl, Tryz.clU8⟩
   | 1, h2 => injection h2 with h2; injection h2 with h2 h3; rw [← h2, ← h3]; exact ⟨Tryz.uU8, rfl, Tryz.clU8⟩
   | j + 2, h2 => simp at h2) (by rw [Tryz.clAccR]; kernel_rfl) he
  have e0 := congrArg (·[0]?) hcs
  have e1 := congrArg (·[1]?) hcs
  simp only [List.getElem?_take, List.getElem?_drop] at e0 e1
  constructor
  ·rw [World.var?_cell hg hvar (2 * i), ← Array.getElem?_toList]
   simpa [Nat.mul_comm] using e0
  ·rw [World.var?_cell hg hvar (2 * i + 1), ← Array.getElem?_toList]
   simpa [Nat.mul_comm] using e1
def Y7w (cs : Array Value) : Obj → Obj
 | .cells _ t frozen => .cells cs t frozen
 | o => o
noncomputable def laidWorld (os : Os) : World :=
 { World.holding Tryz.prog os ⟨#[], #[], []⟩ with heap := ((World.holding Tryz.prog os ⟨#[], #[], []⟩).heap.modify 0 (Y7w (Lib.firstTab.map (Value.int .u8)).toArray)).modify 1 (Y7w ((List.range 16).flatMap fun i => [Value.int .u8 (Lib.accLo i), Value.int .u8 (Lib.accHi i)]).toArray) }
section
variable {H : Type} {enc : TypeId × Value → H} {P : Program} {W W' : World}
theorem Z4A (hl : laidOutB P = true) (hb : Below W.heap.size W W') : ∀ (ts : List TypeId) (vs : List Value) (ds : List (DataW H)) (ps : List MemPlace), (∀ t ∈ ts, P.readableRec t = true ∧ t < P.types.size) →
 DataW.TrodAll enc P W 0 (fun _ => true) true ts vs ds ps → (∀ x ∈ ps, x.block < W.heap.size) → DataW.TrodAll enc P W' 0 (fun b => decide (b < W.heap.size)) true ts vs ds ps
 | [], vs, ds, ps, _, h, _ => by
   obtain ⟨rfl, rfl, rfl⟩ := trodAll_nil h
   exact trodAll_mk0
 | t :: ts, vs, ds, ps, ht, h, hp => by
   obtain ⟨v, vs', d, ds', p, q, rfl, rfl, rfl, h0, r⟩ := trodAll_cons h
   have h1 := ht t (by simp)
   exact trodAll_cons_mk (Below.trod hl h1.1 h1.2 h0 hb (fun x hx => hp x (List.mem_append_left _ hx)))
    (Z4A hl hb ts vs' ds' q (fun u hu => ht u (List.mem_cons_of_mem _ hu)) r (fun x hx => hp x (List.mem_append_right _ hx)))
theorem Y5r {f : Func} {s : ChangeSpec} {args : Array Value} {ds gs : List (DataW H)} {before : List MemPlace} {tb : TypeId}
 (hW : DataW.Whole enc P f.params.toList s.vars false W args.toList ds gs before) (hv : s.vars = []) (hr : f.resultTypes = #[tb]) (hu : P.underlying tb = some .bool)
 (hspec : s.fn H ds = { results := [.lit (.bool true)], args := ds }) (hl : laidOutB P = true) (hrr : f.params.toList.all (fun t => P.readableRec t && decide (t < P.types.size)) = true) (hb : Below W.heap.size W W') :
 s.post enc P f false true false false W args (.bool true) W' := by
 have hW0 := hW
 obtain ⟨p, q, hA, hV, rfl, _, _⟩ := hW
 rw [hv] at hV
 obtain ⟨rfl, rfl⟩ := trodVars_none hV
 have hlt : ∀ x ∈ p ++ [], x.block < W.heap.size := fun x hx => hW0.lt x hx
 rw [List.append_nil] at hlt
 refine ⟨ds, [], p ++ [], [], p, [], hW0, ?_, ?_, ?_, World.keptBut_mono (fun x hx => ⟨by simpa using hx, by simpa using hx⟩) (hb.frame (· ∈ p)), fun h => by cases h⟩
 ·rw [hr, List.append_nil, hspec]
  exact trodAll_mk1 (shut_bool hu true)
 ·rw [List.append_nil, hspec]
  exact Z4A hl hb _ _ _ _ (fun t ht => by have := List.all_eq_true.1 hrr t ht; simpa using this) hA hlt
 ·rw [hv, List.append_nil, hspec]
  rfl
end
section
variable {H : Type} {enc : TypeId × Value → H} {w : World} {base : Nat} {spare : Nat → Bool} {held : Bool} {fuel : Nat} {cs : List Value} {x : DataW H × List MemPlace}
end
open Go.ChangeShapes Go.WideShapes Go.ChangeAt Go.RowKit Go.Deep
set_option linter.unusedVariables false
set_option linter.constructorNameAsVariable false
set_option maxRecDepth 20000
theorem Tryz.qV : Tryz.prog.underlying 73 = some (.struct (Tryz.prog.fieldsOf 73)) := by kernel_rfl
theorem Tryz.qFd : (Tryz.prog.fieldsOf 73).toList.map (fun f => (f.type, f.offset)) = [(5, 0), (2, 1), (71, 2), (9, 3)] := by kernel_rfl
theorem Tryz.qI64 : Tryz.prog.underlying 2 = some (.int .i64) := by kernel_rfl
theorem Tryz.qU8 : Tryz.prog.underlying 5 = some (.int .u8) := by kernel_rfl
theorem Tryz.qU64 : Tryz.prog.underlying 71 = some (.int .u64) := by kernel_rfl
theorem Tryz.qBool : Tryz.prog.underlying 4 = some .bool := by kernel_rfl
theorem Tryz.qStr : Tryz.prog.underlying 9 = some .string := by kernel_rfl
theorem Tryz.qcV : Tryz.prog.cellsOf 73 = 4 := by kernel_rfl
theorem Tryz.qcI64 : Tryz.prog.cellsOf 2 = 1 := by kernel_rfl
theorem Tryz.qcU8 : Tryz.prog.cellsOf 5 = 1 := by kernel_rfl
theorem Tryz.qcU64 : Tryz.prog.cellsOf 71 = 1 := by kernel_rfl
theorem Tryz.qcStr : Tryz.prog.cellsOf 9 = 1 := by kernel_rfl
theorem wf_u8 {n : Int} (h : (Lit.int .u8 n).wf = true) : 0 ≤ n ∧ n ≤ 255 := by
 simp [Lit.wf] at h
 have h1 : IntKind.u8.min = 0 := by decide
 have h2 : IntKind.u8.max = 255 := by decide
 rw [h1, h2] at h
 exact h
theorem Y7x {n : Int} (h : (Lit.int .u64 n).wf = true) : 0 ≤ n ∧ n ≤ 18446744073709551615 := by
 simp [Lit.wf] at h
 have h1 : IntKind.u64.min = 0 := by decide
 have h2 : IntKind.u64.max = 18446744073709551615 := by decide
 rw [h1, h2] at h
 exact h
theorem Y7y {n : Int} (h : (Lit.int .i64 n).wf = true) : -9223372036854775808 ≤ n ∧ n ≤ 9223372036854775807 := by
 simp [Lit.wf] at h
 have h1 : IntKind.i64.min = -9223372036854775808 := by decide
 rw [h1] at h
 exact h
theorem Z05 {fs : Array Field} {l : List (TypeId × Nat)} (h : fs.toList.map (fun f => (f.type, f.offset)) = l) {i : Nat} {t o : Nat} (hi : l[i]? = some (t, o)) : ∃ f, fs[i]? = some f ∧ f.type = t ∧ f.offset = o := by
 rw [← h, List.getElem?_map] at hi
 rw [Array.getElem?_toList] at hi
 cases hf : fs[i]? with
 | none => rw [hf] at hi; simp at hi
 | some f => rw [hf] at hi; simp at hi; exact ⟨f, rfl, hi.1, hi.2⟩
section
variable {H : Type} {enc : TypeId × Value → H} {w : World} {base : Nat} {spare : Nat → Bool} {held : Bool} {fuel : Nat} {cs : List Value} {x : DataW H × List MemPlace}
end
open Go.ChangeShapes Go.WideShapes Go.ChangeAt Go.RowKit Go.Deep
set_option linter.unusedVariables false
set_option linter.constructorNameAsVariable false
set_option maxRecDepth 20000
theorem Z7W {H : Type} (d : DataW H) : 1 ≤ Rows.uptoBulk d := by
 cases d with
 | lit l => cases l <;> simp [Rows.uptoBulk]
 | _ => simp [Rows.uptoBulk]
theorem Z3d {H : Type} {d : DataW H} {l : List (DataW H)} (h : d ∈ l) : Rows.uptoBulk d ≤ Rows.uptoBulkAll l := by
 induction l with
 | nil => cases h
 | cons x r ih =>
   simp only [Rows.uptoBulkAll]
   rcases List.mem_cons.1 h with rfl | e
   ·omega
   ·have := ih e; omega
theorem Y0P {H : Type} (l : List (DataW H)) : l.length ≤ Rows.uptoBulkAll l := by
 induction l with
 | nil => simp [Rows.uptoBulkAll]
 | cons x r ih => have := Z7W x; simp only [Rows.uptoBulkAll, List.length_cons]; omega
theorem Z3M {α : Type} {enc' : α → List Value} {size : Nat} {H : Type} {enc : TypeId × Value → H} {W : World} {base : Nat} {spare : Nat → Bool} {held : Bool} {t e : TypeId} {v : Value} {d : DataW H} {ps : List MemPlace} {r : Reach} {b0 : Nat} (Pr : α → DataW H → Prop)
 (ht : Tryz.prog.underlying t = some (.slice e)) (hC : Tryz.prog.cellsOf e = size) (hz : ∀ a, (enc' a).length = size) (hpos : 0 < size)
 (hread : ∀ {fuel : Nat} {cs : List Value} {x : DataW H × List MemPlace}, DataW.trod enc Tryz.prog W base spare held fuel e cs = some x → ∃ a : α, cs = enc' a ∧ Pr a x.1)
 (hv : Value.okWide Tryz.prog W r b0 t v) (h : DataW.Trod enc Tryz.prog W base spare held t v d ps) :
 ∃ (A : Option Addr) (n c : Nat) (l : List α), v = .slice A n c ∧ n = l.length ∧ n ≤ c ∧ c ≤ maxLen ∧ Rd enc' size W W.heap.size A l ∧ n + 1 ≤ Rows.uptoBulk d ∧ ∀ a ∈ l, ∃ d', Pr a d' ∧ Rows.uptoBulk d' ≤ Rows.uptoBulk d := by
 obtain ⟨a0, len, cap, rfl⟩ := okWide_slice ht hv
 obtain ⟨fuel, hf⟩ := h
 rcases open_slice ht hf with ⟨hcs, hx⟩ | ⟨a, len', cap', m, k, D, Pl, hcs, _, hl, hm, hmm, hx, hi⟩
 ·simp [Value.cells] at hcs
  obtain ⟨rfl, rfl, rfl⟩ := hcs
  refine ⟨none, 0, 0, [], rfl, rfl, Nat.le_refl _, Nat.zero_le _, Rd.nil, Z7W d, fun a ha => by cases ha⟩
 ·simp [Value.cells] at hcs
  obtain ⟨rfl, rfl, rfl⟩ := hcs
  have hlm : len ≤ m := by rw [hmm]; split <;> omega
  have hd : d = .slice ((List.range len).map D) ((List.range (m - len)).map fun j => D (len + j)) := by have := congrArg Prod.fst hx; simpa using this
  have hbulk : ∀ i, i < len → Rows.uptoBulk (D i) ≤ Rows.uptoBulk d := by
   intro i hil
   have h1 := Z3d (d := D i) (l := (List.range len).map D) (List.mem_map.2 ⟨i, List.mem_range.2 hil, rfl⟩)
   rw [hd]
   simp only [Rows.uptoBulk]
   omega
  have hlen1 : len + 1 ≤ Rows.uptoBulk d := by
   have h1 := Y0P ((List.range len).map D)
   rw [List.length_map, List.length_range] at h1
   rw [hd]
   simp only [Rows.uptoBulk]
   omega
  have hall : ∀ i, i < len → ∃ y : α, CellsAt W (a.add (i * size)) (enc' y) ∧ Pr y (D i) := by
   intro i hil
   obtain ⟨cs', hc, htr⟩ := hi i (by omega)
   obtain ⟨y, rfl, hp⟩ := hread htr
   refine ⟨y, fun j u hu => ?_, hp⟩
   rw [hC] at hc
   obtain ⟨_, hcl, hat⟩ := World.cells?_some hc
   have hj : j < size := by rw [← hz y]; exact (List.getElem?_eq_some_iff.1 hu).1
   rw [hat j hj]; exact hu
  have hl : ∀ k, k ≤ len → ∃ l : List α, l.length = k ∧ (∀ i (h : i < l.length), CellsAt W (a.add (i * size)) (enc' l[i])) ∧ ∀ y ∈ l, ∃ d', Pr y d' ∧ Rows.uptoBulk d' ≤ Rows.uptoBulk d := by
   intro k
   induction k with
   | zero => intro _; exact ⟨[], rfl, fun i h => by simp at h, fun y hy => by cases hy⟩
   | succ k ih =>
     intro hk
     obtain ⟨l, hll, hlc, hlp⟩ := ih (by omega)
     obtain ⟨y, hy, hyp⟩ := hall k (by omega)
     refine ⟨l ++ [y], by simp [hll], fun i h => ?_, fun z hz => ?_⟩
     ·rw [List.getElem_append]
      split
      ·exact hlc i _
      ·have hik : i = k := by simp at h; omega
       subst hik
       simpa [hll] using hy
     ·rcases List.mem_append.1 hz with h1 | h1
      ·exact hlp z h1
      ·simp at h1; subst h1; exact ⟨_, hyp, hbulk k (by omega)⟩
  obtain ⟨l, hll, hlc, hlp⟩ := hl len (Nat.le_refl _)
  refine ⟨some a, len, cap, l, rfl, hll.symm, by assumption, by assumption, fun hpl => ⟨a, rfl, ?_, hlc⟩, hlen1, hlp⟩
  have hc0 := hlc 0 hpl
  have hlen0 : 0 < (enc' l[0]).length := by rw [hz]; exact hpos
  have hcell := hc0 0 _ (List.getElem?_eq_getElem hlen0)
  rw [Z0o, Nat.zero_mul, Z0o] at hcell
  unfold World.cell? at hcell
  cases hb : W.heap[a.block]? with
  | none => rw [hb] at hcell; simp at hcell
  | some o => exact Z40 hb
theorem Tryz.qAt : Tryz.prog.underlying 108 = some (.struct (Tryz.prog.fieldsOf 108)) := by kernel_rfl
theorem Tryz.qfAt : (Tryz.prog.fieldsOf 108).toList.map (fun f => (f.type, f.offset)) = [(3, 0), (73, 1)] := by kernel_rfl
theorem Tryz.qCh : Tryz.prog.underlying 75 = some (.struct (Tryz.prog.fieldsOf 75)) := by kernel_rfl
theorem Tryz.qfCh : (Tryz.prog.fieldsOf 75).toList.map (fun f => (f.type, f.offset)) = [(3, 0), (4, 1), (73, 2)] := by kernel_rfl
theorem Tryz.qKy : Tryz.prog.underlying 78 = some (.struct (Tryz.prog.fieldsOf 78)) := by kernel_rfl
theorem Tryz.qfKy : (Tryz.prog.fieldsOf 78).toList.map (fun f => (f.type, f.offset)) = [(3, 0), (4, 1), (5, 2), (4, 3), (4, 4), (3, 5)] := by kernel_rfl
theorem Tryz.qInt : Tryz.prog.underlying 3 = some (.int .i64) := by kernel_rfl
theorem Tryz.qcInt : Tryz.prog.cellsOf 3 = 1 := by kernel_rfl
theorem Tryz.qcBool : Tryz.prog.cellsOf 4 = 1 := by kernel_rfl
theorem Tryz.qcAt : Tryz.prog.cellsOf 108 = 5 := by kernel_rfl
theorem Tryz.qcCh : Tryz.prog.cellsOf 75 = 6 := by kernel_rfl
theorem Tryz.qcKy : Tryz.prog.cellsOf 78 = 6 := by kernel_rfl
section
variable {H : Type} {enc : TypeId × Value → H} {w : World} {base : Nat} {spare : Nat → Bool} {held : Bool} {fuel : Nat} {cs : List Value} {x : DataW H × List MemPlace}
theorem Z8Z (h : DataW.trod enc Tryz.prog w base spare held fuel 73 cs = some x) : ∃ v : V, cs = [.int .u8 v.k, .int .i64 v.n, .int .u64 v.f, .string v.s] ∧ okV v ∧ v.s.size + 1 ≤ Rows.uptoBulk x.1 := by
 obtain ⟨xs, n, _, hx, hlen, hxl, hf⟩ := DataW.trod_struct Tryz.qV h
 obtain ⟨f0, e0, t0, o0⟩ := Z05 Tryz.qFd (i := 0) rfl
 obtain ⟨f1, e1, t1, o1⟩ := Z05 Tryz.qFd (i := 1) rfl
 obtain ⟨f2, e2, t2, o2⟩ := Z05 Tryz.qFd (i := 2) rfl
 obtain ⟨f3, e3, t3, o3⟩ := Z05 Tryz.qFd (i := 3) rfl
 have hsz : (Tryz.prog.fieldsOf 73).size = 4 := by kernel_rfl
 have h0 := hf 0 f0 e0
 have h1 := hf 1 f1 e1
 have h2 := hf 2 f2 e2
 have h3 := hf 3 f3 e3
 rw [t0, o0, Tryz.qcU8] at h0
 rw [t1, o1, Tryz.qcI64] at h1
 rw [t2, o2, Tryz.qcU64] at h2
 rw [t3, o3, Tryz.qcStr] at h3
 rw [Tryz.qcV] at hlen
 rw [hsz] at hxl
 match cs, hlen, xs, hxl with
 | [c0, c1, c2, c3], _, [y0, y1, y2, y3], _ =>
   obtain ⟨a, ha, _, wa⟩ := DataW.trod_int Tryz.qU8 (x := y0) (by simpa using h0)
   obtain ⟨b, hb, _, wb⟩ := DataW.trod_int Tryz.qI64 (x := y1) (by simpa using h1)
   obtain ⟨c, hc, _, wc⟩ := DataW.trod_int Tryz.qU64 (x := y2) (by simpa using h2)
   obtain ⟨s, hs, hy, ws⟩ := DataW.trod_string Tryz.qStr (x := y3) (by simpa using h3)
   simp at ha hb hc hs
   have ra := wf_u8 wa
   have rb := Y7y wb
   have rc := Y7x wc
   refine ⟨⟨a, b, c, s⟩, by simp [ha, hb, hc, hs], ⟨ra.1, ra.2, rb.1, rb.2, rc.1, rc.2⟩, ?_⟩
   rw [hx]
   have hm := Z3d (d := y3.1) (l := [y0, y1, y2, y3].map (·.1)) (by simp)
   have e1 : Rows.uptoBulk y3.1 = s.data.toList.length + 1 := by rw [hy]; rfl
   have e2 : s.data.toList.length = s.size := by rw [Array.length_toList]; rfl
   simp only [Rows.uptoBulk]
   omega
theorem Y0Q (h : DataW.trod enc Tryz.prog w base spare held fuel 75 cs = some x) : ∃ a : Ch, cs = Ch.enc a ∧ okV a.v ∧ a.v.s.size + 1 ≤ Rows.uptoBulk x.1 := by
 obtain ⟨xs, n, _, hx, hlen, hxl, hf⟩ := DataW.trod_struct Tryz.qCh h
 obtain ⟨f0, e0, t0, o0⟩ := Z05 Tryz.qfCh (i := 0) rfl
 obtain ⟨f1, e1, t1, o1⟩ := Z05 Tryz.qfCh (i := 1) rfl
 obtain ⟨f2, e2, t2, o2⟩ := Z05 Tryz.qfCh (i := 2) rfl
 have hsz : (Tryz.prog.fieldsOf 75).size = 3 := by kernel_rfl
 have h0 := hf 0 f0 e0
 have h1 := hf 1 f1 e1
 have h2 := hf 2 f2 e2
 rw [t0, o0, Tryz.qcInt] at h0
 rw [t1, o1, Tryz.qcBool] at h1
 rw [t2, o2, Tryz.qcV] at h2
 rw [Tryz.qcCh] at hlen
 rw [hsz] at hxl
 match cs, hlen, xs, hxl with
 | [c0, c1, c2, c3, c4, c5], _, [y0, y1, y2], _ =>
   obtain ⟨a, ha, _, _⟩ := DataW.trod_int Tryz.qInt (x := y0) (by simpa using h0)
   obtain ⟨b, hb, _⟩ := DataW.trod_bool Tryz.qBool (x := y1) (by simpa using h1)
   obtain ⟨v, hv, ho, hb2⟩ := Z8Z (x := y2) (by simpa using h2)
   simp at ha hb hv
   refine ⟨⟨a, b, v⟩, by simp [ha, hb, hv, Ch.enc], ho, ?_⟩
   rw [hx]
   have hm := Z3d (d := y2.1) (l := [y0, y1, y2].map (·.1)) (by simp)
   simp only [Rows.uptoBulk]
   omega
theorem Y5s (h : DataW.trod enc Tryz.prog w base spare held fuel 108 cs = some x) : ∃ a : At, cs = At.enc a ∧ okV a.v ∧ a.v.s.size + 1 ≤ Rows.uptoBulk x.1 := by
 obtain ⟨xs, n, _, hx, hlen, hxl, hf⟩ := DataW.trod_struct Tryz.qAt h
 obtain ⟨f0, e0, t0, o0⟩ := Z05 Tryz.qfAt (i := 0) rfl
 obtain ⟨f1, e1, t1, o1⟩ := Z05 Tryz.qfAt (i := 1) rfl
 have hsz : (Tryz.prog.fieldsOf 108).size = 2 := by kernel_rfl
 have h0 := hf 0 f0 e0
 have h1 := hf 1 f1 e1
 rw [t0, o0, Tryz.qcInt] at h0
 rw [t1, o1, Tryz.qcV] at h1
 rw [Tryz.qcAt] at hlen
 rw [hsz] at hxl
 match cs, hlen, xs, hxl with
 | [c0, c1, c2, c3, c4], _, [y0, y1], _ =>
   obtain ⟨a, ha, _, _⟩ := DataW.trod_int Tryz.qInt (x := y0) (by simpa using h0)
   obtain ⟨v, hv, ho, hb2⟩ := Z8Z (x := y1) (by simpa using h1)
   simp at ha hv
   refine ⟨⟨a, v⟩, by simp [ha, hv, At.enc], ho, ?_⟩
   rw [hx]
   have hm := Z3d (d := y1.1) (l := [y0, y1].map (·.1)) (by simp)
   simp only [Rows.uptoBulk]
   omega
theorem Y5t (h : DataW.trod enc Tryz.prog w base spare held fuel 78 cs = some x) : ∃ a : Ky, cs = Ky.enc a ∧ True := by
 obtain ⟨xs, n, _, hx, hlen, hxl, hf⟩ := DataW.trod_struct Tryz.qKy h
 obtain ⟨f0, e0, t0, o0⟩ := Z05 Tryz.qfKy (i := 0) rfl
 obtain ⟨f1, e1, t1, o1⟩ := Z05 Tryz.qfKy (i := 1) rfl
 obtain ⟨f2, e2, t2, o2⟩ := Z05 Tryz.qfKy (i := 2) rfl
 obtain ⟨f3, e3, t3, o3⟩ := Z05 Tryz.qfKy (i := 3) rfl
 obtain ⟨f4, e4, t4, o4⟩ := Z05 Tryz.qfKy (i := 4) rfl
 obtain ⟨f5, e5, t5, o5⟩ := Z05 Tryz.qfKy (i := 5) rfl
 have hsz : (Tryz.prog.fieldsOf 78).size = 6 := by kernel_rfl
 have h0 := hf 0 f0 e0
 have h1 := hf 1 f1 e1
 have h2 := hf 2 f2 e2
 have h3 := hf 3 f3 e3
 have h4 := hf 4 f4 e4
 have h5 := hf 5 f5 e5
 rw [t0, o0, Tryz.qcInt] at h0
 rw [t1, o1, Tryz.qcBool] at h1
 rw [t2, o2, Tryz.qcU8] at h2
 rw [t3, o3, Tryz.qcBool] at h3
 rw [t4, o4, Tryz.qcBool] at h4
 rw [t5, o5, Tryz.qcInt] at h5
 rw [Tryz.qcKy] at hlen
 rw [hsz] at hxl
 match cs, hlen, xs, hxl with
 | [c0, c1, c2, c3, c4, c5], _, [y0, y1, y2, y3, y4, y5], _ =>
   obtain ⟨a, ha, _, _⟩ := DataW.trod_int Tryz.qInt (x := y0) (by simpa using h0)
   obtain ⟨b, hb, _⟩ := DataW.trod_bool Tryz.qBool (x := y1) (by simpa using h1)
   obtain ⟨c, hc, _, _⟩ := DataW.trod_int Tryz.qU8 (x := y2) (by simpa using h2)
   obtain ⟨e, he, _⟩ := DataW.trod_bool Tryz.qBool (x := y3) (by simpa using h3)
   obtain ⟨f, hf, _⟩ := DataW.trod_bool Tryz.qBool (x := y4) (by simpa using h4)
   obtain ⟨g, hg, _, _⟩ := DataW.trod_int Tryz.qInt (x := y5) (by simpa using h5)
   simp at ha hb hc he hf hg
   exact ⟨⟨a, b, c, e, f, g⟩, by simp [ha, hb, hc, he, hf, hg, Ky.enc], trivial⟩
end
theorem Z5F {H : Type} {d : DataW H} {l : List (DataW H)} (hm : d ∈ l) (hk : Rows.uptoSmall H l = true) : Rows.uptoBulk d ≤ 1048576 := by
 have hb : Rows.uptoBulkAll l ≤ 1048576 := of_decide_eq_true hk
 exact Nat.le_trans (Z3d hm) hb
open Go.ChangeShapes Go.WideShapes Go.ChangeAt Go.RowKit Go.Deep
set_option linter.unusedVariables false
set_option linter.constructorNameAsVariable false
set_option maxRecDepth 20000
theorem Y1O {α : Type} {enc' : α → List Value} {size : Nat} {H : Type} {enc : TypeId × Value → H} {W : World} {base : Nat} {spare : Nat → Bool} {held : Bool} {t e : TypeId} {fuel0 : Nat} {cs0 : List Value} {x0 : DataW H × List MemPlace} (Pr : α → DataW H → Prop)
 (ht : Tryz.prog.underlying t = some (.slice e)) (hC : Tryz.prog.cellsOf e = size) (hz : ∀ a, (enc' a).length = size) (hpos : 0 < size)
 (hread : ∀ {fuel : Nat} {cs : List Value} {x : DataW H × List MemPlace}, DataW.trod enc Tryz.prog W base spare held fuel e cs = some x → ∃ a : α, cs = enc' a ∧ Pr a x.1)
 (hf : DataW.trod enc Tryz.prog W base spare held fuel0 t cs0 = some x0) :
 ∃ (A : Option Addr) (n c : Nat) (l : List α), cs0 = [.slice A n c] ∧ n = l.length ∧ n ≤ c ∧ c ≤ maxLen ∧ Rd enc' size W W.heap.size A l ∧ n + 1 ≤ Rows.uptoBulk x0.1 ∧ ∀ a ∈ l, ∃ d', Pr a d' ∧ Rows.uptoBulk d' ≤ Rows.uptoBulk x0.1 := by
 rcases open_slice ht hf with ⟨hcs, hx⟩ | ⟨a, len, cap, m, k, D, Pl, hcs, _, hl, hm, hmm, hx, hi⟩
 ·exact ⟨none, 0, 0, [], hcs, rfl, Nat.le_refl _, Nat.zero_le _, Rd.nil, Z7W _, fun a ha => by cases ha⟩
 ·have hlm : len ≤ m := by rw [hmm]; split <;> omega
  have hd : x0.1 = .slice ((List.range len).map D) ((List.range (m - len)).map fun j => D (len + j)) := by have := congrArg Prod.fst hx; simpa using this
  have hbulk : ∀ i, i < len → Rows.uptoBulk (D i) ≤ Rows.uptoBulk x0.1 := by
   intro i hil
   have h1 := Z3d (d := D i) (l := (List.range len).map D) (List.mem_map.2 ⟨i, List.mem_range.2 hil, rfl⟩)
   rw [hd]
   simp only [Rows.uptoBulk]
   omega
  have hlen1 : len + 1 ≤ Rows.uptoBulk x0.1 := by
   have h1 := Y0P ((List.range len).map D)
   rw [List.length_map, List.length_range] at h1
   rw [hd]
   simp only [Rows.uptoBulk]
   omega
  have hall : ∀ i, i < len → ∃ y : α, CellsAt W (a.add (i * size)) (enc' y) ∧ Pr y (D i) := by
   intro i hil
   obtain ⟨cs', hc, htr⟩ := hi i (by omega)
   obtain ⟨y, rfl, hp⟩ := hread htr
   refine ⟨y, fun j u hu => ?_, hp⟩
   rw [hC] at hc
   obtain ⟨_, hcl, hat⟩ := World.cells?_some hc
   have hj : j < size := by rw [← hz y]; exact (List.getElem?_eq_some_iff.1 hu).1
   rw [hat j hj]; exact hu
  have hl : ∀ k, k ≤ len → ∃ l : List α, l.length = k ∧ (∀ i (h : i < l.length), CellsAt W (a.add (i * size)) (enc' l[i])) ∧ ∀ y ∈ l, ∃ d', Pr y d' ∧ Rows.uptoBulk d' ≤ Rows.uptoBulk x0.1 := by
   intro k
   induction k with
   | zero => intro _; exact ⟨[], rfl, fun i h => by simp at h, fun y hy => by cases hy⟩
   | succ k ih =>
     intro hk
     obtain ⟨l, hll, hlc, hlp⟩ := ih (by omega)
     obtain ⟨y, hy, hyp⟩ := hall k (by omega)
     refine ⟨l ++ [y], by simp [hll], fun i h => ?_, fun z hz => ?_⟩
     ·rw [List.getElem_append]
      split
      ·exact hlc i _
      ·have hik : i = k := by simp at h; omega
       subst hik
       simpa [hll] using hy
     ·rcases List.mem_append.1 hz with h1 | h1
      ·exact hlp z h1
      ·simp at h1; subst h1; exact ⟨_, hyp, hbulk k (by omega)⟩
  obtain ⟨l, hll, hlc, hlp⟩ := hl len (Nat.le_refl _)
  refine ⟨some a, len, cap, l, hcs, hll.symm, by assumption, by assumption, fun hpl => ⟨a, rfl, ?_, hlc⟩, hlen1, hlp⟩
  have hc0 := hlc 0 hpl
  have hlen0 : 0 < (enc' l[0]).length := by rw [hz]; exact hpos
  have hcell := hc0 0 _ (List.getElem?_eq_getElem hlen0)
  rw [Z0o, Nat.zero_mul, Z0o] at hcell
  unfold World.cell? at hcell
  cases hb : W.heap[a.block]? with
  | none => rw [hb] at hcell; simp at hcell
  | some o => exact Z40 hb
theorem Tryz.qcSA : Tryz.prog.cellsOf 34 = 1 := by kernel_rfl
section
variable {H : Type} {enc : TypeId × Value → H} {w : World} {base : Nat} {spare : Nat → Bool} {held : Bool} {fuel : Nat} {cs : List Value} {x : DataW H × List MemPlace}
end
end Go.Proofs.YtnmedachaeanbaaGreatDoor
