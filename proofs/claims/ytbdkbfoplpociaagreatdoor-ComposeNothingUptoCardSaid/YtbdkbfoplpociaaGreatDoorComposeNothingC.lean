/- Merged texts: ComposeNothing. -/
import Derived.Test.YtbdkbfoplpociaaGreatDoorK30
import Derived.Test.YtbdkbfoplpociaaGreatDoorC5
import Derived.Test.YtbdkbfoplpociaaGreatDoorK31
import Derived.Test.YtbdkbfoplpociaaGreatDoorC4
import Derived.Test.YtbdkbfoplpociaaGreatDoorK35
import Derived.Test.YtbdkbfoplpociaaGreatDoorC8
import Derived.Test.YtbdkbfoplpociaaGreatDoorC9
import Derived.Test.YtbdkbfoplpociaaGreatDoorK32
import Derived.Test.YtbdkbfoplpociaaGreatDoorK26
import Derived.Test.YtbdkbfoplpociaaGreatDoorK28
import Derived.Test.YtbdkbfoplpociaaGreatDoorK29
import Derived.Test.YtbdkbfoplpociaaGreatDoorK34
namespace Go.Proofs.YtbdkbfoplpociaaGreatDoor
open Go.RowKit
set_option linter.unusedVariables false
set_option linter.unusedSimpArgs false

/-- rubricref15.May at ops at hand with texts of any size -/
theorem mayKeysW {A B : Option Addr} {n c n2 c2 : Nat} {l : List Ky} {x : List OpS} {w : World} (hn : n = l.length) (h : RdKy w w.heap.size A l) (hb : n ≤ 1048576) (O : OpsAt w B n2 x) (hv : ∀ o ∈ x, okVa o.o.s ∧ okVs o.o.p)
    (hT : Lib.Utf8Tabs 1 2 w) {R : Int} (hR : mayO l x = R) :
    Calls Tryz.prog 22 #[.slice A n c, .slice B n2 c2] w fun e w' => e = .returned (.int .i64 R) ∧ Below w.heap.size w w' := by
  have h1 := may15_any A B n c n2 c2 l x w hn h (by omega) O.len O.rd (by have := O.b; omega) (fun o ho => by
    obtain ⟨_, _, c1, c2, c3⟩ := O.ok o ho
    exact ⟨(hv o ho).1, (hv o ho).2, by omega, by omega, by omega⟩) hT
  rw [hR] at h1
  exact h1
/-- a literal of one op -/
theorem op_lit (w : World) (o : OpS) {b : Nat} (hb : b = w.heap.size) {cs : Array Value} (hc : cs.toList = o.enc) (hp : RdI32 w w.heap.size o.Ar o.o.r ∧ RdAt w w.heap.size o.As o.o.s ∧ RdCh w w.heap.size o.Ap o.o.p) (hk : okOp o.o) (hcap : capO o) :
    OpsC (w.alloc (.cells cs 40)) (some ⟨b, 0, none⟩) 1 1 [o] := by
  refine ⟨⟨rd_ops w [o] (fun z hz => by rw [List.mem_singleton] at hz; subst hz; exact hp) (by rw [hc]; simp) hb, rfl, fun z hz => by rw [List.mem_singleton] at hz; subst hz; exact hk, by omega⟩, Nat.le_refl _, by unfold maxLen; omega, fun z hz => by rw [List.mem_singleton] at hz; subst hz; exact hcap⟩

/-- the units of the law's ops -/
theorem uI (l : List Int) (s : List At) : unitsO (opI l s) = l.map (fun r => Un.ins r s) := by unfold unitsO; rw [if_pos (show (opI l s).k = 2 from rfl)]; rfl
theorem uD (n : Int) : unitsO (opD n) = List.replicate n.toNat .del := by unfold unitsO; rw [if_neg (show ¬ (opD n).k = 2 by show ¬ (3 : Int) = 2; decide), if_neg (show ¬ (opD n).k = 1 by show ¬ (3 : Int) = 1; decide)]; rfl
theorem noth_units {k : Nat} {n : Int} {x : List Un} {o : Opd} (ho : unitsO o = x) : units [o] = x := by rw [← ho]; show unitsO o ++ [] = _; rw [List.append_nil]

set_option maxRecDepth 100000 in
set_option maxHeartbeats 12800000 in
theorem composeNothing_any (A0 A1 A2 A3 : Option Addr) (n0 n1 n2 n3 c0 c1 c2 c3 : Nat) (l0 : List Ky) (l1 : List Int) (l2 : List Ch) (l3 : List Ch) (pp : Int) (w : World)
    (e0 : n0 = l0.length) (r0 : RdKy w w.heap.size A0 l0) (b0 : n0 ≤ 1048576)
    (e1 : n1 = l1.length) (r1 : RdI32 w w.heap.size A1 l1) (b1 : n1 ≤ 1048576) (k1 : n1 ≤ c1) (m1 : c1 ≤ maxLen)
    (e2 : n2 = l2.length) (r2 : RdCh w w.heap.size A2 l2) (b2 : n2 ≤ 1048576) (k2 : n2 ≤ c2) (m2 : c2 ≤ maxLen) (q2 : ∀ c ∈ l2, okV c.v ∧ c.v.s.size ≤ 100000000)
    (e3 : n3 = l3.length) (r3 : RdCh w w.heap.size A3 l3) (b3 : n3 ≤ 1048576) (k3 : n3 ≤ c3) (m3 : c3 ≤ maxLen) (q3 : ∀ c ∈ l3, okV c.v ∧ c.v.s.size ≤ 100000000)
    (hT : Lib.Utf8Tabs 1 2 w) :
    Calls Tryz.prog 4 #[.slice A0 n0 c0, .int .i64 pp, .slice A1 n1 c1, .slice A2 n2 c2, .slice A3 n3 c3] w fun e w' => e = .returned (.bool true) ∧ Below w.heap.size w w' := by
  have hx := Below.refl w.heap.size w
  subst e1 e2 e3
  have N0 := Lib.hid e0
  have HT := Lib.hid hT
  have R0 := Lib.hid r0
  have R1 := Lib.hid r1
  have R2 := Lib.hid r2
  have R3 := Lib.hid r3
  have Q2 := Lib.hid q2
  have Q3 := Lib.hid q3
  clear e0 hT r0 r1 r2 r3 q2 q3
  go_enter Tryz.func4, Tryz.ntmps4
  by_cases g0 : (64 : Int) < (n0 : Int)
  · skip
    go_wp2_with (go_at_call 23; refine Hid.out ?_)
    refine Lib.hid ?_
    refine (known20_any _ HT.out).mono ?_
    rintro e w2 ⟨rfl, y⟩
    replace hx := ext_trans hx y
    go_wp2_with (fail)
    go_ret
    exact ⟨rfl, hx⟩
  by_cases g1 : pp < 0
  · skip
    go_wp2_with (go_at_call 23; refine Hid.out ?_)
    refine Lib.hid ?_
    refine (known20_any _ HT.out).mono ?_
    rintro e w2 ⟨rfl, y⟩
    replace hx := ext_trans hx y
    go_wp2_with (fail)
    go_ret
    exact ⟨rfl, hx⟩
  by_cases g2 : 10000 < pp
  · skip
    go_wp2_with (go_at_call 23; refine Hid.out ?_)
    refine Lib.hid ?_
    refine (known20_any _ HT.out).mono ?_
    rintro e w2 ⟨rfl, y⟩
    replace hx := ext_trans hx y
    go_wp2_with (fail)
    go_ret
    exact ⟨rfl, hx⟩
  by_cases g3 : (l1.length : Int) < 1
  · skip
    go_wp2_with (go_at_call 23; refine Hid.out ?_)
    refine Lib.hid ?_
    refine (known20_any _ HT.out).mono ?_
    rintro e w2 ⟨rfl, y⟩
    replace hx := ext_trans hx y
    go_wp2_with (fail)
    go_ret
    exact ⟨rfl, hx⟩
  by_cases g4 : (300 : Int) < (l1.length : Int)
  · skip
    go_wp2_with (go_at_call 23; refine Hid.out ?_)
    refine Lib.hid ?_
    refine (known20_any _ HT.out).mono ?_
    rintro e w2 ⟨rfl, y⟩
    replace hx := ext_trans hx y
    go_wp2_with (fail)
    go_ret
    exact ⟨rfl, hx⟩
  by_cases g5 : (64 : Int) < (l2.length : Int)
  · skip
    go_wp2_with (go_at_call 23; refine Hid.out ?_)
    refine Lib.hid ?_
    refine (known20_any _ HT.out).mono ?_
    rintro e w2 ⟨rfl, y⟩
    replace hx := ext_trans hx y
    go_wp2_with (fail)
    go_ret
    exact ⟨rfl, hx⟩
  by_cases g6 : (64 : Int) < (l3.length : Int)
  · skip
    go_wp2_with (go_at_call 23; refine Hid.out ?_)
    refine Lib.hid ?_
    refine (known20_any _ HT.out).mono ?_
    rintro e w2 ⟨rfl, y⟩
    replace hx := ext_trans hx y
    go_wp2_with (fail)
    go_ret
    exact ⟨rfl, hx⟩
  obtain ⟨k0, hk0⟩ : ∃ k0 : Nat, pp = (k0 : Int) := ⟨pp.toNat, by omega⟩
  subst hk0
  have G0 : Hid (n0 ≤ 64 ∧ k0 ≤ 10000 ∧ 1 ≤ l1.length ∧ l1.length ≤ 300 ∧ l2.length ≤ 64 ∧ l3.length ≤ 64) := Lib.hid (by omega)
  go_wp2_with (go_at_call 24; refine Hid.out ?_)
  refine Lib.hid ?_
  refine (new_any A0 n0 c0 l0 _ N0.out R0.out (by omega)).mono ?_
  rintro e wn ⟨y, ⟨hm, s, rfl, hS⟩ | ⟨hm, rfl⟩⟩
  all_goals clear g0 g1 g2 g3 g4 g5 g6
  all_goals
    have HT := Lib.hid (Utf8Tabs_below HT.out y)
    have R0 := Lib.hid (R0.out.ext y)
    have R1 := Lib.hid (R1.out.ext y)
    have R2 := Lib.hid (R2.out.ext y)
    have R3 := Lib.hid (R3.out.ext y)
    replace hx := ext_trans hx y
    clear y hm
  rotate_left
  · skip
    by_cases hp : (0 : Int) < (k0 : Int)
    · skip
      obtain ⟨u1, hu1⟩ : ∃ u, wn.alloc (.cells #[.int .u8 2, .int .i64 0, .slice A1 l1.length c1, .slice none 0 0, .slice none 0 0] 40) = u := ⟨_, rfl⟩
      have y := ext_alloc wn (.cells #[.int .u8 2, .int .i64 0, .slice A1 l1.length c1, .slice none 0 0, .slice none 0 0] 40)
      have OX := Lib.hid (op_lit wn (⟨opI l1 [], A1, c1, none, 0, none, 0⟩ : OpS) (b := wn.heap.size) rfl (cs := #[.int .u8 2, .int .i64 0, .slice A1 l1.length c1, .slice none 0 0, .slice none 0 0]) rfl ⟨R1.out, Rd.nil, Rd.nil⟩ ⟨fun c hc => (by cases hc), fun c hc => (by cases hc), by have := G0.out; simp only [opI]; omega, Nat.zero_le _, Nat.zero_le _⟩ (by unfold capO maxLen; have := G0.out; simp only [opI, opR, opD, List.length_nil]; unfold maxLen at *; omega))
      rw [hu1] at y OX
      have HT := Lib.hid (Utf8Tabs_below HT.out y)
      have R0 := Lib.hid (R0.out.ext y)
      have R1 := Lib.hid (R1.out.ext y)
      have R2 := Lib.hid (R2.out.ext y)
      have R3 := Lib.hid (R3.out.ext y)
      replace hx := ext_trans hx y
      clear y
      obtain ⟨u2, hu2⟩ : ∃ u, u1.alloc (.cells #[.int .u8 3, .int .i64 (l1.length : Int), .slice none 0 0, .slice none 0 0, .slice none 0 0] 40) = u := ⟨_, rfl⟩
      have y := ext_alloc u1 (.cells #[.int .u8 3, .int .i64 (l1.length : Int), .slice none 0 0, .slice none 0 0, .slice none 0 0] 40)
      have OY := Lib.hid (op_lit u1 (⟨opD (l1.length : Int), none, 0, none, 0, none, 0⟩ : OpS) (b := u1.heap.size) rfl (cs := #[.int .u8 3, .int .i64 (l1.length : Int), .slice none 0 0, .slice none 0 0, .slice none 0 0]) rfl ⟨Rd.nil, Rd.nil, Rd.nil⟩ (ok_small _ rfl rfl (by simp [opD])) (by unfold capO maxLen; have := G0.out; simp only [opI, opR, opD, List.length_nil]; unfold maxLen at *; omega))
      rw [hu2] at y OY
      have HT := Lib.hid (Utf8Tabs_below HT.out y)
      have R0 := Lib.hid (R0.out.ext y)
      have R1 := Lib.hid (R1.out.ext y)
      have R2 := Lib.hid (R2.out.ext y)
      have R3 := Lib.hid (R3.out.ext y)
      have OX := Lib.hid (OX.out.ext y)
      replace hx := ext_trans hx y
      clear y
      obtain ⟨u3, hu3⟩ : ∃ u, u2.alloc (.cells #[.int .u8 1, .int .i64 3, .slice none 0 0, .slice none 0 0, .slice A2 l2.length c2] 40) = u := ⟨_, rfl⟩
      have y := ext_alloc u2 (.cells #[.int .u8 1, .int .i64 3, .slice none 0 0, .slice none 0 0, .slice A2 l2.length c2] 40)
      have OU := Lib.hid (op_lit u2 (⟨opR 3 l2, none, 0, none, 0, A2, c2⟩ : OpS) (b := u2.heap.size) rfl (cs := #[.int .u8 1, .int .i64 3, .slice none 0 0, .slice none 0 0, .slice A2 l2.length c2]) rfl ⟨Rd.nil, Rd.nil, R2.out⟩ ⟨fun c hc => (by cases hc), Q2.out, Nat.zero_le _, Nat.zero_le _, by have := G0.out; simp only [opR]; omega⟩ (by unfold capO maxLen; have := G0.out; simp only [opI, opR, opD, List.length_nil]; unfold maxLen at *; omega))
      rw [hu3] at y OU
      have HT := Lib.hid (Utf8Tabs_below HT.out y)
      have R0 := Lib.hid (R0.out.ext y)
      have R1 := Lib.hid (R1.out.ext y)
      have R2 := Lib.hid (R2.out.ext y)
      have R3 := Lib.hid (R3.out.ext y)
      have OX := Lib.hid (OX.out.ext y)
      have OY := Lib.hid (OY.out.ext y)
      replace hx := ext_trans hx y
      clear y
      obtain ⟨u4, hu4⟩ : ∃ u, u3.alloc (.cells #[.int .u8 1, .int .i64 3, .slice none 0 0, .slice none 0 0, .slice A3 l3.length c3] 40) = u := ⟨_, rfl⟩
      have y := ext_alloc u3 (.cells #[.int .u8 1, .int .i64 3, .slice none 0 0, .slice none 0 0, .slice A3 l3.length c3] 40)
      have OV := Lib.hid (op_lit u3 (⟨opR 3 l3, none, 0, none, 0, A3, c3⟩ : OpS) (b := u3.heap.size) rfl (cs := #[.int .u8 1, .int .i64 3, .slice none 0 0, .slice none 0 0, .slice A3 l3.length c3]) rfl ⟨Rd.nil, Rd.nil, R3.out⟩ ⟨fun c hc => (by cases hc), Q3.out, Nat.zero_le _, Nat.zero_le _, by have := G0.out; simp only [opR]; omega⟩ (by unfold capO maxLen; have := G0.out; simp only [opI, opR, opD, List.length_nil]; unfold maxLen at *; omega))
      rw [hu4] at y OV
      have HT := Lib.hid (Utf8Tabs_below HT.out y)
      have R0 := Lib.hid (R0.out.ext y)
      have R1 := Lib.hid (R1.out.ext y)
      have R2 := Lib.hid (R2.out.ext y)
      have R3 := Lib.hid (R3.out.ext y)
      have OX := Lib.hid (OX.out.ext y)
      have OY := Lib.hid (OY.out.ext y)
      have OU := Lib.hid (OU.out.ext y)
      replace hx := ext_trans hx y
      clear y
      obtain ⟨u5, hu5⟩ : ∃ u, u4.alloc (.cells #[.int .u8 1, .int .i64 (k0 : Int), .slice none 0 0, .slice none 0 0, .slice none 0 0] 40) = u := ⟨_, rfl⟩
      have y1 := ext_alloc u4 (.cells #[.int .u8 1, .int .i64 (k0 : Int), .slice none 0 0, .slice none 0 0, .slice none 0 0] 40)
      have ob : OwOs (u4.alloc (.cells #[.int .u8 1, .int .i64 (k0 : Int), .slice none 0 0, .slice none 0 0, .slice none 0 0] 40)) u4.heap.size (.slice (some ⟨u4.heap.size, 0, none⟩) 1 1) [(⟨opR (k0 : Int) [], none, 0, none, 0, none, 0⟩ : OpS)] := Ow.new (enc := OpS.enc) (size := 5) OpS.enc_len u4 40 [(⟨opR (k0 : Int) [], none, 0, none, 0, none, 0⟩ : OpS)] rfl rfl (by unfold maxLen; omega) (Nat.le_refl _) rfl
      rw [hu5] at y1 ob
      have hs5 : u4.heap.size ≤ u5.heap.size := y1.size
      go_wp2_with (first
        | (at_builtin; refine app_os (m := [(⟨opI l1 [], A1, c1, none, 0, none, 0⟩ : OpS)]) rfl (.tmp 76) (.tmp 77) rfl rfl ob _ (some ⟨wn.heap.size, 0, none⟩) 1 1 rfl rfl (OX.out.at_.rd.ext y1).1 (by simp only [List.length_singleton]; omega) hs5 ?_; intro v2 w5 hown hgr hv; obtain ⟨A8, c8, hv8, hc8, hm8⟩ := hown.form; subst hv8; obtain ⟨nl, hnl⟩ : ∃ X, ([(⟨opR (k0 : Int) [], none, 0, none, 0, none, 0⟩ : OpS)] ++ [(⟨opI l1 [], A1, c1, none, 0, none, 0⟩ : OpS)]).length = X := ⟨_, rfl⟩; rw [hnl]; have yA : Below u4.heap.size u4 w5 := below_app y1 hs5 ob (Nat.le_refl _) hgr; have yB := ext_alloc w5 (.cells #[.int .u8 1, .int .i64 (k0 : Int), .slice none 0 0, .slice none 0 0, .slice none 0 0] 40); have ob2 : OwOs (w5.alloc (.cells #[.int .u8 1, .int .i64 (k0 : Int), .slice none 0 0, .slice none 0 0, .slice none 0 0] 40)) w5.heap.size (.slice (some ⟨w5.heap.size, 0, none⟩) 1 1) [(⟨opR (k0 : Int) [], none, 0, none, 0, none, 0⟩ : OpS)] := Ow.new (enc := OpS.enc) (size := 5) OpS.enc_len w5 40 [(⟨opR (k0 : Int) [], none, 0, none, 0, none, 0⟩ : OpS)] rfl rfl (by unfold maxLen; omega) (Nat.le_refl _) rfl)
        | (at_builtin; refine app_os (m := [(⟨opD (l1.length : Int), none, 0, none, 0, none, 0⟩ : OpS)]) rfl (.tmp 81) (.tmp 82) rfl rfl ob2 _ (some ⟨u1.heap.size, 0, none⟩) 1 1 rfl rfl ((OY.out.at_.rd.ext yA).ext yB).1 (by simp only [List.length_singleton]; omega) (by simp) ?_; intro v3 w6 hown2 hgr2 hv2; obtain ⟨A9, c9, hv9, hc9, hm9⟩ := hown2.form; subst hv9; obtain ⟨nl2, hnl2⟩ : ∃ X, ([(⟨opR (k0 : Int) [], none, 0, none, 0, none, 0⟩ : OpS)] ++ [(⟨opD (l1.length : Int), none, 0, none, 0, none, 0⟩ : OpS)]).length = X := ⟨_, rfl⟩; rw [hnl2])
        | (go_at_call 23; refine Hid.out ?_))
      refine Lib.hid ?_
      have O_x : Hid (OpsC w5 A8 nl c8 ((⟨opR (k0 : Int) [], none, 0, none, 0, none, 0⟩ : OpS) :: [(⟨opI l1 [], A1, c1, none, 0, none, 0⟩ : OpS)])) := Lib.hid (OX.out.cons yA hown (by rw [← hnl]; rfl) ⟨Rd.nil, Rd.nil, Rd.nil⟩ (ok_small _ rfl rfl (by simp [opR])) cap_zeroR (by omega))
      have HT := Lib.hid (Utf8Tabs_below HT.out yA)
      have R0 := Lib.hid (R0.out.ext yA)
      have R1 := Lib.hid (R1.out.ext yA)
      have R2 := Lib.hid (R2.out.ext yA)
      have R3 := Lib.hid (R3.out.ext yA)
      have OX := Lib.hid (OX.out.ext yA)
      have OY := Lib.hid (OY.out.ext yA)
      have OU := Lib.hid (OU.out.ext yA)
      have OV := Lib.hid (OV.out.ext yA)
      replace hx := ext_trans hx yA
      have y : Below w5.heap.size w5 w6 := below_app yB (by simp) ob2 (Nat.le_refl _) hgr2
      have O_y : Hid (OpsC w6 A9 nl2 c9 ((⟨opR (k0 : Int) [], none, 0, none, 0, none, 0⟩ : OpS) :: [(⟨opD (l1.length : Int), none, 0, none, 0, none, 0⟩ : OpS)])) := Lib.hid (OY.out.cons y hown2 (by rw [← hnl2]; rfl) ⟨Rd.nil, Rd.nil, Rd.nil⟩ (ok_small _ rfl rfl (by simp [opR])) cap_zeroR (by omega))
      clear y1 ob hown hgr hv hc8 hm8 hnl yA yB ob2 hown2 hgr2 hv2 hc9 hm9 hnl2 hs5
      have HT := Lib.hid (Utf8Tabs_below HT.out y)
      have R0 := Lib.hid (R0.out.ext y)
      have R1 := Lib.hid (R1.out.ext y)
      have R2 := Lib.hid (R2.out.ext y)
      have R3 := Lib.hid (R3.out.ext y)
      have OX := Lib.hid (OX.out.ext y)
      have OY := Lib.hid (OY.out.ext y)
      have OU := Lib.hid (OU.out.ext y)
      have OV := Lib.hid (OV.out.ext y)
      have O_x := Lib.hid (O_x.out.ext y)
      replace hx := ext_trans hx y
      clear y
      refine (known20_any _ HT.out).mono ?_
      rintro e w2 ⟨rfl, y⟩
      replace hx := ext_trans hx y
      go_wp2_with (fail)
      go_ret
      exact ⟨rfl, hx⟩
    obtain ⟨u1, hu1⟩ : ∃ u, wn.alloc (.cells #[.int .u8 2, .int .i64 0, .slice A1 l1.length c1, .slice none 0 0, .slice none 0 0] 40) = u := ⟨_, rfl⟩
    have y := ext_alloc wn (.cells #[.int .u8 2, .int .i64 0, .slice A1 l1.length c1, .slice none 0 0, .slice none 0 0] 40)
    have OX := Lib.hid (op_lit wn (⟨opI l1 [], A1, c1, none, 0, none, 0⟩ : OpS) (b := wn.heap.size) rfl (cs := #[.int .u8 2, .int .i64 0, .slice A1 l1.length c1, .slice none 0 0, .slice none 0 0]) rfl ⟨R1.out, Rd.nil, Rd.nil⟩ ⟨fun c hc => (by cases hc), fun c hc => (by cases hc), by have := G0.out; simp only [opI]; omega, Nat.zero_le _, Nat.zero_le _⟩ (by unfold capO maxLen; have := G0.out; simp only [opI, opR, opD, List.length_nil]; unfold maxLen at *; omega))
    rw [hu1] at y OX
    have HT := Lib.hid (Utf8Tabs_below HT.out y)
    have R0 := Lib.hid (R0.out.ext y)
    have R1 := Lib.hid (R1.out.ext y)
    have R2 := Lib.hid (R2.out.ext y)
    have R3 := Lib.hid (R3.out.ext y)
    replace hx := ext_trans hx y
    clear y
    obtain ⟨u2, hu2⟩ : ∃ u, u1.alloc (.cells #[.int .u8 3, .int .i64 (l1.length : Int), .slice none 0 0, .slice none 0 0, .slice none 0 0] 40) = u := ⟨_, rfl⟩
    have y := ext_alloc u1 (.cells #[.int .u8 3, .int .i64 (l1.length : Int), .slice none 0 0, .slice none 0 0, .slice none 0 0] 40)
    have OY := Lib.hid (op_lit u1 (⟨opD (l1.length : Int), none, 0, none, 0, none, 0⟩ : OpS) (b := u1.heap.size) rfl (cs := #[.int .u8 3, .int .i64 (l1.length : Int), .slice none 0 0, .slice none 0 0, .slice none 0 0]) rfl ⟨Rd.nil, Rd.nil, Rd.nil⟩ (ok_small _ rfl rfl (by simp [opD])) (by unfold capO maxLen; have := G0.out; simp only [opI, opR, opD, List.length_nil]; unfold maxLen at *; omega))
    rw [hu2] at y OY
    have HT := Lib.hid (Utf8Tabs_below HT.out y)
    have R0 := Lib.hid (R0.out.ext y)
    have R1 := Lib.hid (R1.out.ext y)
    have R2 := Lib.hid (R2.out.ext y)
    have R3 := Lib.hid (R3.out.ext y)
    have OX := Lib.hid (OX.out.ext y)
    replace hx := ext_trans hx y
    clear y
    obtain ⟨u3, hu3⟩ : ∃ u, u2.alloc (.cells #[.int .u8 1, .int .i64 3, .slice none 0 0, .slice none 0 0, .slice A2 l2.length c2] 40) = u := ⟨_, rfl⟩
    have y := ext_alloc u2 (.cells #[.int .u8 1, .int .i64 3, .slice none 0 0, .slice none 0 0, .slice A2 l2.length c2] 40)
    have OU := Lib.hid (op_lit u2 (⟨opR 3 l2, none, 0, none, 0, A2, c2⟩ : OpS) (b := u2.heap.size) rfl (cs := #[.int .u8 1, .int .i64 3, .slice none 0 0, .slice none 0 0, .slice A2 l2.length c2]) rfl ⟨Rd.nil, Rd.nil, R2.out⟩ ⟨fun c hc => (by cases hc), Q2.out, Nat.zero_le _, Nat.zero_le _, by have := G0.out; simp only [opR]; omega⟩ (by unfold capO maxLen; have := G0.out; simp only [opI, opR, opD, List.length_nil]; unfold maxLen at *; omega))
    rw [hu3] at y OU
    have HT := Lib.hid (Utf8Tabs_below HT.out y)
    have R0 := Lib.hid (R0.out.ext y)
    have R1 := Lib.hid (R1.out.ext y)
    have R2 := Lib.hid (R2.out.ext y)
    have R3 := Lib.hid (R3.out.ext y)
    have OX := Lib.hid (OX.out.ext y)
    have OY := Lib.hid (OY.out.ext y)
    replace hx := ext_trans hx y
    clear y
    obtain ⟨u4, hu4⟩ : ∃ u, u3.alloc (.cells #[.int .u8 1, .int .i64 3, .slice none 0 0, .slice none 0 0, .slice A3 l3.length c3] 40) = u := ⟨_, rfl⟩
    have y := ext_alloc u3 (.cells #[.int .u8 1, .int .i64 3, .slice none 0 0, .slice none 0 0, .slice A3 l3.length c3] 40)
    have OV := Lib.hid (op_lit u3 (⟨opR 3 l3, none, 0, none, 0, A3, c3⟩ : OpS) (b := u3.heap.size) rfl (cs := #[.int .u8 1, .int .i64 3, .slice none 0 0, .slice none 0 0, .slice A3 l3.length c3]) rfl ⟨Rd.nil, Rd.nil, R3.out⟩ ⟨fun c hc => (by cases hc), Q3.out, Nat.zero_le _, Nat.zero_le _, by have := G0.out; simp only [opR]; omega⟩ (by unfold capO maxLen; have := G0.out; simp only [opI, opR, opD, List.length_nil]; unfold maxLen at *; omega))
    rw [hu4] at y OV
    have HT := Lib.hid (Utf8Tabs_below HT.out y)
    have R0 := Lib.hid (R0.out.ext y)
    have R1 := Lib.hid (R1.out.ext y)
    have R2 := Lib.hid (R2.out.ext y)
    have R3 := Lib.hid (R3.out.ext y)
    have OX := Lib.hid (OX.out.ext y)
    have OY := Lib.hid (OY.out.ext y)
    have OU := Lib.hid (OU.out.ext y)
    replace hx := ext_trans hx y
    clear y
    go_wp2_with (go_at_call 23; refine Hid.out ?_)
    refine Lib.hid ?_
    refine (known20_any _ HT.out).mono ?_
    rintro e w2 ⟨rfl, y⟩
    replace hx := ext_trans hx y
    go_wp2_with (fail)
    go_ret
    exact ⟨rfl, hx⟩
  have HS := Lib.hid hS
  clear hS
  have H64 : Hid (l0.length ≤ 64) := Lib.hid (by have := N0.out; have := G0.out; omega)
  by_cases hp : (0 : Int) < (k0 : Int)
  · skip
    obtain ⟨u1, hu1⟩ : ∃ u, wn.alloc (.cells #[.int .u8 2, .int .i64 0, .slice A1 l1.length c1, .slice none 0 0, .slice none 0 0] 40) = u := ⟨_, rfl⟩
    have y := ext_alloc wn (.cells #[.int .u8 2, .int .i64 0, .slice A1 l1.length c1, .slice none 0 0, .slice none 0 0] 40)
    have OX := Lib.hid (op_lit wn (⟨opI l1 [], A1, c1, none, 0, none, 0⟩ : OpS) (b := wn.heap.size) rfl (cs := #[.int .u8 2, .int .i64 0, .slice A1 l1.length c1, .slice none 0 0, .slice none 0 0]) rfl ⟨R1.out, Rd.nil, Rd.nil⟩ ⟨fun c hc => (by cases hc), fun c hc => (by cases hc), by have := G0.out; simp only [opI]; omega, Nat.zero_le _, Nat.zero_le _⟩ (by unfold capO maxLen; have := G0.out; simp only [opI, opR, opD, List.length_nil]; unfold maxLen at *; omega))
    rw [hu1] at y OX
    have HT := Lib.hid (Utf8Tabs_below HT.out y)
    have R0 := Lib.hid (R0.out.ext y)
    have R1 := Lib.hid (R1.out.ext y)
    have R2 := Lib.hid (R2.out.ext y)
    have R3 := Lib.hid (R3.out.ext y)
    have HS := Lib.hid (HS.out.ext y)
    replace hx := ext_trans hx y
    clear y
    obtain ⟨u2, hu2⟩ : ∃ u, u1.alloc (.cells #[.int .u8 3, .int .i64 (l1.length : Int), .slice none 0 0, .slice none 0 0, .slice none 0 0] 40) = u := ⟨_, rfl⟩
    have y := ext_alloc u1 (.cells #[.int .u8 3, .int .i64 (l1.length : Int), .slice none 0 0, .slice none 0 0, .slice none 0 0] 40)
    have OY := Lib.hid (op_lit u1 (⟨opD (l1.length : Int), none, 0, none, 0, none, 0⟩ : OpS) (b := u1.heap.size) rfl (cs := #[.int .u8 3, .int .i64 (l1.length : Int), .slice none 0 0, .slice none 0 0, .slice none 0 0]) rfl ⟨Rd.nil, Rd.nil, Rd.nil⟩ (ok_small _ rfl rfl (by simp [opD])) (by unfold capO maxLen; have := G0.out; simp only [opI, opR, opD, List.length_nil]; unfold maxLen at *; omega))
    rw [hu2] at y OY
    have HT := Lib.hid (Utf8Tabs_below HT.out y)
    have R0 := Lib.hid (R0.out.ext y)
    have R1 := Lib.hid (R1.out.ext y)
    have R2 := Lib.hid (R2.out.ext y)
    have R3 := Lib.hid (R3.out.ext y)
    have HS := Lib.hid (HS.out.ext y)
    have OX := Lib.hid (OX.out.ext y)
    replace hx := ext_trans hx y
    clear y
    obtain ⟨u3, hu3⟩ : ∃ u, u2.alloc (.cells #[.int .u8 1, .int .i64 3, .slice none 0 0, .slice none 0 0, .slice A2 l2.length c2] 40) = u := ⟨_, rfl⟩
    have y := ext_alloc u2 (.cells #[.int .u8 1, .int .i64 3, .slice none 0 0, .slice none 0 0, .slice A2 l2.length c2] 40)
    have OU := Lib.hid (op_lit u2 (⟨opR 3 l2, none, 0, none, 0, A2, c2⟩ : OpS) (b := u2.heap.size) rfl (cs := #[.int .u8 1, .int .i64 3, .slice none 0 0, .slice none 0 0, .slice A2 l2.length c2]) rfl ⟨Rd.nil, Rd.nil, R2.out⟩ ⟨fun c hc => (by cases hc), Q2.out, Nat.zero_le _, Nat.zero_le _, by have := G0.out; simp only [opR]; omega⟩ (by unfold capO maxLen; have := G0.out; simp only [opI, opR, opD, List.length_nil]; unfold maxLen at *; omega))
    rw [hu3] at y OU
    have HT := Lib.hid (Utf8Tabs_below HT.out y)
    have R0 := Lib.hid (R0.out.ext y)
    have R1 := Lib.hid (R1.out.ext y)
    have R2 := Lib.hid (R2.out.ext y)
    have R3 := Lib.hid (R3.out.ext y)
    have HS := Lib.hid (HS.out.ext y)
    have OX := Lib.hid (OX.out.ext y)
    have OY := Lib.hid (OY.out.ext y)
    replace hx := ext_trans hx y
    clear y
    obtain ⟨u4, hu4⟩ : ∃ u, u3.alloc (.cells #[.int .u8 1, .int .i64 3, .slice none 0 0, .slice none 0 0, .slice A3 l3.length c3] 40) = u := ⟨_, rfl⟩
    have y := ext_alloc u3 (.cells #[.int .u8 1, .int .i64 3, .slice none 0 0, .slice none 0 0, .slice A3 l3.length c3] 40)
    have OV := Lib.hid (op_lit u3 (⟨opR 3 l3, none, 0, none, 0, A3, c3⟩ : OpS) (b := u3.heap.size) rfl (cs := #[.int .u8 1, .int .i64 3, .slice none 0 0, .slice none 0 0, .slice A3 l3.length c3]) rfl ⟨Rd.nil, Rd.nil, R3.out⟩ ⟨fun c hc => (by cases hc), Q3.out, Nat.zero_le _, Nat.zero_le _, by have := G0.out; simp only [opR]; omega⟩ (by unfold capO maxLen; have := G0.out; simp only [opI, opR, opD, List.length_nil]; unfold maxLen at *; omega))
    rw [hu4] at y OV
    have HT := Lib.hid (Utf8Tabs_below HT.out y)
    have R0 := Lib.hid (R0.out.ext y)
    have R1 := Lib.hid (R1.out.ext y)
    have R2 := Lib.hid (R2.out.ext y)
    have R3 := Lib.hid (R3.out.ext y)
    have HS := Lib.hid (HS.out.ext y)
    have OX := Lib.hid (OX.out.ext y)
    have OY := Lib.hid (OY.out.ext y)
    have OU := Lib.hid (OU.out.ext y)
    replace hx := ext_trans hx y
    clear y
    obtain ⟨u5, hu5⟩ : ∃ u, u4.alloc (.cells #[.int .u8 1, .int .i64 (k0 : Int), .slice none 0 0, .slice none 0 0, .slice none 0 0] 40) = u := ⟨_, rfl⟩
    have y1 := ext_alloc u4 (.cells #[.int .u8 1, .int .i64 (k0 : Int), .slice none 0 0, .slice none 0 0, .slice none 0 0] 40)
    have ob : OwOs (u4.alloc (.cells #[.int .u8 1, .int .i64 (k0 : Int), .slice none 0 0, .slice none 0 0, .slice none 0 0] 40)) u4.heap.size (.slice (some ⟨u4.heap.size, 0, none⟩) 1 1) [(⟨opR (k0 : Int) [], none, 0, none, 0, none, 0⟩ : OpS)] := Ow.new (enc := OpS.enc) (size := 5) OpS.enc_len u4 40 [(⟨opR (k0 : Int) [], none, 0, none, 0, none, 0⟩ : OpS)] rfl rfl (by unfold maxLen; omega) (Nat.le_refl _) rfl
    rw [hu5] at y1 ob
    have hs5 : u4.heap.size ≤ u5.heap.size := y1.size
    go_wp2_with (first
      | (at_builtin; refine app_os (m := [(⟨opI l1 [], A1, c1, none, 0, none, 0⟩ : OpS)]) rfl (.tmp 76) (.tmp 77) rfl rfl ob _ (some ⟨wn.heap.size, 0, none⟩) 1 1 rfl rfl (OX.out.at_.rd.ext y1).1 (by simp only [List.length_singleton]; omega) hs5 ?_; intro v2 w5 hown hgr hv; obtain ⟨A8, c8, hv8, hc8, hm8⟩ := hown.form; subst hv8; obtain ⟨nl, hnl⟩ : ∃ X, ([(⟨opR (k0 : Int) [], none, 0, none, 0, none, 0⟩ : OpS)] ++ [(⟨opI l1 [], A1, c1, none, 0, none, 0⟩ : OpS)]).length = X := ⟨_, rfl⟩; rw [hnl]; have yA : Below u4.heap.size u4 w5 := below_app y1 hs5 ob (Nat.le_refl _) hgr; have yB := ext_alloc w5 (.cells #[.int .u8 1, .int .i64 (k0 : Int), .slice none 0 0, .slice none 0 0, .slice none 0 0] 40); have ob2 : OwOs (w5.alloc (.cells #[.int .u8 1, .int .i64 (k0 : Int), .slice none 0 0, .slice none 0 0, .slice none 0 0] 40)) w5.heap.size (.slice (some ⟨w5.heap.size, 0, none⟩) 1 1) [(⟨opR (k0 : Int) [], none, 0, none, 0, none, 0⟩ : OpS)] := Ow.new (enc := OpS.enc) (size := 5) OpS.enc_len w5 40 [(⟨opR (k0 : Int) [], none, 0, none, 0, none, 0⟩ : OpS)] rfl rfl (by unfold maxLen; omega) (Nat.le_refl _) rfl)
      | (at_builtin; refine app_os (m := [(⟨opD (l1.length : Int), none, 0, none, 0, none, 0⟩ : OpS)]) rfl (.tmp 81) (.tmp 82) rfl rfl ob2 _ (some ⟨u1.heap.size, 0, none⟩) 1 1 rfl rfl ((OY.out.at_.rd.ext yA).ext yB).1 (by simp only [List.length_singleton]; omega) (by simp) ?_; intro v3 w6 hown2 hgr2 hv2; obtain ⟨A9, c9, hv9, hc9, hm9⟩ := hown2.form; subst hv9; obtain ⟨nl2, hnl2⟩ : ∃ X, ([(⟨opR (k0 : Int) [], none, 0, none, 0, none, 0⟩ : OpS)] ++ [(⟨opD (l1.length : Int), none, 0, none, 0, none, 0⟩ : OpS)]).length = X := ⟨_, rfl⟩; rw [hnl2])
      | (go_at_call 22; refine Hid.out ?_))
    refine Lib.hid ?_
    have O_x : Hid (OpsC w5 A8 nl c8 ((⟨opR (k0 : Int) [], none, 0, none, 0, none, 0⟩ : OpS) :: [(⟨opI l1 [], A1, c1, none, 0, none, 0⟩ : OpS)])) := Lib.hid (OX.out.cons yA hown (by rw [← hnl]; rfl) ⟨Rd.nil, Rd.nil, Rd.nil⟩ (ok_small _ rfl rfl (by simp [opR])) cap_zeroR (by omega))
    have HT := Lib.hid (Utf8Tabs_below HT.out yA)
    have R0 := Lib.hid (R0.out.ext yA)
    have R1 := Lib.hid (R1.out.ext yA)
    have R2 := Lib.hid (R2.out.ext yA)
    have R3 := Lib.hid (R3.out.ext yA)
    have HS := Lib.hid (HS.out.ext yA)
    have OX := Lib.hid (OX.out.ext yA)
    have OY := Lib.hid (OY.out.ext yA)
    have OU := Lib.hid (OU.out.ext yA)
    have OV := Lib.hid (OV.out.ext yA)
    replace hx := ext_trans hx yA
    have y : Below w5.heap.size w5 w6 := below_app yB (by simp) ob2 (Nat.le_refl _) hgr2
    have O_y : Hid (OpsC w6 A9 nl2 c9 ((⟨opR (k0 : Int) [], none, 0, none, 0, none, 0⟩ : OpS) :: [(⟨opD (l1.length : Int), none, 0, none, 0, none, 0⟩ : OpS)])) := Lib.hid (OY.out.cons y hown2 (by rw [← hnl2]; rfl) ⟨Rd.nil, Rd.nil, Rd.nil⟩ (ok_small _ rfl rfl (by simp [opR])) cap_zeroR (by omega))
    clear y1 ob hown hgr hv hc8 hm8 hnl yA yB ob2 hown2 hgr2 hv2 hc9 hm9 hnl2 hs5
    have HT := Lib.hid (Utf8Tabs_below HT.out y)
    have R0 := Lib.hid (R0.out.ext y)
    have R1 := Lib.hid (R1.out.ext y)
    have R2 := Lib.hid (R2.out.ext y)
    have R3 := Lib.hid (R3.out.ext y)
    have HS := Lib.hid (HS.out.ext y)
    have OX := Lib.hid (OX.out.ext y)
    have OY := Lib.hid (OY.out.ext y)
    have OU := Lib.hid (OU.out.ext y)
    have OV := Lib.hid (OV.out.ext y)
    have O_x := Lib.hid (O_x.out.ext y)
    replace hx := ext_trans hx y
    clear y
    have HXV : ∀ z ∈ ((⟨opR (k0 : Int) [], none, 0, none, 0, none, 0⟩ : OpS) :: [(⟨opI l1 [], A1, c1, none, 0, none, 0⟩ : OpS)]), okVa z.o.s ∧ okVs z.o.p := (fun z hz => by
      rcases List.mem_cons.1 hz with rfl | hz
      · exact ⟨fun c hc => (by cases hc), fun c hc => by cases hc⟩
      · rw [List.mem_singleton] at hz; subst hz; exact ⟨fun c hc => (by cases hc), fun c hc => by cases hc⟩)
    have HUV : ∀ z ∈ [(⟨opR 3 l2, none, 0, none, 0, A2, c2⟩ : OpS)], okVa z.o.s ∧ okVs z.o.p := (fun z hz => by
      rw [List.mem_singleton] at hz; subst hz; exact ⟨fun c hc => (by cases hc), Q2.out⟩)
    have HVV : ∀ z ∈ [(⟨opR 3 l3, none, 0, none, 0, A3, c3⟩ : OpS)], okVa z.o.s ∧ okVs z.o.p := (fun z hz => by
      rw [List.mem_singleton] at hz; subst hz; exact ⟨fun c hc => (by cases hc), Q3.out⟩)
    obtain ⟨m, hm⟩ : ∃ X, mayO l0 ((⟨opR (k0 : Int) [], none, 0, none, 0, none, 0⟩ : OpS) :: [(⟨opI l1 [], A1, c1, none, 0, none, 0⟩ : OpS)]) = X := ⟨_, rfl⟩
    have HX := Lib.hid hm
    clear hm
    refine (mayKeysW N0.out R0.out (by have := G0.out; omega) O_x.out.at_ (HXV) HT.out HX.out).mono ?_
    rintro e wn ⟨rfl, y⟩
    have HT := Lib.hid (Utf8Tabs_below HT.out y)
    have R0 := Lib.hid (R0.out.ext y)
    have R1 := Lib.hid (R1.out.ext y)
    have R2 := Lib.hid (R2.out.ext y)
    have R3 := Lib.hid (R3.out.ext y)
    have HS := Lib.hid (HS.out.ext y)
    have OX := Lib.hid (OX.out.ext y)
    have OY := Lib.hid (OY.out.ext y)
    have OU := Lib.hid (OU.out.ext y)
    have OV := Lib.hid (OV.out.ext y)
    have O_x := Lib.hid (O_x.out.ext y)
    have O_y := Lib.hid (O_y.out.ext y)
    replace hx := ext_trans hx y
    clear y
    by_cases h0 : m = 0
    rotate_left
    · skip
      have h0' : (m == 0) = false := beq_eq_false_iff_ne.2 h0
      have h0'' : (m != 0) = true := by rw [bne, h0']; rfl
      clear h0 HX
      go_wp2_with (go_at_call 23; refine Hid.out ?_)
      refine Lib.hid ?_
      refine (known20_any _ HT.out).mono ?_
      rintro e w2 ⟨rfl, y⟩
      replace hx := ext_trans hx y
      go_wp2_with (fail)
      go_ret
      exact ⟨rfl, hx⟩
    subst h0
    obtain ⟨m, hm⟩ : ∃ X, mayO l0 [(⟨opR 3 l2, none, 0, none, 0, A2, c2⟩ : OpS)] = X := ⟨_, rfl⟩
    have HU := Lib.hid hm
    clear hm
    go_wp2_with (go_at_call 22; refine Hid.out ?_)
    refine Lib.hid ?_
    refine (mayKeysW N0.out R0.out (by have := G0.out; omega) OU.out.at_ (HUV) HT.out HU.out).mono ?_
    rintro e wn ⟨rfl, y⟩
    have HT := Lib.hid (Utf8Tabs_below HT.out y)
    have R0 := Lib.hid (R0.out.ext y)
    have R1 := Lib.hid (R1.out.ext y)
    have R2 := Lib.hid (R2.out.ext y)
    have R3 := Lib.hid (R3.out.ext y)
    have HS := Lib.hid (HS.out.ext y)
    have OX := Lib.hid (OX.out.ext y)
    have OY := Lib.hid (OY.out.ext y)
    have OU := Lib.hid (OU.out.ext y)
    have OV := Lib.hid (OV.out.ext y)
    have O_x := Lib.hid (O_x.out.ext y)
    have O_y := Lib.hid (O_y.out.ext y)
    replace hx := ext_trans hx y
    clear y
    by_cases h0 : m = 0
    rotate_left
    · skip
      have h0' : (m == 0) = false := beq_eq_false_iff_ne.2 h0
      have h0'' : (m != 0) = true := by rw [bne, h0']; rfl
      clear h0 HU
      go_wp2_with (go_at_call 23; refine Hid.out ?_)
      refine Lib.hid ?_
      refine (known20_any _ HT.out).mono ?_
      rintro e w2 ⟨rfl, y⟩
      replace hx := ext_trans hx y
      go_wp2_with (fail)
      go_ret
      exact ⟨rfl, hx⟩
    subst h0
    obtain ⟨m, hm⟩ : ∃ X, mayO l0 [(⟨opR 3 l3, none, 0, none, 0, A3, c3⟩ : OpS)] = X := ⟨_, rfl⟩
    have HV := Lib.hid hm
    clear hm
    go_wp2_with (go_at_call 22; refine Hid.out ?_)
    refine Lib.hid ?_
    refine (mayKeysW N0.out R0.out (by have := G0.out; omega) OV.out.at_ (HVV) HT.out HV.out).mono ?_
    rintro e wn ⟨rfl, y⟩
    have HT := Lib.hid (Utf8Tabs_below HT.out y)
    have R0 := Lib.hid (R0.out.ext y)
    have R1 := Lib.hid (R1.out.ext y)
    have R2 := Lib.hid (R2.out.ext y)
    have R3 := Lib.hid (R3.out.ext y)
    have HS := Lib.hid (HS.out.ext y)
    have OX := Lib.hid (OX.out.ext y)
    have OY := Lib.hid (OY.out.ext y)
    have OU := Lib.hid (OU.out.ext y)
    have OV := Lib.hid (OV.out.ext y)
    have O_x := Lib.hid (O_x.out.ext y)
    have O_y := Lib.hid (O_y.out.ext y)
    replace hx := ext_trans hx y
    clear y
    by_cases h0 : m = 0
    rotate_left
    · skip
      have h0' : (m == 0) = false := beq_eq_false_iff_ne.2 h0
      have h0'' : (m != 0) = true := by rw [bne, h0']; rfl
      clear h0 HV
      go_wp2_with (go_at_call 23; refine Hid.out ?_)
      refine Lib.hid ?_
      refine (known20_any _ HT.out).mono ?_
      rintro e w2 ⟨rfl, y⟩
      replace hx := ext_trans hx y
      go_wp2_with (fail)
      go_ret
      exact ⟨rfl, hx⟩
    subst h0
    clear HXV HUV HVV
    have UX : Hid (units (osOf ((⟨opR (k0 : Int) [], none, 0, none, 0, none, 0⟩ : OpS) :: [(⟨opI l1 [], A1, c1, none, 0, none, 0⟩ : OpS)])) = List.replicate k0 (.ret []) ++ l1.map (fun r => Un.ins r [])) := Lib.hid (by show unitsO (opR (k0 : Int) []) ++ (unitsO (opI l1 []) ++ []) = _; rw [unitsO_R, uI, List.append_nil]; rfl)
    have UY : Hid (units (osOf ((⟨opR (k0 : Int) [], none, 0, none, 0, none, 0⟩ : OpS) :: [(⟨opD (l1.length : Int), none, 0, none, 0, none, 0⟩ : OpS)])) = List.replicate k0 (.ret []) ++ List.replicate l1.length .del) := Lib.hid (by show unitsO (opR (k0 : Int) []) ++ (unitsO (opD (l1.length : Int)) ++ []) = _; rw [unitsO_R, uD, List.append_nil]; rfl)
    have UU : Hid (units (osOf [(⟨opR 3 l2, none, 0, none, 0, A2, c2⟩ : OpS)]) = List.replicate 3 (.ret l2)) := Lib.hid rfl
    have UV : Hid (units (osOf [(⟨opR 3 l3, none, 0, none, 0, A3, c3⟩ : OpS)]) = List.replicate 3 (.ret l3)) := Lib.hid rfl
    have CE : Hid (compU l0 (units (osOf ((⟨opR (k0 : Int) [], none, 0, none, 0, none, 0⟩ : OpS) :: [(⟨opI l1 [], A1, c1, none, 0, none, 0⟩ : OpS)]))) (units (osOf ((⟨opR (k0 : Int) [], none, 0, none, 0, none, 0⟩ : OpS) :: [(⟨opD (l1.length : Int), none, 0, none, 0, none, 0⟩ : OpS)]))) = List.replicate k0 (.ret [])) := Lib.hid (by rw [UX.out, UY.out]; exact noth_gone l0 k0 l1)
    have MPU : Hid (mayP l0 l2 = 0 ∧ mayP l0 l3 = 0) := Lib.hid (by
      have h1 := good_mU (mayO_zero HU.out).1
      have h2 := good_mU (mayO_zero HV.out).1
      rw [UU.out] at h1
      rw [UV.out] at h2
      exact ⟨h1 (.ret l2) (by simp), h2 (.ret l3) (by simp)⟩)
    have MY : Hid (mayO l0 ((⟨opR (k0 : Int) [], none, 0, none, 0, none, 0⟩ : OpS) :: [(⟨opD (l1.length : Int), none, 0, none, 0, none, 0⟩ : OpS)]) = 0) := Lib.hid (units_mayO (by simp) (fun z hz => by
      rcases List.mem_cons.1 hz with rfl | hz
      · exact isOp_opR (by omega)
      · rw [List.mem_singleton] at hz; subst hz; exact .inr (.inl ⟨rfl, by show (1 : Int) ≤ (l1.length : Int); have := G0.out; omega, rfl, rfl, rfl⟩)) (by
      rw [UY.out]
      intro u hu
      rcases List.mem_append.1 hu with hu | hu
      · rw [(List.mem_replicate.1 hu).2]; exact mayP_nil l0
      · rw [(List.mem_replicate.1 hu).2]; trivial) (by rw [UY.out, takes_ret, takesU_del]; have := G0.out; omega) (by rw [UY.out, makes_ret, makesU_del]; have := G0.out; omega))
    have SZC : Hid (takesU (compU l0 (units (osOf ((⟨opR (k0 : Int) [], none, 0, none, 0, none, 0⟩ : OpS) :: [(⟨opI l1 [], A1, c1, none, 0, none, 0⟩ : OpS)]))) (units (osOf ((⟨opR (k0 : Int) [], none, 0, none, 0, none, 0⟩ : OpS) :: [(⟨opD (l1.length : Int), none, 0, none, 0, none, 0⟩ : OpS)])))) ≤ 536870912 ∧ makesU (compU l0 (units (osOf ((⟨opR (k0 : Int) [], none, 0, none, 0, none, 0⟩ : OpS) :: [(⟨opI l1 [], A1, c1, none, 0, none, 0⟩ : OpS)]))) (units (osOf ((⟨opR (k0 : Int) [], none, 0, none, 0, none, 0⟩ : OpS) :: [(⟨opD (l1.length : Int), none, 0, none, 0, none, 0⟩ : OpS)])))) ≤ 536870912) := Lib.hid (by
      rw [CE.out]
      have h1 := takes_ret k0 [] []
      have h2 := makes_ret k0 [] []
      rw [List.append_nil] at h1 h2
      rw [h1, h2]
      have := G0.out
      exact ⟨by show k0 + 0 ≤ _; omega, by show k0 + 0 ≤ _; omega⟩)
    have SZU : Hid (takesU (compU l0 (units (osOf [(⟨opR 3 l2, none, 0, none, 0, A2, c2⟩ : OpS)])) (units (osOf [(⟨opR 3 l3, none, 0, none, 0, A3, c3⟩ : OpS)]))) ≤ 536870912 ∧ makesU (compU l0 (units (osOf [(⟨opR 3 l2, none, 0, none, 0, A2, c2⟩ : OpS)])) (units (osOf [(⟨opR 3 l3, none, 0, none, 0, A3, c3⟩ : OpS)]))) ≤ 536870912) := Lib.hid (by
      obtain ⟨h1, h2⟩ := comp_size l0 (units (osOf [(⟨opR 3 l3, none, 0, none, 0, A3, c3⟩ : OpS)])) (units (osOf [(⟨opR 3 l2, none, 0, none, 0, A2, c2⟩ : OpS)]))
      have t : ∀ q : List Ch, takesU (List.replicate 3 (.ret q)) = 3 ∧ makesU (List.replicate 3 (.ret q)) = 3 := fun q => ⟨rfl, rfl⟩
      rw [h1, h2, UU.out, UV.out, (t l2).1, (t l2).2, (t l3).1, (t l3).2]
      exact ⟨by decide, by decide⟩)
    have ZX : Hid (szN ((⟨opR (k0 : Int) [], none, 0, none, 0, none, 0⟩ : OpS) :: [(⟨opI l1 [], A1, c1, none, 0, none, 0⟩ : OpS)]) ≤ 200000 ∧ szN ((⟨opR (k0 : Int) [], none, 0, none, 0, none, 0⟩ : OpS) :: [(⟨opD (l1.length : Int), none, 0, none, 0, none, 0⟩ : OpS)]) ≤ 200000 ∧ szN [(⟨opR 3 l2, none, 0, none, 0, A2, c2⟩ : OpS)] ≤ 200000 ∧ szN [(⟨opR 3 l3, none, 0, none, 0, A3, c3⟩ : OpS)] ≤ 200000) := Lib.hid (by
      have := G0.out
      refine ⟨?_, ?_, ?_, ?_⟩ <;> simp only [szN, List.map_cons, List.map_nil, List.sum_cons, List.sum_nil, opI, opR, opD, List.length_nil] <;> omega)
    go_wp2_with (go_at_call 25; refine Hid.out ?_)
    refine Lib.hid ?_
    refine (composeOk_any s l0 _ _ _ _ _ _ ((⟨opR (k0 : Int) [], none, 0, none, 0, none, 0⟩ : OpS) :: [(⟨opI l1 [], A1, c1, none, 0, none, 0⟩ : OpS)]) ((⟨opR (k0 : Int) [], none, 0, none, 0, none, 0⟩ : OpS) :: [(⟨opD (l1.length : Int), none, 0, none, 0, none, 0⟩ : OpS)]) _ O_x.out O_y.out HS.out H64.out HT.out HX.out MY.out ZX.out.1 ZX.out.2.1 SZC.out.1 SZC.out.2).mono ?_
    rintro e wn ⟨A5, c5, z, rfl, h_1, o_1, y⟩
    have HT := Lib.hid (Utf8Tabs_below HT.out y)
    have R0 := Lib.hid (R0.out.ext y)
    have R1 := Lib.hid (R1.out.ext y)
    have R2 := Lib.hid (R2.out.ext y)
    have R3 := Lib.hid (R3.out.ext y)
    have HS := Lib.hid (HS.out.ext y)
    have OX := Lib.hid (OX.out.ext y)
    have OY := Lib.hid (OY.out.ext y)
    have OU := Lib.hid (OU.out.ext y)
    have OV := Lib.hid (OV.out.ext y)
    have O_x := Lib.hid (O_x.out.ext y)
    have O_y := Lib.hid (O_y.out.ext y)
    replace hx := ext_trans hx y
    have E_z : Hid (osOf z = mkU (List.replicate k0 (.ret []))) := Lib.hid (by rw [h_1]; exact (by rw [CE.out]))
    have O_z := Lib.hid o_1
    clear h_1 o_1
    clear y
    have EZ : z.length = 0 := by
      have h := E_z.out
      rw [mkU_rets0] at h
      have h2 := congrArg List.length h
      unfold osOf at h2
      simpa using h2
    rw [EZ]
    clear O_z EZ
    go_wp2_with (go_at_call 25; refine Hid.out ?_)
    refine Lib.hid ?_
    refine (composeOk_any s l0 _ _ _ _ _ _ [(⟨opR 3 l2, none, 0, none, 0, A2, c2⟩ : OpS)] [(⟨opR 3 l3, none, 0, none, 0, A3, c3⟩ : OpS)] _ OU.out OV.out HS.out H64.out HT.out HU.out HV.out ZX.out.2.2.1 ZX.out.2.2.2 SZU.out.1 SZU.out.2).mono ?_
    rintro e wn ⟨A6, c6, ww, rfl, h_1, o_1, y⟩
    have HT := Lib.hid (Utf8Tabs_below HT.out y)
    have R0 := Lib.hid (R0.out.ext y)
    have R1 := Lib.hid (R1.out.ext y)
    have R2 := Lib.hid (R2.out.ext y)
    have R3 := Lib.hid (R3.out.ext y)
    have HS := Lib.hid (HS.out.ext y)
    have OX := Lib.hid (OX.out.ext y)
    have OY := Lib.hid (OY.out.ext y)
    have OU := Lib.hid (OU.out.ext y)
    have OV := Lib.hid (OV.out.ext y)
    have O_x := Lib.hid (O_x.out.ext y)
    have O_y := Lib.hid (O_y.out.ext y)
    replace hx := ext_trans hx y
    have E_ww := Lib.hid h_1
    have O_ww := Lib.hid o_1
    clear h_1 o_1
    clear y
    by_cases hll : l2.length = l3.length
    rotate_left
    · have hll' : ((l2.length : Int) == (l3.length : Int)) = false := beq_eq_false_iff_ne.2 (by omega)
      have hll'' : ((l2.length : Int) != (l3.length : Int)) = true := by rw [bne, hll']; rfl
      go_wp2_with (go_at_call 23; refine Hid.out ?_)
      refine Lib.hid ?_
      refine (known20_any _ HT.out).mono ?_
      rintro e w2 ⟨rfl, y⟩
      replace hx := ext_trans hx y
      go_wp2_with (fail)
      go_ret
      exact ⟨rfl, hx⟩
    have hll' : ((l2.length : Int) != (l3.length : Int)) = false := by rw [hll]; exact bne_self_eq_false _
    have HLL := Lib.hid hll
    clear hll
    go_wp2_with (fail)
    go_loopg [136] l2.length (fun g iv wr => ∃ i : Nat, i ≤ l2.length ∧ g = l2.length - i ∧ iv = .int .i64 (i : Int) ∧ Hid (Below wn.heap.size wn wr) ∧ Hid (∀ j, j < i → (l2.map (·.key))[j]? = (l3.map (·.key))[j]?))
    case atStart => exact ⟨0, Nat.zero_le _, rfl, rfl, Lib.hid (Below.refl _ _), Lib.hid (fun j hj => absurd hj (Nat.not_lt_zero _))⟩
    case round =>
      obtain ⟨i, hi, hg, rfl, HY, HK⟩ := hrel
      have HG := Lib.hid hg
      clear hg
      by_cases hlt : i < l2.length
      · skip
        have hlt' : (i : Int) < (l2.length : Int) := by omega
        have hlt2 : i < l3.length := by have := HLL.out; omega
        have hlt2' : (i : Int) < (l3.length : Int) := by omega
        obtain ⟨ad, x1, hA2, _, _, hx1, hc1⟩ := (R2.out.ext HY.out).el hlt
        obtain ⟨ae, x2, hA3, _, _, hx2, hc2⟩ := (R3.out.ext HY.out).el hlt2
        have HX1 := Lib.hid hx1
        have HX2 := Lib.hid hx2
        obtain ⟨k1, g1, ⟨a1, b1, f1, s1⟩⟩ := x1
        obtain ⟨k2, g2, ⟨a2, b2, f2, s2⟩⟩ := x2
        obtain ⟨q0, -⟩ := ch_cells hc1
        obtain ⟨t0, -⟩ := ch_cells hc2
        have hw2 : IntKind.i64.wrap ((i : Int) + 1) = (i : Int) + 1 := IntWalk.i64_in _ (by have := G0.out; omega)
        clear hx1 hx2 hc1 hc2
        rw [hA2, hA3]
        by_cases hke : k1 = k2
        rotate_left
        · skip
          have hke' : (k1 == k2) = false := beq_eq_false_iff_ne.2 hke
          have hke'' : (k1 != k2) = true := by rw [bne, hke']; rfl
          go_wp2_with (fail)
          go_quiet (fail)
          have y := HY.out.trans ((ext_drew _ nq).mono HY.out.size)
          generalize wr.drewN nq = wq at *
          have HT := Lib.hid (Utf8Tabs_below HT.out y)
          have R0 := Lib.hid (R0.out.ext y)
          have R1 := Lib.hid (R1.out.ext y)
          have R2 := Lib.hid (R2.out.ext y)
          have R3 := Lib.hid (R3.out.ext y)
          have HS := Lib.hid (HS.out.ext y)
          have OX := Lib.hid (OX.out.ext y)
          have OY := Lib.hid (OY.out.ext y)
          have OU := Lib.hid (OU.out.ext y)
          have OV := Lib.hid (OV.out.ext y)
          have O_x := Lib.hid (O_x.out.ext y)
          have O_y := Lib.hid (O_y.out.ext y)
          have O_ww := Lib.hid (O_ww.out.ext y)
          replace hx := ext_trans hx y
          clear y
          go_wp2_with (go_at_call 23; refine Hid.out ?_)
          refine Lib.hid ?_
          refine (known20_any _ HT.out).mono ?_
          rintro e w2 ⟨rfl, y⟩
          replace hx := ext_trans hx y
          go_wp2_with (fail)
          go_ret
          exact ⟨rfl, hx⟩
        subst hke
        have hke' : (k1 != k1) = false := bne_self_eq_false _
        go_wp2_with (fail)
        go_quiet (fail)
        go_wp2_with (fail)
        rw [← hA2, ← hA3]
        go_roundg (l2.length - (i + 1))
        case measure => have h9 := HG.out; clear hw2; omega
        case rel => exact ⟨i + 1, by clear hw2; omega, rfl, rfl, Lib.hid (HY.out.trans ((ext_drew _ nq).mono HY.out.size)), Lib.hid (fun j hj => by
          by_cases hj2 : j = i
          · subst hj2; rw [List.getElem?_map, List.getElem?_map, HX1.out, HX2.out]; rfl
          · exact HK.out j (by omega))⟩
      have hlt' : ¬ ((i : Int) < (l2.length : Int)) := by omega
      have KE : Hid (l2.map (·.key) = l3.map (·.key)) := Lib.hid (List.ext_getElem? fun j => by
        by_cases hj : j < i
        · exact HK.out j hj
        · rw [List.getElem?_eq_none (by rw [List.length_map]; omega), List.getElem?_eq_none (by rw [List.length_map]; have := HLL.out; omega)])
      have y := HY.out
      have E_ww2 : Hid (osOf ww = mkU (List.replicate 3 (.ret l3))) := Lib.hid (by rw [E_ww.out, UU.out, UV.out, noth_over l0 MPU.out.1 MPU.out.2 KE.out])
      have HT := Lib.hid (Utf8Tabs_below HT.out y)
      have R0 := Lib.hid (R0.out.ext y)
      have R1 := Lib.hid (R1.out.ext y)
      have R2 := Lib.hid (R2.out.ext y)
      have R3 := Lib.hid (R3.out.ext y)
      have HS := Lib.hid (HS.out.ext y)
      have OX := Lib.hid (OX.out.ext y)
      have OY := Lib.hid (OY.out.ext y)
      have OU := Lib.hid (OU.out.ext y)
      have OV := Lib.hid (OV.out.ext y)
      have O_x := Lib.hid (O_x.out.ext y)
      have O_y := Lib.hid (O_y.out.ext y)
      have O_ww := Lib.hid (O_ww.out.ext y)
      replace hx := ext_trans hx y
      clear y
      go_wp2_with (go_at_call 27; refine Hid.out ?_)
      refine Lib.hid ?_
      refine (of16D OV.out HV.out ZX.out.2.2.2).mono ?_
      rintro e wn ⟨A7, c7, zf, rfl, h_1, o_1, y⟩
      have HT := Lib.hid (Utf8Tabs_below HT.out y)
      have R0 := Lib.hid (R0.out.ext y)
      have R1 := Lib.hid (R1.out.ext y)
      have R2 := Lib.hid (R2.out.ext y)
      have R3 := Lib.hid (R3.out.ext y)
      have HS := Lib.hid (HS.out.ext y)
      have OX := Lib.hid (OX.out.ext y)
      have OY := Lib.hid (OY.out.ext y)
      have OU := Lib.hid (OU.out.ext y)
      have OV := Lib.hid (OV.out.ext y)
      have O_x := Lib.hid (O_x.out.ext y)
      have O_y := Lib.hid (O_y.out.ext y)
      have O_ww := Lib.hid (O_ww.out.ext y)
      replace hx := ext_trans hx y
      have E_zf := Lib.hid h_1
      have O_zf := Lib.hid o_1
      clear h_1 o_1
      clear y
      go_wp2_with (go_at_call 26; refine Hid.out ?_)
      refine Lib.hid ?_
      refine (same15D O_ww.out.at_ O_zf.out.at_ (decide_eq_true (E_ww2.out.trans (by rw [E_zf.out, UV.out])))).mono ?_
      rintro e wn ⟨rfl, y⟩
      have HT := Lib.hid (Utf8Tabs_below HT.out y)
      have R0 := Lib.hid (R0.out.ext y)
      have R1 := Lib.hid (R1.out.ext y)
      have R2 := Lib.hid (R2.out.ext y)
      have R3 := Lib.hid (R3.out.ext y)
      have HS := Lib.hid (HS.out.ext y)
      have OX := Lib.hid (OX.out.ext y)
      have OY := Lib.hid (OY.out.ext y)
      have OU := Lib.hid (OU.out.ext y)
      have OV := Lib.hid (OV.out.ext y)
      have O_x := Lib.hid (O_x.out.ext y)
      have O_y := Lib.hid (O_y.out.ext y)
      have O_ww := Lib.hid (O_ww.out.ext y)
      have O_zf := Lib.hid (O_zf.out.ext y)
      replace hx := ext_trans hx y
      clear y
      go_wp2_with (go_at_call 23; refine Hid.out ?_)
      refine Lib.hid ?_
      refine (known20_any _ HT.out).mono ?_
      rintro e w2 ⟨rfl, y⟩
      replace hx := ext_trans hx y
      go_wp2_with (fail)
      go_ret
      exact ⟨rfl, hx⟩
  obtain ⟨u1, hu1⟩ : ∃ u, wn.alloc (.cells #[.int .u8 2, .int .i64 0, .slice A1 l1.length c1, .slice none 0 0, .slice none 0 0] 40) = u := ⟨_, rfl⟩
  have y := ext_alloc wn (.cells #[.int .u8 2, .int .i64 0, .slice A1 l1.length c1, .slice none 0 0, .slice none 0 0] 40)
  have OX := Lib.hid (op_lit wn (⟨opI l1 [], A1, c1, none, 0, none, 0⟩ : OpS) (b := wn.heap.size) rfl (cs := #[.int .u8 2, .int .i64 0, .slice A1 l1.length c1, .slice none 0 0, .slice none 0 0]) rfl ⟨R1.out, Rd.nil, Rd.nil⟩ ⟨fun c hc => (by cases hc), fun c hc => (by cases hc), by have := G0.out; simp only [opI]; omega, Nat.zero_le _, Nat.zero_le _⟩ (by unfold capO maxLen; have := G0.out; simp only [opI, opR, opD, List.length_nil]; unfold maxLen at *; omega))
  rw [hu1] at y OX
  have HT := Lib.hid (Utf8Tabs_below HT.out y)
  have R0 := Lib.hid (R0.out.ext y)
  have R1 := Lib.hid (R1.out.ext y)
  have R2 := Lib.hid (R2.out.ext y)
  have R3 := Lib.hid (R3.out.ext y)
  have HS := Lib.hid (HS.out.ext y)
  replace hx := ext_trans hx y
  clear y
  obtain ⟨u2, hu2⟩ : ∃ u, u1.alloc (.cells #[.int .u8 3, .int .i64 (l1.length : Int), .slice none 0 0, .slice none 0 0, .slice none 0 0] 40) = u := ⟨_, rfl⟩
  have y := ext_alloc u1 (.cells #[.int .u8 3, .int .i64 (l1.length : Int), .slice none 0 0, .slice none 0 0, .slice none 0 0] 40)
  have OY := Lib.hid (op_lit u1 (⟨opD (l1.length : Int), none, 0, none, 0, none, 0⟩ : OpS) (b := u1.heap.size) rfl (cs := #[.int .u8 3, .int .i64 (l1.length : Int), .slice none 0 0, .slice none 0 0, .slice none 0 0]) rfl ⟨Rd.nil, Rd.nil, Rd.nil⟩ (ok_small _ rfl rfl (by simp [opD])) (by unfold capO maxLen; have := G0.out; simp only [opI, opR, opD, List.length_nil]; unfold maxLen at *; omega))
  rw [hu2] at y OY
  have HT := Lib.hid (Utf8Tabs_below HT.out y)
  have R0 := Lib.hid (R0.out.ext y)
  have R1 := Lib.hid (R1.out.ext y)
  have R2 := Lib.hid (R2.out.ext y)
  have R3 := Lib.hid (R3.out.ext y)
  have HS := Lib.hid (HS.out.ext y)
  have OX := Lib.hid (OX.out.ext y)
  replace hx := ext_trans hx y
  clear y
  obtain ⟨u3, hu3⟩ : ∃ u, u2.alloc (.cells #[.int .u8 1, .int .i64 3, .slice none 0 0, .slice none 0 0, .slice A2 l2.length c2] 40) = u := ⟨_, rfl⟩
  have y := ext_alloc u2 (.cells #[.int .u8 1, .int .i64 3, .slice none 0 0, .slice none 0 0, .slice A2 l2.length c2] 40)
  have OU := Lib.hid (op_lit u2 (⟨opR 3 l2, none, 0, none, 0, A2, c2⟩ : OpS) (b := u2.heap.size) rfl (cs := #[.int .u8 1, .int .i64 3, .slice none 0 0, .slice none 0 0, .slice A2 l2.length c2]) rfl ⟨Rd.nil, Rd.nil, R2.out⟩ ⟨fun c hc => (by cases hc), Q2.out, Nat.zero_le _, Nat.zero_le _, by have := G0.out; simp only [opR]; omega⟩ (by unfold capO maxLen; have := G0.out; simp only [opI, opR, opD, List.length_nil]; unfold maxLen at *; omega))
  rw [hu3] at y OU
  have HT := Lib.hid (Utf8Tabs_below HT.out y)
  have R0 := Lib.hid (R0.out.ext y)
  have R1 := Lib.hid (R1.out.ext y)
  have R2 := Lib.hid (R2.out.ext y)
  have R3 := Lib.hid (R3.out.ext y)
  have HS := Lib.hid (HS.out.ext y)
  have OX := Lib.hid (OX.out.ext y)
  have OY := Lib.hid (OY.out.ext y)
  replace hx := ext_trans hx y
  clear y
  obtain ⟨u4, hu4⟩ : ∃ u, u3.alloc (.cells #[.int .u8 1, .int .i64 3, .slice none 0 0, .slice none 0 0, .slice A3 l3.length c3] 40) = u := ⟨_, rfl⟩
  have y := ext_alloc u3 (.cells #[.int .u8 1, .int .i64 3, .slice none 0 0, .slice none 0 0, .slice A3 l3.length c3] 40)
  have OV := Lib.hid (op_lit u3 (⟨opR 3 l3, none, 0, none, 0, A3, c3⟩ : OpS) (b := u3.heap.size) rfl (cs := #[.int .u8 1, .int .i64 3, .slice none 0 0, .slice none 0 0, .slice A3 l3.length c3]) rfl ⟨Rd.nil, Rd.nil, R3.out⟩ ⟨fun c hc => (by cases hc), Q3.out, Nat.zero_le _, Nat.zero_le _, by have := G0.out; simp only [opR]; omega⟩ (by unfold capO maxLen; have := G0.out; simp only [opI, opR, opD, List.length_nil]; unfold maxLen at *; omega))
  rw [hu4] at y OV
  have HT := Lib.hid (Utf8Tabs_below HT.out y)
  have R0 := Lib.hid (R0.out.ext y)
  have R1 := Lib.hid (R1.out.ext y)
  have R2 := Lib.hid (R2.out.ext y)
  have R3 := Lib.hid (R3.out.ext y)
  have HS := Lib.hid (HS.out.ext y)
  have OX := Lib.hid (OX.out.ext y)
  have OY := Lib.hid (OY.out.ext y)
  have OU := Lib.hid (OU.out.ext y)
  replace hx := ext_trans hx y
  clear y
  go_wp2_with (go_at_call 22; refine Hid.out ?_)
  refine Lib.hid ?_
  have HXV : ∀ z ∈ [(⟨opI l1 [], A1, c1, none, 0, none, 0⟩ : OpS)], okVa z.o.s ∧ okVs z.o.p := (fun z hz => by
    rw [List.mem_singleton] at hz; subst hz; exact ⟨fun c hc => (by cases hc), fun c hc => by cases hc⟩)
  have HUV : ∀ z ∈ [(⟨opR 3 l2, none, 0, none, 0, A2, c2⟩ : OpS)], okVa z.o.s ∧ okVs z.o.p := (fun z hz => by
    rw [List.mem_singleton] at hz; subst hz; exact ⟨fun c hc => (by cases hc), Q2.out⟩)
  have HVV : ∀ z ∈ [(⟨opR 3 l3, none, 0, none, 0, A3, c3⟩ : OpS)], okVa z.o.s ∧ okVs z.o.p := (fun z hz => by
    rw [List.mem_singleton] at hz; subst hz; exact ⟨fun c hc => (by cases hc), Q3.out⟩)
  obtain ⟨m, hm⟩ : ∃ X, mayO l0 [(⟨opI l1 [], A1, c1, none, 0, none, 0⟩ : OpS)] = X := ⟨_, rfl⟩
  have HX := Lib.hid hm
  clear hm
  refine (mayKeysW N0.out R0.out (by have := G0.out; omega) OX.out.at_ (HXV) HT.out HX.out).mono ?_
  rintro e wn ⟨rfl, y⟩
  have HT := Lib.hid (Utf8Tabs_below HT.out y)
  have R0 := Lib.hid (R0.out.ext y)
  have R1 := Lib.hid (R1.out.ext y)
  have R2 := Lib.hid (R2.out.ext y)
  have R3 := Lib.hid (R3.out.ext y)
  have HS := Lib.hid (HS.out.ext y)
  have OX := Lib.hid (OX.out.ext y)
  have OY := Lib.hid (OY.out.ext y)
  have OU := Lib.hid (OU.out.ext y)
  have OV := Lib.hid (OV.out.ext y)
  replace hx := ext_trans hx y
  clear y
  by_cases h0 : m = 0
  rotate_left
  · skip
    have h0' : (m == 0) = false := beq_eq_false_iff_ne.2 h0
    have h0'' : (m != 0) = true := by rw [bne, h0']; rfl
    clear h0 HX
    go_wp2_with (go_at_call 23; refine Hid.out ?_)
    refine Lib.hid ?_
    refine (known20_any _ HT.out).mono ?_
    rintro e w2 ⟨rfl, y⟩
    replace hx := ext_trans hx y
    go_wp2_with (fail)
    go_ret
    exact ⟨rfl, hx⟩
  subst h0
  obtain ⟨m, hm⟩ : ∃ X, mayO l0 [(⟨opR 3 l2, none, 0, none, 0, A2, c2⟩ : OpS)] = X := ⟨_, rfl⟩
  have HU := Lib.hid hm
  clear hm
  go_wp2_with (go_at_call 22; refine Hid.out ?_)
  refine Lib.hid ?_
  refine (mayKeysW N0.out R0.out (by have := G0.out; omega) OU.out.at_ (HUV) HT.out HU.out).mono ?_
  rintro e wn ⟨rfl, y⟩
  have HT := Lib.hid (Utf8Tabs_below HT.out y)
  have R0 := Lib.hid (R0.out.ext y)
  have R1 := Lib.hid (R1.out.ext y)
  have R2 := Lib.hid (R2.out.ext y)
  have R3 := Lib.hid (R3.out.ext y)
  have HS := Lib.hid (HS.out.ext y)
  have OX := Lib.hid (OX.out.ext y)
  have OY := Lib.hid (OY.out.ext y)
  have OU := Lib.hid (OU.out.ext y)
  have OV := Lib.hid (OV.out.ext y)
  replace hx := ext_trans hx y
  clear y
  by_cases h0 : m = 0
  rotate_left
  · skip
    have h0' : (m == 0) = false := beq_eq_false_iff_ne.2 h0
    have h0'' : (m != 0) = true := by rw [bne, h0']; rfl
    clear h0 HU
    go_wp2_with (go_at_call 23; refine Hid.out ?_)
    refine Lib.hid ?_
    refine (known20_any _ HT.out).mono ?_
    rintro e w2 ⟨rfl, y⟩
    replace hx := ext_trans hx y
    go_wp2_with (fail)
    go_ret
    exact ⟨rfl, hx⟩
  subst h0
  obtain ⟨m, hm⟩ : ∃ X, mayO l0 [(⟨opR 3 l3, none, 0, none, 0, A3, c3⟩ : OpS)] = X := ⟨_, rfl⟩
  have HV := Lib.hid hm
  clear hm
  go_wp2_with (go_at_call 22; refine Hid.out ?_)
  refine Lib.hid ?_
  refine (mayKeysW N0.out R0.out (by have := G0.out; omega) OV.out.at_ (HVV) HT.out HV.out).mono ?_
  rintro e wn ⟨rfl, y⟩
  have HT := Lib.hid (Utf8Tabs_below HT.out y)
  have R0 := Lib.hid (R0.out.ext y)
  have R1 := Lib.hid (R1.out.ext y)
  have R2 := Lib.hid (R2.out.ext y)
  have R3 := Lib.hid (R3.out.ext y)
  have HS := Lib.hid (HS.out.ext y)
  have OX := Lib.hid (OX.out.ext y)
  have OY := Lib.hid (OY.out.ext y)
  have OU := Lib.hid (OU.out.ext y)
  have OV := Lib.hid (OV.out.ext y)
  replace hx := ext_trans hx y
  clear y
  by_cases h0 : m = 0
  rotate_left
  · skip
    have h0' : (m == 0) = false := beq_eq_false_iff_ne.2 h0
    have h0'' : (m != 0) = true := by rw [bne, h0']; rfl
    clear h0 HV
    go_wp2_with (go_at_call 23; refine Hid.out ?_)
    refine Lib.hid ?_
    refine (known20_any _ HT.out).mono ?_
    rintro e w2 ⟨rfl, y⟩
    replace hx := ext_trans hx y
    go_wp2_with (fail)
    go_ret
    exact ⟨rfl, hx⟩
  subst h0
  clear HXV HUV HVV
  have K0 : Hid (k0 = 0) := Lib.hid (by omega)
  have UX : Hid (units (osOf [(⟨opI l1 [], A1, c1, none, 0, none, 0⟩ : OpS)]) = List.replicate k0 (.ret []) ++ l1.map (fun r => Un.ins r [])) := Lib.hid (by rw [K0.out]; show unitsO (opI l1 []) ++ [] = _; rw [uI, List.append_nil]; rfl)
  have UY : Hid (units (osOf [(⟨opD (l1.length : Int), none, 0, none, 0, none, 0⟩ : OpS)]) = List.replicate k0 (.ret []) ++ List.replicate l1.length .del) := Lib.hid (by rw [K0.out]; show unitsO (opD (l1.length : Int)) ++ [] = _; rw [uD, List.append_nil]; rfl)
  have UU : Hid (units (osOf [(⟨opR 3 l2, none, 0, none, 0, A2, c2⟩ : OpS)]) = List.replicate 3 (.ret l2)) := Lib.hid rfl
  have UV : Hid (units (osOf [(⟨opR 3 l3, none, 0, none, 0, A3, c3⟩ : OpS)]) = List.replicate 3 (.ret l3)) := Lib.hid rfl
  have CE : Hid (compU l0 (units (osOf [(⟨opI l1 [], A1, c1, none, 0, none, 0⟩ : OpS)])) (units (osOf [(⟨opD (l1.length : Int), none, 0, none, 0, none, 0⟩ : OpS)])) = List.replicate k0 (.ret [])) := Lib.hid (by rw [UX.out, UY.out]; exact noth_gone l0 k0 l1)
  have MPU : Hid (mayP l0 l2 = 0 ∧ mayP l0 l3 = 0) := Lib.hid (by
    have h1 := good_mU (mayO_zero HU.out).1
    have h2 := good_mU (mayO_zero HV.out).1
    rw [UU.out] at h1
    rw [UV.out] at h2
    exact ⟨h1 (.ret l2) (by simp), h2 (.ret l3) (by simp)⟩)
  have MY : Hid (mayO l0 [(⟨opD (l1.length : Int), none, 0, none, 0, none, 0⟩ : OpS)] = 0) := Lib.hid (units_mayO (by simp) (fun z hz => by
    rw [List.mem_singleton] at hz; subst hz; exact .inr (.inl ⟨rfl, by show (1 : Int) ≤ (l1.length : Int); have := G0.out; omega, rfl, rfl, rfl⟩)) (by
    rw [UY.out]
    intro u hu
    rcases List.mem_append.1 hu with hu | hu
    · rw [(List.mem_replicate.1 hu).2]; exact mayP_nil l0
    · rw [(List.mem_replicate.1 hu).2]; trivial) (by rw [UY.out, takes_ret, takesU_del]; have := G0.out; omega) (by rw [UY.out, makes_ret, makesU_del]; have := G0.out; omega))
  have SZC : Hid (takesU (compU l0 (units (osOf [(⟨opI l1 [], A1, c1, none, 0, none, 0⟩ : OpS)])) (units (osOf [(⟨opD (l1.length : Int), none, 0, none, 0, none, 0⟩ : OpS)]))) ≤ 536870912 ∧ makesU (compU l0 (units (osOf [(⟨opI l1 [], A1, c1, none, 0, none, 0⟩ : OpS)])) (units (osOf [(⟨opD (l1.length : Int), none, 0, none, 0, none, 0⟩ : OpS)]))) ≤ 536870912) := Lib.hid (by
    rw [CE.out]
    have h1 := takes_ret k0 [] []
    have h2 := makes_ret k0 [] []
    rw [List.append_nil] at h1 h2
    rw [h1, h2]
    have := G0.out
    exact ⟨by show k0 + 0 ≤ _; omega, by show k0 + 0 ≤ _; omega⟩)
  have SZU : Hid (takesU (compU l0 (units (osOf [(⟨opR 3 l2, none, 0, none, 0, A2, c2⟩ : OpS)])) (units (osOf [(⟨opR 3 l3, none, 0, none, 0, A3, c3⟩ : OpS)]))) ≤ 536870912 ∧ makesU (compU l0 (units (osOf [(⟨opR 3 l2, none, 0, none, 0, A2, c2⟩ : OpS)])) (units (osOf [(⟨opR 3 l3, none, 0, none, 0, A3, c3⟩ : OpS)]))) ≤ 536870912) := Lib.hid (by
    obtain ⟨h1, h2⟩ := comp_size l0 (units (osOf [(⟨opR 3 l3, none, 0, none, 0, A3, c3⟩ : OpS)])) (units (osOf [(⟨opR 3 l2, none, 0, none, 0, A2, c2⟩ : OpS)]))
    have t : ∀ q : List Ch, takesU (List.replicate 3 (.ret q)) = 3 ∧ makesU (List.replicate 3 (.ret q)) = 3 := fun q => ⟨rfl, rfl⟩
    rw [h1, h2, UU.out, UV.out, (t l2).1, (t l2).2, (t l3).1, (t l3).2]
    exact ⟨by decide, by decide⟩)
  have ZX : Hid (szN [(⟨opI l1 [], A1, c1, none, 0, none, 0⟩ : OpS)] ≤ 200000 ∧ szN [(⟨opD (l1.length : Int), none, 0, none, 0, none, 0⟩ : OpS)] ≤ 200000 ∧ szN [(⟨opR 3 l2, none, 0, none, 0, A2, c2⟩ : OpS)] ≤ 200000 ∧ szN [(⟨opR 3 l3, none, 0, none, 0, A3, c3⟩ : OpS)] ≤ 200000) := Lib.hid (by
    have := G0.out
    refine ⟨?_, ?_, ?_, ?_⟩ <;> simp only [szN, List.map_cons, List.map_nil, List.sum_cons, List.sum_nil, opI, opR, opD, List.length_nil] <;> omega)
  go_wp2_with (go_at_call 25; refine Hid.out ?_)
  refine Lib.hid ?_
  refine (composeOk_any s l0 _ _ _ _ _ _ [(⟨opI l1 [], A1, c1, none, 0, none, 0⟩ : OpS)] [(⟨opD (l1.length : Int), none, 0, none, 0, none, 0⟩ : OpS)] _ OX.out OY.out HS.out H64.out HT.out HX.out MY.out ZX.out.1 ZX.out.2.1 SZC.out.1 SZC.out.2).mono ?_
  rintro e wn ⟨A5, c5, z, rfl, h_1, o_1, y⟩
  have HT := Lib.hid (Utf8Tabs_below HT.out y)
  have R0 := Lib.hid (R0.out.ext y)
  have R1 := Lib.hid (R1.out.ext y)
  have R2 := Lib.hid (R2.out.ext y)
  have R3 := Lib.hid (R3.out.ext y)
  have HS := Lib.hid (HS.out.ext y)
  have OX := Lib.hid (OX.out.ext y)
  have OY := Lib.hid (OY.out.ext y)
  have OU := Lib.hid (OU.out.ext y)
  have OV := Lib.hid (OV.out.ext y)
  replace hx := ext_trans hx y
  have E_z : Hid (osOf z = mkU (List.replicate k0 (.ret []))) := Lib.hid (by rw [h_1]; exact (by rw [CE.out]))
  have O_z := Lib.hid o_1
  clear h_1 o_1
  clear y
  have EZ : z.length = 0 := by
    have h := E_z.out
    rw [mkU_rets0] at h
    have h2 := congrArg List.length h
    unfold osOf at h2
    simpa using h2
  rw [EZ]
  clear O_z EZ
  go_wp2_with (go_at_call 25; refine Hid.out ?_)
  refine Lib.hid ?_
  refine (composeOk_any s l0 _ _ _ _ _ _ [(⟨opR 3 l2, none, 0, none, 0, A2, c2⟩ : OpS)] [(⟨opR 3 l3, none, 0, none, 0, A3, c3⟩ : OpS)] _ OU.out OV.out HS.out H64.out HT.out HU.out HV.out ZX.out.2.2.1 ZX.out.2.2.2 SZU.out.1 SZU.out.2).mono ?_
  rintro e wn ⟨A6, c6, ww, rfl, h_1, o_1, y⟩
  have HT := Lib.hid (Utf8Tabs_below HT.out y)
  have R0 := Lib.hid (R0.out.ext y)
  have R1 := Lib.hid (R1.out.ext y)
  have R2 := Lib.hid (R2.out.ext y)
  have R3 := Lib.hid (R3.out.ext y)
  have HS := Lib.hid (HS.out.ext y)
  have OX := Lib.hid (OX.out.ext y)
  have OY := Lib.hid (OY.out.ext y)
  have OU := Lib.hid (OU.out.ext y)
  have OV := Lib.hid (OV.out.ext y)
  replace hx := ext_trans hx y
  have E_ww := Lib.hid h_1
  have O_ww := Lib.hid o_1
  clear h_1 o_1
  clear y
  by_cases hll : l2.length = l3.length
  rotate_left
  · have hll' : ((l2.length : Int) == (l3.length : Int)) = false := beq_eq_false_iff_ne.2 (by omega)
    have hll'' : ((l2.length : Int) != (l3.length : Int)) = true := by rw [bne, hll']; rfl
    go_wp2_with (go_at_call 23; refine Hid.out ?_)
    refine Lib.hid ?_
    refine (known20_any _ HT.out).mono ?_
    rintro e w2 ⟨rfl, y⟩
    replace hx := ext_trans hx y
    go_wp2_with (fail)
    go_ret
    exact ⟨rfl, hx⟩
  have hll' : ((l2.length : Int) != (l3.length : Int)) = false := by rw [hll]; exact bne_self_eq_false _
  have HLL := Lib.hid hll
  clear hll
  go_wp2_with (fail)
  go_loopg [136] l2.length (fun g iv wr => ∃ i : Nat, i ≤ l2.length ∧ g = l2.length - i ∧ iv = .int .i64 (i : Int) ∧ Hid (Below wn.heap.size wn wr) ∧ Hid (∀ j, j < i → (l2.map (·.key))[j]? = (l3.map (·.key))[j]?))
  case atStart => exact ⟨0, Nat.zero_le _, rfl, rfl, Lib.hid (Below.refl _ _), Lib.hid (fun j hj => absurd hj (Nat.not_lt_zero _))⟩
  case round =>
    obtain ⟨i, hi, hg, rfl, HY, HK⟩ := hrel
    have HG := Lib.hid hg
    clear hg
    by_cases hlt : i < l2.length
    · skip
      have hlt' : (i : Int) < (l2.length : Int) := by omega
      have hlt2 : i < l3.length := by have := HLL.out; omega
      have hlt2' : (i : Int) < (l3.length : Int) := by omega
      obtain ⟨ad, x1, hA2, _, _, hx1, hc1⟩ := (R2.out.ext HY.out).el hlt
      obtain ⟨ae, x2, hA3, _, _, hx2, hc2⟩ := (R3.out.ext HY.out).el hlt2
      have HX1 := Lib.hid hx1
      have HX2 := Lib.hid hx2
      obtain ⟨k1, g1, ⟨a1, b1, f1, s1⟩⟩ := x1
      obtain ⟨k2, g2, ⟨a2, b2, f2, s2⟩⟩ := x2
      obtain ⟨q0, -⟩ := ch_cells hc1
      obtain ⟨t0, -⟩ := ch_cells hc2
      have hw2 : IntKind.i64.wrap ((i : Int) + 1) = (i : Int) + 1 := IntWalk.i64_in _ (by have := G0.out; omega)
      clear hx1 hx2 hc1 hc2
      rw [hA2, hA3]
      by_cases hke : k1 = k2
      rotate_left
      · skip
        have hke' : (k1 == k2) = false := beq_eq_false_iff_ne.2 hke
        have hke'' : (k1 != k2) = true := by rw [bne, hke']; rfl
        go_wp2_with (fail)
        go_quiet (fail)
        have y := HY.out.trans ((ext_drew _ nq).mono HY.out.size)
        generalize wr.drewN nq = wq at *
        have HT := Lib.hid (Utf8Tabs_below HT.out y)
        have R0 := Lib.hid (R0.out.ext y)
        have R1 := Lib.hid (R1.out.ext y)
        have R2 := Lib.hid (R2.out.ext y)
        have R3 := Lib.hid (R3.out.ext y)
        have HS := Lib.hid (HS.out.ext y)
        have OX := Lib.hid (OX.out.ext y)
        have OY := Lib.hid (OY.out.ext y)
        have OU := Lib.hid (OU.out.ext y)
        have OV := Lib.hid (OV.out.ext y)
        have O_ww := Lib.hid (O_ww.out.ext y)
        replace hx := ext_trans hx y
        clear y
        go_wp2_with (go_at_call 23; refine Hid.out ?_)
        refine Lib.hid ?_
        refine (known20_any _ HT.out).mono ?_
        rintro e w2 ⟨rfl, y⟩
        replace hx := ext_trans hx y
        go_wp2_with (fail)
        go_ret
        exact ⟨rfl, hx⟩
      subst hke
      have hke' : (k1 != k1) = false := bne_self_eq_false _
      go_wp2_with (fail)
      go_quiet (fail)
      go_wp2_with (fail)
      rw [← hA2, ← hA3]
      go_roundg (l2.length - (i + 1))
      case measure => have h9 := HG.out; clear hw2; omega
      case rel => exact ⟨i + 1, by clear hw2; omega, rfl, rfl, Lib.hid (HY.out.trans ((ext_drew _ nq).mono HY.out.size)), Lib.hid (fun j hj => by
        by_cases hj2 : j = i
        · subst hj2; rw [List.getElem?_map, List.getElem?_map, HX1.out, HX2.out]; rfl
        · exact HK.out j (by omega))⟩
    have hlt' : ¬ ((i : Int) < (l2.length : Int)) := by omega
    have KE : Hid (l2.map (·.key) = l3.map (·.key)) := Lib.hid (List.ext_getElem? fun j => by
      by_cases hj : j < i
      · exact HK.out j hj
      · rw [List.getElem?_eq_none (by rw [List.length_map]; omega), List.getElem?_eq_none (by rw [List.length_map]; have := HLL.out; omega)])
    have y := HY.out
    have E_ww2 : Hid (osOf ww = mkU (List.replicate 3 (.ret l3))) := Lib.hid (by rw [E_ww.out, UU.out, UV.out, noth_over l0 MPU.out.1 MPU.out.2 KE.out])
    have HT := Lib.hid (Utf8Tabs_below HT.out y)
    have R0 := Lib.hid (R0.out.ext y)
    have R1 := Lib.hid (R1.out.ext y)
    have R2 := Lib.hid (R2.out.ext y)
    have R3 := Lib.hid (R3.out.ext y)
    have HS := Lib.hid (HS.out.ext y)
    have OX := Lib.hid (OX.out.ext y)
    have OY := Lib.hid (OY.out.ext y)
    have OU := Lib.hid (OU.out.ext y)
    have OV := Lib.hid (OV.out.ext y)
    have O_ww := Lib.hid (O_ww.out.ext y)
    replace hx := ext_trans hx y
    clear y
    go_wp2_with (go_at_call 27; refine Hid.out ?_)
    refine Lib.hid ?_
    refine (of16D OV.out HV.out ZX.out.2.2.2).mono ?_
    rintro e wn ⟨A7, c7, zf, rfl, h_1, o_1, y⟩
    have HT := Lib.hid (Utf8Tabs_below HT.out y)
    have R0 := Lib.hid (R0.out.ext y)
    have R1 := Lib.hid (R1.out.ext y)
    have R2 := Lib.hid (R2.out.ext y)
    have R3 := Lib.hid (R3.out.ext y)
    have HS := Lib.hid (HS.out.ext y)
    have OX := Lib.hid (OX.out.ext y)
    have OY := Lib.hid (OY.out.ext y)
    have OU := Lib.hid (OU.out.ext y)
    have OV := Lib.hid (OV.out.ext y)
    have O_ww := Lib.hid (O_ww.out.ext y)
    replace hx := ext_trans hx y
    have E_zf := Lib.hid h_1
    have O_zf := Lib.hid o_1
    clear h_1 o_1
    clear y
    go_wp2_with (go_at_call 26; refine Hid.out ?_)
    refine Lib.hid ?_
    refine (same15D O_ww.out.at_ O_zf.out.at_ (decide_eq_true (E_ww2.out.trans (by rw [E_zf.out, UV.out])))).mono ?_
    rintro e wn ⟨rfl, y⟩
    have HT := Lib.hid (Utf8Tabs_below HT.out y)
    have R0 := Lib.hid (R0.out.ext y)
    have R1 := Lib.hid (R1.out.ext y)
    have R2 := Lib.hid (R2.out.ext y)
    have R3 := Lib.hid (R3.out.ext y)
    have HS := Lib.hid (HS.out.ext y)
    have OX := Lib.hid (OX.out.ext y)
    have OY := Lib.hid (OY.out.ext y)
    have OU := Lib.hid (OU.out.ext y)
    have OV := Lib.hid (OV.out.ext y)
    have O_ww := Lib.hid (O_ww.out.ext y)
    have O_zf := Lib.hid (O_zf.out.ext y)
    replace hx := ext_trans hx y
    clear y
    go_wp2_with (go_at_call 23; refine Hid.out ?_)
    refine Lib.hid ?_
    refine (known20_any _ HT.out).mono ?_
    rintro e w2 ⟨rfl, y⟩
    replace hx := ext_trans hx y
    go_wp2_with (fail)
    go_ret
    exact ⟨rfl, hx⟩
end Go.Proofs.YtbdkbfoplpociaaGreatDoor
