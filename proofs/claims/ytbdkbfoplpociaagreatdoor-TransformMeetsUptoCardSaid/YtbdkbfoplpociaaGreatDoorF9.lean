/- Merged texts: Great22, WholeLaw, RoundLaw, TransformNothing, TransformPlaces. -/
import Derived.Test.YtbdkbfoplpociaaGreatDoorK36
import Derived.Test.YtbdkbfoplpociaaGreatDoorK33
import Derived.Test.YtbdkbfoplpociaaGreatDoorK2
import Derived.Test.YtbdkbfoplpociaaGreatDoorK32
import Derived.Test.YtbdkbfoplpociaaGreatDoorF1
import Derived.Test.YtbdkbfoplpociaaGreatDoorK31
import Derived.Test.YtbdkbfoplpociaaGreatDoorK30
import Derived.Test.YtbdkbfoplpociaaGreatDoorF8
import Derived.Test.YtbdkbfoplpociaaGreatDoorF6
import Derived.Test.YtbdkbfoplpociaaGreatDoorF5
import Derived.Test.YtbdkbfoplpociaaGreatDoorK35
import Derived.Test.YtbdkbfoplpociaaGreatDoorK34
namespace Go.Proofs.YtbdkbfoplpociaaGreatDoor
open Go.RowKit
set_option linter.unusedVariables false
set_option linter.unusedSimpArgs false

def Great22 (n0 n1 : Nat) (d : List ClS) (L : List SX) (w : World) (e : Ending) (w' : World) : Prop :=
  ∃ b : Bool, e = .returned (.bool b) ∧ (b = false → n0 ≤ 64 ∧ n1 ≤ 400 ∧ (∀ c ∈ d, c.c.s.length ≤ 64) ∧ sumX L ≤ 5000) ∧ ∃ d, w' = w.drewN d
set_option maxRecDepth 100000 in
set_option maxHeartbeats 1600000 in
theorem great22_any (A0 A1 A2 : Option Addr) (n0 c0 n1 c1 n c : Nat) (d : List ClS) (L : List SX) (w : World) (hn : n = L.length) (h : Rd SX.enc 1 w w.heap.size A2 L) (hb : n ≤ 1000) (h0 : n0 ≤ 140737488355328)
    (hs : ∀ s ∈ L, RdOp w w.heap.size s.A s.l ∧ s.l.length ≤ 140737488355328) (hz : sumX L ≤ 9223372036854775807) (hz1 : ∀ s ∈ L, szX s.l ≤ 4611686018427387904)
    (hn1 : n1 = d.length) (h1 : RdCl w w.heap.size A1 d) (b1 : n1 ≤ 140737488355328) (hd : ∀ y ∈ d, y.c.s.length ≤ 140737488355328) :
    Calls Tryz.prog 60 #[.slice A0 n0 c0, .slice A1 n1 c1, .slice A2 n c] w (Great22 n0 n1 d L w) := by
  have N := Lib.hid hn
  have HS := Lib.hid hs
  have HZ := Lib.hid hz
  have HZ1 := Lib.hid hz1
  have N1 := Lib.hid hn1
  have H1 := Lib.hid h1
  have HD := Lib.hid hd
  clear hn hs hz hz1 hn1 h1 hd
  go_enter Tryz.func60, Tryz.ntmps60
  go_wp2_with (fail)
  go_loopg [7, 11] n (fun g av iv wr => ∃ (m a : Nat), m ≤ n ∧ g = n - m ∧ a = sumX (L.take m) ∧ av = .int .i64 (a : Int) ∧ iv = .int .i64 (m : Int) ∧ ∃ d, wr = w.drewN d)
  case atStart => exact ⟨0, 0, by omega, rfl, rfl, rfl, rfl, 0, rfl⟩
  case round =>
    obtain ⟨m, a, hm, hg, ha, rfl, rfl, d3, rfl⟩ := hrel
    have HG := Lib.hid hg
    have HA := Lib.hid ha
    clear hg ha
    by_cases hlt : m < n
    · obtain ⟨ad, z, had0, had, _, hx1, hc0⟩ := h.el (i := m) (by have := N.out; omega)
      subst had0
      obtain ⟨f1, f2⟩ := HS.out z (List.mem_of_getElem? hx1)
      have TK : Hid (sumX (L.take (m + 1)) = a + szX z.l) := Lib.hid (by rw [HA.out]; exact sum_take1 (fun s : SX => szX s.l) hx1)
      have TB : Hid (a + szX z.l ≤ 9223372036854775807) := Lib.hid (by rw [← TK.out]; exact Nat.le_trans (sum_take_le (fun s : SX => szX s.l) L (m + 1)) HZ.out)
      have Z1 := Lib.hid (HZ1.out z (List.mem_of_getElem? hx1))
      obtain ⟨A3, c3, x⟩ := z
      simp only at f1 f2 TK TB Z1
      have q0 : _ = some (Value.slice A3 x.length c3) := hc0 0 _ rfl
      rw [add_zero', Nat.mul_one] at q0
      obtain ⟨n3, hn3⟩ : ∃ n3, n3 = x.length := ⟨_, rfl⟩
      rw [← hn3] at q0 f2
      have N3 := Lib.hid hn3
      have hw2 : IntKind.i64.wrap ((m:Int) + 1) = (m : Int) + 1 := IntWalk.i64_in _ (by omega)
      clear hn3 hx1 hc0
      go_wp2_with (go_at_call 86; refine Hid.out ?_)
      refine Lib.hid ?_
      refine (sizeX2_any A3 n3 c3 x (w.drewN d3) N3.out ⟨f1.1.drewN _, fun q hq => ⟨(f1.2 q hq).1.drewN _, (f1.2 q hq).2.1.drewN _, (f1.2 q hq).2.2.drewN _⟩⟩ f2 (by have := Z1.out; omega)).mono ?_
      obtain ⟨sz, hsz⟩ : ∃ X, szX x = X := ⟨_, rfl⟩
      clear Z1
      rw [hsz] at TK TB ⊢
      rintro e w2 ⟨rfl, d2, rfl⟩
      have hw4 : IntKind.i64.wrap ((a:Int) + (sz : Int)) = (a : Int) + sz := IntWalk.i64_in _ (by have := TB.out; omega)
      clear hsz
      go_wp2_with (fail)
      go_roundg (n - (m + 1))
      case measure => have := HG.out; omega
      case rel => exact ⟨m + 1, a + sz, by omega, rfl, TK.out.symm, by go_num, by go_num, _, (by first | rfl | exact World.drewN_drewN _ _ _)⟩
    · have HA9 : Hid (a = sumX L) := Lib.hid (by have := HA.out; rwa [List.take_of_length_le (by have := N.out; omega)] at this)
      have AB : a ≤ 9223372036854775807 := by rw [HA9.out]; exact HZ.out
      by_cases h64 : (64 : Int) < (n0 : Int)
      · go_wp2_with (fail)
        go_ret
        exact ⟨true, rfl, (by intro h; cases h), _, rfl⟩
      · go_wp2_with (go_at_call 50; refine Hid.out ?_)
        refine Lib.hid ?_
        refine (great18_any A1 n1 c1 d 400 _ N1.out ⟨H1.out.1.drewN _, fun x hx => (H1.out.2 x hx).drewN _⟩ b1 HD.out).mono ?_
        rintro e w1 ⟨g1, rfl, hg1, x1, rfl⟩
        cases g1 with
        | true =>
          clear hg1
          go_wp2_with (fail)
          go_ret
          exact ⟨true, rfl, (by intro h; cases h), _, (by first | exact World.drewN_drewN _ _ _ | rfl)⟩
        | false =>
          have h2 := hg1 rfl
          have H2 := Lib.hid h2
          clear hg1 h2
          go_wp2_with (fail)
          go_ret
          exact ⟨decide ((5000 : Int) < (a : Int)), rfl, fun h5 => ⟨by omega, by have := H2.out.1; omega, H2.out.2, by have := of_decide_eq_false h5; rw [← HA9.out]; omega⟩, _, (by first | exact World.drewN_drewN _ _ _ | rfl)⟩
end Go.Proofs.YtbdkbfoplpociaaGreatDoor
namespace Go.Proofs.YtbdkbfoplpociaaGreatDoor
set_option linter.unusedVariables false
set_option linter.unusedSimpArgs false

theorem fits_down {l : List Ky} {x : List OpS} {n a b : Int} (h : fitsO l x n b = 0) (h2 : n ≤ a) (h3 : longO n x ≤ a) : fitsO l x n a = 0 := by
  obtain ⟨g1, g2, g3, g4, g5, g6, g7⟩ := fits_zero h
  exact zero_fits g1 g2 h2 g4 g5 g6 h3
theorem makes_sz {x : List OpS} (hi : ∀ o ∈ x, isOp o.o) : makesU (units (osOf x)) ≤ szX x + takesU (units (osOf x)) := by
  induction x with
  | nil => exact Nat.zero_le _
  | cons o x ih =>
    have e : units (osOf (o :: x)) = unitsO o.o ++ units (osOf x) := rfl
    have e2 : szX (o :: x) = szO o.o + szX x := rfl
    rw [e, makesU_append, takesU_append, e2]
    have h1 := ih (fun z hz => hi z (List.mem_cons_of_mem _ hz))
    have h2 := makes_small (hi o (by simp))
    unfold szO
    omega
end Go.Proofs.YtbdkbfoplpociaaGreatDoor
namespace Go.Proofs.YtbdkbfoplpociaaGreatDoor
set_option linter.unusedVariables false
set_option linter.unusedSimpArgs false

theorem apply_in {l : List Ky} {x : List OpS} {d : List Cl} {most : Int} (hx : x.length ≤ 1048576) (hz : d.length + szX x ≤ 10000) (h : applyN l x d most = 0) : ∃ N : Nat, In l x d most N := by
  obtain ⟨h1, h2⟩ := applyN_zero h
  obtain ⟨g1, g2, g3, g4, g5, g6, g7⟩ := fits_zero h2
  obtain ⟨m1, m2, m3⟩ := mayO_zero g1
  obtain ⟨s1, s2⟩ := sums_units x (good_isOp m1)
  have ht := takes_sum m1 hx
  have hm := makes_sum m1 hx
  have hl := longO_is (n := (d.length : Int)) m1 hx (by omega) (by omega) m2 m3
  have hs := makes_sz (good_isOp m1)
  rw [hl] at g7
  have hN : applyN l x d ((max d.length (d.length + makesU (units (osOf x)) - takesU (units (osOf x))) : Nat) : Int) = 0 := zero_applyN h1 (fits_down h2 (by omega) (by rw [hl]; omega))
  obtain ⟨hg, hf⟩ := fits_units (most := max d.length (d.length + makesU (units (osOf x)) - takesU (units (osOf x)))) hx (by omega) (applyN_zero hN).2
  have hal := app_len l (units (osOf x)) d hf.t
  have hul := units_length (us := units (osOf x))
  exact ⟨_, by omega, by omega, hN, g1, good_isOp m1, hf, good_mU m1, by omega, by omega, by have := hf.m; omega, h1, by have := hf.t; omega⟩
end Go.Proofs.YtbdkbfoplpociaaGreatDoor
namespace Go.Proofs.YtbdkbfoplpociaaGreatDoor
open Go.RowKit
set_option linter.unusedVariables false
set_option linter.unusedSimpArgs false

set_option maxRecDepth 100000 in
set_option maxHeartbeats 12800000 in
theorem transformNothing_any (A0 A1 : Option Addr) (n0 n1 c0 c1 : Nat) (l0 : List Ky) (l1 : List OpS) (first : Bool) (w : World)
    (e0 : n0 = l0.length) (r0 : RdKy w w.heap.size A0 l0) (b0 : n0 ≤ 1048576)
    (e1 : n1 = l1.length) (r1 : RdOp w w.heap.size A1 l1) (b1 : n1 ≤ 1048576) (k1 : n1 ≤ c1) (m1 : c1 ≤ maxLen) (q1 : ∀ o ∈ l1, okOp o.o) (z1 : szX l1 ≤ 2305850000000000000) (f1 : ∀ o ∈ l1, capO o)
    (hT : Lib.Utf8Tabs 1 2 w) :
    Calls Tryz.prog 11 #[.slice A0 n0 c0, .slice A1 n1 c1, .bool first] w fun e w' => e = .returned (.bool true) ∧ Below w.heap.size w w' := by
  have N0 := Lib.hid e0
  have R0 := Lib.hid r0
  have HT := Lib.hid hT
  have hx := Below.refl w.heap.size w
  have N1 := Lib.hid e1
  have R1 := Lib.hid r1
  have Q1 := Lib.hid q1
  have Z1 := Lib.hid z1
  have F1 := Lib.hid f1
  clear e0 r0 hT e1 r1 q1 z1 f1
  go_enter Tryz.func11, Tryz.ntmps11
  have ra : Rd SX.enc 1 _ _ _ [⟨A1, c1, l1⟩] := Rd.new (enc := SX.enc) (size := 1) (fun _ => rfl) w 23 [⟨A1, c1, l1⟩] (cs := #[.slice A1 n1 c1]) (by simp [SX.enc, ← N1.out]) rfl
  have y := ext_alloc w (.cells #[.slice A1 n1 c1] 23)
  have R0 := Lib.hid (R0.out.ext y)
  have HT := Lib.hid (Utf8Tabs_below HT.out y)
  have R1 := Lib.hid (R1.out.ext y)
  replace hx := ext_trans hx y
  clear y
  go_wp2_with (go_at_call 60; refine Hid.out ?_)
  refine Lib.hid ?_
  refine (great22_any A0 none (some ⟨w.heap.size, 0, none⟩) n0 c0 0 0 1 1 [] [⟨A1, c1, l1⟩] _ rfl ra (by omega) (by omega) (fun x hx => by
    simp only [List.mem_cons, List.not_mem_nil, or_false] at hx
    subst hx
    exact ⟨R1.out, by have := N1.out; simp only; omega⟩) (by simp only [sumX, List.map_cons, List.map_nil, List.sum_cons, List.sum_nil]; have := Z1.out; omega) (fun x hx => by
    simp only [List.mem_cons, List.not_mem_nil, or_false] at hx
    subst hx
    have := Z1.out; simp only; omega) rfl ⟨Rd.nil, fun z hz => by cases hz⟩ (by omega) (fun z hz => by cases hz)).mono ?_
  rintro e wn ⟨gb, rfl, h1, dr, hd⟩
  have y := drew_ext hd
  clear hd ra
  have R0 := Lib.hid (R0.out.ext y)
  have HT := Lib.hid (Utf8Tabs_below HT.out y)
  have R1 := Lib.hid (R1.out.ext y)
  replace hx := ext_trans hx y
  clear y
  cases gb
  case true =>
    clear h1
    go_wp2_with (go_at_call 61; refine Hid.out ?_)
    refine Lib.hid ?_
    refine (known22_any _ HT.out).mono ?_
    rintro e w2 ⟨rfl, y⟩
    replace hx := ext_trans hx y
    go_wp2_with (fail)
    go_ret
    exact ⟨rfl, hx⟩
  have h2 := h1 rfl
  have G0 := Lib.hid h2.1
  have SZ : Hid (szX l1 ≤ 5000) := Lib.hid (by have h3 := h2.2.2.2; simp only [sumX, List.map_cons, List.map_nil, List.sum_cons, List.sum_nil] at h3; omega)
  clear h1 h2
  have LX1 : Hid (l1.length ≤ 5000) := Lib.hid (by have := szX_len l1; have := SZ.out; omega)
  have O1 : Hid (OpsC _ A1 n1 c1 l1) := Lib.hid ⟨⟨R1.out, N1.out, Q1.out, by have := LX1.out; have := N1.out; omega⟩, k1, m1, F1.out⟩
  obtain ⟨m, hm⟩ : ∃ X, mayO l0 l1 = X := ⟨_, rfl⟩
  have HM := Lib.hid hm
  clear hm
  go_wp2_with (go_at_call 22; refine Hid.out ?_)
  refine Lib.hid ?_
  refine (mayKeysD N0.out R0.out (by omega) O1.out.at_ (by have := SZ.out; omega) HT.out HM.out).mono ?_
  rintro e wn ⟨rfl, y⟩
  have R0 := Lib.hid (R0.out.ext y)
  have HT := Lib.hid (Utf8Tabs_below HT.out y)
  have O1 := Lib.hid (O1.out.ext y)
  replace hx := ext_trans hx y
  clear y
  by_cases h0 : m = 0
  rotate_left
  · skip
    have h0' : (m == 0) = false := beq_eq_false_iff_ne.2 h0
    have h0'' : (m != 0) = true := by rw [bne, h0']; rfl
    clear h0 HM
    go_wp2_with (go_at_call 61; refine Hid.out ?_)
    refine Lib.hid ?_
    refine (known22_any _ HT.out).mono ?_
    rintro e w2 ⟨rfl, y⟩
    replace hx := ext_trans hx y
    go_wp2_with (fail)
    go_ret
    exact ⟨rfl, hx⟩
  subst h0
  go_wp2_with (go_at_call 24; refine Hid.out ?_)
  refine Lib.hid ?_
  refine (new_any A0 n0 c0 l0 _ N0.out R0.out (by omega)).mono ?_
  rintro e wn ⟨y, ⟨hm, s, rfl, hS⟩ | ⟨hm, rfl⟩⟩
  all_goals
    have R0 := Lib.hid (R0.out.ext y)
    have HT := Lib.hid (Utf8Tabs_below HT.out y)
    have O1 := Lib.hid (O1.out.ext y)
    replace hx := ext_trans hx y
    clear y hm
  rotate_left
  · skip
    go_wp2_with (go_at_call 61; refine Hid.out ?_)
    refine Lib.hid ?_
    refine (known22_any _ HT.out).mono ?_
    rintro e w2 ⟨rfl, y⟩
    replace hx := ext_trans hx y
    go_wp2_with (fail)
    go_ret
    exact ⟨rfl, hx⟩
  have HS := Lib.hid hS
  clear hS
  have H64 : Hid (l0.length ≤ 64) := Lib.hid (by have := N0.out; have := G0.out; omega)
  have TM1 : Hid (takesU (units (osOf l1)) ≤ 536870912 ∧ makesU (units (osOf l1)) ≤ 536870912) := Lib.hid (by
    obtain ⟨g, t, m⟩ := mayO_zero HM.out
    obtain ⟨s1, s2⟩ := sums_units l1 (good_isOp g)
    rw [takes_sum g (by have := LX1.out; omega)] at t
    rw [makes_sum g (by have := LX1.out; omega)] at m
    omega)
  have I1 : Hid (∀ o ∈ l1, isOp o.o) := Lib.hid (good_isOp (mayO_zero HM.out).1)
  have MU1 : Hid (∀ u ∈ units (osOf l1), mU l0 u) := Lib.hid (good_mU (mayO_zero HM.out).1)
  have UL_l1 : Hid ((units (osOf l1)).length ≤ 4000000000) := Lib.hid (by have h := units_length (us := units (osOf l1)); have := TM1.out; omega)
  have ZN1 : Hid (szN l1 ≤ 50000) := Lib.hid (by have := szN_le l1; have := SZ.out; omega)
  have M0 : Hid (mayO l0 [] = 0) := Lib.hid rfl
  have Z0 : Hid (szN [] ≤ 50000) := Lib.hid (by decide)
  have T1 : Hid (mkU (traU first (nf (units (osOf []))) (nf (units (osOf l1)))) = mkU (units (osOf l1))) := Lib.hid (by rw [show nf (units (osOf [])) = [] from rfl, tra_none, mkU_nf])
  have T2 : Hid (mkU (traU first (nf (units (osOf l1))) (nf (units (osOf [])))) = []) := Lib.hid (by rw [show nf (units (osOf [])) = [] from rfl, traU_nil]; rfl)
  have S1 : Hid (takesU (traU first (nf (units (osOf []))) (nf (units (osOf l1)))) ≤ 536870912 ∧ makesU (traU first (nf (units (osOf []))) (nf (units (osOf l1)))) ≤ 536870912) := Lib.hid (by rw [show nf (units (osOf [])) = [] from rfl, tra_none]; have h1 := nf_takes (units (osOf l1)); have h2 := nf_makes (units (osOf l1)); have := TM1.out; omega)
  have S2 : Hid (takesU (traU first (nf (units (osOf l1))) (nf (units (osOf [])))) ≤ 536870912 ∧ makesU (traU first (nf (units (osOf l1))) (nf (units (osOf [])))) ≤ 536870912) := Lib.hid (by rw [show nf (units (osOf [])) = [] from rfl, traU_nil]; exact ⟨Nat.zero_le _, Nat.zero_le _⟩)
  go_wp2_with (go_at_call 62; refine Hid.out ?_)
  refine Lib.hid ?_
  refine (transformOk_any s l0 _ _ _ _ _ _ [] l1 first _ (OpsC.nil _) O1.out HS.out H64.out HT.out M0.out HM.out Z0.out ZN1.out S1.out.1 S1.out.2).mono ?_
  rintro e wn ⟨A5, c5, x, rfl, h_1, o_1, y⟩
  have HT := Lib.hid (Utf8Tabs_below HT.out y)
  have O1 := Lib.hid (O1.out.ext y)
  have HS := Lib.hid (HS.out.ext y)
  replace hx := ext_trans hx y
  have E_x : Hid (osOf x = mkU (units (osOf l1))) := Lib.hid (h_1.trans T1.out)
  have O_x := Lib.hid o_1
  clear h_1 o_1
  clear y
  go_wp2_with (go_at_call 62; refine Hid.out ?_)
  refine Lib.hid ?_
  refine (transformOk_any s l0 _ _ _ _ _ _ l1 [] first _ O1.out (OpsC.nil _) HS.out H64.out HT.out HM.out M0.out ZN1.out Z0.out S2.out.1 S2.out.2).mono ?_
  rintro e wn ⟨A6, c6, yy, rfl, h_1, o_1, y⟩
  have HT := Lib.hid (Utf8Tabs_below HT.out y)
  have O1 := Lib.hid (O1.out.ext y)
  have HS := Lib.hid (HS.out.ext y)
  have O_x := Lib.hid (O_x.out.ext y)
  replace hx := ext_trans hx y
  have E_yy : yy = [] := by
    have := h_1.trans T2.out
    unfold osOf at this
    simpa using this
  clear h_1 o_1
  subst E_yy
  clear y
  go_wp2_with (go_at_call 67; refine Hid.out ?_)
  refine Lib.hid ?_
  refine (normDoc O1.out.at_ I1.out (by have := szN_le l1; have := SZ.out; omega) (fun o ho => by have h1 := szX_mem ho; unfold szO at h1; have := SZ.out; omega) UL_l1.out).mono ?_
  rintro e wn ⟨A7, c7, nz, rfl, h_1, o_1, y⟩
  have HT := Lib.hid (Utf8Tabs_below HT.out y)
  have O1 := Lib.hid (O1.out.ext y)
  have HS := Lib.hid (HS.out.ext y)
  have O_x := Lib.hid (O_x.out.ext y)
  replace hx := ext_trans hx y
  have E_nz := Lib.hid h_1
  have O_nz := Lib.hid o_1
  clear h_1 o_1
  clear y
  go_wp2_with (go_at_call 26; refine Hid.out ?_)
  refine Lib.hid ?_
  refine (same15D O_x.out.at_ O_nz.out (decide_eq_true (E_x.out.trans E_nz.out.symm))).mono ?_
  rintro e wn ⟨rfl, y⟩
  have HT := Lib.hid (Utf8Tabs_below HT.out y)
  have O1 := Lib.hid (O1.out.ext y)
  have HS := Lib.hid (HS.out.ext y)
  have O_x := Lib.hid (O_x.out.ext y)
  have O_nz := Lib.hid (O_nz.out.ext y)
  replace hx := ext_trans hx y
  clear y
  go_wp2_with (go_at_call 62; refine Hid.out ?_)
  refine Lib.hid ?_
  refine (transformAll_any s l0 _ _ _ _ _ _ l1 l1 first _ O1.out O1.out HS.out H64.out HT.out HM.out HM.out ZN1.out ZN1.out).mono ?_
  rintro e wn ⟨z, hz, y, hzb, ⟨_, A8, c8, rfl, oz⟩ | ⟨_, rfl⟩⟩
  all_goals
    have HT := Lib.hid (Utf8Tabs_below HT.out y)
    have O1 := Lib.hid (O1.out.ext y)
    have HS := Lib.hid (HS.out.ext y)
    have O_x := Lib.hid (O_x.out.ext y)
    have O_nz := Lib.hid (O_nz.out.ext y)
    replace hx := ext_trans hx y
    clear y
  rotate_left
  · skip
    go_wp2_with (go_at_call 61; refine Hid.out ?_)
    refine Lib.hid ?_
    refine (known22_any _ HT.out).mono ?_
    rintro e w2 ⟨rfl, y⟩
    replace hx := ext_trans hx y
    go_wp2_with (fail)
    go_ret
    exact ⟨rfl, hx⟩
  have OZ := Lib.hid oz
  have SO := Lib.hid (self_ops hz (tra_self2 first _))
  clear oz hz hzb
  go_wp2_with (fail)
  go_loopg [84] z.length (fun g iv wr => ∃ i : Nat, i ≤ z.length ∧ g = z.length - i ∧ iv = .int .i64 (i : Int) ∧ Below w.heap.size w wr ∧ Hid (Lib.Utf8Tabs 1 2 wr) ∧ Hid (OpsC wr A8 z.length c8 z))
  case atStart => exact ⟨0, by omega, rfl, rfl, hx, HT, OZ⟩
  case round =>
    obtain ⟨i, hi, hg, rfl, hx, HT, OZ⟩ := hrel
    have HG := Lib.hid hg
    clear hg
    by_cases hlt : i < z.length
    · skip
      have hlt' : (i : Int) < (z.length : Int) := by omega
      obtain ⟨ad, o, rfl, had, _, hx1, hc1⟩ := OZ.out.at_.rd.1.el hlt
      obtain ⟨k3, kp⟩ := SO.out o (List.mem_of_getElem? hx1)
      obtain ⟨⟨k, nn, r, s1, q⟩, Ar, cr, As, cs, Ap, cp⟩ := o
      obtain ⟨z0, z1, z2, z3, z4⟩ := op_cells hc1
      have hk3 : (k == 3) = false := beq_eq_false_iff_ne.2 k3
      have hw2 : IntKind.i64.wrap ((i : Int) + 1) = (i : Int) + 1 := IntWalk.i64_in _ (by have := OZ.out.at_.b; omega)
      clear hc1 hx1 had
      cases first with
      | false =>
        go_wp2_with (fail)
        go_roundg (z.length - (i + 1))
        case measure => have h9 := HG.out; clear hw2; omega
        case rel => exact ⟨i + 1, by clear hw2; omega, rfl, rfl, hx, HT, OZ⟩
      | true =>
        by_cases hk1 : k = 1
        · skip
          have hq : q = [] := kp rfl hk1
          subst hq hk1
          go_wp2_with (fail)
          go_roundg (z.length - (i + 1))
          case measure => have h9 := HG.out; clear hw2; omega
          case rel => exact ⟨i + 1, by clear hw2; omega, rfl, rfl, hx, HT, OZ⟩
        have hk1' : (k == 1) = false := beq_eq_false_iff_ne.2 hk1
        go_wp2_with (fail)
        go_roundg (z.length - (i + 1))
        case measure => have h9 := HG.out; clear hw2; omega
        case rel => exact ⟨i + 1, by clear hw2; omega, rfl, rfl, hx, HT, OZ⟩
    have hlt' : ¬ ((i : Int) < (z.length : Int)) := by omega
    go_wp2_with (go_at_call 61; refine Hid.out ?_)
    refine Lib.hid ?_
    refine (known22_any _ HT.out).mono ?_
    rintro e w2 ⟨rfl, y⟩
    replace hx := ext_trans hx y
    go_wp2_with (fail)
    go_ret
    exact ⟨rfl, hx⟩
end Go.Proofs.YtbdkbfoplpociaaGreatDoor
namespace Go.Proofs.YtbdkbfoplpociaaGreatDoor
open Go.RowKit
set_option linter.unusedVariables false
set_option linter.unusedSimpArgs false

set_option maxRecDepth 100000 in
set_option maxHeartbeats 12800000 in
theorem transformPlaces_any (A0 A1 : Option Addr) (n0 n1 c0 c1 : Nat) (l0 : List Ky) (l1 : List OpS) (x2 x3 : Int) (after : Bool) (w : World)
    (e0 : n0 = l0.length) (r0 : RdKy w w.heap.size A0 l0) (b0 : n0 ≤ 1048576)
    (e1 : n1 = l1.length) (r1 : RdOp w w.heap.size A1 l1) (b1 : n1 ≤ 1048576) (k1 : n1 ≤ c1) (m1 : c1 ≤ maxLen) (q1 : ∀ o ∈ l1, okOp o.o) (z1 : szX l1 ≤ 2305850000000000000) (f1 : ∀ o ∈ l1, capO o)
    (hT : Lib.Utf8Tabs 1 2 w) :
    Calls Tryz.prog 12 #[.slice A0 n0 c0, .slice A1 n1 c1, .int .i64 x2, .int .i64 x3, .bool after] w fun e w' => e = .returned (.bool true) ∧ Below w.heap.size w w' := by
  have N0 := Lib.hid e0
  have R0 := Lib.hid r0
  have HT := Lib.hid hT
  have hx := Below.refl w.heap.size w
  have N1 := Lib.hid e1
  have R1 := Lib.hid r1
  have Q1 := Lib.hid q1
  have Z1 := Lib.hid z1
  have F1 := Lib.hid f1
  clear e0 r0 hT e1 r1 q1 z1 f1
  go_enter Tryz.func12, Tryz.ntmps12
  have ra : Rd SX.enc 1 _ _ _ [⟨A1, c1, l1⟩] := Rd.new (enc := SX.enc) (size := 1) (fun _ => rfl) w 23 [⟨A1, c1, l1⟩] (cs := #[.slice A1 n1 c1]) (by simp [SX.enc, ← N1.out]) rfl
  have y := ext_alloc w (.cells #[.slice A1 n1 c1] 23)
  have R0 := Lib.hid (R0.out.ext y)
  have HT := Lib.hid (Utf8Tabs_below HT.out y)
  have R1 := Lib.hid (R1.out.ext y)
  replace hx := ext_trans hx y
  clear y
  go_wp2_with (go_at_call 60; refine Hid.out ?_)
  refine Lib.hid ?_
  refine (great22_any A0 none (some ⟨w.heap.size, 0, none⟩) n0 c0 0 0 1 1 [] [⟨A1, c1, l1⟩] _ rfl ra (by omega) (by omega) (fun x hx => by
    simp only [List.mem_cons, List.not_mem_nil, or_false] at hx
    subst hx
    exact ⟨R1.out, by have := N1.out; simp only; omega⟩) (by simp only [sumX, List.map_cons, List.map_nil, List.sum_cons, List.sum_nil]; have := Z1.out; omega) (fun x hx => by
    simp only [List.mem_cons, List.not_mem_nil, or_false] at hx
    subst hx
    have := Z1.out; simp only; omega) rfl ⟨Rd.nil, fun z hz => by cases hz⟩ (by omega) (fun z hz => by cases hz)).mono ?_
  rintro e wn ⟨gb, rfl, h1, dr, hd⟩
  have y := drew_ext hd
  clear hd ra
  have R0 := Lib.hid (R0.out.ext y)
  have HT := Lib.hid (Utf8Tabs_below HT.out y)
  have R1 := Lib.hid (R1.out.ext y)
  replace hx := ext_trans hx y
  clear y
  cases gb
  case true =>
    clear h1
    go_wp2_with (go_at_call 61; refine Hid.out ?_)
    refine Lib.hid ?_
    refine (known22_any _ HT.out).mono ?_
    rintro e w2 ⟨rfl, y⟩
    replace hx := ext_trans hx y
    go_wp2_with (fail)
    go_ret
    exact ⟨rfl, hx⟩
  have h2 := h1 rfl
  have G0 := Lib.hid h2.1
  have SZ : Hid (szX l1 ≤ 5000) := Lib.hid (by have h3 := h2.2.2.2; simp only [sumX, List.map_cons, List.map_nil, List.sum_cons, List.sum_nil] at h3; omega)
  clear h1 h2
  have LX1 : Hid (l1.length ≤ 5000) := Lib.hid (by have := szX_len l1; have := SZ.out; omega)
  have O1 : Hid (OpsC _ A1 n1 c1 l1) := Lib.hid ⟨⟨R1.out, N1.out, Q1.out, by have := LX1.out; have := N1.out; omega⟩, k1, m1, F1.out⟩
  obtain ⟨m, hm⟩ : ∃ X, mayO l0 l1 = X := ⟨_, rfl⟩
  have HM := Lib.hid hm
  clear hm
  go_wp2_with (go_at_call 22; refine Hid.out ?_)
  refine Lib.hid ?_
  refine (mayKeysD N0.out R0.out (by omega) O1.out.at_ (by have := SZ.out; omega) HT.out HM.out).mono ?_
  rintro e wn ⟨rfl, y⟩
  have R0 := Lib.hid (R0.out.ext y)
  have HT := Lib.hid (Utf8Tabs_below HT.out y)
  have O1 := Lib.hid (O1.out.ext y)
  replace hx := ext_trans hx y
  clear y
  by_cases h0 : m = 0
  rotate_left
  · skip
    have h0' : (m == 0) = false := beq_eq_false_iff_ne.2 h0
    have h0'' : (m != 0) = true := by rw [bne, h0']; rfl
    clear h0 HM
    go_wp2_with (go_at_call 61; refine Hid.out ?_)
    refine Lib.hid ?_
    refine (known22_any _ HT.out).mono ?_
    rintro e w2 ⟨rfl, y⟩
    replace hx := ext_trans hx y
    go_wp2_with (fail)
    go_ret
    exact ⟨rfl, hx⟩
  subst h0
  by_cases q1 : x2 < 0
  · skip
    go_wp2_with (go_at_call 61; refine Hid.out ?_)
    refine Lib.hid ?_
    refine (known22_any _ HT.out).mono ?_
    rintro e w2 ⟨rfl, y⟩
    replace hx := ext_trans hx y
    go_wp2_with (fail)
    go_ret
    exact ⟨rfl, hx⟩
  by_cases q2 : x3 < 0
  · skip
    go_wp2_with (go_at_call 61; refine Hid.out ?_)
    refine Lib.hid ?_
    refine (known22_any _ HT.out).mono ?_
    rintro e w2 ⟨rfl, y⟩
    replace hx := ext_trans hx y
    go_wp2_with (fail)
    go_ret
    exact ⟨rfl, hx⟩
  by_cases q3 : 10000 < x2
  · skip
    go_wp2_with (go_at_call 61; refine Hid.out ?_)
    refine Lib.hid ?_
    refine (known22_any _ HT.out).mono ?_
    rintro e w2 ⟨rfl, y⟩
    replace hx := ext_trans hx y
    go_wp2_with (fail)
    go_ret
    exact ⟨rfl, hx⟩
  by_cases q4 : 10000 < x3
  · skip
    go_wp2_with (go_at_call 61; refine Hid.out ?_)
    refine Lib.hid ?_
    refine (known22_any _ HT.out).mono ?_
    rintro e w2 ⟨rfl, y⟩
    replace hx := ext_trans hx y
    go_wp2_with (fail)
    go_ret
    exact ⟨rfl, hx⟩
  go_wp2_with (go_at_call 24; refine Hid.out ?_)
  refine Lib.hid ?_
  refine (new_any A0 n0 c0 l0 _ N0.out R0.out (by omega)).mono ?_
  rintro e wn ⟨y, ⟨hm, s, rfl, hS⟩ | ⟨hm, rfl⟩⟩
  all_goals
    have R0 := Lib.hid (R0.out.ext y)
    have HT := Lib.hid (Utf8Tabs_below HT.out y)
    have O1 := Lib.hid (O1.out.ext y)
    replace hx := ext_trans hx y
    clear y hm
  rotate_left
  · skip
    go_wp2_with (go_at_call 61; refine Hid.out ?_)
    refine Lib.hid ?_
    refine (known22_any _ HT.out).mono ?_
    rintro e w2 ⟨rfl, y⟩
    replace hx := ext_trans hx y
    go_wp2_with (fail)
    go_ret
    exact ⟨rfl, hx⟩
  have HS := Lib.hid hS
  clear hS
  have H64 : Hid (l0.length ≤ 64) := Lib.hid (by have := N0.out; have := G0.out; omega)
  have TM1 : Hid (takesU (units (osOf l1)) ≤ 536870912 ∧ makesU (units (osOf l1)) ≤ 536870912) := Lib.hid (by
    obtain ⟨g, t, m⟩ := mayO_zero HM.out
    obtain ⟨s1, s2⟩ := sums_units l1 (good_isOp g)
    rw [takes_sum g (by have := LX1.out; omega)] at t
    rw [makes_sum g (by have := LX1.out; omega)] at m
    omega)
  have I1 : Hid (∀ o ∈ l1, isOp o.o) := Lib.hid (good_isOp (mayO_zero HM.out).1)
  have MU1 : Hid (∀ u ∈ units (osOf l1), mU l0 u) := Lib.hid (good_mU (mayO_zero HM.out).1)
  have UL_l1 : Hid ((units (osOf l1)).length ≤ 4000000000) := Lib.hid (by have h := units_length (us := units (osOf l1)); have := TM1.out; omega)
  have ZN1 : Hid (szN l1 ≤ 50000) := Lib.hid (by have := szN_le l1; have := SZ.out; omega)
  obtain ⟨a, ha⟩ : ∃ a : Nat, x2 = (a : Int) := ⟨x2.toNat, by omega⟩
  obtain ⟨b, hb⟩ : ∃ b : Nat, x3 = (b : Int) := ⟨x3.toNat, by omega⟩
  have AB : Hid (a ≤ 10000 ∧ b ≤ 10000) := Lib.hid (by omega)
  subst ha hb
  clear q1 q2 q3 q4
  obtain ⟨us, hus⟩ : ∃ X, nf (units (osOf l1)) = X := ⟨_, rfl⟩
  have HUS := Lib.hid hus
  clear hus
  by_cases hpq : (b : Int) < (a : Int)
  · skip
    have HLE : Hid (b ≤ a) := Lib.hid (by omega)
    have M1 : Hid (((posU after us b : Nat) : Int) ≤ ((posU after us a : Nat) : Int)) := Lib.hid (by have := pos_mono after us b a HLE.out; omega)
    have M2 : Hid (((posU false us b : Nat) : Int) ≤ ((posU true us b : Nat) : Int)) := Lib.hid (by have := pos_after us b; omega)
    have M0 : Hid (mayO l0 [] = 0) := Lib.hid rfl
    obtain ⟨p1, h1⟩ : ∃ X, posU after us b = X := ⟨_, rfl⟩
    obtain ⟨p2, h2⟩ : ∃ X, posU after us a = X := ⟨_, rfl⟩
    obtain ⟨p3, h3⟩ : ∃ X, posU false us b = X := ⟨_, rfl⟩
    obtain ⟨p4, h4⟩ : ∃ X, posU true us b = X := ⟨_, rfl⟩
    have H1 := Lib.hid h1
    have H2 := Lib.hid h2
    have H3 := Lib.hid h3
    have H4 := Lib.hid h4
    rw [h1, h2] at M1
    rw [h3, h4] at M2
    clear h1 h2 h3 h4
    go_wp2_with (go_at_call 63; refine Hid.out ?_)
    refine Lib.hid ?_
    refine (position_any s l0 _ _ _ l1 b after _ O1.out HS.out HT.out HM.out (by have := ZN1.out; omega) (by have := AB.out; omega)).mono ?_
    rw [HUS.out, H1.out]
    rintro e wn ⟨rfl, y⟩
    have HT := Lib.hid (Utf8Tabs_below HT.out y)
    have O1 := Lib.hid (O1.out.ext y)
    have HS := Lib.hid (HS.out.ext y)
    replace hx := ext_trans hx y
    clear y
    go_wp2_with (go_at_call 63; refine Hid.out ?_)
    refine Lib.hid ?_
    refine (position_any s l0 _ _ _ l1 a after _ O1.out HS.out HT.out HM.out (by have := ZN1.out; omega) (by have := AB.out; omega)).mono ?_
    rw [HUS.out, H2.out]
    rintro e wn ⟨rfl, y⟩
    have HT := Lib.hid (Utf8Tabs_below HT.out y)
    have O1 := Lib.hid (O1.out.ext y)
    have HS := Lib.hid (HS.out.ext y)
    replace hx := ext_trans hx y
    clear y
    go_wp2_with (go_at_call 63; refine Hid.out ?_)
    refine Lib.hid ?_
    refine (position_any s l0 _ _ _ l1 b false _ O1.out HS.out HT.out HM.out (by have := ZN1.out; omega) (by have := AB.out; omega)).mono ?_
    rw [HUS.out, H3.out]
    rintro e wn ⟨rfl, y⟩
    have HT := Lib.hid (Utf8Tabs_below HT.out y)
    have O1 := Lib.hid (O1.out.ext y)
    have HS := Lib.hid (HS.out.ext y)
    replace hx := ext_trans hx y
    clear y
    go_wp2_with (go_at_call 63; refine Hid.out ?_)
    refine Lib.hid ?_
    refine (position_any s l0 _ _ _ l1 b true _ O1.out HS.out HT.out HM.out (by have := ZN1.out; omega) (by have := AB.out; omega)).mono ?_
    rw [HUS.out, H4.out]
    rintro e wn ⟨rfl, y⟩
    have HT := Lib.hid (Utf8Tabs_below HT.out y)
    have O1 := Lib.hid (O1.out.ext y)
    have HS := Lib.hid (HS.out.ext y)
    replace hx := ext_trans hx y
    clear y
    go_wp2_with (go_at_call 63; refine Hid.out ?_)
    refine Lib.hid ?_
    refine (position_any s l0 _ _ _ [] b after _ (OpsC.nil _) HS.out HT.out M0.out (by decide) (by have := AB.out; omega)).mono ?_
    rw [show posU after (nf (units (osOf ([] : List OpS)))) b = b from rfl]
    rintro e wn ⟨rfl, y⟩
    have HT := Lib.hid (Utf8Tabs_below HT.out y)
    have O1 := Lib.hid (O1.out.ext y)
    have HS := Lib.hid (HS.out.ext y)
    replace hx := ext_trans hx y
    clear y
    have m1 := M1.out
    have m2 := M2.out
    have m3 : (0 : Int) ≤ (p3 : Int) := Int.natCast_nonneg _
    have m4 : ((b : Int) == (b : Int)) = true := beq_self_eq_true _
    go_wp2_with (go_at_call 61; refine Hid.out ?_)
    refine Lib.hid ?_
    refine (known22_any _ HT.out).mono ?_
    rintro e w2 ⟨rfl, y⟩
    replace hx := ext_trans hx y
    go_wp2_with (fail)
    go_ret
    exact ⟨rfl, hx⟩
  have HLE : Hid (a ≤ b) := Lib.hid (by omega)
  have M1 : Hid (((posU after us a : Nat) : Int) ≤ ((posU after us b : Nat) : Int)) := Lib.hid (by have := pos_mono after us a b HLE.out; omega)
  have M2 : Hid (((posU false us a : Nat) : Int) ≤ ((posU true us a : Nat) : Int)) := Lib.hid (by have := pos_after us a; omega)
  have M0 : Hid (mayO l0 [] = 0) := Lib.hid rfl
  obtain ⟨p1, h1⟩ : ∃ X, posU after us a = X := ⟨_, rfl⟩
  obtain ⟨p2, h2⟩ : ∃ X, posU after us b = X := ⟨_, rfl⟩
  obtain ⟨p3, h3⟩ : ∃ X, posU false us a = X := ⟨_, rfl⟩
  obtain ⟨p4, h4⟩ : ∃ X, posU true us a = X := ⟨_, rfl⟩
  have H1 := Lib.hid h1
  have H2 := Lib.hid h2
  have H3 := Lib.hid h3
  have H4 := Lib.hid h4
  rw [h1, h2] at M1
  rw [h3, h4] at M2
  clear h1 h2 h3 h4
  go_wp2_with (go_at_call 63; refine Hid.out ?_)
  refine Lib.hid ?_
  refine (position_any s l0 _ _ _ l1 a after _ O1.out HS.out HT.out HM.out (by have := ZN1.out; omega) (by have := AB.out; omega)).mono ?_
  rw [HUS.out, H1.out]
  rintro e wn ⟨rfl, y⟩
  have HT := Lib.hid (Utf8Tabs_below HT.out y)
  have O1 := Lib.hid (O1.out.ext y)
  have HS := Lib.hid (HS.out.ext y)
  replace hx := ext_trans hx y
  clear y
  go_wp2_with (go_at_call 63; refine Hid.out ?_)
  refine Lib.hid ?_
  refine (position_any s l0 _ _ _ l1 b after _ O1.out HS.out HT.out HM.out (by have := ZN1.out; omega) (by have := AB.out; omega)).mono ?_
  rw [HUS.out, H2.out]
  rintro e wn ⟨rfl, y⟩
  have HT := Lib.hid (Utf8Tabs_below HT.out y)
  have O1 := Lib.hid (O1.out.ext y)
  have HS := Lib.hid (HS.out.ext y)
  replace hx := ext_trans hx y
  clear y
  go_wp2_with (go_at_call 63; refine Hid.out ?_)
  refine Lib.hid ?_
  refine (position_any s l0 _ _ _ l1 a false _ O1.out HS.out HT.out HM.out (by have := ZN1.out; omega) (by have := AB.out; omega)).mono ?_
  rw [HUS.out, H3.out]
  rintro e wn ⟨rfl, y⟩
  have HT := Lib.hid (Utf8Tabs_below HT.out y)
  have O1 := Lib.hid (O1.out.ext y)
  have HS := Lib.hid (HS.out.ext y)
  replace hx := ext_trans hx y
  clear y
  go_wp2_with (go_at_call 63; refine Hid.out ?_)
  refine Lib.hid ?_
  refine (position_any s l0 _ _ _ l1 a true _ O1.out HS.out HT.out HM.out (by have := ZN1.out; omega) (by have := AB.out; omega)).mono ?_
  rw [HUS.out, H4.out]
  rintro e wn ⟨rfl, y⟩
  have HT := Lib.hid (Utf8Tabs_below HT.out y)
  have O1 := Lib.hid (O1.out.ext y)
  have HS := Lib.hid (HS.out.ext y)
  replace hx := ext_trans hx y
  clear y
  go_wp2_with (go_at_call 63; refine Hid.out ?_)
  refine Lib.hid ?_
  refine (position_any s l0 _ _ _ [] a after _ (OpsC.nil _) HS.out HT.out M0.out (by decide) (by have := AB.out; omega)).mono ?_
  rw [show posU after (nf (units (osOf ([] : List OpS)))) a = a from rfl]
  rintro e wn ⟨rfl, y⟩
  have HT := Lib.hid (Utf8Tabs_below HT.out y)
  have O1 := Lib.hid (O1.out.ext y)
  have HS := Lib.hid (HS.out.ext y)
  replace hx := ext_trans hx y
  clear y
  have m1 := M1.out
  have m2 := M2.out
  have m3 : (0 : Int) ≤ (p3 : Int) := Int.natCast_nonneg _
  have m4 : ((a : Int) == (a : Int)) = true := beq_self_eq_true _
  go_wp2_with (go_at_call 61; refine Hid.out ?_)
  refine Lib.hid ?_
  refine (known22_any _ HT.out).mono ?_
  rintro e w2 ⟨rfl, y⟩
  replace hx := ext_trans hx y
  go_wp2_with (fail)
  go_ret
  exact ⟨rfl, hx⟩
end Go.Proofs.YtbdkbfoplpociaaGreatDoor
