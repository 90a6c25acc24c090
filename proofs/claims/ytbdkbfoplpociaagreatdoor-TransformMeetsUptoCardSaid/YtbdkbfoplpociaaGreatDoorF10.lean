/- Merged texts: FormsLaw, NormC, TransformForms, DiffLaw. -/
import Derived.Test.YtbdkbfoplpociaaGreatDoorF6
import Derived.Test.YtbdkbfoplpociaaGreatDoorF1
import Derived.Test.YtbdkbfoplpociaaGreatDoorK18
import Derived.Test.YtbdkbfoplpociaaGreatDoorK32
import Derived.Test.YtbdkbfoplpociaaGreatDoorF5
import Derived.Test.YtbdkbfoplpociaaGreatDoorK31
import Derived.Test.YtbdkbfoplpociaaGreatDoorK30
import Derived.Test.YtbdkbfoplpociaaGreatDoorF8
import Derived.Test.YtbdkbfoplpociaaGreatDoorF9
import Derived.Test.YtbdkbfoplpociaaGreatDoorK33
import Derived.Test.YtbdkbfoplpociaaGreatDoorK35
import Derived.Test.YtbdkbfoplpociaaGreatDoorK34
import Derived.Test.YtbdkbfoplpociaaGreatDoorK10
import Derived.Test.YtbdkbfoplpociaaGreatDoorK29
namespace Go.Proofs.YtbdkbfoplpociaaGreatDoor
set_option linter.unusedVariables false
set_option linter.unusedSimpArgs false

theorem delsU_le : ∀ us : List Un, delsU us ≤ us.length
  | [] => Nat.le_refl _
  | .ins _ _ :: us => Nat.le_succ_of_le (delsU_le us)
  | .del :: us => Nat.succ_le_succ (delsU_le us)
  | .ret _ :: us => Nat.le_succ_of_le (delsU_le us)
theorem insN_le : ∀ us : List Un, (runesU us).length ≤ us.length
  | [] => Nat.le_refl _
  | .ins _ _ :: us => Nat.succ_le_succ (insN_le us)
  | .del :: us => Nat.le_succ_of_le (insN_le us)
  | .ret _ :: us => Nat.le_succ_of_le (insN_le us)
theorem forms_step {x : List OpS} (h : ∀ o ∈ x, isOp o.o) (hl : (units (osOf x)).length ≤ 4000000000) {i : Nat} {o : OpS} (hx : x[i]? = some o) :
    runesU (units (osOf (x.take (i + 1)))) = runesU (units (osOf (x.take i))) ++ o.o.r ∧
    (delsU (units (osOf (x.take (i + 1)))) : Int) = (delsU (units (osOf (x.take i))) : Int) + (if o.o.k = 3 then o.o.n else 0) ∧
    delsU (units (osOf (x.take (i + 1)))) ≤ 4000000000 := by
  have h1 : ∀ k, ∀ z ∈ x.take k, isOp z.o := fun k z hz => h z (List.mem_of_mem_take hz)
  obtain ⟨a1, a2⟩ := ops_runes _ (h1 i)
  obtain ⟨b1, b2⟩ := ops_runes _ (h1 (i + 1))
  have e : x.take (i + 1) = x.take i ++ [o] := by rw [List.take_add_one, hx]; rfl
  refine ⟨by rw [b1, a1, e, List.flatMap_append]; simp, by rw [b2, a2, e, List.map_append, List.sum_append]; simp, ?_⟩
  have h2 : units (osOf x) = units (osOf (x.take (i + 1))) ++ units (osOf (x.drop (i + 1))) := by
    rw [← units_append]; unfold osOf; rw [← List.map_append, List.take_append_drop]
  have h3 := congrArg List.length h2
  rw [List.length_append] at h3
  have := delsU_le (units (osOf (x.take (i + 1))))
  omega
theorem units_take_len (x : List OpS) (k : Nat) : (units (osOf (x.take k))).length ≤ (units (osOf x)).length := by
  have h2 : units (osOf x) = units (osOf (x.take k)) ++ units (osOf (x.drop k)) := by
    rw [← units_append]; unfold osOf; rw [← List.map_append, List.take_append_drop]
  have h3 := congrArg List.length h2
  rw [List.length_append] at h3
  omega
theorem foldl_os {f : Int → OpS → Int} (hf : ∀ a o o', o.o = o'.o → f a o = f a o') : ∀ (x y : List OpS) (a : Int), osOf x = osOf y → x.foldl f a = y.foldl f a
  | [], [], _, _ => rfl
  | [], _ :: _, _, h => by cases h
  | _ :: _, [], _, h => by cases h
  | o :: x, o' :: y, a, h => by
    unfold osOf at h
    rw [List.map_cons, List.map_cons] at h
    injection h with h1 h2
    rw [List.foldl_cons, List.foldl_cons, hf a o o' h1]
    exact foldl_os hf x y _ h2
theorem takesP_os {x y : List OpS} (h : osOf x = osOf y) : takesP x = takesP y ∧ makesP x = makesP y :=
  ⟨foldl_os (fun a o o' e => by unfold takeStep; rw [e]) x y 0 h, foldl_os (fun a o o' e => by unfold makeStep; rw [e]) x y 0 h⟩
theorem szN_runes : ∀ (x : List OpS), szN x = x.length + (x.flatMap (fun o => o.o.r)).length
  | [] => rfl
  | o :: x => by rw [szN_cons, szN_runes x, List.flatMap_cons, List.length_append, List.length_cons]; omega
/-- a normal form is little longer -/
theorem szN_form {x z : List OpS} {S : Nat} (hi : ∀ o ∈ x, isOp o.o) (hz : osOf z = mkU (units (osOf x))) (hl : (units (osOf x)).length ≤ 4000000000) (hs : ∀ o ∈ x, o.o.s.length ≤ S ∧ o.o.p.length ≤ S) : szN z ≤ 3 * szN x + 1 := by
  have h0 : osOf z = mkOps (ofM (osOf x)) := hz.trans (of_is (by unfold osOf; intro o ho; obtain ⟨y, hy, rfl⟩ := List.mem_map.1 ho; exact hi y hy) hl).symm
  have h1 := (ofM_bndN x hs).ops.1
  rw [← h0] at h1
  unfold osOf at h1
  rw [List.length_map] at h1
  have h2 := (ops_runes z (mkU_isOp hz)).1
  rw [mkU_units hz, (nf_runes _).1, (ops_runes x hi).1] at h2
  rw [szN_runes z, ← h2]
  have := szN_runes x
  omega
end Go.Proofs.YtbdkbfoplpociaaGreatDoor
namespace Go.Proofs.YtbdkbfoplpociaaGreatDoor
open Go.RowKit
set_option linter.unusedVariables false

theorem normDocC {w : World} {A : Option Addr} {n c : Nat} {x : List OpS} (h : OpsAt w A n x) (hi : ∀ o ∈ x, isOp o.o) (hz : szN x ≤ 400000) (hs : ∀ o ∈ x, o.o.s.length ≤ 1000000 ∧ o.o.p.length ≤ 1000000) (hl : (units (osOf x)).length ≤ 4000000000) :
    Calls Tryz.prog 67 #[.slice A n c] w (NewOpC (mkU (units (osOf x))) w) := by
  have ht := ofM_told (osOf x) (fun o ho => by obtain ⟨z, hz, rfl⟩ := List.mem_map.1 ho; exact hi z hz) hl
  refine (normOfN_any A n c x w h.len h.rd (by omega) hs).mono fun e w' hN => hN.opC ht (fun u hu => ?_) (ofM_bndN x hs) (by omega) (by omega)
  obtain ⟨o, ho, hu⟩ := units_mem.1 hu
  exact okUn_of (h.ok o ho) u hu
end Go.Proofs.YtbdkbfoplpociaaGreatDoor
namespace Go.Proofs.YtbdkbfoplpociaaGreatDoor
open Go.RowKit
set_option linter.unusedVariables false
set_option linter.unusedSimpArgs false

set_option maxRecDepth 100000 in
set_option maxHeartbeats 12800000 in
theorem transformForms_any (A0 A1 A2 : Option Addr) (n0 n1 n2 c0 c1 c2 : Nat) (l0 : List Ky) (l1 l2 : List OpS) (first : Bool) (w : World)
    (e0 : n0 = l0.length) (r0 : RdKy w w.heap.size A0 l0) (b0 : n0 ≤ 1048576)
    (e1 : n1 = l1.length) (r1 : RdOp w w.heap.size A1 l1) (b1 : n1 ≤ 1048576) (k1 : n1 ≤ c1) (m1 : c1 ≤ maxLen) (q1 : ∀ o ∈ l1, okOp o.o) (z1 : szX l1 ≤ 2305850000000000000) (f1 : ∀ o ∈ l1, capO o)
    (e2 : n2 = l2.length) (r2 : RdOp w w.heap.size A2 l2) (b2 : n2 ≤ 1048576) (k2 : n2 ≤ c2) (m2 : c2 ≤ maxLen) (q2 : ∀ o ∈ l2, okOp o.o) (z2 : szX l2 ≤ 2305850000000000000) (f2 : ∀ o ∈ l2, capO o)
    (hT : Lib.Utf8Tabs 1 2 w) :
    Calls Tryz.prog 13 #[.slice A0 n0 c0, .slice A1 n1 c1, .slice A2 n2 c2, .bool first] w fun e w' => e = .returned (.bool true) ∧ Below w.heap.size w w' := by
  have N0 := Lib.hid e0
  have R0 := Lib.hid r0
  have HT := Lib.hid hT
  have hx := Below.refl w.heap.size w
  have N1 := Lib.hid e1
  have R1 := Lib.hid r1
  have Q1 := Lib.hid q1
  have Z1 := Lib.hid z1
  have F1 := Lib.hid f1
  have N2 := Lib.hid e2
  have R2 := Lib.hid r2
  have Q2 := Lib.hid q2
  have Z2 := Lib.hid z2
  have F2 := Lib.hid f2
  clear e0 r0 hT e1 r1 q1 z1 f1 e2 r2 q2 z2 f2
  go_enter Tryz.func13, Tryz.ntmps13
  have ra : Rd SX.enc 1 _ _ _ [⟨A1, c1, l1⟩, ⟨A2, c2, l2⟩] := Rd.new (enc := SX.enc) (size := 1) (fun _ => rfl) w 23 [⟨A1, c1, l1⟩, ⟨A2, c2, l2⟩] (cs := #[.slice A1 n1 c1, .slice A2 n2 c2]) (by simp [SX.enc, ← N1.out, ← N2.out]) rfl
  have y := ext_alloc w (.cells #[.slice A1 n1 c1, .slice A2 n2 c2] 23)
  have R0 := Lib.hid (R0.out.ext y)
  have HT := Lib.hid (Utf8Tabs_below HT.out y)
  have R1 := Lib.hid (R1.out.ext y)
  have R2 := Lib.hid (R2.out.ext y)
  replace hx := ext_trans hx y
  clear y
  go_wp2_with (go_at_call 60; refine Hid.out ?_)
  refine Lib.hid ?_
  refine (great22_any A0 none (some ⟨w.heap.size, 0, none⟩) n0 c0 0 0 2 2 [] [⟨A1, c1, l1⟩, ⟨A2, c2, l2⟩] _ rfl ra (by omega) (by omega) (fun x hx => by
    simp only [List.mem_cons, List.not_mem_nil, or_false] at hx
    rcases hx with rfl | rfl
    · exact ⟨R1.out, by have := N1.out; simp only; omega⟩
    · exact ⟨R2.out, by have := N2.out; simp only; omega⟩) (by simp only [sumX, List.map_cons, List.map_nil, List.sum_cons, List.sum_nil]; have := Z1.out; have := Z2.out; omega) (fun x hx => by
    simp only [List.mem_cons, List.not_mem_nil, or_false] at hx
    rcases hx with rfl | rfl
    · have := Z1.out; simp only; omega
    · have := Z2.out; simp only; omega) rfl ⟨Rd.nil, fun z hz => by cases hz⟩ (by omega) (fun z hz => by cases hz)).mono ?_
  rintro e wn ⟨gb, rfl, h1, dr, hd⟩
  have y := drew_ext hd
  clear hd ra
  have R0 := Lib.hid (R0.out.ext y)
  have HT := Lib.hid (Utf8Tabs_below HT.out y)
  have R1 := Lib.hid (R1.out.ext y)
  have R2 := Lib.hid (R2.out.ext y)
  replace hx := ext_trans hx y
  clear y
  cases gb
  case true =>
    clear h1
    go_wp2_with (go_at_call 61; refine Hid.out ?_)
    refine Lib.hid ?_
    refine (known22_any _ HT.out).mono ?_
    rintro e w2 ⟨rfl, y⟩
    replace hx := ext_trans hx y
    go_wp2_with (fail)
    go_ret
    exact ⟨rfl, hx⟩
  have h2 := h1 rfl
  have G0 := Lib.hid h2.1
  have SZ : Hid (szX l1 + szX l2 ≤ 5000) := Lib.hid (by have h3 := h2.2.2.2; simp only [sumX, List.map_cons, List.map_nil, List.sum_cons, List.sum_nil] at h3; omega)
  clear h1 h2
  have LX1 : Hid (l1.length ≤ 5000) := Lib.hid (by have := szX_len l1; have := SZ.out; omega)
  have O1 : Hid (OpsC _ A1 n1 c1 l1) := Lib.hid ⟨⟨R1.out, N1.out, Q1.out, by have := LX1.out; have := N1.out; omega⟩, k1, m1, F1.out⟩
  have LX2 : Hid (l2.length ≤ 5000) := Lib.hid (by have := szX_len l2; have := SZ.out; omega)
  have O2 : Hid (OpsC _ A2 n2 c2 l2) := Lib.hid ⟨⟨R2.out, N2.out, Q2.out, by have := LX2.out; have := N2.out; omega⟩, k2, m2, F2.out⟩
  obtain ⟨m, hm⟩ : ∃ X, mayO l0 l1 = X := ⟨_, rfl⟩
  have HM := Lib.hid hm
  clear hm
  go_wp2_with (go_at_call 22; refine Hid.out ?_)
  refine Lib.hid ?_
  refine (mayKeysD N0.out R0.out (by omega) O1.out.at_ (by have := SZ.out; omega) HT.out HM.out).mono ?_
  rintro e wn ⟨rfl, y⟩
  have R0 := Lib.hid (R0.out.ext y)
  have HT := Lib.hid (Utf8Tabs_below HT.out y)
  have O1 := Lib.hid (O1.out.ext y)
  have O2 := Lib.hid (O2.out.ext y)
  replace hx := ext_trans hx y
  clear y
  by_cases h0 : m = 0
  rotate_left
  · skip
    have h0' : (m == 0) = false := beq_eq_false_iff_ne.2 h0
    have h0'' : (m != 0) = true := by rw [bne, h0']; rfl
    clear h0 HM
    go_wp2_with (go_at_call 61; refine Hid.out ?_)
    refine Lib.hid ?_
    refine (known22_any _ HT.out).mono ?_
    rintro e w2 ⟨rfl, y⟩
    replace hx := ext_trans hx y
    go_wp2_with (fail)
    go_ret
    exact ⟨rfl, hx⟩
  subst h0
  obtain ⟨m, hm⟩ : ∃ X, mayO l0 l2 = X := ⟨_, rfl⟩
  have HN := Lib.hid hm
  clear hm
  go_wp2_with (go_at_call 22; refine Hid.out ?_)
  refine Lib.hid ?_
  refine (mayKeysD N0.out R0.out (by omega) O2.out.at_ (by have := SZ.out; omega) HT.out HN.out).mono ?_
  rintro e wn ⟨rfl, y⟩
  have R0 := Lib.hid (R0.out.ext y)
  have HT := Lib.hid (Utf8Tabs_below HT.out y)
  have O1 := Lib.hid (O1.out.ext y)
  have O2 := Lib.hid (O2.out.ext y)
  replace hx := ext_trans hx y
  clear y
  by_cases h0 : m = 0
  rotate_left
  · skip
    have h0' : (m == 0) = false := beq_eq_false_iff_ne.2 h0
    have h0'' : (m != 0) = true := by rw [bne, h0']; rfl
    clear h0 HN
    go_wp2_with (go_at_call 61; refine Hid.out ?_)
    refine Lib.hid ?_
    refine (known22_any _ HT.out).mono ?_
    rintro e w2 ⟨rfl, y⟩
    replace hx := ext_trans hx y
    go_wp2_with (fail)
    go_ret
    exact ⟨rfl, hx⟩
  subst h0
  go_wp2_with (go_at_call 24; refine Hid.out ?_)
  refine Lib.hid ?_
  refine (new_any A0 n0 c0 l0 _ N0.out R0.out (by omega)).mono ?_
  rintro e wn ⟨y, ⟨hm, s, rfl, hS⟩ | ⟨hm, rfl⟩⟩
  all_goals
    have R0 := Lib.hid (R0.out.ext y)
    have HT := Lib.hid (Utf8Tabs_below HT.out y)
    have O1 := Lib.hid (O1.out.ext y)
    have O2 := Lib.hid (O2.out.ext y)
    replace hx := ext_trans hx y
    clear y hm
  rotate_left
  · skip
    go_wp2_with (go_at_call 61; refine Hid.out ?_)
    refine Lib.hid ?_
    refine (known22_any _ HT.out).mono ?_
    rintro e w2 ⟨rfl, y⟩
    replace hx := ext_trans hx y
    go_wp2_with (fail)
    go_ret
    exact ⟨rfl, hx⟩
  have HS := Lib.hid hS
  clear hS
  have H64 : Hid (l0.length ≤ 64) := Lib.hid (by have := N0.out; have := G0.out; omega)
  have TM1 : Hid (takesU (units (osOf l1)) ≤ 536870912 ∧ makesU (units (osOf l1)) ≤ 536870912) := Lib.hid (by
    obtain ⟨g, t, m⟩ := mayO_zero HM.out
    obtain ⟨s1, s2⟩ := sums_units l1 (good_isOp g)
    rw [takes_sum g (by have := LX1.out; omega)] at t
    rw [makes_sum g (by have := LX1.out; omega)] at m
    omega)
  have I1 : Hid (∀ o ∈ l1, isOp o.o) := Lib.hid (good_isOp (mayO_zero HM.out).1)
  have MU1 : Hid (∀ u ∈ units (osOf l1), mU l0 u) := Lib.hid (good_mU (mayO_zero HM.out).1)
  have UL_l1 : Hid ((units (osOf l1)).length ≤ 4000000000) := Lib.hid (by have h := units_length (us := units (osOf l1)); have := TM1.out; omega)
  have ZN1 : Hid (szN l1 ≤ 50000) := Lib.hid (by have := szN_le l1; have := SZ.out; omega)
  have TM2 : Hid (takesU (units (osOf l2)) ≤ 536870912 ∧ makesU (units (osOf l2)) ≤ 536870912) := Lib.hid (by
    obtain ⟨g, t, m⟩ := mayO_zero HN.out
    obtain ⟨s1, s2⟩ := sums_units l2 (good_isOp g)
    rw [takes_sum g (by have := LX2.out; omega)] at t
    rw [makes_sum g (by have := LX2.out; omega)] at m
    omega)
  have I2 : Hid (∀ o ∈ l2, isOp o.o) := Lib.hid (good_isOp (mayO_zero HN.out).1)
  have MU2 : Hid (∀ u ∈ units (osOf l2), mU l0 u) := Lib.hid (good_mU (mayO_zero HN.out).1)
  have UL_l2 : Hid ((units (osOf l2)).length ≤ 4000000000) := Lib.hid (by have h := units_length (us := units (osOf l2)); have := TM2.out; omega)
  have ZN2 : Hid (szN l2 ≤ 50000) := Lib.hid (by have := szN_le l2; have := SZ.out; omega)
  go_wp2_with (go_at_call 62; refine Hid.out ?_)
  refine Lib.hid ?_
  refine (transformAll_any s l0 _ _ _ _ _ _ l1 l2 first _ O1.out O2.out HS.out H64.out HT.out HM.out HN.out ZN1.out ZN2.out).mono ?_
  rintro e wn ⟨z, hz, y, hzb, ⟨hb1, A5, c5, rfl, oz⟩ | ⟨hb1, rfl⟩⟩
  all_goals
    have HT := Lib.hid (Utf8Tabs_below HT.out y)
    have O1 := Lib.hid (O1.out.ext y)
    have O2 := Lib.hid (O2.out.ext y)
    have HS := Lib.hid (HS.out.ext y)
    replace hx := ext_trans hx y
    clear y
    have HZ := Lib.hid hz
    have HB1 := Lib.hid hb1
    clear hz hb1 hzb
  rotate_left
  · skip
    go_wp2_with (go_at_call 67; refine Hid.out ?_)
    refine Lib.hid ?_
    refine (normDocC O1.out.at_ I1.out (by have := ZN1.out; omega) (fun o ho => by have h1 := szX_mem ho; unfold szO at h1; have := SZ.out; omega) UL_l1.out).mono ?_
    rintro e wn ⟨A6, c6, na, rfl, h_1, o_1, y⟩
    have HT := Lib.hid (Utf8Tabs_below HT.out y)
    have O1 := Lib.hid (O1.out.ext y)
    have O2 := Lib.hid (O2.out.ext y)
    have HS := Lib.hid (HS.out.ext y)
    replace hx := ext_trans hx y
    have E_na := Lib.hid h_1
    have O_na := Lib.hid o_1
    clear h_1 o_1
    clear y
    go_wp2_with (go_at_call 67; refine Hid.out ?_)
    refine Lib.hid ?_
    refine (normDocC O2.out.at_ I2.out (by have := ZN2.out; omega) (fun o ho => by have h1 := szX_mem ho; unfold szO at h1; have := SZ.out; omega) UL_l2.out).mono ?_
    rintro e wn ⟨A7, c7, nb, rfl, h_1, o_1, y⟩
    have HT := Lib.hid (Utf8Tabs_below HT.out y)
    have O1 := Lib.hid (O1.out.ext y)
    have O2 := Lib.hid (O2.out.ext y)
    have HS := Lib.hid (HS.out.ext y)
    have O_na := Lib.hid (O_na.out.ext y)
    replace hx := ext_trans hx y
    have E_nb := Lib.hid h_1
    have O_nb := Lib.hid o_1
    clear h_1 o_1
    clear y
    have ZS_na : Hid (szN na ≤ 50000) := Lib.hid (by have h1 := szN_form (S := 1000000) I1.out E_na.out UL_l1.out (fun o ho => by have h1 := szX_mem ho; unfold szO at h1; have := SZ.out; omega); have := szN_le l1; have := SZ.out; omega)
    have MA_na : Hid (mayO l0 na = 0) := Lib.hid (units_mayO (by have := szN_len na; have := ZS_na.out; omega) (mkU_isOp E_na.out) (by rw [mkU_units E_na.out]; exact nf_all (P := mU l0) trivial MU1.out) (by rw [mkU_units E_na.out]; have := nf_takes (units (osOf l1)); have := TM1.out; omega) (by rw [mkU_units E_na.out]; have := nf_makes (units (osOf l1)); have := TM1.out; omega))
    have ZS_nb : Hid (szN nb ≤ 50000) := Lib.hid (by have h1 := szN_form (S := 1000000) I2.out E_nb.out UL_l2.out (fun o ho => by have h1 := szX_mem ho; unfold szO at h1; have := SZ.out; omega); have := szN_le l2; have := SZ.out; omega)
    have MA_nb : Hid (mayO l0 nb = 0) := Lib.hid (units_mayO (by have := szN_len nb; have := ZS_nb.out; omega) (mkU_isOp E_nb.out) (by rw [mkU_units E_nb.out]; exact nf_all (P := mU l0) trivial MU2.out) (by rw [mkU_units E_nb.out]; have := nf_takes (units (osOf l2)); have := TM2.out; omega) (by rw [mkU_units E_nb.out]; have := nf_makes (units (osOf l2)); have := TM2.out; omega))
    go_wp2_with (go_at_call 62; refine Hid.out ?_)
    refine Lib.hid ?_
    refine (transformAll_any s l0 _ _ _ _ _ _ na nb first _ O_na.out O_nb.out HS.out H64.out HT.out MA_na.out MA_nb.out ZS_na.out ZS_nb.out).mono ?_
    rintro e wn ⟨z2, hz2, y, hzb2, hres⟩
    have EZ : Hid (osOf z2 = osOf z) := Lib.hid (by rw [hz2, HZ.out, mkU_units E_na.out, mkU_units E_nb.out, nf_again, nf_again])
    obtain ⟨tp1, tp2⟩ := takesP_os EZ.out
    obtain rfl : e = .returned (.tuple #[.slice none 0 0, .int .i64 3]) := by
      rcases hres with ⟨h1, _⟩ | ⟨_, h1⟩
      · rw [tp1, tp2] at h1; exact absurd HB1.out h1
      · exact h1
    have HT := Lib.hid (Utf8Tabs_below HT.out y)
    have O1 := Lib.hid (O1.out.ext y)
    have O2 := Lib.hid (O2.out.ext y)
    have HS := Lib.hid (HS.out.ext y)
    have O_na := Lib.hid (O_na.out.ext y)
    have O_nb := Lib.hid (O_nb.out.ext y)
    replace hx := ext_trans hx y
    clear y
    go_wp2_with (go_at_call 26; refine Hid.out ?_)
    refine Lib.hid ?_
    refine (same15D (OpsC.nil _).at_ (OpsC.nil _).at_ (decide_eq_true rfl)).mono ?_
    rintro e wn ⟨rfl, y⟩
    have HT := Lib.hid (Utf8Tabs_below HT.out y)
    have O1 := Lib.hid (O1.out.ext y)
    have O2 := Lib.hid (O2.out.ext y)
    have HS := Lib.hid (HS.out.ext y)
    have O_na := Lib.hid (O_na.out.ext y)
    have O_nb := Lib.hid (O_nb.out.ext y)
    replace hx := ext_trans hx y
    clear y
    go_wp2_with (go_at_call 61; refine Hid.out ?_)
    refine Lib.hid ?_
    refine (known22_any _ HT.out).mono ?_
    rintro e w2 ⟨rfl, y⟩
    replace hx := ext_trans hx y
    go_wp2_with (fail)
    go_ret
    exact ⟨rfl, hx⟩
  have O_z := Lib.hid oz
  clear oz
  go_wp2_with (go_at_call 67; refine Hid.out ?_)
  refine Lib.hid ?_
  refine (normDocC O1.out.at_ I1.out (by have := ZN1.out; omega) (fun o ho => by have h1 := szX_mem ho; unfold szO at h1; have := SZ.out; omega) UL_l1.out).mono ?_
  rintro e wn ⟨A6, c6, na, rfl, h_1, o_1, y⟩
  have HT := Lib.hid (Utf8Tabs_below HT.out y)
  have O1 := Lib.hid (O1.out.ext y)
  have O2 := Lib.hid (O2.out.ext y)
  have HS := Lib.hid (HS.out.ext y)
  have O_z := Lib.hid (O_z.out.ext y)
  replace hx := ext_trans hx y
  have E_na := Lib.hid h_1
  have O_na := Lib.hid o_1
  clear h_1 o_1
  clear y
  go_wp2_with (go_at_call 67; refine Hid.out ?_)
  refine Lib.hid ?_
  refine (normDocC O2.out.at_ I2.out (by have := ZN2.out; omega) (fun o ho => by have h1 := szX_mem ho; unfold szO at h1; have := SZ.out; omega) UL_l2.out).mono ?_
  rintro e wn ⟨A7, c7, nb, rfl, h_1, o_1, y⟩
  have HT := Lib.hid (Utf8Tabs_below HT.out y)
  have O1 := Lib.hid (O1.out.ext y)
  have O2 := Lib.hid (O2.out.ext y)
  have HS := Lib.hid (HS.out.ext y)
  have O_z := Lib.hid (O_z.out.ext y)
  have O_na := Lib.hid (O_na.out.ext y)
  replace hx := ext_trans hx y
  have E_nb := Lib.hid h_1
  have O_nb := Lib.hid o_1
  clear h_1 o_1
  clear y
  have ZS_na : Hid (szN na ≤ 50000) := Lib.hid (by have h1 := szN_form (S := 1000000) I1.out E_na.out UL_l1.out (fun o ho => by have h1 := szX_mem ho; unfold szO at h1; have := SZ.out; omega); have := szN_le l1; have := SZ.out; omega)
  have MA_na : Hid (mayO l0 na = 0) := Lib.hid (units_mayO (by have := szN_len na; have := ZS_na.out; omega) (mkU_isOp E_na.out) (by rw [mkU_units E_na.out]; exact nf_all (P := mU l0) trivial MU1.out) (by rw [mkU_units E_na.out]; have := nf_takes (units (osOf l1)); have := TM1.out; omega) (by rw [mkU_units E_na.out]; have := nf_makes (units (osOf l1)); have := TM1.out; omega))
  have ZS_nb : Hid (szN nb ≤ 50000) := Lib.hid (by have h1 := szN_form (S := 1000000) I2.out E_nb.out UL_l2.out (fun o ho => by have h1 := szX_mem ho; unfold szO at h1; have := SZ.out; omega); have := szN_le l2; have := SZ.out; omega)
  have MA_nb : Hid (mayO l0 nb = 0) := Lib.hid (units_mayO (by have := szN_len nb; have := ZS_nb.out; omega) (mkU_isOp E_nb.out) (by rw [mkU_units E_nb.out]; exact nf_all (P := mU l0) trivial MU2.out) (by rw [mkU_units E_nb.out]; have := nf_takes (units (osOf l2)); have := TM2.out; omega) (by rw [mkU_units E_nb.out]; have := nf_makes (units (osOf l2)); have := TM2.out; omega))
  go_wp2_with (go_at_call 62; refine Hid.out ?_)
  refine Lib.hid ?_
  refine (transformAll_any s l0 _ _ _ _ _ _ na nb first _ O_na.out O_nb.out HS.out H64.out HT.out MA_na.out MA_nb.out ZS_na.out ZS_nb.out).mono ?_
  rintro e wn ⟨z2, hz2, y, hzb2, hres⟩
  have EZ : Hid (osOf z2 = osOf z) := Lib.hid (by rw [hz2, HZ.out, mkU_units E_na.out, mkU_units E_nb.out, nf_again, nf_again])
  obtain ⟨tp1, tp2⟩ := takesP_os EZ.out
  obtain ⟨A8, c8, rfl, oz2⟩ : ∃ A c, e = .returned (.tuple #[.slice A z2.length c, .int .i64 0]) ∧ OpsC wn A z2.length c z2 := by
    rcases hres with ⟨_, A, c, h1, h2⟩ | ⟨h1, _⟩
    · exact ⟨A, c, h1, h2⟩
    · rw [tp1, tp2] at h1; exact absurd h1 HB1.out
  have HT := Lib.hid (Utf8Tabs_below HT.out y)
  have O1 := Lib.hid (O1.out.ext y)
  have O2 := Lib.hid (O2.out.ext y)
  have HS := Lib.hid (HS.out.ext y)
  have O_z := Lib.hid (O_z.out.ext y)
  have O_na := Lib.hid (O_na.out.ext y)
  have O_nb := Lib.hid (O_nb.out.ext y)
  replace hx := ext_trans hx y
  clear y
  have O_z2 := Lib.hid oz2
  clear oz2 hz2 hzb2 tp1 tp2
  go_wp2_with (go_at_call 26; refine Hid.out ?_)
  refine Lib.hid ?_
  refine (same15D O_z.out.at_ O_z2.out.at_ (decide_eq_true EZ.out.symm)).mono ?_
  rintro e wn ⟨rfl, y⟩
  have HT := Lib.hid (Utf8Tabs_below HT.out y)
  have O1 := Lib.hid (O1.out.ext y)
  have O2 := Lib.hid (O2.out.ext y)
  have HS := Lib.hid (HS.out.ext y)
  have O_z := Lib.hid (O_z.out.ext y)
  have O_na := Lib.hid (O_na.out.ext y)
  have O_nb := Lib.hid (O_nb.out.ext y)
  have O_z2 := Lib.hid (O_z2.out.ext y)
  replace hx := ext_trans hx y
  clear y
  have IZ : Hid (∀ o ∈ z, isOp o.o) := Lib.hid (mkU_isOp HZ.out)
  have UZ : Hid ((units (osOf z)).length ≤ 4000000000) := Lib.hid (by
    rw [mkU_units HZ.out]
    have h1 := nf_len (traU first (nf (units (osOf l1))) (nf (units (osOf l2))))
    have h2 := (tra_size first (nf (units (osOf l2))) (nf (units (osOf l1)))).2.2
    have h3 := nf_len (units (osOf l1))
    have h4 := nf_len (units (osOf l2))
    have h5 := units_length (us := units (osOf l1))
    have h6 := units_length (us := units (osOf l2))
    have := TM1.out
    have := TM2.out
    omega)
  have RU : Hid (runesU (units (osOf z)) = runesU (units (osOf l2)) ∧ delsU (units (osOf z)) ≤ delsU (units (osOf l2))) := Lib.hid (by
    rw [mkU_units HZ.out]
    have h1 := nf_runes (traU first (nf (units (osOf l1))) (nf (units (osOf l2))))
    have h2 := tra_runes first (nf (units (osOf l2))) (nf (units (osOf l1)))
    have h3 := nf_runes (units (osOf l2))
    exact ⟨h1.1.trans (h2.1.trans h3.1), by rw [h1.2]; rw [h3.2] at h2; exact h2.2⟩)
  have RL : Hid ((runesU (units (osOf l2))).length ≤ 4000000000) := Lib.hid (by have h1 := insN_le (units (osOf l2)); have := UL_l2.out; omega)
  obtain ⟨B, hB⟩ : ∃ B, wn.heap.size = B := ⟨_, rfl⟩
  have HBB : Hid (w.heap.size ≤ B ∧ B ≤ wn.heap.size) := Lib.hid (by have := hx.size; omega)
  clear hB HBB
  go_wp2_with (fail)
  obtain ⟨B1, hB1⟩ : ∃ B, wn.heap.size = B := ⟨_, rfl⟩
  have HB1 := Lib.hid hB1
  clear hB1
  go_loopg [15, 17, 84] l2.length (fun g v15 v17 v84 wr => ∃ (i : Nat) (A9 : Option Addr) (c9 : Nat) (D : Nat), i ≤ l2.length ∧ g = l2.length - i ∧ v15 = .slice A9 (runesU (units (osOf (l2.take i)))).length c9 ∧ v17 = .int .i64 (D : Int) ∧ v84 = .int .i64 (i : Int) ∧ Hid (OwI32 wr B1 (.slice A9 (runesU (units (osOf (l2.take i)))).length c9) (runesU (units (osOf (l2.take i))))) ∧ Hid (delsU (units (osOf (l2.take i))) = D) ∧ Hid (Below wn.heap.size wn wr))
  case atStart => exact ⟨0, none, 0, 0, Nat.zero_le _, rfl, rfl, rfl, rfl, Lib.hid (Ow.empty _ _ _), Lib.hid rfl, Lib.hid (Below.refl _ _)⟩
  case round =>
    obtain ⟨i1, A91, c91, D1, hi, hg, rfl, rfl, rfl, HOW1, HD1, HY1⟩ := hrel
    have HG1 := Lib.hid hg
    clear hg
    by_cases hlt : i1 < l2.length
    · skip
      have hlt' : (i1 : Int) < (n2 : Int) := by have := N2.out; omega
      have OXL := Lib.hid (O2.out.ext HY1.out)
      obtain ⟨ad, o, hA, had, _, hx1, hc1⟩ := OXL.out.at_.rd.1.el hlt
      obtain ⟨f1, f2, f3⟩ := forms_step I2.out UL_l2.out hx1
      have RR := Lib.hid (OXL.out.at_.rd.2 o (List.mem_of_getElem? hx1)).1
      obtain ⟨⟨k, nn, r, s1, q⟩, Ar, cr, As, cs, Ap, cp⟩ := o
      obtain ⟨z0, z1, z2, z3, z4⟩ := op_cells hc1
      have hw2 : IntKind.i64.wrap ((i1 : Int) + 1) = (i1 : Int) + 1 := IntWalk.i64_in _ (by have := OXL.out.at_.b; have := OXL.out.at_.len; omega)
      have LR : Hid ((runesU (units (osOf (l2.take i1)))).length + r.length ≤ 1000000000000) := Lib.hid (by have g1 : runesU (units (osOf (l2.take (i1 + 1)))) = runesU (units (osOf (l2.take i1))) ++ r := f1; have h1 := congrArg List.length g1; rw [List.length_append] at h1; have h2 := insN_le (units (osOf (l2.take (i1 + 1)))); have h3 := units_take_len l2 (i1 + 1); have := UL_l2.out; omega)
      obtain ⟨D9, hD9⟩ : ∃ X, delsU (units (osOf (l2.take (i1 + 1)))) = X := ⟨_, rfl⟩
      have HD9 := Lib.hid hD9
      rw [HD1.out, hD9] at f2
      rw [hD9] at f3
      have F1 := Lib.hid f1
      have F3 := Lib.hid f3
      clear hc1 hx1 f1 f3 hD9
      have hAd : A2 = some ad := hA
      clear hA
      by_cases hk3 : k = 3
      · skip
        have e2 : (D1 : Int) + nn = (D9 : Int) := by have h : (D9 : Int) = (D1 : Int) + (if k = 3 then nn else 0) := f2; rw [if_pos hk3] at h; omega
        have hwd : IntKind.i64.wrap ((D1 : Int) + nn) = (D9 : Int) := by rw [e2]; exact IntWalk.i64_in _ (by have := F3.out; omega)
        have hwd2 : wrap64 ((D1 : Int) + nn) = (D9 : Int) := by rw [e2]; exact w64_in _ (by clear hwd; have := F3.out; omega)
        clear e2 f2
        subst hk3
        rw [hAd]
        go_wp2_with (at_builtin; refine app_i32 (m := r) rfl (.tmp 100) (.tmp 105) rfl rfl (by exact HOW1.out) _ Ar cr r.length rfl rfl (by exact RR.out) (by have := LR.out; omega) (by have h1 := HY1.out.size; have h2 := HB1.out; omega) ?_; intro v2 w9 hown hgr hv; obtain ⟨A10, c10, hv10, _, _⟩ := hown.form; subst hv10)
        have yy : Below wn.heap.size wn w9 := below_app HY1.out (by have := HY1.out.size; omega) HOW1.out (by have h2 := HB1.out; omega) hgr
        rw [← hAd]
        go_roundg (l2.length - (i1 + 1))
        case measure => have h9 := HG1.out; clear hw2; omega
        case rel => exact ⟨i1 + 1, A10, c10, D9, by clear hw2; omega, rfl, by rw [F1.out, List.length_append], rfl, rfl, Lib.hid (by rw [F1.out]; exact hown), HD9, Lib.hid yy⟩
      have hk3' : (k == 3) = false := beq_eq_false_iff_ne.2 hk3
      have e2 : D9 = D1 := by have h : (D9 : Int) = (D1 : Int) + (if k = 3 then nn else 0) := f2; rw [if_neg hk3] at h; omega
      subst e2
      clear f2
      rw [hAd]
      go_wp2_with (at_builtin; refine app_i32 (m := r) rfl (.tmp 100) (.tmp 105) rfl rfl (by exact HOW1.out) _ Ar cr r.length rfl rfl (by exact RR.out) (by have := LR.out; omega) (by have h1 := HY1.out.size; have h2 := HB1.out; omega) ?_; intro v2 w9 hown hgr hv; obtain ⟨A10, c10, hv10, _, _⟩ := hown.form; subst hv10)
      have yy : Below wn.heap.size wn w9 := below_app HY1.out (by have := HY1.out.size; omega) HOW1.out (by have h2 := HB1.out; omega) hgr
      rw [← hAd]
      go_roundg (l2.length - (i1 + 1))
      case measure => have h9 := HG1.out; clear hw2; omega
      case rel => exact ⟨i1 + 1, A10, c10, D9, by clear hw2; omega, rfl, by rw [F1.out, List.length_append], rfl, rfl, Lib.hid (by rw [F1.out]; exact hown), HD9, Lib.hid yy⟩
    have hlt' : ¬ ((i1 : Int) < (n2 : Int)) := by have := N2.out; omega
    have e9 : l2.take i1 = l2 := List.take_of_length_le (by omega)
    rw [e9] at HOW1 HD1 ⊢
    clear e9
    have O_z := Lib.hid (O_z.out.ext HY1.out)
    have HT := Lib.hid (Utf8Tabs_below HT.out HY1.out)
    have hx := ext_trans hx HY1.out
    clear O_na O_nb O_z2 O1 HS
    obtain ⟨wv, hwv⟩ : ∃ X, X = wr := ⟨_, rfl⟩
    subst hwv
    go_wp2_with (fail)
    obtain ⟨B2, hB2⟩ : ∃ B, wv.heap.size = B := ⟨_, rfl⟩
    have HB2 := Lib.hid hB2
    clear hB2
    go_loopg [16, 18, 110] z.length (fun g v15 v17 v84 wq => ∃ (i : Nat) (A9 : Option Addr) (c9 : Nat) (D : Nat), i ≤ z.length ∧ g = z.length - i ∧ v15 = .slice A9 (runesU (units (osOf (z.take i)))).length c9 ∧ v17 = .int .i64 (D : Int) ∧ v84 = .int .i64 (i : Int) ∧ Hid (OwI32 wq B2 (.slice A9 (runesU (units (osOf (z.take i)))).length c9) (runesU (units (osOf (z.take i))))) ∧ Hid (delsU (units (osOf (z.take i))) = D) ∧ Hid (Below wv.heap.size wv wq))
    case atStart => exact ⟨0, none, 0, 0, Nat.zero_le _, rfl, rfl, rfl, rfl, Lib.hid (Ow.empty _ _ _), Lib.hid rfl, Lib.hid (Below.refl _ _)⟩
    case round =>
      obtain ⟨i2, A92, c92, D2, hi, hg, rfl, rfl, rfl, HOW2, HD2, HY2⟩ := hrel
      have HG2 := Lib.hid hg
      clear hg
      by_cases hlt : i2 < z.length
      · skip
        have hlt' : (i2 : Int) < (z.length : Int) := by omega
        have OXL := Lib.hid (O_z.out.ext HY2.out)
        obtain ⟨ad, o, hA, had, _, hx1, hc1⟩ := OXL.out.at_.rd.1.el hlt
        obtain ⟨f1, f2, f3⟩ := forms_step IZ.out UZ.out hx1
        have RR := Lib.hid (OXL.out.at_.rd.2 o (List.mem_of_getElem? hx1)).1
        obtain ⟨⟨k, nn, r, s1, q⟩, Ar, cr, As, cs, Ap, cp⟩ := o
        obtain ⟨z0, z1, z2, z3, z4⟩ := op_cells hc1
        have hw2 : IntKind.i64.wrap ((i2 : Int) + 1) = (i2 : Int) + 1 := IntWalk.i64_in _ (by have := OXL.out.at_.b; have := OXL.out.at_.len; omega)
        have LR : Hid ((runesU (units (osOf (z.take i2)))).length + r.length ≤ 1000000000000) := Lib.hid (by have g1 : runesU (units (osOf (z.take (i2 + 1)))) = runesU (units (osOf (z.take i2))) ++ r := f1; have h1 := congrArg List.length g1; rw [List.length_append] at h1; have h2 := insN_le (units (osOf (z.take (i2 + 1)))); have h3 := units_take_len z (i2 + 1); have := UZ.out; omega)
        obtain ⟨D9, hD9⟩ : ∃ X, delsU (units (osOf (z.take (i2 + 1)))) = X := ⟨_, rfl⟩
        have HD9 := Lib.hid hD9
        rw [HD2.out, hD9] at f2
        rw [hD9] at f3
        have F1 := Lib.hid f1
        have F3 := Lib.hid f3
        clear hc1 hx1 f1 f3 hD9
        have hAd : A5 = some ad := hA
        clear hA
        by_cases hk3 : k = 3
        · skip
          have e2 : (D2 : Int) + nn = (D9 : Int) := by have h : (D9 : Int) = (D2 : Int) + (if k = 3 then nn else 0) := f2; rw [if_pos hk3] at h; omega
          have hwd : IntKind.i64.wrap ((D2 : Int) + nn) = (D9 : Int) := by rw [e2]; exact IntWalk.i64_in _ (by have := F3.out; omega)
          have hwd2 : wrap64 ((D2 : Int) + nn) = (D9 : Int) := by rw [e2]; exact w64_in _ (by clear hwd; have := F3.out; omega)
          clear e2 f2
          subst hk3
          rw [hAd]
          go_wp2_with (at_builtin; refine app_i32 (m := r) rfl (.tmp 126) (.tmp 131) rfl rfl (by exact HOW2.out) _ Ar cr r.length rfl rfl (by exact RR.out) (by have := LR.out; omega) (by have h1 := HY2.out.size; have h2 := HB2.out; omega) ?_; intro v2 w9 hown hgr hv; obtain ⟨A10, c10, hv10, _, _⟩ := hown.form; subst hv10)
          have yy : Below wv.heap.size wv w9 := below_app HY2.out (by have := HY2.out.size; omega) HOW2.out (by have h2 := HB2.out; omega) hgr
          rw [← hAd]
          go_roundg (z.length - (i2 + 1))
          case measure => have h9 := HG2.out; clear hw2; omega
          case rel => exact ⟨i2 + 1, A10, c10, D9, by clear hw2; omega, rfl, by rw [F1.out, List.length_append], rfl, rfl, Lib.hid (by rw [F1.out]; exact hown), HD9, Lib.hid yy⟩
        have hk3' : (k == 3) = false := beq_eq_false_iff_ne.2 hk3
        have e2 : D9 = D2 := by have h : (D9 : Int) = (D2 : Int) + (if k = 3 then nn else 0) := f2; rw [if_neg hk3] at h; omega
        subst e2
        clear f2
        rw [hAd]
        go_wp2_with (at_builtin; refine app_i32 (m := r) rfl (.tmp 126) (.tmp 131) rfl rfl (by exact HOW2.out) _ Ar cr r.length rfl rfl (by exact RR.out) (by have := LR.out; omega) (by have h1 := HY2.out.size; have h2 := HB2.out; omega) ?_; intro v2 w9 hown hgr hv; obtain ⟨A10, c10, hv10, _, _⟩ := hown.form; subst hv10)
        have yy : Below wv.heap.size wv w9 := below_app HY2.out (by have := HY2.out.size; omega) HOW2.out (by have h2 := HB2.out; omega) hgr
        rw [← hAd]
        go_roundg (z.length - (i2 + 1))
        case measure => have h9 := HG2.out; clear hw2; omega
        case rel => exact ⟨i2 + 1, A10, c10, D9, by clear hw2; omega, rfl, by rw [F1.out, List.length_append], rfl, rfl, Lib.hid (by rw [F1.out]; exact hown), HD9, Lib.hid yy⟩
      have hlt' : ¬ ((i2 : Int) < (z.length : Int)) := by omega
      have e9 : z.take i2 = z := List.take_of_length_le (by omega)
      rw [e9] at HOW2 HD2 ⊢
      clear e9
      have HT := Lib.hid (Utf8Tabs_below HT.out HY2.out)
      have hx := ext_trans hx HY2.out
      have OW1 := Lib.hid (HOW1.out.below HY2.out (Nat.le_refl _))
      rw [RU.out.1] at HOW2 ⊢
      obtain ⟨LL, hLL⟩ : ∃ X, runesU (units (osOf l2)) = X := ⟨_, rfl⟩
      rw [hLL] at OW1 HOW2 RL ⊢
      have hDD : ¬ ((D1 : Int) < (D2 : Int)) := by have h1 := RU.out.2; have h2 := HD1.out; have h3 := HD2.out; omega
      have R1 := Lib.hid (OW1.out.rd encI32_len)
      have R2 := Lib.hid (HOW2.out.rd encI32_len)
      clear hLL
      obtain ⟨wy, hwy⟩ : ∃ X, X = wr := ⟨_, rfl⟩
      subst hwy
      go_wp2_with (fail)
      go_loopg [146] LL.length (fun g iv wz => ∃ i : Nat, i ≤ LL.length ∧ g = LL.length - i ∧ iv = .int .i64 (i : Int) ∧ Hid (Below wy.heap.size wy wz))
      case atStart => exact ⟨0, Nat.zero_le _, rfl, rfl, Lib.hid (Below.refl _ _)⟩
      case round =>
        obtain ⟨i3, hi, hg, rfl, HY3⟩ := hrel
        have HG3 := Lib.hid hg
        clear hg
        by_cases hlt : i3 < LL.length
        · skip
          have hlt' : (i3 : Int) < (LL.length : Int) := by omega
          obtain ⟨ad1, v1, e1, _, _, h1, c1⟩ := (R1.out.ext HY3.out).el hlt
          obtain ⟨ad2, v2, e2, _, _, h2, c2⟩ := (R2.out.ext HY3.out).el hlt
          have hvv : v1 = v2 := Option.some.inj (h1.symm.trans h2)
          subst hvv
          have r0 : wr.cell? (ad1.add (i3 * 1)) = some (.int .i32 v1) := by have := c1 0 _ rfl; rwa [add_zero'] at this
          have s0 : wr.cell? (ad2.add (i3 * 1)) = some (.int .i32 v1) := by have := c2 0 _ rfl; rwa [add_zero'] at this
          rw [Nat.mul_one] at r0 s0
          have hw2 : IntKind.i64.wrap ((i3 : Int) + 1) = (i3 : Int) + 1 := IntWalk.i64_in _ (by have := RL.out; omega)
          clear c1 c2 h1 h2
          rw [e1, e2]
          go_wp2_with (fail)
          go_quiet (fail)
          go_wp2_with (fail)
          rw [← e1, ← e2]
          go_roundg (LL.length - (i3 + 1))
          case measure => have h9 := HG3.out; clear hw2; omega
          case rel => exact ⟨i3 + 1, by clear hw2; omega, rfl, rfl, Lib.hid (HY3.out.trans ((ext_drew _ nq).mono HY3.out.size))⟩
        have hlt' : ¬ ((i3 : Int) < (LL.length : Int)) := by omega
        have HT := Lib.hid (Utf8Tabs_below HT.out HY3.out)
        have hx := ext_trans hx HY3.out
        go_wp2_with (go_at_call 61; refine Hid.out ?_)
        refine Lib.hid ?_
        refine (known22_any _ HT.out).mono ?_
        rintro e w2 ⟨rfl, y⟩
        replace hx := ext_trans hx y
        go_wp2_with (fail)
        go_ret
        exact ⟨rfl, hx⟩
end Go.Proofs.YtbdkbfoplpociaaGreatDoor
namespace Go.Proofs.YtbdkbfoplpociaaGreatDoor
set_option linter.unusedVariables false
set_option linter.unusedSimpArgs false

theorem trim_front {us vs : List Un} (h : trim vs ≠ []) : trim (us ++ vs) = us ++ trim vs := by
  induction us with
  | nil => rfl
  | cons u us ih => show trim (u :: (us ++ vs)) = _; rw [trim_cons_ne (.inl (by rw [ih]; simp [h])), ih]; rfl
end Go.Proofs.YtbdkbfoplpociaaGreatDoor
