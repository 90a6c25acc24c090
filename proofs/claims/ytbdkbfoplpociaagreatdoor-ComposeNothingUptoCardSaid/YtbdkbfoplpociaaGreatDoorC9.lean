/- Merged texts: FirstLaw, ComposeFirst, NothLaw. -/
import Derived.Test.YtbdkbfoplpociaaGreatDoorK33
import Derived.Test.YtbdkbfoplpociaaGreatDoorK30
import Derived.Test.YtbdkbfoplpociaaGreatDoorC5
import Derived.Test.YtbdkbfoplpociaaGreatDoorK31
import Derived.Test.YtbdkbfoplpociaaGreatDoorC4
import Derived.Test.YtbdkbfoplpociaaGreatDoorK35
import Derived.Test.YtbdkbfoplpociaaGreatDoorC8
import Derived.Test.YtbdkbfoplpociaaGreatDoorK34
import Derived.Test.YtbdkbfoplpociaaGreatDoorC1
import Derived.Test.YtbdkbfoplpociaaGreatDoorK29
namespace Go.Proofs.YtbdkbfoplpociaaGreatDoor
set_option linter.unusedVariables false
set_option linter.unusedSimpArgs false

/-- an op that deletes nothing, and the others behind a retain of its length -/
theorem first_keep {l : List Ky} {o : Opd} {vs : List Un} (ho : isOp o) (hk : o.k ≠ 3) (hv : ∀ v ∈ vs, mU l v) : compU l (unitsO o) (List.replicate (lenO o) (.ret []) ++ vs) = unitsO o ++ vs := by
  have hl := lenO_units ho
  rcases isOp_kind ho with k | k | k
  · have e := unitsO_two k
    have h := comp_inss l o.s [] vs o.r
    rw [List.append_nil, comp_none _ hv] at h
    rw [← hl, e, List.length_map, h]
  · exact absurd k hk
  · have e := unitsO_ret k
    rw [hl] at e
    have h := comp_rets l o.p [] vs (lenO o)
    rw [List.append_nil, comp_none _ hv] at h
    rw [e, h]
/-- a delete, and the others -/
theorem first_gone {l : List Ky} {o : Opd} {vs : List Un} (ho : isOp o) (hk : o.k = 3) (hv : ∀ v ∈ vs, mU l v) : mkU (compU l (unitsO o) vs) = mkU (unitsO o ++ vs) := by
  have e := unitsO_del hk
  have h1 := comp_dels (l := l) (unitsO o).length vs [] 0 hv
  have h2 := cn_del (unitsO o).length vs [] 0
  unfold mkU nf canon
  rw [e]
  rw [h1, h2]
/-- it may be, as may the delta -/
theorem cons_may {l : List Ky} {o : OpS} {t : List OpS} (h : mayO l (o :: t) = 0) (hb : (o :: t).length ≤ 1048576) (hm : takesU (units (osOf (o :: t))) ≤ 100000 ∧ makesU (units (osOf (o :: t))) ≤ 100000) :
    isOp o.o ∧ mayO l [o] = 0 ∧ mayO l t = 0 ∧ (∀ u ∈ unitsO o.o, mU l u) ∧ (∀ u ∈ units (osOf t), mU l u) ∧ lenO o.o ≤ 100000 ∧ takesU (unitsO o.o) + takesU (units (osOf t)) ≤ 100000 ∧ makesU (unitsO o.o) + makesU (units (osOf t)) ≤ 100000 := by
  obtain ⟨g, _, _⟩ := mayO_zero h
  have hi := good_isOp g
  have hu := good_mU g
  have e : units (osOf (o :: t)) = unitsO o.o ++ units (osOf t) := rfl
  have e1 : units (osOf [o]) = unitsO o.o := by show unitsO o.o ++ [] = _; rw [List.append_nil]
  rw [e, takesU_append, makesU_append] at hm
  have hl := lenO_units (hi o (by simp))
  have hul := units_length (us := unitsO o.o)
  have m1 : ∀ u ∈ unitsO o.o, mU l u := fun u hh => hu u (by rw [e]; exact List.mem_append_left _ hh)
  have m2 : ∀ u ∈ units (osOf t), mU l u := fun u hh => hu u (by rw [e]; exact List.mem_append_right _ hh)
  refine ⟨hi o (by simp), units_mayO (by simp) (fun z hz => hi z (by simp at hz; subst hz; simp)) (by rw [e1]; exact m1) (by rw [e1]; omega) (by rw [e1]; omega),
    units_mayO (by simp at hb; omega) (fun z hz => hi z (List.mem_cons_of_mem _ hz)) m2 (by omega) (by omega), m1, m2, ?_, by omega, by omega⟩
  have hlen : lenO o.o ≤ takesU (unitsO o.o) + makesU (unitsO o.o) := by
    rw [← hl]; omega
  rcases isOp_kind (hi o (by simp)) with k | k | k
  · have h0 := unitsO_two k
    have : makesU (unitsO o.o) = lenO o.o := by
      rw [← hl, h0]
      induction o.o.r with
      | nil => rfl
      | cons a r ih => show makesU (.ins a o.o.s :: r.map _) = _; rw [makesU_i, ih]; rfl
    omega
  · have h0 := unitsO_del k
    have : takesU (unitsO o.o) = lenO o.o := by
      rw [h0, takesU_del, hl]
    omega
  · have h0 := unitsO_ret k
    have : ∀ n p, takesU (List.replicate n (.ret p)) = n := fun n p => by
      induction n with
      | zero => rfl
      | succ n ih => rw [List.replicate_succ, takesU_r, ih]
    have h2 : takesU (unitsO o.o) = lenO o.o := by rw [h0, this, hl]
    omega
end Go.Proofs.YtbdkbfoplpociaaGreatDoor
namespace Go.Proofs.YtbdkbfoplpociaaGreatDoor
open Go.RowKit
set_option linter.unusedVariables false
set_option linter.unusedSimpArgs false

set_option maxRecDepth 100000 in
set_option maxHeartbeats 12800000 in
theorem composeFirst_any (A0 A1 : Option Addr) (n0 n1 c0 c1 : Nat) (l0 : List Ky) (l1 : List OpS) (w : World)
    (e0 : n0 = l0.length) (r0 : RdKy w w.heap.size A0 l0) (b0 : n0 ≤ 1048576)
    (e1 : n1 = l1.length) (r1 : RdOp w w.heap.size A1 l1) (b1 : n1 ≤ 1048576) (k1 : n1 ≤ c1) (m1 : c1 ≤ maxLen) (q1 : ∀ o ∈ l1, okOp o.o) (z1 : szX l1 ≤ 2305850000000000000) (f1 : ∀ o ∈ l1, capO o)
    (hT : Lib.Utf8Tabs 1 2 w) :
    Calls Tryz.prog 5 #[.slice A0 n0 c0, .slice A1 n1 c1] w fun e w' => e = .returned (.bool true) ∧ Below w.heap.size w w' := by
  have N0 := Lib.hid e0
  have R0 := Lib.hid r0
  have HT := Lib.hid hT
  have hx := Below.refl w.heap.size w
  have N1 := Lib.hid e1
  have R1 := Lib.hid r1
  have Q1 := Lib.hid q1
  have Z1 := Lib.hid z1
  have F1 := Lib.hid f1
  clear e0 r0 hT e1 r1 q1 z1 f1
  go_enter Tryz.func5, Tryz.ntmps5
  have ra : Rd SX.enc 1 _ _ _ [⟨A1, c1, l1⟩] := Rd.new (enc := SX.enc) (size := 1) (fun _ => rfl) w 23 [⟨A1, c1, l1⟩] (cs := #[.slice A1 n1 c1]) (by simp [SX.enc, ← N1.out]) rfl
  have y := ext_alloc w (.cells #[.slice A1 n1 c1] 23)
  have R0 := Lib.hid (R0.out.ext y)
  have HT := Lib.hid (Utf8Tabs_below HT.out y)
  have R1 := Lib.hid (R1.out.ext y)
  replace hx := ext_trans hx y
  clear y
  go_wp2_with (go_at_call 21; refine Hid.out ?_)
  refine Lib.hid ?_
  refine (great20_any A0 (some ⟨w.heap.size, 0, none⟩) n0 c0 1 1 [⟨A1, c1, l1⟩] _ rfl ra (by omega) (by omega) (fun x hx => by
    simp only [List.mem_cons, List.not_mem_nil, or_false] at hx
    subst hx
    exact ⟨R1.out, by have := N1.out; simp only; omega⟩) (by simp only [sumX, List.map_cons, List.map_nil, List.sum_cons, List.sum_nil]; have := Z1.out; omega) (fun x hx => by
    simp only [List.mem_cons, List.not_mem_nil, or_false] at hx
    subst hx
    have := Z1.out; simp only; omega)).mono ?_
  rintro e wn ⟨gb, rfl, h1, dr, hd⟩
  have y := drew_ext hd
  clear hd ra
  have R0 := Lib.hid (R0.out.ext y)
  have HT := Lib.hid (Utf8Tabs_below HT.out y)
  have R1 := Lib.hid (R1.out.ext y)
  replace hx := ext_trans hx y
  clear y
  cases gb
  case true =>
    clear h1
    go_wp2_with (go_at_call 23; refine Hid.out ?_)
    refine Lib.hid ?_
    refine (known20_any _ HT.out).mono ?_
    rintro e w2 ⟨rfl, y⟩
    replace hx := ext_trans hx y
    go_wp2_with (fail)
    go_ret
    exact ⟨rfl, hx⟩
  have h2 := h1 rfl
  have G0 := Lib.hid h2.1
  have SZ : Hid (szX l1 ≤ 5000) := Lib.hid (by have h3 := h2.2; simp only [sumX, List.map_cons, List.map_nil, List.sum_cons, List.sum_nil] at h3; omega)
  clear h1 h2
  have LX1 : Hid (l1.length ≤ 5000) := Lib.hid (by have := szX_len l1; have := SZ.out; omega)
  have O1 : Hid (OpsC _ A1 n1 c1 l1) := Lib.hid ⟨⟨R1.out, N1.out, Q1.out, by have := LX1.out; have := N1.out; omega⟩, k1, m1, F1.out⟩
  by_cases h2 : (n1 : Int) < 2
  · skip
    go_wp2_with (go_at_call 23; refine Hid.out ?_)
    refine Lib.hid ?_
    refine (known20_any _ HT.out).mono ?_
    rintro e w2 ⟨rfl, y⟩
    replace hx := ext_trans hx y
    go_wp2_with (fail)
    go_ret
    exact ⟨rfl, hx⟩
  obtain ⟨m, hm⟩ : ∃ X, mayO l0 l1 = X := ⟨_, rfl⟩
  have HM := Lib.hid hm
  clear hm
  go_wp2_with (go_at_call 22; refine Hid.out ?_)
  refine Lib.hid ?_
  refine (mayKeysD N0.out R0.out (by omega) O1.out.at_ (by have := SZ.out; omega) HT.out HM.out).mono ?_
  rintro e wn ⟨rfl, y⟩
  have R0 := Lib.hid (R0.out.ext y)
  have HT := Lib.hid (Utf8Tabs_below HT.out y)
  have O1 := Lib.hid (O1.out.ext y)
  replace hx := ext_trans hx y
  clear y
  by_cases h0 : m = 0
  rotate_left
  · skip
    have h0' : (m == 0) = false := beq_eq_false_iff_ne.2 h0
    have h0'' : (m != 0) = true := by rw [bne, h0']; rfl
    clear h0 HM
    go_wp2_with (go_at_call 23; refine Hid.out ?_)
    refine Lib.hid ?_
    refine (known20_any _ HT.out).mono ?_
    rintro e w2 ⟨rfl, y⟩
    replace hx := ext_trans hx y
    go_wp2_with (fail)
    go_ret
    exact ⟨rfl, hx⟩
  subst h0
  have TM : Hid (takesU (units (osOf l1)) ≤ 536870912 ∧ makesU (units (osOf l1)) ≤ 536870912) := Lib.hid (by
    obtain ⟨g, t, m⟩ := mayO_zero HM.out
    obtain ⟨s1, s2⟩ := sums_units l1 (good_isOp g)
    rw [takes_sum g (by have := LX1.out; omega)] at t
    rw [makes_sum g (by have := LX1.out; omega)] at m
    omega)
  have TP : Hid (takesP l1 = (takesU (units (osOf l1)) : Int) ∧ makesP l1 = (makesU (units (osOf l1)) : Int)) := Lib.hid (by
    obtain ⟨g, t, m⟩ := mayO_zero HM.out
    obtain ⟨s1, s2⟩ := sums_units l1 (good_isOp g)
    rw [takes_sum g (by have := LX1.out; omega), makes_sum g (by have := LX1.out; omega), s1, s2]; exact ⟨rfl, rfl⟩)
  obtain ⟨tk, htk⟩ : ∃ X, takesU (units (osOf l1)) = X := ⟨_, rfl⟩
  obtain ⟨mk, hmk⟩ : ∃ X, makesU (units (osOf l1)) = X := ⟨_, rfl⟩
  have HTK := Lib.hid htk
  have HMK := Lib.hid hmk
  rw [htk, hmk] at TP
  clear htk hmk
  go_wp2_with (go_at_call 28; refine Hid.out ?_)
  refine Lib.hid ?_
  refine (takes15_any _ _ _ l1 _ O1.out.at_.len O1.out.at_.rd.1 (by omega)).mono ?_
  rw [TP.out.1]
  rintro e wn ⟨rfl, dr, hd⟩
  have y := drew_ext hd
  clear hd
  have R0 := Lib.hid (R0.out.ext y)
  have HT := Lib.hid (Utf8Tabs_below HT.out y)
  have O1 := Lib.hid (O1.out.ext y)
  replace hx := ext_trans hx y
  clear y
  by_cases ht : (100000 : Int) < (tk : Int)
  · skip
    go_wp2_with (go_at_call 23; refine Hid.out ?_)
    refine Lib.hid ?_
    refine (known20_any _ HT.out).mono ?_
    rintro e w2 ⟨rfl, y⟩
    replace hx := ext_trans hx y
    go_wp2_with (fail)
    go_ret
    exact ⟨rfl, hx⟩
  go_wp2_with (go_at_call 29; refine Hid.out ?_)
  refine Lib.hid ?_
  refine (makes15_any _ _ _ l1 _ O1.out.at_.len O1.out.at_.rd.1 (by omega)).mono ?_
  rw [TP.out.2]
  rintro e wn ⟨rfl, y⟩
  have R0 := Lib.hid (R0.out.ext y)
  have HT := Lib.hid (Utf8Tabs_below HT.out y)
  have O1 := Lib.hid (O1.out.ext y)
  replace hx := ext_trans hx y
  clear y
  by_cases hm : (100000 : Int) < (mk : Int)
  · skip
    go_wp2_with (go_at_call 23; refine Hid.out ?_)
    refine Lib.hid ?_
    refine (known20_any _ HT.out).mono ?_
    rintro e w2 ⟨rfl, y⟩
    replace hx := ext_trans hx y
    go_wp2_with (fail)
    go_ret
    exact ⟨rfl, hx⟩
  have TB : Hid (takesU (units (osOf l1)) ≤ 100000 ∧ makesU (units (osOf l1)) ≤ 100000) := Lib.hid (by rw [HTK.out, HMK.out]; omega)
  go_wp2_with (go_at_call 24; refine Hid.out ?_)
  refine Lib.hid ?_
  refine (new_any A0 n0 c0 l0 _ N0.out R0.out (by omega)).mono ?_
  rintro e wn ⟨y, ⟨hm, s, rfl, hS⟩ | ⟨hm, rfl⟩⟩
  all_goals
    have R0 := Lib.hid (R0.out.ext y)
    have HT := Lib.hid (Utf8Tabs_below HT.out y)
    have O1 := Lib.hid (O1.out.ext y)
    replace hx := ext_trans hx y
    clear y hm
  rotate_left
  · skip
    go_wp2_with (go_at_call 23; refine Hid.out ?_)
    refine Lib.hid ?_
    refine (known20_any _ HT.out).mono ?_
    rintro e w2 ⟨rfl, y⟩
    replace hx := ext_trans hx y
    go_wp2_with (fail)
    go_ret
    exact ⟨rfl, hx⟩
  have HS := Lib.hid hS
  clear hS
  have H64 : Hid (l0.length ≤ 64) := Lib.hid (by have := N0.out; have := G0.out; omega)
  clear ht hm
  obtain ⟨n9, hn9⟩ : ∃ X, n1 - 1 = X := ⟨_, rfl⟩
  obtain ⟨c9, hc9⟩ : ∃ X, c1 - 1 = X := ⟨_, rfl⟩
  obtain ⟨A9, hA9⟩ : ∃ X, advS A1 c1 1 5 = X := ⟨_, rfl⟩
  cases l1 with
  | nil => exact absurd N1.out (by simp; omega)
  | cons o t =>
    obtain ⟨I0, MA, MB, MUA, MUB, LO, TS, MS⟩ := cons_may HM.out (by have := LX1.out; omega) TB.out
    have sl1 : ∀ W, (Instr.slice 23 (.slice A1 n1 c1) (some (.int .i64 1)) none none).run Tryz.prog W = .ok (.slice A9 n9 c9) W := sl_from (k := 1) Tryz.slOp Tryz.elOpD size_opD rfl hA9 hn9 hc9 (by omega) k1
    have sl2 : ∀ W, (Instr.slice 23 (.slice A1 n1 c1) none (some (.int .i64 1)) none).run Tryz.prog W = .ok (.slice A1 1 c1) W := sl_to (l := 1) Tryz.slOp Tryz.elOpD size_opD rfl (by omega)
    have O9 : Hid (OpsC _ A9 n9 c9 t) := Lib.hid (by have h := O1.out.drop (k := 1) (by omega); rw [hA9, hn9, hc9] at h; exact h)
    have OA : Hid (OpsC _ A1 1 c1 [o]) := Lib.hid (by exact O1.out.take (k := 1) (by omega))
    clear hn9 hc9 hA9
    have ZN : Hid (szN (o :: t) ≤ 200000) := Lib.hid (by have := szN_le (o :: t); have := SZ.out; omega)
    have ZA : Hid (szN [o] ≤ 200000 ∧ szN t ≤ 190000) := Lib.hid (by have h1 := szN_le (o :: t); have h2 := SZ.out; rw [szN_cons] at h1 ⊢; have : szN [] = 0 := rfl; omega)
    have EA : Hid (units (osOf [o]) = unitsO o.o) := Lib.hid (by show unitsO o.o ++ [] = _; rw [List.append_nil])
    have I0 := Lib.hid I0
    have MUA := Lib.hid MUA
    have MUB := Lib.hid MUB
    have LO := Lib.hid LO
    have TS := Lib.hid TS
    have MS := Lib.hid MS
    have MA := Lib.hid MA
    have MB := Lib.hid MB
    obtain ⟨ad, ha, _, hc0⟩ := O1.out.first
    have HTQ := HT
    clear HT
    subst ha
    have HT := HTQ
    clear HTQ
    obtain ⟨⟨kk, nn, rr, ss, qq⟩, Ar, cr, As, cs, Ap, cp⟩ := o
    obtain ⟨z0, z1, z2, z3, z4⟩ := op_cells hc0
    have N1L : Hid (n1 = t.length + 1) := Lib.hid (by have := N1.out; simpa using this)
    clear hc0
    by_cases hk : kk = 3
    · skip
      have HK := Lib.hid hk
      have hk' : (kk != 3) = false := by rw [hk]; rfl
      have SZC : Hid (takesU (compU l0 (units (osOf [(⟨⟨kk, nn, rr, ss, qq⟩, Ar, cr, As, cs, Ap, cp⟩ : OpS)])) (units (osOf t))) ≤ 536870912 ∧ makesU (compU l0 (units (osOf [(⟨⟨kk, nn, rr, ss, qq⟩, Ar, cr, As, cs, Ap, cp⟩ : OpS)])) (units (osOf t))) ≤ 536870912) := Lib.hid (by have h := comp_size l0 (units (osOf t)) (units (osOf [(⟨⟨kk, nn, rr, ss, qq⟩, Ar, cr, As, cs, Ap, cp⟩ : OpS)])); rw [EA.out] at h ⊢; have := TS.out; have := MS.out; omega)
      clear hk
      go_wp2_with (go_at_call 25; refine Hid.out ?_)
      refine Lib.hid ?_
      refine (composeOk_any s l0 _ _ _ _ _ _ [(⟨⟨kk, nn, rr, ss, qq⟩, Ar, cr, As, cs, Ap, cp⟩ : OpS)] t _ OA.out O9.out HS.out H64.out HT.out MA.out MB.out ZA.out.1 (by have := ZA.out; omega) SZC.out.1 SZC.out.2).mono ?_
      rintro e wn ⟨A5, c5, za, rfl, h_1, o_1, y⟩
      have HT := Lib.hid (Utf8Tabs_below HT.out y)
      have O1 := Lib.hid (O1.out.ext y)
      have HS := Lib.hid (HS.out.ext y)
      have O9 := Lib.hid (O9.out.ext y)
      have OA := Lib.hid (OA.out.ext y)
      replace hx := ext_trans hx y
      have E_za : Hid (osOf za = mkU (unitsO (⟨kk, nn, rr, ss, qq⟩ : Opd) ++ units (osOf t))) := Lib.hid (by rw [h_1]; exact (by rw [EA.out]; exact first_gone I0.out HK.out MUB.out))
      have O_za := Lib.hid o_1
      clear h_1 o_1
      clear y
      go_wp2_with (go_at_call 27; refine Hid.out ?_)
      refine Lib.hid ?_
      refine (of16D O1.out HM.out ZN.out).mono ?_
      rintro e wn ⟨A7, c7, zf, rfl, h_1, o_1, y⟩
      have HT := Lib.hid (Utf8Tabs_below HT.out y)
      have O1 := Lib.hid (O1.out.ext y)
      have HS := Lib.hid (HS.out.ext y)
      have O9 := Lib.hid (O9.out.ext y)
      have OA := Lib.hid (OA.out.ext y)
      have O_za := Lib.hid (O_za.out.ext y)
      replace hx := ext_trans hx y
      have E_zf := Lib.hid h_1
      have O_zf := Lib.hid o_1
      clear h_1 o_1
      clear y
      go_wp2_with (go_at_call 26; refine Hid.out ?_)
      refine Lib.hid ?_
      refine (same15D O_za.out.at_ O_zf.out.at_ (decide_eq_true (E_za.out.trans E_zf.out.symm))).mono ?_
      rintro e wn ⟨rfl, y⟩
      have HT := Lib.hid (Utf8Tabs_below HT.out y)
      have O1 := Lib.hid (O1.out.ext y)
      have HS := Lib.hid (HS.out.ext y)
      have O9 := Lib.hid (O9.out.ext y)
      have OA := Lib.hid (OA.out.ext y)
      have O_za := Lib.hid (O_za.out.ext y)
      have O_zf := Lib.hid (O_zf.out.ext y)
      replace hx := ext_trans hx y
      clear y
      go_wp2_with (go_at_call 23; refine Hid.out ?_)
      refine Lib.hid ?_
      refine (known20_any _ HT.out).mono ?_
      rintro e w2 ⟨rfl, y⟩
      replace hx := ext_trans hx y
      go_wp2_with (fail)
      go_ret
      exact ⟨rfl, hx⟩
    have HK := Lib.hid hk
    have hk' : (kk != 3) = true := by rw [bne, beq_eq_false_iff_ne.2 hk]; rfl
    obtain ⟨ln, hln⟩ : ∃ X, lenO (⟨kk, nn, rr, ss, qq⟩ : Opd) = X := ⟨_, rfl⟩
    have HLN : Hid ((if kk = 2 then (rr.length : Int) else nn) = (ln : Int)) := Lib.hid (by have h := (lenO_of I0.out).2; unfold sizeO at h; rw [hln] at h; exact h.symm)
    have HL2 := Lib.hid hln
    have LB : Hid (1 ≤ ln ∧ ln ≤ 100000) := Lib.hid (by rw [← hln]; exact ⟨(lenO_of I0.out).1, LO.out⟩)
    clear hk hln
    go_wp2_with (go_at_call 30; refine Hid.out ?_)
    refine Lib.hid ?_
    refine (len15_any kk nn Ar As Ap rr.length ss.length qq.length cr cs cp _).mono ?_
    rw [HLN.out]
    rintro e wn ⟨rfl, y⟩
    have HT := Lib.hid (Utf8Tabs_below HT.out y)
    have O1 := Lib.hid (O1.out.ext y)
    have HS := Lib.hid (HS.out.ext y)
    have O9 := Lib.hid (O9.out.ext y)
    have OA := Lib.hid (OA.out.ext y)
    replace hx := ext_trans hx y
    clear y z0 z1 z2 z3 z4
    have yb := ext_alloc wn (.cells #[.int .u8 1, .int .i64 (ln : Int), .slice none 0 0, .slice none 0 0, .slice none 0 0] 40)
    have ob : OwOs (wn.alloc (.cells #[.int .u8 1, .int .i64 (ln : Int), .slice none 0 0, .slice none 0 0, .slice none 0 0] 40)) wn.heap.size (.slice (some ⟨wn.heap.size, 0, none⟩) 1 1) [⟨opR (ln : Int) [], none, 0, none, 0, none, 0⟩] := Ow.new (enc := OpS.enc) (size := 5) OpS.enc_len wn 40 [⟨opR (ln : Int) [], none, 0, none, 0, none, 0⟩] rfl rfl (by unfold maxLen; omega) (Nat.le_refl _) rfl
    have N9 := Lib.hid O9.out.at_.len
    have B9 := Lib.hid O9.out.at_.b
    go_wp2_with (first
      | (at_builtin; refine app_os (m := t) rfl (.tmp 56) (.tmp 57) rfl rfl ob _ A9 c9 n9 rfl N9.out (O9.out.at_.rd.ext yb).1 (by have := N9.out; have := B9.out; simp only [List.length_singleton]; omega) (by simp) ?_; intro v2 wa hown hgr hv; obtain ⟨A8, c8, hv8, hc8, hm8⟩ := hown.form; subst hv8; obtain ⟨nl, hnl⟩ : ∃ X, ([(⟨opR (ln : Int) [], none, 0, none, 0, none, 0⟩ : OpS)] ++ t).length = X := ⟨_, rfl⟩; rw [hnl])
      | (go_at_call 25; refine Hid.out ?_))
    refine Lib.hid ?_
    have y : Below wn.heap.size wn wa := below_app yb (by simp) ob (Nat.le_refl _) hgr
    have O8 : Hid (OpsC wa A8 nl c8 ((⟨opR (ln : Int) [], none, 0, none, 0, none, 0⟩ : OpS) :: t)) := Lib.hid (O9.out.cons y hown (by rw [← hnl, N9.out]; simp) ⟨Rd.nil, Rd.nil, Rd.nil⟩ (ok_small _ rfl rfl (by simp [opR])) cap_zeroR (by have := B9.out; have := LX1.out; have := N9.out; simp only [List.length_cons] at *; omega))
    clear yb ob hown hgr hv hc8 hm8
    have HT := Lib.hid (Utf8Tabs_below HT.out y)
    have O1 := Lib.hid (O1.out.ext y)
    have HS := Lib.hid (HS.out.ext y)
    have O9 := Lib.hid (O9.out.ext y)
    have OA := Lib.hid (OA.out.ext y)
    replace hx := ext_trans hx y
    clear y
    have UR : Hid (units (osOf ((⟨opR (ln : Int) [], none, 0, none, 0, none, 0⟩ : OpS) :: t)) = List.replicate ln (.ret []) ++ units (osOf t)) := Lib.hid (by show unitsO (opR (ln : Int) []) ++ units (osOf t) = _; rw [unitsO_R]; rfl)
    have CE : Hid (compU l0 (units (osOf [(⟨⟨kk, nn, rr, ss, qq⟩, Ar, cr, As, cs, Ap, cp⟩ : OpS)])) (units (osOf ((⟨opR (ln : Int) [], none, 0, none, 0, none, 0⟩ : OpS) :: t))) = unitsO (⟨kk, nn, rr, ss, qq⟩ : Opd) ++ units (osOf t)) := Lib.hid (by rw [EA.out, UR.out, ← HL2.out]; exact first_keep I0.out HK.out MUB.out)
    have MR : Hid (mayO l0 ((⟨opR (ln : Int) [], none, 0, none, 0, none, 0⟩ : OpS) :: t) = 0) := Lib.hid (units_mayO (by have := LX1.out; simp only [List.length_cons] at this ⊢; omega) (fun z hz => by
      rcases List.mem_cons.1 hz with rfl | hz
      · exact isOp_opR (by have := LB.out; omega)
      · exact good_isOp (mayO_zero MB.out).1 z hz) (by
      rw [UR.out]
      intro u hu
      rcases List.mem_append.1 hu with hu | hu
      · rw [(List.mem_replicate.1 hu).2]; exact mayP_nil l0
      · exact MUB.out u hu) (by rw [UR.out, takes_ret]; have := LB.out; have := TS.out; omega) (by rw [UR.out, makes_ret]; have := LB.out; have := MS.out; omega))
    have ZR : Hid (szN ((⟨opR (ln : Int) [], none, 0, none, 0, none, 0⟩ : OpS) :: t) ≤ 200000) := Lib.hid (by rw [szN_cons]; have := ZA.out.2; have : ((⟨opR (ln : Int) [], none, 0, none, 0, none, 0⟩ : OpS).o.r.length) = 0 := rfl; omega)
    have SZC : Hid (takesU (compU l0 (units (osOf [(⟨⟨kk, nn, rr, ss, qq⟩, Ar, cr, As, cs, Ap, cp⟩ : OpS)])) (units (osOf ((⟨opR (ln : Int) [], none, 0, none, 0, none, 0⟩ : OpS) :: t)))) ≤ 536870912 ∧ makesU (compU l0 (units (osOf [(⟨⟨kk, nn, rr, ss, qq⟩, Ar, cr, As, cs, Ap, cp⟩ : OpS)])) (units (osOf ((⟨opR (ln : Int) [], none, 0, none, 0, none, 0⟩ : OpS) :: t)))) ≤ 536870912) := Lib.hid (by rw [CE.out, takesU_append, makesU_append]; have := TS.out; have := MS.out; omega)
    have EL : t.length + 1 = n9 + 1 := by rw [N9.out]
    go_wp2_with (go_at_call 25; refine Hid.out ?_)
    refine Lib.hid ?_
    refine (composeOk_any s l0 _ _ _ _ _ _ [(⟨⟨kk, nn, rr, ss, qq⟩, Ar, cr, As, cs, Ap, cp⟩ : OpS)] ((⟨opR (ln : Int) [], none, 0, none, 0, none, 0⟩ : OpS) :: t) _ OA.out O8.out HS.out H64.out HT.out MA.out MR.out ZA.out.1 ZR.out SZC.out.1 SZC.out.2).mono ?_
    rintro e wn ⟨A5, c5, za, rfl, h_1, o_1, y⟩
    have HT := Lib.hid (Utf8Tabs_below HT.out y)
    have O1 := Lib.hid (O1.out.ext y)
    have HS := Lib.hid (HS.out.ext y)
    have O9 := Lib.hid (O9.out.ext y)
    have OA := Lib.hid (OA.out.ext y)
    have O8 := Lib.hid (O8.out.ext y)
    replace hx := ext_trans hx y
    have E_za : Hid (osOf za = mkU (unitsO (⟨kk, nn, rr, ss, qq⟩ : Opd) ++ units (osOf t))) := Lib.hid (by rw [h_1]; exact (by rw [CE.out]))
    have O_za := Lib.hid o_1
    clear h_1 o_1
    clear y
    go_wp2_with (go_at_call 27; refine Hid.out ?_)
    refine Lib.hid ?_
    refine (of16D O1.out HM.out ZN.out).mono ?_
    rintro e wn ⟨A7, c7, zf, rfl, h_1, o_1, y⟩
    have HT := Lib.hid (Utf8Tabs_below HT.out y)
    have O1 := Lib.hid (O1.out.ext y)
    have HS := Lib.hid (HS.out.ext y)
    have O9 := Lib.hid (O9.out.ext y)
    have OA := Lib.hid (OA.out.ext y)
    have O8 := Lib.hid (O8.out.ext y)
    have O_za := Lib.hid (O_za.out.ext y)
    replace hx := ext_trans hx y
    have E_zf := Lib.hid h_1
    have O_zf := Lib.hid o_1
    clear h_1 o_1
    clear y
    go_wp2_with (go_at_call 26; refine Hid.out ?_)
    refine Lib.hid ?_
    refine (same15D O_za.out.at_ O_zf.out.at_ (decide_eq_true (E_za.out.trans E_zf.out.symm))).mono ?_
    rintro e wn ⟨rfl, y⟩
    have HT := Lib.hid (Utf8Tabs_below HT.out y)
    have O1 := Lib.hid (O1.out.ext y)
    have HS := Lib.hid (HS.out.ext y)
    have O9 := Lib.hid (O9.out.ext y)
    have OA := Lib.hid (OA.out.ext y)
    have O8 := Lib.hid (O8.out.ext y)
    have O_za := Lib.hid (O_za.out.ext y)
    have O_zf := Lib.hid (O_zf.out.ext y)
    replace hx := ext_trans hx y
    clear y
    go_wp2_with (go_at_call 23; refine Hid.out ?_)
    refine Lib.hid ?_
    refine (known20_any _ HT.out).mono ?_
    rintro e w2 ⟨rfl, y⟩
    replace hx := ext_trans hx y
    go_wp2_with (fail)
    go_ret
    exact ⟨rfl, hx⟩
end Go.Proofs.YtbdkbfoplpociaaGreatDoor
namespace Go.Proofs.YtbdkbfoplpociaaGreatDoor
set_option linter.unusedVariables false

theorem noth_gone (l : List Ky) (p : Nat) (r : List Int) : compU l (List.replicate p (.ret []) ++ r.map (fun r => Un.ins r [])) (List.replicate p (.ret []) ++ List.replicate r.length .del) = List.replicate p (.ret []) := by
  have e1 := comp_rets l [] (r.map (fun r => Un.ins r [])) (List.replicate r.length .del) p
  have e2 : compU l (r.map (fun r => Un.ins r [])) (List.replicate r.length .del) = [] := by
    have h := comp_gone l [] [] [] r
    rw [List.append_nil, List.append_nil] at h
    rw [h]; exact compU_nil l []
  rw [e1, e2, List.append_nil]
theorem mkU_rets0 (p : Nat) : mkU (List.replicate p (.ret [])) = [] := by
  have h := pasteU_nil p
  unfold pasteU at h
  rw [List.map_nil, List.append_nil] at h
  rw [← mkU_nf, h]; rfl
theorem noth_over (l : List Ky) {p q : List Ch} (hp : mayP l p = 0) (hq : mayP l q = 0) (h : p.map (·.key) = q.map (·.key)) (k : Nat) : compU l (List.replicate k (.ret p)) (List.replicate k (.ret q)) = List.replicate k (.ret q) := by
  rw [comp_over, same_keys (mayP_zero hp).2.1 (mayP_zero hq).2.1 h]
end Go.Proofs.YtbdkbfoplpociaaGreatDoor
