/- The walk of rubriclaw19.ApplyLeaves. Printed by wip/gen_applylaws.py. -/
import Derived.Test.YtipoeidmblnbbaaDoorPk31
import Derived.Test.YtipoeidmblnbbaaDoorPk21
import Derived.Test.YtipoeidmblnbbaaDoorPk17
namespace Go.Proofs.YtipoeidmblnbbaaDoor
open Go.RowKit
set_option linter.unusedVariables false
set_option linter.unusedSimpArgs false

set_option maxRecDepth 100000 in
set_option maxHeartbeats 6400000 in
theorem applyLeaves_any (A0 A1 A3 : Option Addr) (n0 n1 n3 c0 c1 c3 : Nat) (l0 : List Ky) (d : List ClS) (l3 : List OpS) (ahead : Int) (w : World)
    (e0 : n0 = l0.length) (e1 : n1 = d.length) (e3 : n3 = l3.length) (r0 : RdKy w w.heap.size A0 l0) (r1 : RdCl w w.heap.size A1 d) (r3 : RdOp w w.heap.size A3 l3) (b0 : n0 ≤ 1048576) (b1 : n1 ≤ 1048576) (b3 : n3 ≤ 1048576) (k1 : n1 ≤ c1) (k3 : n3 ≤ c3)
    (q1 : ∀ x ∈ d, x.c.s.length ≤ 100000000 ∧ okVr x.c.s) (g1 : ∀ x ∈ d, x.c.s.length ≤ x.cs ∧ x.cs ≤ maxLen) (q3 : ∀ o ∈ l3, okOp o.o) (z3 : szX l3 ≤ 4611686018427387904) (hT : Lib.Utf8Tabs 1 2 w) :
    Calls Tryd.prog 5 #[.slice A0 n0 c0, .slice A1 n1 c1, .int .i64 ahead, .slice A3 n3 c3] w fun e w' => e = .returned (.bool true) ∧ Below w.heap.size w w' := by
  have N0 := Lib.hid e0
  have N1 := Lib.hid e1
  have N3 := Lib.hid e3
  have R0 := Lib.hid r0
  have R1 := Lib.hid r1
  have R3 := Lib.hid r3
  have Q1 := Lib.hid q1
  have Q3 := Lib.hid q3
  have C1 := Lib.hid g1
  have Z3 := Lib.hid z3
  clear e0 e1 e3 r0 r1 r3 q1 q3 g1 z3
  go_enter Tryd.func5, Tryd.ntmps5
  go_wp2_with (go_at_call 19; refine Hid.out ?_)
  refine Lib.hid ?_
  have ya := ext_alloc w (.cells #[.slice A3 n3 c3] 33)
  have ra : Rd SX.enc 1 _ _ _ [⟨A3, c3, l3⟩] := Rd.new (enc := SX.enc) (size := 1) (fun _ => rfl) w 33 [⟨A3, c3, l3⟩] (cs := #[.slice A3 n3 c3]) (by simp [SX.enc, ← N3.out]) rfl
  refine (great19_any A0 A1 (some ⟨w.heap.size, 0, none⟩) n0 c0 n1 c1 1 1 d [⟨A3, c3, l3⟩] _ rfl ra (by omega) (by omega) (fun x hx => by
    simp only [List.mem_cons, List.not_mem_nil, or_false] at hx
    subst hx
    exact ⟨R3.out.ext ya, by have := N3.out; simp only; omega⟩) (by simpa [sumX] using Z3.out) N1.out (R1.out.ext ya) (by omega) (fun z hz => by have := (Q1.out z hz).1; omega)).mono ?_
  rintro e w1 ⟨gb, rfl, h1, x1, rfl⟩
  have Y1 := Lib.hid (ext_trans ya (ext_drew _ x1))
  clear ya ra
  generalize World.drewN (w.alloc (.cells #[.slice A3 n3 c3] 33)) x1 = w1 at *
  cases gb with
  | true =>
    clear h1
    go_wp2_with (go_at_call 20; refine Hid.out ?_)
    refine Lib.hid ?_
    refine (known19_any _ (Utf8Tabs_below hT Y1.out)).mono ?_
    rintro e wk ⟨rfl, yk⟩
    have yy := ext_trans Y1.out yk
    go_wp2_with (fail)
    go_ret
    exact ⟨rfl, yy⟩
  | false =>
  have h2 := h1 rfl
  have G0 := Lib.hid h2.1
  have G1 : Hid (n1 ≤ 400 ∧ ∀ c ∈ d, c.c.s.length ≤ 64) := Lib.hid ⟨h2.2.1, h2.2.2.1⟩
  have G3 : Hid (szX l3 ≤ 5000) := Lib.hid (by simpa [sumX] using h2.2.2.2)
  clear h1 h2
  by_cases ha1 : ahead < 1
  · skip
    go_wp2_with (go_at_call 20; refine Hid.out ?_)
    refine Lib.hid ?_
    refine (known19_any _ (Utf8Tabs_below hT Y1.out)).mono ?_
    rintro e wk ⟨rfl, yk⟩
    have yy := ext_trans Y1.out yk
    go_wp2_with (fail)
    go_ret
    exact ⟨rfl, yy⟩
  by_cases ha2 : (n1 : Int) < ahead
  · skip
    go_wp2_with (go_at_call 20; refine Hid.out ?_)
    refine Lib.hid ?_
    refine (known19_any _ (Utf8Tabs_below hT Y1.out)).mono ?_
    rintro e wk ⟨rfl, yk⟩
    have yy := ext_trans Y1.out yk
    go_wp2_with (fail)
    go_ret
    exact ⟨rfl, yy⟩
  go_wp2_with (go_at_call 9; refine Hid.out ?_)
  refine Lib.hid ?_
  refine (new_any A0 n0 c0 l0 w1 N0.out (R0.out.ext Y1.out) (by omega)).mono ?_
  rintro e w3 ⟨y3, ⟨hm, s, rfl, hS⟩ | ⟨hm, rfl⟩⟩
  all_goals
    have Y3 := Lib.hid (ext_trans Y1.out y3)
    clear y3 hm
  rotate_left
  · skip
    go_wp2_with (go_at_call 20; refine Hid.out ?_)
    refine Lib.hid ?_
    refine (known19_any _ (Utf8Tabs_below hT Y3.out)).mono ?_
    rintro e wk ⟨rfl, yk⟩
    have yy := ext_trans Y3.out yk
    go_wp2_with (fail)
    go_ret
    exact ⟨rfl, yy⟩
  have HS := Lib.hid hS
  clear hS
  go_wp2_with (go_at_call 10; refine Hid.out ?_)
  refine Lib.hid ?_
  refine (mayCells_any s l0 A1 n1 c1 d w3 N1.out (R1.out.ext Y3.out) (by have := G1.out.1; omega) HS.out Q1.out (Utf8Tabs_below hT Y3.out)).mono ?_
  generalize hmd : mayD l0 (clsOf d) = md
  rintro e w4 ⟨rfl, y4⟩
  have Y4 := Lib.hid (ext_trans Y3.out y4)
  have HS4 := Lib.hid (HS.out.ext y4)
  clear y4 HS
  by_cases hd : md = 0
  rotate_left
  · have hd' : (md == 0) = false := beq_eq_false_iff_ne.2 hd
    clear hmd
    go_wp2_with (go_at_call 20; refine Hid.out ?_)
    refine Lib.hid ?_
    refine (known19_any _ (Utf8Tabs_below hT Y4.out)).mono ?_
    rintro e wk ⟨rfl, yk⟩
    have yy := ext_trans Y4.out yk
    go_wp2_with (fail)
    go_ret
    exact ⟨rfl, yy⟩
  subst hd
  have MD := Lib.hid hmd
  clear hmd
  obtain ⟨ah, rfl⟩ : ∃ m : Nat, ahead = m := ⟨ahead.toNat, by omega⟩
  have AH : Hid (1 ≤ ah ∧ ah ≤ n1) := Lib.hid ⟨by omega, by omega⟩
  clear ha1 ha2
  have yb := ext_alloc w4 (.cells #[.int .u8 1, .int .i64 (ah : Int), .slice none 0 0, .slice none 0 0, .slice none 0 0] 45)
  have ob : OwOs (w4.alloc (.cells #[.int .u8 1, .int .i64 (ah : Int), .slice none 0 0, .slice none 0 0, .slice none 0 0] 45)) w4.heap.size (.slice (some ⟨w4.heap.size, 0, none⟩) 1 1) [⟨opR (ah : Int) [], none, 0, none, 0, none, 0⟩] :=
    Ow.new (enc := OpS.enc) (size := 5) OpS.enc_len w4 45 [⟨opR (ah : Int) [], none, 0, none, 0, none, 0⟩] rfl rfl (by unfold maxLen; omega) (Nat.le_refl _) rfl
  have B3 : l3.length ≤ 1048576 := by have := N3.out; omega
  go_wp2_with (first
    | (at_builtin; refine app_os (m := l3) rfl (.tmp 49) (.tmp 50) rfl rfl ob _ A3 c3 n3 rfl N3.out (R3.out.ext (ext_trans Y4.out yb)).1 (by simp only [List.length_singleton]; omega) (by simp) ?_; intro v' w5 hown' hgr hv'; obtain ⟨A5, c5, hv5, hc5, hm5⟩ := hown'.form; subst hv5)
    | (go_at_call 21; refine Hid.out ?_))
  refine Lib.hid ?_
  have y5 : Below w4.heap.size w4 w5 := below_app yb (by simp) ob (Nat.le_refl _) hgr
  have Y5 := Lib.hid (ext_trans Y4.out y5)
  have RX : Hid (RdOp w5 w5.heap.size A5 (⟨opR (ah : Int) [], none, 0, none, 0, none, 0⟩ :: l3)) := Lib.hid ⟨hown'.rd OpS.enc_len, fun x hx => by
    rcases List.mem_cons.1 hx with rfl | hx
    · exact ⟨Rd.nil, Rd.nil, Rd.nil⟩
    · exact (R3.out.ext Y5.out).2 x hx⟩
  have QX : Hid (∀ o ∈ (⟨opR (ah : Int) [], none, 0, none, 0, none, 0⟩ :: l3 : List OpS), okOp o.o) := Lib.hid (fun x hx => by
    rcases List.mem_cons.1 hx with rfl | hx
    · exact ok_small _ rfl rfl (by simp [opR])
    · exact Q3.out x hx)
  have HS5 := Lib.hid (HS4.out.ext y5)
  clear yb ob hown' hgr hv' hc5 hm5 y5 HS4
  obtain ⟨xs, hxs⟩ : ∃ X : List OpS, ⟨opR (ah : Int) [], none, 0, none, 0, none, 0⟩ :: l3 = X := ⟨_, rfl⟩
  have HXS := Lib.hid hxs
  have LX : Hid (l3.length + 1 = xs.length) := Lib.hid (by rw [← hxs]; rfl)
  rw [hxs] at RX QX
  rw [LX.out]
  have BX : Hid (xs.length ≤ 1048576) := Lib.hid (by have := LX.out; have := szX_len l3; have := G3.out; omega)
  clear hxs
  refine (applyD_any s l0 A1 A5 n1 c1 xs.length c5 d xs 10000 w5 N1.out rfl k1 (by have := G1.out.1; omega) BX.out (R1.out.ext Y5.out) RX.out HS5.out Q1.out C1.out QX.out (Utf8Tabs_below hT Y5.out)).mono ?_
  unfold ApplyOut
  obtain ⟨E, hE⟩ : ∃ X, applyN l0 xs (clsOf d) 10000 = X := ⟨_, rfl⟩
  rw [hE]
  have HE := Lib.hid hE
  clear hE
  rintro e w6 ⟨y6, ⟨hne, rfl⟩ | ⟨hz, A6, c6, L, rfl, hL, oL, pL⟩⟩
  · have Y6 := Lib.hid (ext_trans Y5.out y6)
    have hne' : (E == 0) = false := beq_eq_false_iff_ne.2 hne
    clear y6 hne
    go_wp2_with (go_at_call 20; refine Hid.out ?_)
    refine Lib.hid ?_
    refine (known19_any _ (Utf8Tabs_below hT Y6.out)).mono ?_
    rintro e wk ⟨rfl, yk⟩
    have yy := ext_trans Y6.out yk
    go_wp2_with (fail)
    go_ret
    exact ⟨rfl, yy⟩
  have Y6 := Lib.hid (ext_trans Y5.out y6)
  subst hz
  obtain ⟨hg, hf, cm⟩ := came (l := l0) (x := xs) (d := clsOf d) (most := 10000) (by rw [← N0.out]; exact G0.out) BX.out (by omega) QX.out (fun c hc => by
    obtain ⟨z, hz, rfl⟩ := List.mem_map.1 hc
    exact (Q1.out z hz).2) HE.out
  obtain ⟨us, hus⟩ : ∃ X, units (osOf l3) = X := ⟨_, rfl⟩
  have hux : units (osOf xs) = List.replicate ah (.ret []) ++ us := by
    rw [← HXS.out, ← hus]
    show unitsO (opR (ah : Int) []) ++ units (osOf l3) = _
    rw [unitsO_R]; rfl
  have hg3 : goodO l0 l3 := by rw [← HXS.out] at hg; exact hg.tail
  have TP : Hid (takesP l3 = (takesU us : Int)) := Lib.hid (by
    rw [takes_sum hg3 (by have := N3.out; omega), ← hus]; exact (sums_units l3 (good_isOp hg3)).1.symm)
  rw [hux] at hf cm hL
  have ht := hf.t
  rw [takes_ret, clsOf_len, ← N1.out] at ht
  obtain ⟨tk, htk⟩ : ∃ X, takesU us = X := ⟨_, rfl⟩
  obtain ⟨left, hleft⟩ : ∃ X, n1 - ah - tk = X := ⟨_, rfl⟩
  have LW := leaves_law (l := l0) (us := us) (d := clsOf d) (ahead := ah) (by rw [clsOf_len, ← N1.out]; exact ht) (left := left) (by rw [clsOf_len, ← N1.out, htk, hleft])
  rw [← hL, clsOf_len, clsOf_len, ← N1.out] at LW
  rw [htk] at TP ht
  have S64 : Hid (∀ z ∈ L, z.c.s.length ≤ 64) := Lib.hid (fun z hz => cm.s64 _ (by rw [← hL]; unfold clsOf; exact List.mem_map_of_mem hz))
  have LB : Hid (L.length ≤ 11000) := Lib.hid (by
    have h1 := cm.len
    have h2 := hf.m
    rw [← hL, clsOf_len] at h1
    omega)
  obtain ⟨hc6, hm6⟩ := oL.cap
  have RL : Hid (RdCl w6 w6.heap.size A6 L) := Lib.hid ⟨oL.rd ClS.enc_len, fun z hz => (pL z hz).1.rd At.enc_len⟩
  obtain ⟨nL, hnL⟩ : ∃ X, L.length = X := ⟨_, rfl⟩
  rw [hnL] at LW LB hc6 ⊢
  obtain ⟨kA, hkA⟩ : ∃ X, nL - left = X := ⟨_, rfl⟩
  obtain ⟨kD, hkD⟩ : ∃ X, n1 - left = X := ⟨_, rfl⟩
  rw [hkA, hkD] at LW
  have NL := Lib.hid hnL
  have L1 := Lib.hid LW.1
  have S1 : Hid (decide (clsOf (L.take ah) = clsOf (d.take ah)) = true) := Lib.hid (decide_eq_true (by rw [clsOf_take, clsOf_take]; exact LW.2.1))
  have S2 : Hid (decide (clsOf (L.drop kA) = clsOf (d.drop kD)) = true) := Lib.hid (decide_eq_true (by rw [clsOf_drop, clsOf_drop]; exact LW.2.2))
  obtain ⟨A8, hA8⟩ : ∃ X, advS A6 c6 kA 2 = X := ⟨_, rfl⟩
  obtain ⟨B8, hB8⟩ : ∃ X, advS A1 c1 kD 2 = X := ⟨_, rfl⟩
  obtain ⟨c8, hc8⟩ : ∃ X, c6 - kA = X := ⟨_, rfl⟩
  obtain ⟨c9, hc9⟩ : ∃ X, c1 - kD = X := ⟨_, rfl⟩
  have F1 : Hid (ah ≤ nL ∧ kA ≤ nL ∧ nL - kA = left ∧ n1 - kD = left ∧ kD ≤ n1 ∧ left ≤ 400 ∧ ah ≤ 400) := Lib.hid (by
    have h1 := L1.out
    have h2 := G1.out.1
    have h3 := AH.out
    clear LW S1 S2
    omega)
  have sl1 : ∀ W, (Instr.slice 23 (.slice A6 nL c6) none (some (.int .i64 (ah : Int))) none).run Tryd.prog W = .ok (.slice A6 ah c6) W := sl_to (l := ah) Tryd.slCl Tryd.elCl size_cl rfl (by have := F1.out; omega)
  have sl2 : ∀ W, (Instr.slice 23 (.slice A1 n1 c1) none (some (.int .i64 (ah : Int))) none).run Tryd.prog W = .ok (.slice A1 ah c1) W := sl_to (l := ah) Tryd.slCl Tryd.elCl size_cl rfl (by have := AH.out; omega)
  have sl3 : ∀ W, (Instr.slice 23 (.slice A6 nL c6) (some (.int .i64 (kA : Int))) none none).run Tryd.prog W = .ok (.slice A8 left c8) W := sl_from Tryd.slCl Tryd.elCl size_cl rfl hA8 (F1.out.2.2.1) hc8 F1.out.2.1 hc6
  have sl4 : ∀ W, (Instr.slice 23 (.slice A1 n1 c1) (some (.int .i64 (kD : Int))) none none).run Tryd.prog W = .ok (.slice B8 left c9) W := sl_from Tryd.slCl Tryd.elCl size_cl rfl hB8 (F1.out.2.2.2.1) hc9 F1.out.2.2.2.2.1 k1
  have RA : Hid (∀ v, Below w6.heap.size w6 v → RdCl v v.heap.size A6 (L.take ah)) := Lib.hid (fun v hv => (RL.out.ext hv).take ah)
  have RB : Hid (∀ v, Below w6.heap.size w6 v → RdCl v v.heap.size A1 (d.take ah)) := Lib.hid (fun v hv => (R1.out.ext (ext_trans Y6.out hv)).take ah)
  have RC : Hid (∀ v, Below w6.heap.size w6 v → RdCl v v.heap.size A8 (L.drop kA)) := Lib.hid (fun v hv => (RL.out.ext hv).from hA8 (by have := NL.out; have := F1.out; omega) (by have := NL.out; omega))
  have RD : Hid (∀ v, Below w6.heap.size w6 v → RdCl v v.heap.size B8 (d.drop kD)) := Lib.hid (fun v hv => (R1.out.ext (ext_trans Y6.out hv)).from hB8 (by have := N1.out; have := F1.out; omega) (by have := N1.out; omega))
  have SA : Hid (∀ x ∈ L.take ah, x.c.s.length ≤ 140737488355328) := Lib.hid (fun x hx => by have := S64.out x (List.mem_of_mem_take hx); omega)
  have SB : Hid (∀ x ∈ d.take ah, x.c.s.length ≤ 140737488355328) := Lib.hid (fun x hx => by have := (Q1.out x (List.mem_of_mem_take hx)).1; omega)
  have SC : Hid (∀ x ∈ L.drop kA, x.c.s.length ≤ 140737488355328) := Lib.hid (fun x hx => by have := S64.out x (List.mem_of_mem_drop hx); omega)
  have SD : Hid (∀ x ∈ d.drop kD, x.c.s.length ≤ 140737488355328) := Lib.hid (fun x hx => by have := (Q1.out x (List.mem_of_mem_drop hx)).1; omega)
  have LNA : Hid (ah = (L.take ah).length ∧ ah = (d.take ah).length ∧ left = (L.drop kA).length ∧ left = (d.drop kD).length) := Lib.hid (by
    have h1 := F1.out; have h2 := NL.out; have h3 := N1.out; have h4 := AH.out
    simp only [List.length_take, List.length_drop]; omega)
  have W1 : (n1 : Int) - (ah : Int) - (tk : Int) = (left : Int) := by clear LW; omega
  have W2 : (nL : Int) - (left : Int) = (kA : Int) := by have := F1.out; omega
  have W3 : (n1 : Int) - (left : Int) = (kD : Int) := by have := F1.out; omega
  have t1 : decide ((left : Int) < 0) = false := decide_eq_false (by omega)
  have t2 : decide ((nL : Int) < (ah : Int) + (left : Int)) = false := decide_eq_false (by have := L1.out; omega)
  have t1' : ¬ (left : Int) < 0 := by omega
  have t2' : ¬ (nL : Int) < (ah : Int) + (left : Int) := by have := L1.out; omega
  have F3 : (ah : Int) ≤ 400 ∧ (left : Int) ≤ 400 ∧ (n1 : Int) ≤ 400 ∧ (nL : Int) ≤ 11000 ∧ (kA : Int) ≤ 11000 ∧ (kD : Int) ≤ 400 := by have h1 := F1.out; have h2 := LB.out; have h3 := G1.out.1; clear t1 t2 t1' t2' W1 W2 W3; omega
  have hr1 : -9223372036854775808 ≤ (n1 : Int) - (ah : Int) ∧ (n1 : Int) - (ah : Int) ≤ 9223372036854775807 := by clear t1 t2 t1' t2' W1 W2 W3; omega
  have hr2 : -9223372036854775808 ≤ (left : Int) ∧ (left : Int) ≤ 9223372036854775807 := by clear t1 t2 t1' t2' W1 W2 W3; omega
  have hr3 : -9223372036854775808 ≤ (ah : Int) + (left : Int) ∧ (ah : Int) + (left : Int) ≤ 9223372036854775807 := by clear t1 t2 t1' t2' W1 W2 W3; omega
  have hr4 : -9223372036854775808 ≤ (kA : Int) ∧ (kA : Int) ≤ 9223372036854775807 := by clear t1 t2 t1' t2' W1 W2 W3; omega
  have hr5 : -9223372036854775808 ≤ (kD : Int) ∧ (kD : Int) ≤ 9223372036854775807 := by clear t1 t2 t1' t2' W1 W2 W3; omega
  have v1 : IntKind.i64.wrap ((n1 : Int) - (ah : Int)) = (n1 : Int) - (ah : Int) := IntWalk.i64_in _ hr1
  have v1' : wrap64 ((n1 : Int) - (ah : Int)) = (n1 : Int) - (ah : Int) := w64_in _ hr1
  have v2 : IntKind.i64.wrap ((n1 : Int) - (ah : Int) - (tk : Int)) = (left : Int) := by rw [W1]; exact IntWalk.i64_in _ hr2
  have v2' : wrap64 ((n1 : Int) - (ah : Int) - (tk : Int)) = (left : Int) := by rw [W1]; exact w64_in _ hr2
  have v3 : IntKind.i64.wrap ((ah : Int) + (left : Int)) = (ah : Int) + (left : Int) := IntWalk.i64_in _ hr3
  have v3' : wrap64 ((ah : Int) + (left : Int)) = (ah : Int) + (left : Int) := w64_in _ hr3
  have v4 : IntKind.i64.wrap ((nL : Int) - (left : Int)) = (kA : Int) := by rw [W2]; exact IntWalk.i64_in _ hr4
  have v4' : wrap64 ((nL : Int) - (left : Int)) = (kA : Int) := by rw [W2]; exact w64_in _ hr4
  have v5 : IntKind.i64.wrap ((n1 : Int) - (left : Int)) = (kD : Int) := by rw [W3]; exact IntWalk.i64_in _ hr5
  have v5' : wrap64 ((n1 : Int) - (left : Int)) = (kD : Int) := by rw [W3]; exact w64_in _ hr5
  have B3' : n3 ≤ 140737488355328 := Nat.le_trans b3 (by decide)
  have LAH : Hid (ah ≤ 100000000 ∧ left ≤ 100000000) := Lib.hid (by clear t1 t2 t1' t2' W1 W2 W3 v1 v1' v2 v2' v3 v3' v4 v4' v5 v5'; omega)
  clear F3 hr1 hr2 hr3 hr4 hr5
  clear LW hL oL pL hnL hkA hkD hA8 hB8 hc8 hc9 hf cm hg hg3 hux hus ht htk hleft y6 W1 W2 W3
  go_wp2_with (go_at_call 22; refine Hid.out ?_)
  refine Lib.hid ?_
  refine (takes15_any A3 n3 c3 l3 w6 N3.out (R3.out.ext Y6.out).1 B3').mono ?_
  rw [TP.out]
  rintro e w7 ⟨rfl, d7, rfl⟩
  have y7 := ext_drew w6 d7
  generalize w6.drewN d7 = w7 at *
  have Y7 := Lib.hid y7
  clear y7
  go_wp2_with (fail)
  go_region_held3 (fun w' => True) (go_keep) (first
    | (go_at_call 11
       with_reducible refine (cellsSame_any A6 A1 ah ah c6 c1 (L.take ah) (d.take ah) w7.drew LNA.out.1 LNA.out.2.1 (RA.out _ (up_drew Y7.out)) (RB.out _ (up_drew Y7.out)) LAH.out.1 LAH.out.1 SA.out SB.out).mono ?_
       rw [S1.out]
       rintro e w9 ⟨rfl, y9⟩
       have Y9 : Hid (Below w6.heap.size w6 w9) := Lib.hid (ext_trans (up_drew Y7.out) y9)
       clear y9)
    | (go_at_call 11
       with_reducible refine (cellsSame_any A8 B8 left left c8 c9 (L.drop kA) (d.drop kD) w9 LNA.out.2.2.1 LNA.out.2.2.2 (RC.out _ Y9.out) (RD.out _ Y9.out) LAH.out.2 LAH.out.2 SC.out SD.out).mono ?_
       rw [S2.out]
       rintro e w10 ⟨rfl, y10⟩
       have Y10 : Hid (Below w6.heap.size w6 w10) := Lib.hid (ext_trans Y9.out y10)
       clear y10)
    | (go_at_call 20
       with_reducible refine (known19_any w10 (Utf8Tabs_below hT (ext_trans Y6.out Y10.out))).mono ?_
       rintro e w11 ⟨rfl, y11⟩
       have Y11 : Hid (Below w6.heap.size w6 w11) := Lib.hid (ext_trans Y10.out y11)
       clear y11))
  all_goals
    go_wp2_with (fail)
    go_ret
    exact ⟨rfl, ext_trans Y6.out Y11.out⟩
end Go.Proofs.YtipoeidmblnbbaaDoor
