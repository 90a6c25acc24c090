/- Merged texts. -/
import Derived.Test.YtfnkjcodcoehcaaGreatDoorX34
namespace Go.Proofs.YtfnkjcodcoehcaaGreatDoor
set_option maxRecDepth 100000
set_option maxHeartbeats 6400000
open Go.RowKit
open Go.Lib (hid Utf8Tabs)
set_option linter.unusedVariables false
set_option linter.unusedSimpArgs false
theorem Y1A (l : List Ky) (b : Bool) {s : List At} {m : Nat} {a : At} (h : s[m]? = some a) : Z1x l b (s.take (m + 1)) = Z1x l b (s.take m) ++ (if Z1q l b a.key = true then [a] else []) := by
 unfold Z1x
 rw [List.take_add_one, h, List.filter_append]
 congr 1
 cases hk : Z1q l b a.key <;> simp [hk]
theorem Z7k {l : List Ky} {o : Opd} (h : o.k ≠ 2 ∨ o.s = []) : Z1F l o = true := by
 unfold Z1F
 rw [if_neg]
 rintro ⟨h1, h2⟩
 rcases h with h | h
 ·exact h h1
 ·rw [h] at h2; simp at h2
theorem Y3u {l : List Ky} {o : Opd} (h1 : o.k = 2) (h2 : o.s ≠ []) {b n : Nat} (hb : (Z1x l true o.s).length = b) (hn : nlR o.r = n) :
 Z1F l o = ((b == 0 && n == 0) || (b == o.s.length && n == o.r.length)) := by
 have hbl : b ≤ o.s.length := by rw [← hb]; exact List.length_filter_le _ _
 have hnl : n ≤ o.r.length := by rw [← hn]; exact List.countP_le_length
 have hpos : 0 < o.s.length := List.length_pos_iff.2 h2
 unfold Z1F
 rw [if_pos ⟨h1, hpos⟩, hb, hn]
 have e1 : decide (0 < b) = !(b == 0) := by cases b <;> simp
 have e2 : decide (0 < n) = !(n == 0) := by cases n <;> simp
 have e3 : decide (b < o.s.length) = !(b == o.s.length) := by
  by_cases h : b = o.s.length
  ·simp [h]
  ·have : b < o.s.length := by omega
   simp [h, this]
 have e4 : decide (n < o.r.length) = !(n == o.r.length) := by
  by_cases h : n = o.r.length
  ·simp [h]
  ·have : n < o.r.length := by omega
   simp [h, this]
 rw [e1, e2, e3, e4]
 generalize (b == 0) = a1
 generalize (n == 0) = a2
 generalize (b == o.s.length) = a3
 generalize (n == o.r.length) = a4
 cases a1 <;> cases a2 <;> cases a3 <;> cases a4 <;> rfl
theorem Z9w (A : Option Addr) (n0 c0 : Nat) (l : List Ky) (k m : Int) (Ar As Ap : Option Addr) (cr cs cp : Nat) (r : List Int) (s : List At) (p : List Ch) (n3 : Nat) (w : World) (hn : n0 = l.length) (hK : RdKy w w.heap.size A l) (hb : n0 ≤ 1048576) (hn3 : s.length = n3)
 (hr : Z1V w w.heap.size Ar r) (hs : RdAt w w.heap.size As s) (b1 : r.length ≤ 100000000) (b2 : n3 ≤ 100000000) :
 Calls Tryz.prog 166 #[.slice A n0 c0, .agg #[.int .u8 k, .int .i64 m, .slice Ar r.length cr, .slice As n3 cs, .slice Ap p.length cp]] w fun e w' => e = .returned (.bool (Z1F l ⟨k, m, r, s, p⟩)) ∧ Below w.heap.size w w' := by
 have N0 := hid hn
 have N3 := hid hn3
 have y0 := Z0b w (.cells #[.int .u8 k, .int .i64 m, .slice Ar r.length cr, .slice As n3 cs, .slice Ap p.length cp] 50)
 have hbx := heap_alloc_new w (.cells #[.int .u8 k, .int .i64 m, .slice Ar r.length cr, .slice As n3 cs, .slice Ap p.length cp] 50)
 obtain ⟨q0, q1, q2, q3, q4⟩ := Z3E hbx
 have HBX := hid hbx
 have HK := hid (hK.ext y0)
 have HR := hid (hr.ext y0)
 have HS := hid (hs.ext y0)
 have Y0 := hid y0
 obtain ⟨R, hR⟩ : ∃ X, Z1F l ⟨k, m, r, s, p⟩ = X := ⟨_, rfl⟩
 have HRR := hid hR
 rw [hR]
 clear hn hK hr hs hbx hR y0
 go_enter Tryz.func166, Tryz.ntmps166
 by_cases hk : k = 2
 rotate_left
 ·have hk1 : (k == 2) = false := beq_eq_false_iff_ne.2 hk
  have hk2 : (k != 2) = true := by rw [bne, hk1]; rfl
  have HT : Hid (R = true) := hid (HRR.out.symm.trans (Z7k (.inl hk)))
  clear hk
  go_wp2_with (fail)
  go_ret
  exact ⟨Z0f HT.out.symm, Y0.out⟩
 subst hk
 have N3 := hid hn3
 by_cases hz : n3 = 0
 ·have HT : Hid (R = true) := hid (HRR.out.symm.trans (Z7k (.inr (List.eq_nil_of_length_eq_zero (hn3.trans hz)))))
  subst hz
  clear hn3
  go_wp2_with (fail)
  go_ret
  exact ⟨Z0f HT.out.symm, Y0.out⟩
 have hz1 : ((n3 : Int) == 0) = false := beq_eq_false_iff_ne.2 (by omega)
 have NZ : Hid (1 ≤ n3 ∧ n3 ≤ 100000000) := hid (by omega)
 have SL : Hid (s ≠ []) := hid (fun h => by have := N3.out; rw [h] at this; simp at this; omega)
 clear hn3 hz
 go_wp2_with (fail)
 obtain ⟨sz, hsz⟩ : ∃ z, w.heap.size = z := ⟨_, rfl⟩
 have HSZ := hid hsz
 rw [hsz] at HBX ⊢
 generalize hw1 : w.alloc (.cells #[.int .u8 2, .int .i64 m, .slice Ar r.length cr, .slice As n3 cs, .slice Ap p.length cp] 50) = w1 at *
 have BX : Hid (∀ u, Below w1.heap.size w1 u → u.cell? ⟨sz, 2, none⟩ = some (.slice Ar r.length cr) ∧ u.cell? ⟨sz, 3, none⟩ = some (.slice As n3 cs)) := hid (fun u hu => by
  have h := (hu.block _ (Z0c HBX.out)).trans HBX.out
  obtain ⟨_, _, a, b, _⟩ := Z3E h
  exact ⟨a, b⟩)
 clear hw1 hsz q0 q1 q2 q3 q4
 go_loopg [5, 6] n3 (fun g bv iv wr => ∃ (i b : Nat), i ≤ n3 ∧ b ≤ i ∧ g = n3 - i ∧ bv = .int .i64 (b : Int) ∧ iv = .int .i64 (i : Int) ∧ Hid (b = (Z1x l true (s.take i)).length) ∧ Below w1.heap.size w1 wr)
 case atStart => exact ⟨0, 0, Nat.zero_le _, Nat.zero_le _, rfl, rfl, rfl, hid rfl, Below.refl _ _⟩
 case round =>
  obtain ⟨i, b, hi, hbi, hg, rfl, rfl, HC, y⟩ := hrel
  have HG := hid hg
  clear hg
  obtain ⟨z2, z3⟩ := BX.out _ y
  by_cases hlt : i < n3
  ·have hlt' : (i : Int) < (n3 : Int) := by omega
   obtain ⟨ad, x, rfl, _, _, hx, hc⟩ := (HS.out.ext y).el (i := i) (by have := N3.out; omega)
   have PS := hid (Y1A l true hx)
   have hw2 : IntKind.i64.wrap ((i : Int) + 1) = (i : Int) + 1 := IntWalk.i64_in _ (by have := NZ.out; omega)
   have hw3 : IntKind.i64.wrap ((b : Int) + 1) = (b : Int) + 1 := IntWalk.i64_in _ (by have := NZ.out; clear hw2; omega)
   obtain ⟨x1, x2, x3, x4, x5⟩ := x
   obtain ⟨v0, -⟩ := Z0P hc
   clear hx hc
   go_wp2_with (go_at_call 151; refine Hid.out ?_)
   refine hid ?_
   clear v0
   refine (Z3v A n0 c0 l x1 _ N0.out (HK.out.ext y) (by clear hw2 hw3; omega)).mono ?_
   rintro e w3 ⟨i1, k1, kd, k2, k3, q, ok, rfl, hk, hbk, y3⟩
   have y4 := Z0b w3 (.cells #[.int .i64 i1, .bool k1, .int .u8 kd, .bool k2, .bool k3, .int .i64 q] 97)
   have hbx := heap_alloc_new w3 (.cells #[.int .i64 i1, .bool k1, .int .u8 kd, .bool k2, .bool k3, .int .i64 q] 97)
   obtain ⟨a0, a1, a2, a3, a4, a5⟩ := Z32 hbx
   have Y5 := hid (Z0a y (Z0a y3 y4))
   have KE : Hid (Z1q l true x1 = (ok && k1)) := hid (by
    unfold Z1q
    cases hq : Z0N l x1 with
    | none => rw [hq] at hbk; rw [← hbk]; rfl
    | some v =>
      rw [hq] at hk hbk
      simp only [Option.getD_some] at hk
      rw [← hbk, hk]
      cases k1 <;> rfl)
   clear hk hbk hbx y3 y4
   cases ok with
   | false =>
     have HN : Hid (b = (Z1x l true (s.take (i + 1))).length) := hid (by rw [PS.out, KE.out]; simp [← HC.out])
     go_wp2_with (fail)
     go_roundg (n3 - (i + 1))
     case measure => have := HG.out; clear hw2 hw3; omega
     case rel => exact ⟨i + 1, b, by clear hw2 hw3; omega, by clear hw2 hw3; omega, rfl, rfl, by go_num, HN, Y5.out⟩
   | true =>
     cases k1 with
     | false =>
       have HN : Hid (b = (Z1x l true (s.take (i + 1))).length) := hid (by rw [PS.out, KE.out]; simp [← HC.out])
       go_wp2_with (fail)
       go_roundg (n3 - (i + 1))
       case measure => have := HG.out; clear hw2 hw3; omega
       case rel => exact ⟨i + 1, b, by clear hw2 hw3; omega, by clear hw2 hw3; omega, rfl, rfl, by go_num, HN, Y5.out⟩
     | true =>
       have HN : Hid (b + 1 = (Z1x l true (s.take (i + 1))).length) := hid (by rw [PS.out, KE.out]; simp [← HC.out])
       go_wp2_with (fail)
       go_roundg (n3 - (i + 1))
       case measure => have := HG.out; clear hw2 hw3; omega
       case rel => exact ⟨i + 1, b + 1, by clear hw2 hw3; omega, by clear hw2 hw3; omega, rfl, by go_num, by go_num, HN, Y5.out⟩
  have hlt' : ¬ (i : Int) < (n3 : Int) := by omega
  have HB : Hid (b = (Z1x l true s).length) := hid (by rw [HC.out, List.take_of_length_le (by have := N3.out; omega)])
  clear HC HG
  go_wp2_with (go_at_call 210; refine Hid.out ?_)
  refine hid ?_
  obtain ⟨n4, hn4⟩ : ∃ X, r.length = X := ⟨_, rfl⟩
  have N4 := hid hn4
  obtain ⟨nl, hnl⟩ : ∃ X, nlR r = X := ⟨_, rfl⟩
  have NL := hid hnl
  refine (Z5T Ar r.length cr r _ rfl (HR.out.ext y) (by omega)).mono ?_
  rw [hnl]
  rintro e w5 ⟨rfl, rfl⟩
  have PI : Hid (R = ((b == 0 && nl == 0) || (b == n3 && nl == n4))) := hid (by rw [← HRR.out, Y3u (o := ⟨2, m, r, s, p⟩) rfl SL.out HB.out.symm hnl, ← hn4, ← N3.out])
  rw [hn4] at z2
  have YE := hid (Z0a Y0.out y)
  clear hn4 hnl
  by_cases d1 : b = 0
  ·have c1 : (b == 0) = true := beq_iff_eq.2 (by omega)
   have c1' : ((b : Int) == (0 : Int)) = true := beq_iff_eq.2 (by omega)
   by_cases d2 : nl = 0
   ·have c2 : (nl == 0) = true := beq_iff_eq.2 (by omega)
    have c2' : ((nl : Int) == (0 : Int)) = true := beq_iff_eq.2 (by omega)
    try clear d1
    try clear d2
    try clear d3
    try clear d4
    have HV : Hid (R = true) := hid (by rw [PI.out, c1, c2]; rfl)
    clear PI
    go_wp2_with (fail)
    go_ret
    exact ⟨Z0f HV.out.symm, YE.out⟩
   ·have c2 : (nl == 0) = false := beq_eq_false_iff_ne.2 (by omega)
    have c2' : ((nl : Int) == (0 : Int)) = false := beq_eq_false_iff_ne.2 (by omega)
    have c3 : (b == n3) = false := beq_eq_false_iff_ne.2 (by have := NZ.out; omega)
    have c3' : ((b : Int) == (n3 : Int)) = false := beq_eq_false_iff_ne.2 (by have := NZ.out; omega)
    try clear d1
    try clear d2
    try clear d3
    try clear d4
    have HV : Hid (R = false) := hid (by rw [PI.out, c1, c2, c3]; rfl)
    clear PI
    go_wp2_with (fail)
    go_ret
    exact ⟨Z0f HV.out.symm, YE.out⟩
  have c1 : (b == 0) = false := beq_eq_false_iff_ne.2 (by omega)
  have c1' : ((b : Int) == (0 : Int)) = false := beq_eq_false_iff_ne.2 (by omega)
  by_cases d3 : b = n3
  rotate_left
  ·have c3 : (b == n3) = false := beq_eq_false_iff_ne.2 (by omega)
   have c3' : ((b : Int) == (n3 : Int)) = false := beq_eq_false_iff_ne.2 (by omega)
   try clear d1
   try clear d2
   try clear d3
   try clear d4
   have HV : Hid (R = false) := hid (by rw [PI.out, c1, c3]; rfl)
   clear PI
   go_wp2_with (fail)
   go_ret
   exact ⟨Z0f HV.out.symm, YE.out⟩
  have c3 : (b == n3) = true := beq_iff_eq.2 (by omega)
  have c3' : ((b : Int) == (n3 : Int)) = true := beq_iff_eq.2 (by omega)
  by_cases d4 : nl = n4
  ·have c4 : (nl == n4) = true := beq_iff_eq.2 (by omega)
   have c4' : ((nl : Int) == (n4 : Int)) = true := beq_iff_eq.2 (by omega)
   try clear d1
   try clear d2
   try clear d3
   try clear d4
   have HV : Hid (R = true) := hid (by rw [PI.out, c1, c3, c4]; rfl)
   clear PI
   go_wp2_with (fail)
   go_ret
   exact ⟨Z0f HV.out.symm, YE.out⟩
  ·have c4 : (nl == n4) = false := beq_eq_false_iff_ne.2 (by omega)
   have c4' : ((nl : Int) == (n4 : Int)) = false := beq_eq_false_iff_ne.2 (by omega)
   try clear d1
   try clear d2
   try clear d3
   try clear d4
   have HV : Hid (R = false) := hid (by rw [PI.out, c1, c3, c4]; rfl)
   clear PI
   go_wp2_with (fail)
   go_ret
   exact ⟨Z0f HV.out.symm, YE.out⟩
theorem Y48 {n a : Int} {o : OpS} (hk : o.o.k = 2) : Z0z n (true, a) o = (decide (¬ a = n), a) := by
 unfold Z0z
 rw [if_neg (by simp), if_pos hk]
theorem Y6E {n a an : Int} {o : OpS} (hk : ¬ o.o.k = 2) (h3 : o.o.k = 3) (ha : IntKind.i64.wrap (a + o.o.n) = an) (hn : an = n) : Z0z n (true, a) o = (false, a) := by
 unfold Z0z
 rw [if_neg (by simp), if_neg hk, if_pos ⟨h3, by rw [ha, hn]⟩]
theorem Y49 {n a an : Int} {o : OpS} (hk : ¬ o.o.k = 2) (ha : IntKind.i64.wrap (a + o.o.n) = an) (h3 : ¬ (o.o.k = 3 ∧ an = n)) : Z0z n (true, a) o = (true, an) := by
 unfold Z0z
 rw [if_neg (by simp), if_neg hk, if_neg (by rw [ha]; exact h3), ha]
theorem Z7l {A B : Option Addr} {n0 c0 n c : Nat} {l : List Ky} {x : List OpS} {w : World} (lim most : Int) (hn : n0 = l.length) (hK : RdKy w w.heap.size A l) (hb : n0 ≤ 1048576) (hO : OpsAt w B n x) (hz : szX x ≤ 5000)
 (hT : Utf8Tabs 1 2 w) {R : Int} (hR : Z2E l x lim most = R) :
 Calls Tryz.prog 91 #[.slice A n0 c0, .slice B n c, .int .i64 lim, .int .i64 most] w fun e w' => e = .returned (.int .i64 R) ∧ Below w.heap.size w w' := by
 have N0 := hid hn
 have K0 := hid hK
 have O0 := hid hO
 have HT := hid hT
 have HZ := hid hz
 obtain ⟨M, hM⟩ : ∃ X, mayO l x = X := ⟨_, rfl⟩
 obtain ⟨tk, htk⟩ : ∃ X, Z0Z x = X := ⟨_, rfl⟩
 obtain ⟨mk, hmk⟩ : ∃ X, Z1i x = X := ⟨_, rfl⟩
 obtain ⟨F, hF⟩ : ∃ X, Z2t lim x = X := ⟨_, rfl⟩
 obtain ⟨P, hP⟩ : ∃ X, Z1G l x = X := ⟨_, rfl⟩
 obtain ⟨a1, ha1⟩ : ∃ X, IntKind.i64.wrap (lim - tk) = X := ⟨_, rfl⟩
 obtain ⟨lo, hlo⟩ : ∃ X, IntKind.i64.wrap (a1 + mk) = X := ⟨_, rfl⟩
 have FR : Hid ((if ¬ M = 0 then M else if lim < 1 ∨ most < lim ∨ lim < tk then 5 else if F = false then 6 else if P = false then 7 else if most < lo then 8 else 0) = R) := hid (by
  rw [← hR]
  unfold Z2E Z4a
  rw [hM, htk, hmk, hF, hP, ha1, hlo])
 have MM := hid hM
 have TK := hid htk
 have MK := hid hmk
 have HF := hid hF
 have HP := hid hP
 have SB : Hid (n ≤ 5000) := hid (by have := Z7J x; have := hO.len; omega)
 clear hn hK hO hT hM htk hmk hF hP hR hz
 go_enter Tryz.func91, Tryz.ntmps91
 go_wp2_with (go_at_call 43; refine Hid.out ?_)
 refine hid ?_
 refine (Z7T N0.out K0.out hb O0.out HZ.out HT.out MM.out).mono ?_
 rintro e w1 ⟨rfl, y1⟩
 have hx := y1
 have K1 := hid (K0.out.ext y1)
 have O1 := hid (O0.out.ext y1)
 clear K0 O0 y1
 by_cases h0 : M = 0
 rotate_left
 ·have h0' : (M == 0) = false := beq_eq_false_iff_ne.2 h0
  have h0'' : (M != 0) = true := by rw [bne, h0']; rfl
  have HR : Hid (M = R) := hid (by have h := FR.out; rwa [if_pos h0] at h)
  clear h0
  go_wp2_with (fail)
  go_ret
  exact ⟨Z0r (by rw [HR.out]), hx⟩
 subst h0
 replace FR := hid (show (if lim < 1 ∨ most < lim ∨ lim < tk then 5 else if F = false then 6 else if P = false then 7 else if most < lo then 8 else 0) = R by have h := FR.out; rwa [if_neg (by simp)] at h)
 by_cases h1 : lim < 1
 ·have HR : Hid (5 = R) := hid (by have h := FR.out; rwa [if_pos (.inl h1)] at h)
  go_wp2_with (fail)
  go_ret
  exact ⟨Z0r (by rw [← HR.out]), hx⟩
 by_cases h2 : most < lim
 ·have HR : Hid (5 = R) := hid (by have h := FR.out; rwa [if_pos (.inr (.inl h2))] at h)
  go_wp2_with (fail)
  go_ret
  exact ⟨Z0r (by rw [← HR.out]), hx⟩
 go_wp2_with (go_at_call 109; refine Hid.out ?_)
 refine hid ?_
 refine (Z4h B n c x _ O1.out.len O1.out.rd.1 (by have := SB.out; omega)).mono ?_
 rw [TK.out]
 rintro e w2 ⟨rfl, dr, hd⟩
 have y2 : Below w1.heap.size w1 w2 := by subst hd; exact Z0m w1 dr
 clear hd
 have K2 := hid (K1.out.ext y2)
 have O2 := hid (O1.out.ext y2)
 replace hx := Z0a hx y2
 clear K1 O1 y2
 by_cases h3 : lim < tk
 ·have HR : Hid (5 = R) := hid (by have h := FR.out; rwa [if_pos (.inr (.inr h3))] at h)
  go_wp2_with (fail)
  go_ret
  exact ⟨Z0r (by rw [← HR.out]), hx⟩
 replace FR := hid (show (if F = false then 6 else if P = false then 7 else if most < lo then 8 else 0) = R by have h := FR.out; rwa [if_neg (by omega)] at h)
 have HX := hid hx
 clear hx
 go_wp2_with (fail)
 clear h1 h2 h3
 go_loopg [10, 11] n (fun g av iv wr => ∃ (m : Nat) (a : Int), m ≤ n ∧ g = n - m ∧ av = .int .i64 a ∧ iv = .int .i64 (m : Int) ∧ wr = w2 ∧ Hid (((x.drop m).foldl (Z0z lim) (true, a)).1 = F))
 case atStart => exact ⟨0, 0, Nat.zero_le _, rfl, rfl, rfl, rfl, hid (by rw [List.drop_zero]; exact HF.out)⟩
 case round =>
  obtain ⟨m, a, hm, hg, rfl, rfl, rfl, HI⟩ := hrel
  have HG := hid hg
  clear hg
  by_cases hlt : m < n
  ·have hlt' : (m : Int) < (n : Int) := by omega
   obtain ⟨ad, o, rfl, _, hd1, _, hc⟩ := O2.out.rd.1.el (i := m) (by have := O2.out.len; omega)
   have HST : Hid (((x.drop (m + 1)).foldl (Z0z lim) (Z0z lim (true, a) o)).1 = F) := hid (by have h := HI.out; rw [hd1] at h; exact h)
   obtain ⟨⟨k, nn, r, s, p⟩, Ar, cr, As, cs, Ap, cp⟩ := o
   obtain ⟨z0, z1, -, -, -⟩ := Z0o hc
   have hw2 : IntKind.i64.wrap ((m : Int) + 1) = (m : Int) + 1 := IntWalk.i64_in _ (by have := SB.out; omega)
   obtain ⟨an, han⟩ : ∃ X, IntKind.i64.wrap (a + nn) = X := ⟨_, rfl⟩
   clear hc hd1 HI
   by_cases hk : k = 2
   ·subst hk
    by_cases ha : a = lim
    ·have ha' : (a == lim) = true := beq_iff_eq.2 ha
     have HR : Hid (6 = R) := hid (by
      have h := HST.out
      rw [Y48 rfl, decide_eq_false (by simp [ha]), Z1R] at h
      have e : F = false := h.symm
      have h2 := FR.out
      rwa [if_pos e] at h2)
     clear ha
     go_wp2_with (fail)
     go_ret
     exact ⟨Z0r (by rw [← HR.out]), HX.out⟩
    ·have ha' : (a == lim) = false := beq_eq_false_iff_ne.2 ha
     have HN : Hid (((x.drop (m + 1)).foldl (Z0z lim) (true, a)).1 = F) := hid (by
      have h := HST.out
      rw [Y48 rfl, decide_eq_true ha] at h
      exact h)
     clear ha
     go_wp2_with (fail)
     go_roundg (n - (m + 1))
     case measure => have := HG.out; clear hw2 han; omega
     case rel => exact ⟨m + 1, a, by clear hw2 han; omega, rfl, rfl, by go_num, rfl, HN⟩
   ·have hk1 : (k == 2) = false := beq_eq_false_iff_ne.2 hk
    have hk1' : (k != 2) = true := by rw [bne, hk1]; rfl
    by_cases hk3 : k = 3
    ·subst hk3
     by_cases ha : an = lim
     ·have ha' : (an == lim) = true := beq_iff_eq.2 ha
      have HR : Hid (6 = R) := hid (by
       have h := HST.out
       rw [Y6E (an := an) hk rfl han ha, Z1R] at h
       have e : F = false := h.symm
       have h2 := FR.out
       rwa [if_pos e] at h2)
      clear ha hk
      go_wp2_with (fail)
      go_ret
      exact ⟨Z0r (by rw [← HR.out]), HX.out⟩
     ·have ha' : (an == lim) = false := beq_eq_false_iff_ne.2 ha
      have HN : Hid (((x.drop (m + 1)).foldl (Z0z lim) (true, an)).1 = F) := hid (by
       have h := HST.out
       rw [Y49 (an := an) hk han (fun h => ha h.2)] at h
       exact h)
      clear ha hk
      go_wp2_with (fail)
      go_roundg (n - (m + 1))
      case measure => have := HG.out; clear hw2 han; omega
      case rel => exact ⟨m + 1, an, by clear hw2 han; omega, rfl, by first | rfl | rw [← han], by go_num, rfl, HN⟩
    ·have hk3' : (k == 3) = false := beq_eq_false_iff_ne.2 hk3
     have HN : Hid (((x.drop (m + 1)).foldl (Z0z lim) (true, an)).1 = F) := hid (by
      have h := HST.out
      rw [Y49 (an := an) hk han (fun h => hk3 h.1)] at h
      exact h)
     clear hk hk3
     go_wp2_with (fail)
     go_roundg (n - (m + 1))
     case measure => have := HG.out; clear hw2 han; omega
     case rel => exact ⟨m + 1, an, by clear hw2 han; omega, rfl, by first | rfl | rw [← han], by go_num, rfl, HN⟩
  have hlt' : ¬ (m : Int) < (n : Int) := by omega
  have FT : F = true := by
   have h := HI.out
   rw [List.drop_eq_nil_of_le (by have := O2.out.len; omega)] at h
   exact h.symm
  subst FT
  replace FR := hid (show (if P = false then 7 else if most < lo then 8 else 0) = R by have h := FR.out; rwa [if_neg (by simp)] at h)
  clear HI HG HF
  obtain ⟨wq, hwq⟩ : ∃ X, X = wr := ⟨_, rfl⟩
  subst hwq
  go_wp2_with (fail)
  clear hlt' hlt
  go_loopg [12] n (fun g iv wr => ∃ (m : Nat), m ≤ n ∧ g = n - m ∧ iv = .int .i64 (m : Int) ∧ Below wq.heap.size wq wr ∧ Hid (Z1G l (x.drop m) = P))
  case atStart => exact ⟨0, Nat.zero_le _, rfl, rfl, Below.refl _ _, hid (by rw [List.drop_zero]; exact HP.out)⟩
  case round =>
   obtain ⟨m2, hm2, hg, rfl, y, HI⟩ := hrel
   have HG := hid hg
   clear hg
   by_cases hlt : m2 < n
   ·have hlt' : (m2 : Int) < (n : Int) := by omega
    obtain ⟨ad, o, rfl, _, hd1, ho, hc⟩ := (O2.out.ext y).rd.1.el (i := m2) (by have := O2.out.len; omega)
    have om := List.mem_of_getElem? ho
    have PO := (O2.out.ext y).rd.2 o om
    have OK := O2.out.ok o om
    have HST := hid (Z6W hd1 HI.out)
    obtain ⟨⟨k, nn, r, s, p⟩, Ar, cr, As, cs, Ap, cp⟩ := o
    obtain ⟨z0, z1, z2, z3, z4⟩ := Z0o hc
    simp only at PO OK z2 z3 z4
    have PP := hid PO
    have OL : Hid (r.length ≤ 100000000 ∧ s.length ≤ 100000000) := hid ⟨OK.2.2.1, OK.2.2.2.1⟩
    have hw2 : IntKind.i64.wrap ((m2 : Int) + 1) = (m2 : Int) + 1 := IntWalk.i64_in _ (by have := SB.out; omega)
    obtain ⟨b, hbp⟩ : ∃ X, Z1F l ⟨k, nn, r, s, p⟩ = X := ⟨_, rfl⟩
    have HB := hid hbp
    clear hc hd1 HI ho om PO OK hbp
    go_wp2_with (go_at_call 166; refine Hid.out ?_)
    refine hid ?_
    clear z0 z1 z2 z3 z4
    refine (Z9w A n0 c0 l k nn Ar As Ap cr cs cp r s p s.length _ N0.out (K2.out.ext y) hb rfl PP.out.1 PP.out.2.1 OL.out.1 OL.out.2).mono ?_
    rw [HB.out]
    rintro e w4 ⟨rfl, y4⟩
    have Y4 := hid (Z0a y y4)
    cases b with
    | false =>
      have HR : Hid (7 = R) := hid (by
       have h := HST.out
       simp only [HB.out, Bool.false_and] at h
       have h2 := FR.out
       rwa [if_pos h.symm] at h2)
      clear y4
      go_wp2_with (fail)
      go_ret
      exact ⟨Z0r (by rw [← HR.out]), Z0a HX.out Y4.out⟩
    | true =>
      have HN : Hid (Z1G l (x.drop (m2 + 1)) = P) := hid (by
       have h := HST.out
       simp only [HB.out, Bool.true_and] at h
       exact h)
      clear y4
      go_wp2_with (fail)
      go_roundg (n - (m2 + 1))
      case measure => have := HG.out; clear hw2; omega
      case rel => exact ⟨m2 + 1, by clear hw2; omega, rfl, by go_num, Y4.out, HN⟩
   have hlt' : ¬ (m2 : Int) < (n : Int) := by omega
   have PT : P = true := by
    have h := HI.out
    rw [List.drop_eq_nil_of_le (by have := O2.out.len; omega)] at h
    exact h.symm
   subst PT
   replace FR := hid (show (if most < lo then 8 else 0) = R by have h := FR.out; rwa [if_neg (by simp)] at h)
   clear HI HG HP
   have O3 := hid (O2.out.ext y)
   have X3 := hid (Z0a HX.out y)
   clear y
   go_wp2_with (go_at_call 109; refine Hid.out ?_)
   refine hid ?_
   refine (Z4h B n c x _ O3.out.len O3.out.rd.1 (by have := SB.out; omega)).mono ?_
   rw [TK.out]
   rintro e w5 ⟨rfl, dr5, hd5⟩
   have y5 : Below wr.heap.size wr w5 := by subst hd5; exact Z0m wr dr5
   clear hd5
   have O4 := hid (O3.out.ext y5)
   have X4 := hid (Z0a X3.out y5)
   clear y5
   go_wp2_with (go_at_call 110; refine Hid.out ?_)
   refine hid ?_
   refine (Z6z B n c x _ O4.out.len O4.out.rd.1 (by have := SB.out; omega)).mono ?_
   rw [MK.out]
   rintro e w6 ⟨rfl, y6⟩
   have X5 := hid (Z0a X4.out y6)
   clear y6
   by_cases h8 : most < lo
   ·have HR : Hid (8 = R) := hid (by have h := FR.out; rwa [if_pos h8] at h)
    go_wp2_with (fail)
    go_ret
    exact ⟨Z0r (by rw [← HR.out]), X5.out⟩
   ·have HR : Hid (0 = R) := hid (by have h := FR.out; rwa [if_neg h8] at h)
    go_wp2_with (fail)
    go_ret
    exact ⟨Z0r (by rw [← HR.out]), X5.out⟩
theorem Y5N {a b : Bool} (h : a ≠ b) : (a != b) = true ∧ (a == b) = false := by cases a <;> cases b <;> simp_all
theorem Z4O {α : Type} {f : α → Bool} {l : List α} {i : Nat} {x : α} (hx : l[i]? = some x) : (l.take (i + 1)).any f = ((l.take i).any f || f x) := by
 rw [List.take_add_one, hx, List.any_append]
 simp
theorem Z5P {α : Type} {f : α → Bool} {l : List α} {i : Nat} {x : α} (hx : l[i]? = some x) (h : f x = true) : l.any f = true := List.any_eq_true.2 ⟨x, List.mem_of_getElem? hx, h⟩
def badA (l : List Ky) (nl : Bool) (a : At) : Bool := Z1q l (!nl) a.key
theorem Y0G (l : List Ky) (c : Cl) : badP l c = c.s.any (badA l (c.r == 10)) := by
 unfold badP Z1x badA
 by_cases h : c.s.any (fun a => Z1q l (!(c.r == 10)) a.key) = true
 ·rw [h]
  obtain ⟨a, ha, hk⟩ := List.any_eq_true.1 h
  exact decide_eq_true (List.length_pos_of_mem (List.mem_filter.2 ⟨ha, hk⟩))
 ·have h' : c.s.any (fun a => Z1q l (!(c.r == 10)) a.key) = false := by simpa using h
  rw [h']
  refine decide_eq_false fun hp => ?_
  obtain ⟨a, ha⟩ := List.exists_mem_of_length_pos hp
  obtain ⟨h1, h2⟩ := List.mem_filter.1 ha
  exact h (List.any_eq_true.2 ⟨a, h1, h2⟩)
theorem Z8M (A B : Option Addr) (n c n2 c2 : Nat) (l : List Ky) (d : List ClS) (w : World) (hn : n = l.length) (h : RdKy w w.heap.size A l) (hb : n ≤ 1048576) (hn2 : n2 = d.length) (h2 : RdCl w w.heap.size B d) (hb2 : n2 ≤ 1000000)
 (hv : ∀ x ∈ d, okVa x.c.s ∧ x.c.s.length ≤ 1000000) (hT : Utf8Tabs 1 2 w) :
 Calls Tryz.prog 73 #[.slice A n c, .slice B n2 c2] w fun e w' => e = .returned (.int .i64 (mayD l (Z0e d))) ∧ Below w.heap.size w w' := by
 have N := hid hn
 have N2 := hid hn2
 have HK := hid h
 have HD := hid h2
 have HV := hid hv
 have HT := hid hT
 have LC : Hid ((Z0e d).length = n2) := hid (by rw [Z0s, hn2])
 obtain ⟨R, hR⟩ : ∃ X, mayD l (Z0e d) = X := ⟨_, rfl⟩
 rw [hR]
 unfold mayD at hR
 have HR := hid hR
 clear hn hn2 h h2 hv hT hR
 go_enter Tryz.func73, Tryz.ntmps73
 by_cases h1 : (n2 : Int) < 1
 ·have hr := HR.out
  rw [if_pos (.inl (by rw [LC.out]; omega))] at hr
  subst hr
  go_wp2_with (fail)
  go_ret
  exact ⟨rfl, Below.refl _ _⟩
 have h1b : ¬ (536870912 : Int) < (n2 : Int) := by omega
 have HR1 := HR.out
 rw [if_neg (by rw [LC.out]; omega)] at HR1
 have HR := hid HR1
 clear HR1
 go_wp2_with (fail)
 go_loopg [5] n2 (fun g iv wr => ∃ i : Nat, i ≤ n2 ∧ g = n2 - i ∧ iv = .int .i64 (i : Int) ∧ Below w.heap.size w wr ∧ Hid (((Z0e d).take i).any (badR l) = false))
 case atStart => exact ⟨0, Nat.zero_le _, rfl, rfl, Below.refl _ _, hid rfl⟩
 case round =>
  obtain ⟨i, hi, hg, rfl, y, HI⟩ := hrel
  have HG := hid hg
  clear hg
  by_cases hlt : i < n2
  ·have hlt' : (i : Int) < (n2 : Int) := by omega
   obtain ⟨ad, z, rfl, _, _, hx, hc⟩ := (HD.out.ext y).1.el (i := i) (by have := N2.out; omega)
   have HX := hid (Z2b hx)
   obtain ⟨va, vl⟩ := HV.out z (List.mem_of_getElem? hx)
   have RS := hid ((HD.out.ext y).2 z (List.mem_of_getElem? hx))
   obtain ⟨⟨r, s⟩, As, cs⟩ := z
   obtain ⟨z0, z1⟩ := Z03 hc
   simp only at va vl
   have hw2 : IntKind.i64.wrap ((i : Int) + 1) = (i : Int) + 1 := IntWalk.i64_in _ (by omega)
   clear hx hc
   obtain ⟨mr, hmr⟩ : ∃ X, mayR r = X := ⟨_, rfl⟩
   have HMR := hid hmr
   clear hmr
   cases mr with
   | false =>
     have hr := HR.out
     rw [if_pos (Z5P HX.out (by unfold badR; rw [HMR.out]; rfl))] at hr
     subst hr
     go_wp2_with (go_at_call 150; refine (Z1f r _).mono ?_; rintro e w2 ⟨rfl, rfl⟩; rw [HMR.out])
     go_ret
     exact ⟨rfl, y⟩
   | true =>
     go_wp2_with (first | (go_at_call 150; refine (Z1f r _).mono ?_; rintro e w2 ⟨rfl, rfl⟩; rw [HMR.out]) | (go_at_call 107; refine Hid.out ?_))
     refine hid ?_
     refine (Z4N A As n c s.length cs l s _ N.out (HK.out.ext y) (by omega) rfl RS.out (by omega) va (Utf8Tabs_below HT.out y)).mono ?_
     obtain ⟨M, hM⟩ : ∃ X, mayS l s = X := ⟨_, rfl⟩
     rw [hM]
     have HM := hid hM
     clear hM
     rintro e w3 ⟨rfl, y3⟩
     have yy := Z0a y y3
     by_cases h3 : M = 3
     ·subst h3
      have hr := HR.out
      rw [if_pos (Z5P HX.out (by unfold badR; rw [HM.out]; simp))] at hr
      subst hr
      go_wp2_with (fail)
      go_ret
      exact ⟨rfl, yy⟩
     ·have h3' : (M == 3) = false := beq_eq_false_iff_ne.2 h3
      have HH3 := hid h3
      clear h3
      go_wp2_with (fail)
      go_roundg (n2 - (i + 1))
      case measure => have := HG.out; clear hw2; omega
      case rel => exact ⟨i + 1, by clear hw2; omega, rfl, rfl, yy, hid (by rw [Z4O HX.out, HI.out]; unfold badR; rw [HMR.out, HM.out]; simp [HH3.out])⟩
  have hlt' : ¬ (i : Int) < (n2 : Int) := by omega
  have HR2 := HR.out
  have e0 := HI.out
  rw [List.take_of_length_le (by rw [LC.out]; omega)] at e0
  rw [if_neg (by rw [e0]; decide)] at HR2
  have HR := hid HR2
  clear HR2 HI
  have AR := hid e0
  clear e0
  obtain ⟨wv, hwv⟩ : ∃ X, X = wr := ⟨_, rfl⟩
  subst hwv
  go_wp2_with (fail)
  go_loopg [6] n2 (fun g iv wr => ∃ i : Nat, i ≤ n2 ∧ g = n2 - i ∧ iv = .int .i64 (i : Int) ∧ Below w.heap.size w wr ∧ Hid (((Z0e d).take i).any (badK l) = false))
  case atStart => exact ⟨0, Nat.zero_le _, rfl, rfl, y, hid rfl⟩
  case round =>
   obtain ⟨i2, hi2, hg, rfl, y, HI⟩ := hrel
   have HG := hid hg
   clear hg
   by_cases hlt : i2 < n2
   ·have hlt' : (i2 : Int) < (n2 : Int) := by omega
    obtain ⟨ad, z, rfl, _, _, hx, hc⟩ := (HD.out.ext y).1.el (i := i2) (by have := N2.out; omega)
    have HX := hid (Z2b hx)
    obtain ⟨va, vl⟩ := HV.out z (List.mem_of_getElem? hx)
    have RS := hid ((HD.out.ext y).2 z (List.mem_of_getElem? hx))
    obtain ⟨⟨r, s⟩, As, cs⟩ := z
    obtain ⟨z0, z1⟩ := Z03 hc
    simp only at va vl
    have hw2 : IntKind.i64.wrap ((i2 : Int) + 1) = (i2 : Int) + 1 := IntWalk.i64_in _ (by omega)
    clear hx hc
    go_wp2_with (go_at_call 107; refine Hid.out ?_)
    refine hid ?_
    refine (Z4N A As n c s.length cs l s _ N.out (HK.out.ext y) (by omega) rfl RS.out (by omega) va (Utf8Tabs_below HT.out y)).mono ?_
    obtain ⟨M, hM⟩ : ∃ X, mayS l s = X := ⟨_, rfl⟩
    rw [hM]
    have HM := hid hM
    clear hM
    rintro e w3 ⟨rfl, y3⟩
    have yy := Z0a y y3
    by_cases h3 : M = 0
    ·subst h3
     go_wp2_with (fail)
     go_roundg (n2 - (i2 + 1))
     case measure => have := HG.out; clear hw2; omega
     case rel => exact ⟨i2 + 1, by clear hw2; omega, rfl, rfl, yy, hid (by rw [Z4O HX.out, HI.out]; unfold badK; rw [HM.out]; rfl)⟩
    ·have h3' : (M == 0) = false := beq_eq_false_iff_ne.2 h3
     have h3'' : (M != 0) = true := by rw [bne, h3']; rfl
     have hr := HR.out
     rw [if_pos (Z5P HX.out (by unfold badK; rw [HM.out]; simp [h3]))] at hr
     subst hr
     go_wp2_with (fail)
     go_ret
     exact ⟨rfl, yy⟩
   have hlt' : ¬ (i2 : Int) < (n2 : Int) := by omega
   have HR2 := HR.out
   have e0 := HI.out
   rw [List.take_of_length_le (by rw [LC.out]; omega)] at e0
   rw [if_neg (by rw [e0]; decide)] at HR2
   have HR := hid HR2
   have AK := hid e0
   clear HR2 HI e0
   -- the last one
   obtain ⟨k, hk⟩ : ∃ k, n2 = k + 1 := ⟨n2 - 1, by omega⟩
   have e3 : (n2 : Int) - 1 = (k : Int) := by omega
   have hw3 : IntKind.i64.wrap ((n2 : Int) - 1) = (k : Int) := by rw [e3]; exact IntWalk.i64_in _ (by omega)
   have hkl : k < n2 := by omega
   have hkl' : (k : Int) < (n2 : Int) := by omega
   obtain ⟨ad, z, had, _, _, hx, hc⟩ := (HD.out.ext y).1.el (i := k) (by have := N2.out; omega)
   have HX := hid (Z2b hx)
   obtain ⟨⟨r, s⟩, As, cs⟩ := z
   obtain ⟨z0, -⟩ := Z03 hc
   have GL : (Z0e d).getLast? = some ⟨r, s⟩ := by rw [List.getLast?_eq_getElem?, LC.out, hk]; exact HX.out
   have HR2 := HR.out
   rw [GL] at HR2
   have HR := hid HR2
   clear HR2 GL hx hc e3
   obtain ⟨wv, hwv⟩ : ∃ X, X = wr := ⟨_, rfl⟩
   subst hwv
   rw [had]
   by_cases hr : r = 10
   rotate_left
   ·have hr' : (r == 10) = false := beq_eq_false_iff_ne.2 hr
    have hr'' : (r != 10) = true := by rw [bne, hr']; rfl
    have h9 := HR.out
    rw [if_pos (by simp [hr])] at h9
    subst h9
    go_wp2_with (fail)
    go_ret
    exact ⟨rfl, y⟩
   subst hr
   have h9 := HR.out
   rw [if_neg (by simp)] at h9
   have HR := hid h9
   clear h9
   go_wp2_with (fail)
   rw [← had]
   clear z0 hw3 hkl' HX
   go_loopg [7] n2 (fun g iv wr => ∃ i : Nat, i ≤ n2 ∧ g = n2 - i ∧ iv = .int .i64 (i : Int) ∧ Below w.heap.size w wr ∧ Hid (((Z0e d).take i).any (badP l) = false))
   case atStart => exact ⟨0, Nat.zero_le _, rfl, rfl, y, hid rfl⟩
   case round =>
    obtain ⟨i3, hi3, hg, rfl, y, HI⟩ := hrel
    have HG3 := hid hg
    clear hg
    by_cases hlt : i3 < n2
    ·have hlt3 : (i3 : Int) < (n2 : Int) := by omega
     obtain ⟨ad3, z, had3, hab3, _, hx, hc⟩ := HD.out.1.el (i := i3) (by have := N2.out; omega)
     have HX := hid (Z2b hx)
     obtain ⟨va, vl⟩ := HV.out z (List.mem_of_getElem? hx)
     have RS := hid (HD.out.2 z (List.mem_of_getElem? hx))
     obtain ⟨⟨r, s⟩, As, cs⟩ := z
     simp only at va vl
     have HC := hid hc
     have HAB := hid hab3
     have CZ : ∀ W : World, Below w.heap.size w W → W.cell? (ad3.add (i3 * 2)) = some (.int .i32 r) ∧ W.cell? { block := (ad3.add (i3 * 2)).block, off := (ad3.add (i3 * 2)).off + 1 } = some (.slice As s.length cs) := fun W yw =>
      Z03 (HC.out.keep (w' := W) fun q hq => yw.cell (by rw [hq, Z0q]; exact HAB.out))
     have VL := hid vl
     have hw2 : IntKind.i64.wrap ((i3 : Int) + 1) = (i3 : Int) + 1 := IntWalk.i64_in _ (by omega)
     clear hx hc va vl hab3
     obtain ⟨wv2, hwv⟩ : ∃ X, X = wr := ⟨_, rfl⟩
     subst hwv
     rw [had3]
     go_wp2_with (fail)
     go_loopg [8] s.length (fun g iv wr => ∃ j : Nat, j ≤ s.length ∧ g = s.length - j ∧ iv = .int .i64 (j : Int) ∧ Below w.heap.size w wr ∧ Hid ((s.take j).any (badA l (r == 10)) = false))
     case atStart => exact ⟨0, Nat.zero_le _, rfl, rfl, y, hid rfl⟩
     case round =>
      obtain ⟨j, hj, hg, rfl, y, HJ⟩ := hrel
      have HG4 := hid hg
      clear hg
      obtain ⟨z0, z1⟩ := CZ _ y
      by_cases hlj : j < s.length
      ·have hlj' : (j : Int) < (s.length : Int) := by omega
       obtain ⟨ae, a, rfl, _, _, ha, hca⟩ := (RS.out.below y (Nat.le_refl _)).el hlj
       have HA := hid ha
       obtain ⟨ka, ⟨va0, va1, va2, va3⟩⟩ := a
       obtain ⟨q0, -⟩ := Z0P hca
       have hw4 : IntKind.i64.wrap ((j : Int) + 1) = (j : Int) + 1 := IntWalk.i64_in _ (by have := VL.out; clear hw2; omega)
       have TH : Hid ((Z0N l ka).isSome = true) := hid (by
        have h1 : badK l ⟨r, s⟩ = false := by
         have := AK.out
         rw [List.any_eq_false] at this
         simpa using this _ (List.mem_of_getElem? HX.out)
        have h2 : mayS l s = 0 := by unfold badK at h1; simpa using h1
        have h3 := (Z00 h2).2.2.2 _ (List.mem_of_getElem? ha)
        unfold Z1u Z2C at h3
        simp only at h3
        cases hf : Z0N l ka with
        | none => rw [hf] at h3; cases h3
        | some K => rfl)
       clear ha hca
       go_wp2_with (go_at_call 151; refine Hid.out ?_)
       refine hid ?_
       refine (Z3v A n c l ka wr N.out (HK.out.ext y) (by omega)).mono ?_
       rintro e w3 ⟨k1, k2, k3, k4, k5, k6, q, rfl, hq1, hq2, y3⟩
       have y4 := Z0b w3 (.cells #[.int .i64 k1, .bool k2, .int .u8 k3, .bool k4, .bool k5, .int .i64 k6] 97)
       have hbx := heap_alloc_new w3 (.cells #[.int .i64 k1, .bool k2, .int .u8 k3, .bool k4, .bool k5, .int .i64 k6] 97)
       have y5 := Z0a y (Z0a y3 y4)
       have HQ1 := hid hq1
       have HQ2 := hid hq2
       clear hq1 hq2 q0 y3 y4
       go_wp2_with (fail)
       generalize w3.alloc (.cells #[.int .i64 k1, .bool k2, .int .u8 k3, .bool k4, .bool k5, .int .i64 k6] 97) = w4 at *
       obtain ⟨b0, b1, b2, b3, b4, b5⟩ := Z32 hbx
       obtain ⟨z0, z1⟩ := CZ _ y5
       have BA : Hid (badA l (r == 10) ⟨ka, ⟨va0, va1, va2, va3⟩⟩ = (k2 != (r == 10))) := hid (by
        unfold badA Z1q
        have h1 := HQ1.out
        have h2 := HQ2.out
        have h3 := TH.out
        simp only
        cases hf : Z0N l ka with
        | none => rw [hf] at h3; cases h3
        | some K =>
          rw [hf] at h1
          have hK : K = ⟨k1, k2, k3, k4, k5, k6⟩ := h1
          subst hK
          show (k2 == !(r == 10)) = (k2 != (r == 10))
          cases k2 <;> cases (r == 10) <;> rfl)
       obtain ⟨nl, hnl⟩ : ∃ X, (r == 10) = X := ⟨_, rfl⟩
       have HNL := hid hnl
       rw [hnl] at BA
       have YY := hid y5
       clear hbx y y5
       by_cases hk2 : k2 = nl
       ·have hkn : (k2 != nl) = false := by rw [hk2]; exact bne_self_eq_false _
        have hke : (k2 == nl) = true := by rw [hk2]; exact beq_self_eq_true _
        go_quiet (fail)
        go_wp2_with (fail)
        go_roundg (s.length - (j + 1))
        case measure => have := HG4.out; clear hw2 hw4; omega
        case rel => exact ⟨j + 1, by clear hw2 hw4; omega, rfl, rfl, Z0t YY.out nq, hid (by rw [Z4O HA.out, HJ.out, HNL.out, BA.out, hkn]; rfl)⟩
       ·obtain ⟨hkn, hke⟩ := Y5N hk2
        have h9 := HR.out
        rw [if_pos (Z5P HX.out (by rw [Y0G]; exact List.any_eq_true.2 ⟨_, List.mem_of_getElem? HA.out, by show badA l (r == 10) _ = true; rw [HNL.out, BA.out, hkn]⟩))] at h9
        subst h9
        go_quiet (fail)
        go_wp2_with (fail)
        go_ret
        exact ⟨rfl, Z0t YY.out nq⟩
      ·have hlj' : ¬ (j : Int) < (s.length : Int) := by omega
       have e0 := HJ.out
       rw [List.take_of_length_le (by omega)] at e0
       have E0 := hid e0
       clear e0
       go_wp2_with (fail)
       rw [← had3]
       go_roundg (n2 - (i3 + 1))
       case measure => have := HG3.out; clear hw2; omega
       case rel => exact ⟨i3 + 1, by clear hw2; omega, rfl, rfl, y, hid (by rw [Z4O HX.out, HI.out, Y0G]; exact E0.out)⟩
    ·have hlt3 : ¬ (i3 : Int) < (n2 : Int) := by omega
     have h9 := HR.out
     have e0 := HI.out
     rw [List.take_of_length_le (by rw [LC.out]; omega)] at e0
     rw [if_neg (by rw [e0]; decide)] at h9
     subst h9
     go_wp2_with (fail)
     go_ret
     exact ⟨rfl, y⟩
theorem Z4P : ∀ us : List Un, Z0p us ≤ us.length
 | [] => Nat.le_refl _
 | .ins r s :: us => by have := Z4P us; rw [Z3a, List.length_cons]; omega
 | .del :: us => by have := Z4P us; rw [Z2m, List.length_cons]; omega
 | .ret p :: us => by have := Z4P us; rw [Z1O, List.length_cons]; omega
theorem Y3v {l : List Ky} {o : Opd} (h : oneP l o = 0) : Z1W o.p = true := by
 unfold oneP at h
 split at h
 ·split at h
  ·exact (Z0U h).2.1
  ·rename_i h1; exact absurd h h1
 ·cases h
section
variable {l : List Ky} {A0 A1 A2 : Option Addr} {n0 n1 n2 c0 c1 c2 : Nat} {d : List ClS} {x : List OpS} {w : World}
theorem Z5i {most r : Int} (e0 : n0 = l.length) (r0 : RdKy w w.heap.size A0 l) (b0 : n0 ≤ 1048576) (d1 : DocAt w A1 n1 c1 d) (o2 : OpsAt w A2 n2 x) (v1 : ∀ z ∈ d, okVa z.c.s) (hz : szX x ≤ 5000)
 (hT : Utf8Tabs 1 2 w) (hr : Z0F l x (Z0e d) most = r) (hne : r ≠ 0) :
 Calls Tryz.prog 34 #[.slice A0 n0 c0, .slice A1 n1 c1, .slice A2 n2 c2, .int .i64 most] w fun e w' => e = .returned (.tuple #[.slice none 0 0, .int .i64 r]) ∧ Below w.heap.size w w' := by
 have N0 := hid e0
 have R0 := hid r0
 have D1 := hid d1
 have O2 := hid o2
 have V1 := hid v1
 have HT := hid hT
 have HZ := hid hz
 have hx := Below.refl w.heap.size w
 obtain ⟨M, hM⟩ : ∃ X, mayO l x = X := ⟨_, rfl⟩
 obtain ⟨md, hmd⟩ : ∃ X, mayD l (Z0e d) = X := ⟨_, rfl⟩
 obtain ⟨F, hF⟩ : ∃ X, Z2E l x (n1 : Int) most = X := ⟨_, rfl⟩
 have MM := hid hM
 have MD := hid hmd
 have HF := hid hF
 have HR : Hid ((if M ≠ 0 then M else if md ≠ 0 then 3 else F) = r) := hid (by rw [← hr]; unfold Z0F; rw [hM, hmd, D1.out.clen, hF])
 clear e0 r0 d1 o2 v1 hT hr hM hmd hF hz
 go_enter Tryz.func34, Tryz.ntmps34
 go_wp2_with (go_at_call 43; refine Hid.out ?_)
 refine hid ?_
 refine (Z7T N0.out R0.out b0 O2.out HZ.out HT.out MM.out).mono ?_
 rintro e wn ⟨rfl, y⟩
 have R0 := hid (R0.out.ext y)
 have D1 := hid (D1.out.ext y)
 have O2 := hid (O2.out.ext y)
 have HT := hid (Utf8Tabs_below HT.out y)
 replace hx := Z0a hx y
 clear y
 by_cases h0 : M = 0
 rotate_left
 ·have h0' : (M == 0) = false := beq_eq_false_iff_ne.2 h0
  have h0'' : (M != 0) = true := by rw [bne, h0']; rfl
  have E : Hid (M = r) := hid (by have h := HR.out; rwa [if_pos h0] at h)
  clear h0 hne
  go_wp2_with (fail)
  refine bodyPost_ret (v := .tuple #[.slice none 0 0, .int .i64 M]) (by simp [results, Tryz.results34, go_sem]) rfl ?_
  exact ⟨by rw [E.out], hx⟩
 subst h0
 replace HR := hid (show (if md ≠ 0 then 3 else F) = r by have h := HR.out; rwa [if_neg (by simp)] at h)
 go_wp2_with (go_at_call 73; refine Hid.out ?_)
 refine hid ?_
 refine (Z8M A0 A1 n0 c0 n1 c1 l d _ N0.out R0.out b0 D1.out.len D1.out.rd (by have := D1.out.b; omega) (fun z hz => ⟨V1.out z hz, (D1.out.vr z hz).1⟩) HT.out).mono ?_
 rw [MD.out]
 rintro e wn ⟨rfl, y⟩
 have R0 := hid (R0.out.ext y)
 have D1 := hid (D1.out.ext y)
 have O2 := hid (O2.out.ext y)
 have HT := hid (Utf8Tabs_below HT.out y)
 replace hx := Z0a hx y
 clear y
 by_cases h0 : md = 0
 rotate_left
 ·have h0' : (md == 0) = false := beq_eq_false_iff_ne.2 h0
  have h0'' : (md != 0) = true := by rw [bne, h0']; rfl
  have E : Hid (3 = r) := hid (by have h := HR.out; rwa [if_pos h0] at h)
  clear h0 hne
  go_wp2_with (fail)
  refine bodyPost_ret (v := .tuple #[.slice none 0 0, .int .i64 3]) (by simp [results, Tryz.results34, go_sem]) rfl ?_
  exact ⟨by rw [← E.out], hx⟩
 subst h0
 replace HR := hid (show F = r by have h := HR.out; rwa [if_neg (by simp)] at h)
 go_wp2_with (go_at_call 91; refine Hid.out ?_)
 refine hid ?_
 refine (Z7l (n1 : Int) most N0.out R0.out b0 O2.out HZ.out HT.out HF.out).mono ?_
 rintro e wn ⟨rfl, y⟩
 replace hx := Z0a hx y
 clear y
 have h0' : (F == 0) = false := beq_eq_false_iff_ne.2 (by rw [HR.out]; exact hne)
 have h0'' : (F != 0) = true := by rw [bne, h0']; rfl
 clear hne
 go_wp2_with (fail)
 refine bodyPost_ret (v := .tuple #[.slice none 0 0, .int .i64 F]) (by simp [results, Tryz.results34, go_sem]) rfl ?_
 exact ⟨by rw [HR.out], hx⟩
theorem Z4Q {most : Int} {N : Nat} (e0 : n0 = l.length) (r0 : RdKy w w.heap.size A0 l) (b0 : n0 ≤ 64) (d1 : DocAt w A1 n1 c1 d) (hb : n1 ≤ 400) (o2 : OpsAt w A2 n2 x) (v1 : ∀ z ∈ d, okVa z.c.s) (hz : szX x ≤ 5000)
 (hT : Utf8Tabs 1 2 w) (hin : In l x (Z0e d) most N) (hr : Z0F l x (Z0e d) most = 0) :
 Calls Tryz.prog 34 #[.slice A0 n0 c0, .slice A1 n1 c1, .slice A2 n2 c2, .int .i64 most] w fun e w' =>
  ∃ A c M, e = .returned (.tuple #[.slice A M.length c, .int .i64 0]) ∧ Z0e M = app l (Z0d (osOf x)) (Z0e d) ∧ DocAt w' A M.length c M ∧ Below w.heap.size w w' := by
 have N0 := hid e0
 have R0 := hid r0
 have D1 := hid d1
 have O2 := hid o2
 have V1 := hid v1
 have HT := hid hT
 have HZ := hid hz
 have HI := hid hin
 have hx := Below.refl w.heap.size w
 obtain ⟨hmd, hft⟩ := Z1T hr
 have hmo := (Z10 hft).1
 rw [D1.out.clen] at hft
 have MM := hid hmo
 have MD := hid hmd
 have HF := hid hft
 have LD : Hid ((Z0e d).length = n1) := hid D1.out.clen
 have GO := hid (Z02 hmo).1
 have CM := hid (came (most := N) (by rw [← N0.out]; exact b0) (by have := o2.b; have := o2.len; omega) (by have := hin.n; omega) o2.ok d1.cvr hin.at_).2.2
 clear e0 r0 d1 o2 v1 hT hin hr hmd hft hmo hz
 go_enter Tryz.func34, Tryz.ntmps34
 go_wp2_with (go_at_call 43; refine Hid.out ?_)
 refine hid ?_
 refine (Z7T N0.out R0.out (by omega) O2.out HZ.out HT.out MM.out).mono ?_
 rintro e wn ⟨rfl, y⟩
 have R0 := hid (R0.out.ext y)
 have D1 := hid (D1.out.ext y)
 have O2 := hid (O2.out.ext y)
 have HT := hid (Utf8Tabs_below HT.out y)
 replace hx := Z0a hx y
 clear y
 go_wp2_with (go_at_call 73; refine Hid.out ?_)
 refine hid ?_
 refine (Z8M A0 A1 n0 c0 n1 c1 l d _ N0.out R0.out (by omega) D1.out.len D1.out.rd (by have := D1.out.b; omega) (fun z hz => ⟨V1.out z hz, (D1.out.vr z hz).1⟩) HT.out).mono ?_
 rw [MD.out]
 rintro e wn ⟨rfl, y⟩
 have R0 := hid (R0.out.ext y)
 have D1 := hid (D1.out.ext y)
 have O2 := hid (O2.out.ext y)
 have HT := hid (Utf8Tabs_below HT.out y)
 replace hx := Z0a hx y
 clear y
 go_wp2_with (go_at_call 91; refine Hid.out ?_)
 refine hid ?_
 refine (Z7l (n1 : Int) most N0.out R0.out (by omega) O2.out HZ.out HT.out HF.out).mono ?_
 rintro e wn ⟨rfl, y⟩
 have R0 := hid (R0.out.ext y)
 have D1 := hid (D1.out.ext y)
 have O2 := hid (O2.out.ext y)
 replace hx := Z0a hx y
 clear y
 have UL : Hid ((Z0d (osOf x)).length ≤ 5800) := hid (by have := HI.out.ul; have := LD.out; have := HZ.out; omega)
 go_wp2_with (go_at_call 92; refine Hid.out ?_)
 refine hid ?_
 refine (Y4N N0.out R0.out (by omega) D1.out.len D1.out.rd (by omega) D1.out.cap O2.out.len O2.out.rd (by have := O2.out.len; have := Z7J x; have := HZ.out; omega) (fun z hz => by
  have h1 := (Z3c.1 MD.out).2.1 _ (Y2F hz)
  exact ⟨(D1.out.vr z hz).1, (Z00 h1.2.1).2.1⟩) (fun o ho => by
  have h1 := Y2I ho
  unfold szO at h1
  have := HZ.out
  exact ⟨HI.out.isop o ho, by omega, by omega, by omega, Y3v (GO.out o ho)⟩) (by have h := HI.out.fit.t; rw [LD.out] at h; exact h) (by have := Z4P (Z0d (osOf x)); have := UL.out; omega)).mono ?_
 rintro e wn ⟨A, c, M, rfl, hM, oM, pM, y⟩
 have HD : Hid (DocAt wn A M.length c M) := hid (DocAt.made oM pM (by rw [hM]; exact fun z hz => ⟨by have := CM.out.s64 z hz; omega, CM.out.vr z hz⟩) (by
  have h1 := HI.out.an
  have h2 := HI.out.n
  rw [← hM, Z0s] at h1
  omega))
 have HM := hid hM
 replace hx := Z0a hx y
 clear hM oM pM y
 go_wp2_with (fail)
 refine bodyPost_ret (v := .tuple #[.slice A M.length c, .int .i64 0]) (by simp [results, Tryz.results34, go_sem]) rfl ?_
 exact ⟨A, c, M, rfl, HM.out, HD.out, hx⟩
end
end Go.Proofs.YtfnkjcodcoehcaaGreatDoor
