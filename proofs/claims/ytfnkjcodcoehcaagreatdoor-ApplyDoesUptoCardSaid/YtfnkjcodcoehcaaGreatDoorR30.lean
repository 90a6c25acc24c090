/- Merged texts: Fits15. -/
import Derived.Test.YtfnkjcodcoehcaaGreatDoorR15
import Derived.Test.YtfnkjcodcoehcaaGreatDoorR29
import Derived.Test.YtfnkjcodcoehcaaGreatDoorR28
import Derived.Test.YtfnkjcodcoehcaaGreatDoorR23
import Derived.Test.YtfnkjcodcoehcaaGreatDoorR10
import Derived.Test.YtfnkjcodcoehcaaGreatDoorR25
namespace Go.Proofs.YtfnkjcodcoehcaaGreatDoor
open Go.RowKit
set_option linter.unusedVariables false
set_option linter.unusedSimpArgs false

theorem partS_snoc (l : List Ky) (b : Bool) {s : List At} {m : Nat} {a : At} (h : s[m]? = some a) : partS l b (s.take (m + 1)) = partS l b (s.take m) ++ (if keepK l b a.key = true then [a] else []) := by
  unfold partS
  rw [List.take_add_one, h, List.filter_append]
  congr 1
  cases hk : keepK l b a.key <;> simp [hk]
theorem placeO_not {l : List Ky} {o : Opd} (h : o.k ≠ 2 ∨ o.s = []) : placeO l o = true := by
  unfold placeO
  rw [if_neg]
  rintro ⟨h1, h2⟩
  rcases h with h | h
  · exact h h1
  · rw [h] at h2; simp at h2
theorem placeO_is {l : List Ky} {o : Opd} (h1 : o.k = 2) (h2 : o.s ≠ []) {b n : Nat} (hb : (partS l true o.s).length = b) (hn : nlR o.r = n) :
    placeO l o = ((b == 0 && n == 0) || (b == o.s.length && n == o.r.length)) := by
  have hbl : b ≤ o.s.length := by rw [← hb]; exact List.length_filter_le _ _
  have hnl : n ≤ o.r.length := by rw [← hn]; exact List.countP_le_length
  have hpos : 0 < o.s.length := List.length_pos_iff.2 h2
  unfold placeO
  rw [if_pos ⟨h1, hpos⟩, hb, hn]
  have e1 : decide (0 < b) = !(b == 0) := by cases b <;> simp
  have e2 : decide (0 < n) = !(n == 0) := by cases n <;> simp
  have e3 : decide (b < o.s.length) = !(b == o.s.length) := by
    by_cases h : b = o.s.length
    · simp [h]
    · have : b < o.s.length := by omega
      simp [h, this]
  have e4 : decide (n < o.r.length) = !(n == o.r.length) := by
    by_cases h : n = o.r.length
    · simp [h]
    · have : n < o.r.length := by omega
      simp [h, this]
  rw [e1, e2, e3, e4]
  generalize (b == 0) = a1
  generalize (n == 0) = a2
  generalize (b == o.s.length) = a3
  generalize (n == o.r.length) = a4
  cases a1 <;> cases a2 <;> cases a3 <;> cases a4 <;> rfl
set_option maxRecDepth 100000 in
set_option maxHeartbeats 3200000 in
theorem place15_any (A : Option Addr) (n0 c0 : Nat) (l : List Ky) (k m : Int) (Ar As Ap : Option Addr) (cr cs cp : Nat) (r : List Int) (s : List At) (p : List Ch) (n3 : Nat) (w : World) (hn : n0 = l.length) (hK : RdKy w w.heap.size A l) (hb : n0 ≤ 1048576) (hn3 : s.length = n3)
    (hr : RdI32 w w.heap.size Ar r) (hs : RdAt w w.heap.size As s) (b1 : r.length ≤ 100000000) (b2 : n3 ≤ 100000000) :
    Calls Tryz.prog 166 #[.slice A n0 c0, .agg #[.int .u8 k, .int .i64 m, .slice Ar r.length cr, .slice As n3 cs, .slice Ap p.length cp]] w fun e w' => e = .returned (.bool (placeO l ⟨k, m, r, s, p⟩)) ∧ Below w.heap.size w w' := by
  have N0 := Lib.hid hn
  have N3 := Lib.hid hn3
  have y0 := ext_alloc w (.cells #[.int .u8 k, .int .i64 m, .slice Ar r.length cr, .slice As n3 cs, .slice Ap p.length cp] 50)
  have hbx := heap_alloc_new w (.cells #[.int .u8 k, .int .i64 m, .slice Ar r.length cr, .slice As n3 cs, .slice Ap p.length cp] 50)
  obtain ⟨q0, q1, q2, q3, q4⟩ := box_op hbx
  have HBX := Lib.hid hbx
  have HK := Lib.hid (hK.ext y0)
  have HR := Lib.hid (hr.ext y0)
  have HS := Lib.hid (hs.ext y0)
  have Y0 := Lib.hid y0
  obtain ⟨R, hR⟩ : ∃ X, placeO l ⟨k, m, r, s, p⟩ = X := ⟨_, rfl⟩
  have HRR := Lib.hid hR
  rw [hR]
  clear hn hK hr hs hbx hR y0
  go_enter Tryz.func166, Tryz.ntmps166
  by_cases hk : k = 2
  rotate_left
  · have hk1 : (k == 2) = false := beq_eq_false_iff_ne.2 hk
    have hk2 : (k != 2) = true := by rw [bne, hk1]; rfl
    have HT : Hid (R = true) := Lib.hid (HRR.out.symm.trans (placeO_not (.inl hk)))
    clear hk
    go_wp2_with (fail)
    go_ret
    exact ⟨ret_bool HT.out.symm, Y0.out⟩
  subst hk
  have N3 := Lib.hid hn3
  by_cases hz : n3 = 0
  · have HT : Hid (R = true) := Lib.hid (HRR.out.symm.trans (placeO_not (.inr (List.eq_nil_of_length_eq_zero (hn3.trans hz)))))
    subst hz
    clear hn3
    go_wp2_with (fail)
    go_ret
    exact ⟨ret_bool HT.out.symm, Y0.out⟩
  have hz1 : ((n3 : Int) == 0) = false := beq_eq_false_iff_ne.2 (by omega)
  have NZ : Hid (1 ≤ n3 ∧ n3 ≤ 100000000) := Lib.hid (by omega)
  have SL : Hid (s ≠ []) := Lib.hid (fun h => by have := N3.out; rw [h] at this; simp at this; omega)
  clear hn3 hz
  go_wp2_with (fail)
  obtain ⟨sz, hsz⟩ : ∃ z, w.heap.size = z := ⟨_, rfl⟩
  have HSZ := Lib.hid hsz
  rw [hsz] at HBX ⊢
  generalize hw1 : w.alloc (.cells #[.int .u8 2, .int .i64 m, .slice Ar r.length cr, .slice As n3 cs, .slice Ap p.length cp] 50) = w1 at *
  have BX : Hid (∀ u, Below w1.heap.size w1 u → u.cell? ⟨sz, 2, none⟩ = some (.slice Ar r.length cr) ∧ u.cell? ⟨sz, 3, none⟩ = some (.slice As n3 cs)) := Lib.hid (fun u hu => by
    have h := (hu.block _ (lt_of_some HBX.out)).trans HBX.out
    obtain ⟨_, _, a, b, _⟩ := box_op h
    exact ⟨a, b⟩)
  clear hw1 hsz q0 q1 q2 q3 q4
  go_loopg [5, 6] n3 (fun g bv iv wr => ∃ (i b : Nat), i ≤ n3 ∧ b ≤ i ∧ g = n3 - i ∧ bv = .int .i64 (b : Int) ∧ iv = .int .i64 (i : Int) ∧ Hid (b = (partS l true (s.take i)).length) ∧ Below w1.heap.size w1 wr)
  case atStart => exact ⟨0, 0, Nat.zero_le _, Nat.zero_le _, rfl, rfl, rfl, Lib.hid rfl, Below.refl _ _⟩
  case round =>
    obtain ⟨i, b, hi, hbi, hg, rfl, rfl, HC, y⟩ := hrel
    have HG := Lib.hid hg
    clear hg
    obtain ⟨z2, z3⟩ := BX.out _ y
    by_cases hlt : i < n3
    · have hlt' : (i : Int) < (n3 : Int) := by omega
      obtain ⟨ad, x, rfl, _, _, hx, hc⟩ := (HS.out.ext y).el (i := i) (by have := N3.out; omega)
      have PS := Lib.hid (partS_snoc l true hx)
      have hw2 : IntKind.i64.wrap ((i : Int) + 1) = (i : Int) + 1 := IntWalk.i64_in _ (by have := NZ.out; omega)
      have hw3 : IntKind.i64.wrap ((b : Int) + 1) = (b : Int) + 1 := IntWalk.i64_in _ (by have := NZ.out; clear hw2; omega)
      obtain ⟨x1, x2, x3, x4, x5⟩ := x
      obtain ⟨v0, -⟩ := at_cells hc
      clear hx hc
      go_wp2_with (go_at_call 151; refine Hid.out ?_)
      refine Lib.hid ?_
      clear v0
      refine (findR_any A n0 c0 l x1 _ N0.out (HK.out.ext y) (by clear hw2 hw3; omega)).mono ?_
      rintro e w3 ⟨i1, k1, kd, k2, k3, q, ok, rfl, hk, hbk, y3⟩
      have y4 := ext_alloc w3 (.cells #[.int .i64 i1, .bool k1, .int .u8 kd, .bool k2, .bool k3, .int .i64 q] 97)
      have hbx := heap_alloc_new w3 (.cells #[.int .i64 i1, .bool k1, .int .u8 kd, .bool k2, .bool k3, .int .i64 q] 97)
      obtain ⟨a0, a1, a2, a3, a4, a5⟩ := box_ky hbx
      have Y5 := Lib.hid (ext_trans y (ext_trans y3 y4))
      have KE : Hid (keepK l true x1 = (ok && k1)) := Lib.hid (by
        unfold keepK
        cases hq : findK l x1 with
        | none => rw [hq] at hbk; rw [← hbk]; rfl
        | some v =>
          rw [hq] at hk hbk
          simp only [Option.getD_some] at hk
          rw [← hbk, hk]
          cases k1 <;> rfl)
      clear hk hbk hbx y3 y4
      cases ok with
      | false =>
        have HN : Hid (b = (partS l true (s.take (i + 1))).length) := Lib.hid (by rw [PS.out, KE.out]; simp [← HC.out])
        go_wp2_with (fail)
        go_roundg (n3 - (i + 1))
        case measure => have := HG.out; clear hw2 hw3; omega
        case rel => exact ⟨i + 1, b, by clear hw2 hw3; omega, by clear hw2 hw3; omega, rfl, rfl, by go_num, HN, Y5.out⟩
      | true =>
        cases k1 with
        | false =>
          have HN : Hid (b = (partS l true (s.take (i + 1))).length) := Lib.hid (by rw [PS.out, KE.out]; simp [← HC.out])
          go_wp2_with (fail)
          go_roundg (n3 - (i + 1))
          case measure => have := HG.out; clear hw2 hw3; omega
          case rel => exact ⟨i + 1, b, by clear hw2 hw3; omega, by clear hw2 hw3; omega, rfl, rfl, by go_num, HN, Y5.out⟩
        | true =>
          have HN : Hid (b + 1 = (partS l true (s.take (i + 1))).length) := Lib.hid (by rw [PS.out, KE.out]; simp [← HC.out])
          go_wp2_with (fail)
          go_roundg (n3 - (i + 1))
          case measure => have := HG.out; clear hw2 hw3; omega
          case rel => exact ⟨i + 1, b + 1, by clear hw2 hw3; omega, by clear hw2 hw3; omega, rfl, by go_num, by go_num, HN, Y5.out⟩
    have hlt' : ¬ (i : Int) < (n3 : Int) := by omega
    have HB : Hid (b = (partS l true s).length) := Lib.hid (by rw [HC.out, List.take_of_length_le (by have := N3.out; omega)])
    clear HC HG
    go_wp2_with (go_at_call 210; refine Hid.out ?_)
    refine Lib.hid ?_
    obtain ⟨n4, hn4⟩ : ∃ X, r.length = X := ⟨_, rfl⟩
    have N4 := Lib.hid hn4
    obtain ⟨nl, hnl⟩ : ∃ X, nlR r = X := ⟨_, rfl⟩
    have NL := Lib.hid hnl
    refine (refNewlines_any Ar r.length cr r _ rfl (HR.out.ext y) (by omega)).mono ?_
    rw [hnl]
    rintro e w5 ⟨rfl, rfl⟩
    have PI : Hid (R = ((b == 0 && nl == 0) || (b == n3 && nl == n4))) := Lib.hid (by rw [← HRR.out, placeO_is (o := ⟨2, m, r, s, p⟩) rfl SL.out HB.out.symm hnl, ← hn4, ← N3.out])
    rw [hn4] at z2
    have YE := Lib.hid (ext_trans Y0.out y)
    clear hn4 hnl
    by_cases d1 : b = 0
    · have c1 : (b == 0) = true := beq_iff_eq.2 (by omega)
      have c1' : ((b : Int) == (0 : Int)) = true := beq_iff_eq.2 (by omega)
      by_cases d2 : nl = 0
      · have c2 : (nl == 0) = true := beq_iff_eq.2 (by omega)
        have c2' : ((nl : Int) == (0 : Int)) = true := beq_iff_eq.2 (by omega)
        try clear d1
        try clear d2
        try clear d3
        try clear d4
        have HV : Hid (R = true) := Lib.hid (by rw [PI.out, c1, c2]; rfl)
        clear PI
        go_wp2_with (fail)
        go_ret
        exact ⟨ret_bool HV.out.symm, YE.out⟩
      · have c2 : (nl == 0) = false := beq_eq_false_iff_ne.2 (by omega)
        have c2' : ((nl : Int) == (0 : Int)) = false := beq_eq_false_iff_ne.2 (by omega)
        have c3 : (b == n3) = false := beq_eq_false_iff_ne.2 (by have := NZ.out; omega)
        have c3' : ((b : Int) == (n3 : Int)) = false := beq_eq_false_iff_ne.2 (by have := NZ.out; omega)
        try clear d1
        try clear d2
        try clear d3
        try clear d4
        have HV : Hid (R = false) := Lib.hid (by rw [PI.out, c1, c2, c3]; rfl)
        clear PI
        go_wp2_with (fail)
        go_ret
        exact ⟨ret_bool HV.out.symm, YE.out⟩
    have c1 : (b == 0) = false := beq_eq_false_iff_ne.2 (by omega)
    have c1' : ((b : Int) == (0 : Int)) = false := beq_eq_false_iff_ne.2 (by omega)
    by_cases d3 : b = n3
    rotate_left
    · have c3 : (b == n3) = false := beq_eq_false_iff_ne.2 (by omega)
      have c3' : ((b : Int) == (n3 : Int)) = false := beq_eq_false_iff_ne.2 (by omega)
      try clear d1
      try clear d2
      try clear d3
      try clear d4
      have HV : Hid (R = false) := Lib.hid (by rw [PI.out, c1, c3]; rfl)
      clear PI
      go_wp2_with (fail)
      go_ret
      exact ⟨ret_bool HV.out.symm, YE.out⟩
    have c3 : (b == n3) = true := beq_iff_eq.2 (by omega)
    have c3' : ((b : Int) == (n3 : Int)) = true := beq_iff_eq.2 (by omega)
    by_cases d4 : nl = n4
    · have c4 : (nl == n4) = true := beq_iff_eq.2 (by omega)
      have c4' : ((nl : Int) == (n4 : Int)) = true := beq_iff_eq.2 (by omega)
      try clear d1
      try clear d2
      try clear d3
      try clear d4
      have HV : Hid (R = true) := Lib.hid (by rw [PI.out, c1, c3, c4]; rfl)
      clear PI
      go_wp2_with (fail)
      go_ret
      exact ⟨ret_bool HV.out.symm, YE.out⟩
    · have c4 : (nl == n4) = false := beq_eq_false_iff_ne.2 (by omega)
      have c4' : ((nl : Int) == (n4 : Int)) = false := beq_eq_false_iff_ne.2 (by omega)
      try clear d1
      try clear d2
      try clear d3
      try clear d4
      have HV : Hid (R = false) := Lib.hid (by rw [PI.out, c1, c3, c4]; rfl)
      clear PI
      go_wp2_with (fail)
      go_ret
      exact ⟨ret_bool HV.out.symm, YE.out⟩
theorem fstep2 {n a : Int} {o : OpS} (hk : o.o.k = 2) : finalStep n (true, a) o = (decide (¬ a = n), a) := by
  unfold finalStep
  rw [if_neg (by simp), if_pos hk]
theorem fstep3 {n a an : Int} {o : OpS} (hk : ¬ o.o.k = 2) (h3 : o.o.k = 3) (ha : IntKind.i64.wrap (a + o.o.n) = an) (hn : an = n) : finalStep n (true, a) o = (false, a) := by
  unfold finalStep
  rw [if_neg (by simp), if_neg hk, if_pos ⟨h3, by rw [ha, hn]⟩]
theorem fstepR {n a an : Int} {o : OpS} (hk : ¬ o.o.k = 2) (ha : IntKind.i64.wrap (a + o.o.n) = an) (h3 : ¬ (o.o.k = 3 ∧ an = n)) : finalStep n (true, a) o = (true, an) := by
  unfold finalStep
  rw [if_neg (by simp), if_neg hk, if_neg (by rw [ha]; exact h3), ha]
set_option maxRecDepth 100000 in
set_option maxHeartbeats 6400000 in
theorem fits15_any {A B : Option Addr} {n0 c0 n c : Nat} {l : List Ky} {x : List OpS} {w : World} (lim most : Int) (hn : n0 = l.length) (hK : RdKy w w.heap.size A l) (hb : n0 ≤ 1048576) (hO : OpsAt w B n x) (hz : szX x ≤ 5000)
    (hT : Lib.Utf8Tabs 1 2 w) {R : Int} (hR : fitsO l x lim most = R) :
    Calls Tryz.prog 91 #[.slice A n0 c0, .slice B n c, .int .i64 lim, .int .i64 most] w fun e w' => e = .returned (.int .i64 R) ∧ Below w.heap.size w w' := by
  have N0 := Lib.hid hn
  have K0 := Lib.hid hK
  have O0 := Lib.hid hO
  have HT := Lib.hid hT
  have HZ := Lib.hid hz
  obtain ⟨M, hM⟩ : ∃ X, mayO l x = X := ⟨_, rfl⟩
  obtain ⟨tk, htk⟩ : ∃ X, takesP x = X := ⟨_, rfl⟩
  obtain ⟨mk, hmk⟩ : ∃ X, makesP x = X := ⟨_, rfl⟩
  obtain ⟨F, hF⟩ : ∃ X, finalP lim x = X := ⟨_, rfl⟩
  obtain ⟨P, hP⟩ : ∃ X, placeP l x = X := ⟨_, rfl⟩
  obtain ⟨a1, ha1⟩ : ∃ X, IntKind.i64.wrap (lim - tk) = X := ⟨_, rfl⟩
  obtain ⟨lo, hlo⟩ : ∃ X, IntKind.i64.wrap (a1 + mk) = X := ⟨_, rfl⟩
  have FR : Hid ((if ¬ M = 0 then M else if lim < 1 ∨ most < lim ∨ lim < tk then 5 else if F = false then 6 else if P = false then 7 else if most < lo then 8 else 0) = R) := Lib.hid (by
    rw [← hR]
    unfold fitsO longO
    rw [hM, htk, hmk, hF, hP, ha1, hlo])
  have MM := Lib.hid hM
  have TK := Lib.hid htk
  have MK := Lib.hid hmk
  have HF := Lib.hid hF
  have HP := Lib.hid hP
  have SB : Hid (n ≤ 5000) := Lib.hid (by have := szX_len x; have := hO.len; omega)
  clear hn hK hO hT hM htk hmk hF hP hR hz
  go_enter Tryz.func91, Tryz.ntmps91
  go_wp2_with (go_at_call 43; refine Hid.out ?_)
  refine Lib.hid ?_
  refine (mayKeysD N0.out K0.out hb O0.out HZ.out HT.out MM.out).mono ?_
  rintro e w1 ⟨rfl, y1⟩
  have hx := y1
  have K1 := Lib.hid (K0.out.ext y1)
  have O1 := Lib.hid (O0.out.ext y1)
  clear K0 O0 y1
  by_cases h0 : M = 0
  rotate_left
  · have h0' : (M == 0) = false := beq_eq_false_iff_ne.2 h0
    have h0'' : (M != 0) = true := by rw [bne, h0']; rfl
    have HR : Hid (M = R) := Lib.hid (by have h := FR.out; rwa [if_pos h0] at h)
    clear h0
    go_wp2_with (fail)
    go_ret
    exact ⟨ret_int (by rw [HR.out]), hx⟩
  subst h0
  replace FR := Lib.hid (show (if lim < 1 ∨ most < lim ∨ lim < tk then 5 else if F = false then 6 else if P = false then 7 else if most < lo then 8 else 0) = R by have h := FR.out; rwa [if_neg (by simp)] at h)
  by_cases h1 : lim < 1
  · have HR : Hid (5 = R) := Lib.hid (by have h := FR.out; rwa [if_pos (.inl h1)] at h)
    go_wp2_with (fail)
    go_ret
    exact ⟨ret_int (by rw [← HR.out]), hx⟩
  by_cases h2 : most < lim
  · have HR : Hid (5 = R) := Lib.hid (by have h := FR.out; rwa [if_pos (.inr (.inl h2))] at h)
    go_wp2_with (fail)
    go_ret
    exact ⟨ret_int (by rw [← HR.out]), hx⟩
  go_wp2_with (go_at_call 109; refine Hid.out ?_)
  refine Lib.hid ?_
  refine (takes15_any B n c x _ O1.out.len O1.out.rd.1 (by have := SB.out; omega)).mono ?_
  rw [TK.out]
  rintro e w2 ⟨rfl, dr, hd⟩
  have y2 : Below w1.heap.size w1 w2 := by subst hd; exact ext_drew w1 dr
  clear hd
  have K2 := Lib.hid (K1.out.ext y2)
  have O2 := Lib.hid (O1.out.ext y2)
  replace hx := ext_trans hx y2
  clear K1 O1 y2
  by_cases h3 : lim < tk
  · have HR : Hid (5 = R) := Lib.hid (by have h := FR.out; rwa [if_pos (.inr (.inr h3))] at h)
    go_wp2_with (fail)
    go_ret
    exact ⟨ret_int (by rw [← HR.out]), hx⟩
  replace FR := Lib.hid (show (if F = false then 6 else if P = false then 7 else if most < lo then 8 else 0) = R by have h := FR.out; rwa [if_neg (by omega)] at h)
  have HX := Lib.hid hx
  clear hx
  go_wp2_with (fail)
  clear h1 h2 h3
  go_loopg [10, 11] n (fun g av iv wr => ∃ (m : Nat) (a : Int), m ≤ n ∧ g = n - m ∧ av = .int .i64 a ∧ iv = .int .i64 (m : Int) ∧ wr = w2 ∧ Hid (((x.drop m).foldl (finalStep lim) (true, a)).1 = F))
  case atStart => exact ⟨0, 0, Nat.zero_le _, rfl, rfl, rfl, rfl, Lib.hid (by rw [List.drop_zero]; exact HF.out)⟩
  case round =>
    obtain ⟨m, a, hm, hg, rfl, rfl, rfl, HI⟩ := hrel
    have HG := Lib.hid hg
    clear hg
    by_cases hlt : m < n
    · have hlt' : (m : Int) < (n : Int) := by omega
      obtain ⟨ad, o, rfl, _, hd1, _, hc⟩ := O2.out.rd.1.el (i := m) (by have := O2.out.len; omega)
      have HST : Hid (((x.drop (m + 1)).foldl (finalStep lim) (finalStep lim (true, a) o)).1 = F) := Lib.hid (by have h := HI.out; rw [hd1] at h; exact h)
      obtain ⟨⟨k, nn, r, s, p⟩, Ar, cr, As, cs, Ap, cp⟩ := o
      obtain ⟨z0, z1, -, -, -⟩ := op_cells hc
      have hw2 : IntKind.i64.wrap ((m : Int) + 1) = (m : Int) + 1 := IntWalk.i64_in _ (by have := SB.out; omega)
      obtain ⟨an, han⟩ : ∃ X, IntKind.i64.wrap (a + nn) = X := ⟨_, rfl⟩
      clear hc hd1 HI
      by_cases hk : k = 2
      · subst hk
        by_cases ha : a = lim
        · have ha' : (a == lim) = true := beq_iff_eq.2 ha
          have HR : Hid (6 = R) := Lib.hid (by
            have h := HST.out
            rw [fstep2 rfl, decide_eq_false (by simp [ha]), final_false] at h
            have e : F = false := h.symm
            have h2 := FR.out
            rwa [if_pos e] at h2)
          clear ha
          go_wp2_with (fail)
          go_ret
          exact ⟨ret_int (by rw [← HR.out]), HX.out⟩
        · have ha' : (a == lim) = false := beq_eq_false_iff_ne.2 ha
          have HN : Hid (((x.drop (m + 1)).foldl (finalStep lim) (true, a)).1 = F) := Lib.hid (by
            have h := HST.out
            rw [fstep2 rfl, decide_eq_true ha] at h
            exact h)
          clear ha
          go_wp2_with (fail)
          go_roundg (n - (m + 1))
          case measure => have := HG.out; clear hw2 han; omega
          case rel => exact ⟨m + 1, a, by clear hw2 han; omega, rfl, rfl, by go_num, rfl, HN⟩
      · have hk1 : (k == 2) = false := beq_eq_false_iff_ne.2 hk
        have hk1' : (k != 2) = true := by rw [bne, hk1]; rfl
        by_cases hk3 : k = 3
        · subst hk3
          by_cases ha : an = lim
          · have ha' : (an == lim) = true := beq_iff_eq.2 ha
            have HR : Hid (6 = R) := Lib.hid (by
              have h := HST.out
              rw [fstep3 (an := an) hk rfl han ha, final_false] at h
              have e : F = false := h.symm
              have h2 := FR.out
              rwa [if_pos e] at h2)
            clear ha hk
            go_wp2_with (fail)
            go_ret
            exact ⟨ret_int (by rw [← HR.out]), HX.out⟩
          · have ha' : (an == lim) = false := beq_eq_false_iff_ne.2 ha
            have HN : Hid (((x.drop (m + 1)).foldl (finalStep lim) (true, an)).1 = F) := Lib.hid (by
              have h := HST.out
              rw [fstepR (an := an) hk han (fun h => ha h.2)] at h
              exact h)
            clear ha hk
            go_wp2_with (fail)
            go_roundg (n - (m + 1))
            case measure => have := HG.out; clear hw2 han; omega
            case rel => exact ⟨m + 1, an, by clear hw2 han; omega, rfl, by first | rfl | rw [← han], by go_num, rfl, HN⟩
        · have hk3' : (k == 3) = false := beq_eq_false_iff_ne.2 hk3
          have HN : Hid (((x.drop (m + 1)).foldl (finalStep lim) (true, an)).1 = F) := Lib.hid (by
            have h := HST.out
            rw [fstepR (an := an) hk han (fun h => hk3 h.1)] at h
            exact h)
          clear hk hk3
          go_wp2_with (fail)
          go_roundg (n - (m + 1))
          case measure => have := HG.out; clear hw2 han; omega
          case rel => exact ⟨m + 1, an, by clear hw2 han; omega, rfl, by first | rfl | rw [← han], by go_num, rfl, HN⟩
    have hlt' : ¬ (m : Int) < (n : Int) := by omega
    have FT : F = true := by
      have h := HI.out
      rw [List.drop_eq_nil_of_le (by have := O2.out.len; omega)] at h
      exact h.symm
    subst FT
    replace FR := Lib.hid (show (if P = false then 7 else if most < lo then 8 else 0) = R by have h := FR.out; rwa [if_neg (by simp)] at h)
    clear HI HG HF
    obtain ⟨wq, hwq⟩ : ∃ X, X = wr := ⟨_, rfl⟩
    subst hwq
    go_wp2_with (fail)
    clear hlt' hlt
    go_loopg [12] n (fun g iv wr => ∃ (m : Nat), m ≤ n ∧ g = n - m ∧ iv = .int .i64 (m : Int) ∧ Below wq.heap.size wq wr ∧ Hid (placeP l (x.drop m) = P))
    case atStart => exact ⟨0, Nat.zero_le _, rfl, rfl, Below.refl _ _, Lib.hid (by rw [List.drop_zero]; exact HP.out)⟩
    case round =>
      obtain ⟨m2, hm2, hg, rfl, y, HI⟩ := hrel
      have HG := Lib.hid hg
      clear hg
      by_cases hlt : m2 < n
      · have hlt' : (m2 : Int) < (n : Int) := by omega
        obtain ⟨ad, o, rfl, _, hd1, ho, hc⟩ := (O2.out.ext y).rd.1.el (i := m2) (by have := O2.out.len; omega)
        have om := List.mem_of_getElem? ho
        have PO := (O2.out.ext y).rd.2 o om
        have OK := O2.out.ok o om
        have HST := Lib.hid (place_drop hd1 HI.out)
        obtain ⟨⟨k, nn, r, s, p⟩, Ar, cr, As, cs, Ap, cp⟩ := o
        obtain ⟨z0, z1, z2, z3, z4⟩ := op_cells hc
        simp only at PO OK z2 z3 z4
        have PP := Lib.hid PO
        have OL : Hid (r.length ≤ 100000000 ∧ s.length ≤ 100000000) := Lib.hid ⟨OK.2.2.1, OK.2.2.2.1⟩
        have hw2 : IntKind.i64.wrap ((m2 : Int) + 1) = (m2 : Int) + 1 := IntWalk.i64_in _ (by have := SB.out; omega)
        obtain ⟨b, hbp⟩ : ∃ X, placeO l ⟨k, nn, r, s, p⟩ = X := ⟨_, rfl⟩
        have HB := Lib.hid hbp
        clear hc hd1 HI ho om PO OK hbp
        go_wp2_with (go_at_call 166; refine Hid.out ?_)
        refine Lib.hid ?_
        clear z0 z1 z2 z3 z4
        refine (place15_any A n0 c0 l k nn Ar As Ap cr cs cp r s p s.length _ N0.out (K2.out.ext y) hb rfl PP.out.1 PP.out.2.1 OL.out.1 OL.out.2).mono ?_
        rw [HB.out]
        rintro e w4 ⟨rfl, y4⟩
        have Y4 := Lib.hid (ext_trans y y4)
        cases b with
        | false =>
          have HR : Hid (7 = R) := Lib.hid (by
            have h := HST.out
            simp only [HB.out, Bool.false_and] at h
            have h2 := FR.out
            rwa [if_pos h.symm] at h2)
          clear y4
          go_wp2_with (fail)
          go_ret
          exact ⟨ret_int (by rw [← HR.out]), ext_trans HX.out Y4.out⟩
        | true =>
          have HN : Hid (placeP l (x.drop (m2 + 1)) = P) := Lib.hid (by
            have h := HST.out
            simp only [HB.out, Bool.true_and] at h
            exact h)
          clear y4
          go_wp2_with (fail)
          go_roundg (n - (m2 + 1))
          case measure => have := HG.out; clear hw2; omega
          case rel => exact ⟨m2 + 1, by clear hw2; omega, rfl, by go_num, Y4.out, HN⟩
      have hlt' : ¬ (m2 : Int) < (n : Int) := by omega
      have PT : P = true := by
        have h := HI.out
        rw [List.drop_eq_nil_of_le (by have := O2.out.len; omega)] at h
        exact h.symm
      subst PT
      replace FR := Lib.hid (show (if most < lo then 8 else 0) = R by have h := FR.out; rwa [if_neg (by simp)] at h)
      clear HI HG HP
      have O3 := Lib.hid (O2.out.ext y)
      have X3 := Lib.hid (ext_trans HX.out y)
      clear y
      go_wp2_with (go_at_call 109; refine Hid.out ?_)
      refine Lib.hid ?_
      refine (takes15_any B n c x _ O3.out.len O3.out.rd.1 (by have := SB.out; omega)).mono ?_
      rw [TK.out]
      rintro e w5 ⟨rfl, dr5, hd5⟩
      have y5 : Below wr.heap.size wr w5 := by subst hd5; exact ext_drew wr dr5
      clear hd5
      have O4 := Lib.hid (O3.out.ext y5)
      have X4 := Lib.hid (ext_trans X3.out y5)
      clear y5
      go_wp2_with (go_at_call 110; refine Hid.out ?_)
      refine Lib.hid ?_
      refine (makes15_any B n c x _ O4.out.len O4.out.rd.1 (by have := SB.out; omega)).mono ?_
      rw [MK.out]
      rintro e w6 ⟨rfl, y6⟩
      have X5 := Lib.hid (ext_trans X4.out y6)
      clear y6
      by_cases h8 : most < lo
      · have HR : Hid (8 = R) := Lib.hid (by have h := FR.out; rwa [if_pos h8] at h)
        go_wp2_with (fail)
        go_ret
        exact ⟨ret_int (by rw [← HR.out]), X5.out⟩
      · have HR : Hid (0 = R) := Lib.hid (by have h := FR.out; rwa [if_neg h8] at h)
        go_wp2_with (fail)
        go_ret
        exact ⟨ret_int (by rw [← HR.out]), X5.out⟩
end Go.Proofs.YtfnkjcodcoehcaaGreatDoor
