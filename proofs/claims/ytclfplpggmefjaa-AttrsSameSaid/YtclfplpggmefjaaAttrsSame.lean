/- The walk of AttrsSame: whatever is handed in, it answers true and changes nothing that was there. -/
import Derived.Test.YtclfplpggmefjaaSameLaw
import Derived.Test.YtclfplpggmefjaaAttrsOrder
namespace Go.Proofs.Ytclfplpggmefjaa
open Go.RowKit
set_option linter.unusedVariables false
set_option linter.unusedSimpArgs false

theorem with_p (A : Option Addr) (n c : Nat) (l P : List At) (x1 x2 x3 x4 : Int) (x5 : ByteArray) (w0 w : World) (hr : riseA l = true) (hP : withP l ⟨x1, ⟨x2, x3, x4, x5⟩⟩ = P) (hn : n = l.length) (h : RdAt w0 w0.heap.size A l) (hw : Below w0.heap.size w0 w) (hb : n ≤ 1000) :
    Calls Try.prog 22 #[.slice A n c, .agg #[.int .i64 x1, .int .u8 x2, .int .i64 x3, .int .u64 x4, .string x5]] w fun e w' =>
      ∃ A' n' c', e = .returned (.slice A' n' c') ∧ Hid (n' = P.length) ∧ n' ≤ n + 1 ∧ RdAt w' w'.heap.size A' P ∧ Below w0.heap.size w0 w' := by
  subst hP
  refine (with_any A n c l x1 x2 x3 x4 x5 w hn (h.ext hw) (by omega)).mono ?_
  rintro e w2 ⟨r, hr', hrl, A2, c2, rfl, ho, y⟩
  have e := hr' hr
  subst e
  exact ⟨A2, _, c2, rfl, Lib.hid rfl, by omega, ho.rd At.enc_len, ext_trans hw y⟩
theorem without_p (A : Option Addr) (n c : Nat) (l P : List At) (k : Int) (w0 w : World) (hr : riseA l = true) (hP : withoutP l k = P) (hn : n = l.length) (h : RdAt w0 w0.heap.size A l) (hw : Below w0.heap.size w0 w) (hb : n ≤ 1000) :
    Calls Try.prog 25 #[.slice A n c, .int .i64 k] w fun e w' =>
      ∃ A' n' c', e = .returned (.slice A' n' c') ∧ Hid (n' = P.length) ∧ n' ≤ n ∧ RdAt w' w'.heap.size A' P ∧ Below w0.heap.size w0 w' := by
  have hl := (without_all hr k).2.2
  subst hP
  refine (without_any A n c l k w hn (h.ext hw) (by omega)).mono ?_
  rintro e w2 ⟨A2, c2, rfl, ho, y⟩
  exact ⟨A2, _, c2, rfl, Lib.hid rfl, by omega, ho.rd At.enc_len, ext_trans hw y⟩
theorem same_p (A B : Option Addr) (n m c d : Nat) (l k : List At) (R : Bool) (w : World) (hn : n = l.length) (hm : m = k.length) (hR : decide (l = k) = R) (h1 : RdAt w w.heap.size A l) (h2 : RdAt w w.heap.size B k) (hb : n ≤ 1000) (hb2 : m ≤ 1000) :
    Calls Try.prog 24 #[.slice A n c, .slice B m d] w (Quiet (.bool R) w) := by
  subst hR
  exact attrsSame_any A B n m c d l k w hn hm h1 h2 (by omega) (by omega)

set_option maxRecDepth 100000 in
set_option maxHeartbeats 4000000 in
theorem attrsSameLaw_any (A0 A1 : Option Addr) (n0 c0 n1 c1 : Nat) (l0 l1 : List At) (x1 x2 x3 x4 : Int) (x5 : ByteArray) (w : World) (hn0 : n0 = l0.length) (r0 : RdAt w w.heap.size A0 l0) (hm0 : n0 ≤ 9223372036854775807)
    (hn1 : n1 = l1.length) (r1 : RdAt w w.heap.size A1 l1) (hm1 : n1 ≤ 9223372036854775807) :
    Calls Try.prog 7 #[.slice A0 n0 c0, .slice A1 n1 c1, .agg #[.int .i64 x1, .int .u8 x2, .int .i64 x3, .int .u64 x4, .string x5]] w fun e w' => e = .returned (.bool true) ∧ Below w.heap.size w w' := by
  have N0 := Lib.hid hn0
  have N1 := Lib.hid hn1
  clear hn0 hn1
  go_enter Try.func7, Try.ntmps7
  go_wp2_with (go_at_call 20; refine Hid.out ?_)
  refine Lib.hid ?_
  have hbx := heap_alloc_new w (.cells #[.int .i64 x1, .int .u8 x2, .int .i64 x3, .int .u64 x4, .string x5] 46)
  have hx := ext_alloc w (.cells #[.int .i64 x1, .int .u8 x2, .int .i64 x3, .int .u64 x4, .string x5] 46)
  generalize World.alloc w _ = w1 at *
  replace r0 := r0.ext hx
  replace r1 := r1.ext hx
  refine (great05_any A0 n0 c0 l0 w1 N0.out r0 hm0).mono ?_
  rintro e w0 ⟨g, rfl, hg, hww⟩
  subst hww
  cases g
  case true =>
    clear hg
    go_wp2_with (go_at_call 21; refine Hid.out ?_)
    refine Lib.hid ?_
    refine (known05_any _).mono ?_
    rintro e w2 ⟨rfl, y⟩
    go_wp2_with (fail)
    go_ret
    exact ⟨rfl, ext_trans hx y⟩
  have q0 : n0 ≤ 100 := hg rfl
  clear hg hm0
  go_wp2_with (go_at_call 20; refine Hid.out ?_)
  refine Lib.hid ?_
  refine (great05_any A1 n1 c1 l1 w1 N1.out r1 hm1).mono ?_
  rintro e w0 ⟨g, rfl, hg, hww⟩
  subst hww
  cases g
  case true =>
    clear hg
    go_wp2_with (go_at_call 21; refine Hid.out ?_)
    refine Lib.hid ?_
    refine (known05_any _).mono ?_
    rintro e w2 ⟨rfl, y⟩
    go_wp2_with (fail)
    go_ret
    exact ⟨rfl, ext_trans hx y⟩
  have q1 : n1 ≤ 100 := hg rfl
  clear hg hm1
  go_wp2_with (go_at_call 9; refine Hid.out ?_)
  refine Lib.hid ?_
  refine (risingA_any _ _ _ l0 _ N0.out r0 (by omega)).mono ?_
  rintro e w2 ⟨rfl, d, rfl⟩
  have y := ext_drew w1 d
  replace hbx := (y.block _ (blk_lt hbx)).trans hbx
  replace hx := ext_trans hx y
  replace r0 := r0.ext y
  replace r1 := r1.ext y
  clear y
  generalize World.drewN w1 d = w2 at *
  cases s0 : riseA l0
  case false =>
    clear s0
    go_wp2_with (go_at_call 21; refine Hid.out ?_)
    refine Lib.hid ?_
    refine (known05_any _).mono ?_
    rintro e w3 ⟨rfl, y⟩
    go_wp2_with (fail)
    go_ret
    exact ⟨rfl, ext_trans hx y⟩
  have S0 := Lib.hid s0
  clear s0
  go_wp2_with (go_at_call 9; refine Hid.out ?_)
  refine Lib.hid ?_
  refine (risingA_any _ _ _ l1 _ N1.out r1 (by omega)).mono ?_
  rintro e w3 ⟨rfl, d, rfl⟩
  have y := ext_drew w2 d
  replace hbx := (y.block _ (blk_lt hbx)).trans hbx
  replace hx := ext_trans hx y
  replace r0 := r0.ext y
  replace r1 := r1.ext y
  clear y
  generalize World.drewN w2 d = w3 at *
  cases s1 : riseA l1
  case false =>
    clear s1
    go_wp2_with (go_at_call 21; refine Hid.out ?_)
    refine Lib.hid ?_
    refine (known05_any _).mono ?_
    rintro e w4 ⟨rfl, y⟩
    go_wp2_with (fail)
    go_ret
    exact ⟨rfl, ext_trans hx y⟩
  have S1 := Lib.hid s1
  clear s1
  go_wp2_with (go_at_call 24; refine Hid.out ?_)
  refine Lib.hid ?_
  refine (attrsSame_any _ _ n0 n0 _ _ l0 l0 w3 N0.out N0.out r0 r0 (by omega) (by omega)).mono ?_
  rintro e w4 ⟨rfl, d, rfl⟩
  rw [decide_eq_true rfl]
  have y := ext_drew w3 d
  replace hbx := (y.block _ (blk_lt hbx)).trans hbx
  replace hx := ext_trans hx y
  replace r0 := r0.ext y
  replace r1 := r1.ext y
  clear y
  generalize World.drewN w3 d = w4 at *
  go_wp2_with (go_at_call 26; refine Hid.out ?_)
  refine Lib.hid ?_
  refine (copy_any A0 n0 c0 l0 w4 N0.out r0 (by omega)).mono ?_
  rintro e w5 ⟨A2, c2, rfl, ho, y⟩
  have r2 := ho.rd At.enc_len
  rw [← N0.out]
  clear ho
  replace hbx := (y.block _ (blk_lt hbx)).trans hbx
  replace hx := ext_trans hx y
  replace r0 := r0.ext y
  replace r1 := r1.ext y
  clear y
  go_wp2_with (go_at_call 24; refine Hid.out ?_)
  refine Lib.hid ?_
  refine (attrsSame_any _ _ n0 n0 _ _ l0 l0 w5 N0.out N0.out r2 r0 (by omega) (by omega)).mono ?_
  rintro e w6 ⟨rfl, d, rfl⟩
  rw [decide_eq_true rfl]
  have y := ext_drew w5 d
  replace hbx := (y.block _ (blk_lt hbx)).trans hbx
  replace hx := ext_trans hx y
  replace r0 := r0.ext y
  replace r1 := r1.ext y
  clear y r2
  generalize World.drewN w5 d = w6 at *
  obtain ⟨R, hR⟩ : ∃ R, decide (l0 = l1) = R := ⟨_, rfl⟩
  have hR' : decide (l1 = l0) = R := by rw [← hR]; exact decide_eq_decide.2 eq_comm
  go_wp2_with (go_at_call 24; refine Hid.out ?_)
  refine Lib.hid ?_
  refine (attrsSame_any _ _ n0 n1 _ _ l0 l1 w6 N0.out N1.out r0 r1 (by omega) (by omega)).mono ?_
  rintro e w7 ⟨rfl, d, rfl⟩
  rw [hR]
  have y := ext_drew w6 d
  replace hbx := (y.block _ (blk_lt hbx)).trans hbx
  replace hx := ext_trans hx y
  replace r0 := r0.ext y
  replace r1 := r1.ext y
  clear y
  generalize World.drewN w6 d = w7 at *
  go_wp2_with (go_at_call 24; refine Hid.out ?_)
  refine Lib.hid ?_
  refine (attrsSame_any _ _ n1 n0 _ _ l1 l0 w7 N1.out N0.out r1 r0 (by omega) (by omega)).mono ?_
  rintro e w8 ⟨rfl, d, rfl⟩
  rw [hR']
  have y := ext_drew w7 d
  replace hbx := (y.block _ (blk_lt hbx)).trans hbx
  replace hx := ext_trans hx y
  replace r0 := r0.ext y
  replace r1 := r1.ext y
  clear y hR'
  have HR := Lib.hid hR
  clear hR
  generalize World.drewN w7 d = w8 at *
  obtain ⟨b0, b1, b2, b3, b4⟩ := box_at hbx
  have HBX := Lib.hid hbx
  have hlt := blk_lt hbx
  clear hbx
  go_wp2_with (fail)
  obtain ⟨P, hP⟩ : ∃ P, withP l0 ⟨x1, ⟨x2, x3, x4, x5⟩⟩ = P := ⟨_, rfl⟩
  have hPP : withP P ⟨x1, ⟨x2, x3, x4, x5⟩⟩ = P := by rw [← hP]; exact with_idem S0.out _
  have hPr : riseA P = true := by rw [← hP]; exact (with_all S0.out _).1
  have hPo : withoutP P x1 = withoutP l0 x1 := by rw [← hP]; exact without_with S0.out ⟨x1, ⟨x2, x3, x4, x5⟩⟩
  have HP := Lib.hid hP
  have HPP := Lib.hid hPP
  have HPR := Lib.hid hPr
  have HPO := Lib.hid hPo
  clear hP hPP hPr hPo
  go_region_held3 (fun w' => w'.cell? ⟨w.heap.size, 0, none⟩ = some (.int .i64 x1) ∧ w'.cell? ⟨w.heap.size, 1, none⟩ = some (.int .u8 x2) ∧ w'.cell? ⟨w.heap.size, 2, none⟩ = some (.int .i64 x3) ∧ w'.cell? ⟨w.heap.size, 3, none⟩ = some (.int .u64 x4) ∧ w'.cell? ⟨w.heap.size, 4, none⟩ = some (.string x5))
    (go_keep) (first
      | (go_at_call 22
         with_reducible refine (with_p A0 n0 c0 l0 P x1 x2 x3 x4 x5 w8 w8.drew S0.out HP.out N0.out r0 (up_drew (Below.refl _ _)) (by omega)).mono ?_
         rintro e w9 ⟨A2, n2, c2, rfl, N2, q2, r2, y2⟩
         obtain ⟨d0, d1, d2, d3, d4⟩ := box_at ((y2.block _ hlt).trans HBX.out))
      | (go_at_call 22
         with_reducible refine (with_p A2 n2 c2 P P x1 x2 x3 x4 x5 w9 w9 HPR.out HPP.out N2.out r2 (Below.refl _ _) (by omega)).mono ?_
         rintro e w10 ⟨A3, n3, c3, rfl, N3, q3, r3, y3⟩
         obtain ⟨d0, d1, d2, d3, d4⟩ := box_at (((up_any y2 y3).block _ hlt).trans HBX.out)))
  have y4 := up_any y2 y3
  replace hx := ext_trans hx y4
  replace r0 := r0.ext y4
  replace r1 := r1.ext y4
  have hbx := (y4.block _ hlt).trans HBX.out
  clear HBX hlt
  have HBX := Lib.hid hbx
  have hlt := blk_lt hbx
  have q3' : n3 ≤ 102 := by omega
  clear y2 y3 y4 hbx r2 N2 q2 q3 b0 b1 b2 b3 b4
  obtain ⟨b0, b1, b2, b3, b4⟩ := box_at HBX.out
  clear d0 d1 d2 d3 d4
  obtain ⟨Q, hQ⟩ : ∃ Q, withoutP l0 x1 = Q := ⟨_, rfl⟩
  have HQ := Lib.hid hQ
  have HQP : Hid (withoutP P x1 = Q) := Lib.hid (HPO.out.trans hQ)
  clear hQ
  go_wp2_with (fail)
  go_region_held3 (fun w' => w'.cell? ⟨w.heap.size, 0, none⟩ = some (.int .i64 x1) ∧ w'.cell? ⟨w.heap.size, 1, none⟩ = some (.int .u8 x2) ∧ w'.cell? ⟨w.heap.size, 2, none⟩ = some (.int .i64 x3) ∧ w'.cell? ⟨w.heap.size, 3, none⟩ = some (.int .u64 x4) ∧ w'.cell? ⟨w.heap.size, 4, none⟩ = some (.string x5))
    (go_keep) (first
      | (go_at_call 22
         with_reducible refine (with_p A0 n0 c0 l0 P x1 x2 x3 x4 x5 w10 w10.drew S0.out HP.out N0.out r0 (up_drew (Below.refl _ _)) (by omega)).mono ?_
         rintro e w11 ⟨A4, n4, c4, rfl, N4, q4, r4, y4⟩
         obtain ⟨d0, d1, d2, d3, d4⟩ := box_at ((y4.block _ hlt).trans HBX.out))
      | (go_at_call 24
         with_reducible refine (same_p A3 A4 n3 n4 c3 c4 P P true w11 N3.out N4.out (decide_eq_true rfl) (r3.ext y4) r4 (by omega) (by omega)).mono ?_
         rintro e w12 ⟨rfl, dd, hd⟩
         have y5 : Below w11.heap.size w11 w12 := by rw [hd]; exact ext_drew w11 dd
         obtain ⟨d0, d1, d2, d3, d4⟩ := box_at (((up_any y4 y5).block _ hlt).trans HBX.out)
         clear hd)
      | (go_at_call 25
         with_reducible refine (without_p A3 n3 c3 P Q x1 w12 w12 HPR.out HQP.out N3.out (r3.ext (up_any y4 y5)) (Below.refl _ _) (by omega)).mono ?_
         rintro e w13 ⟨A5, n5, c5, rfl, N5, q5, r5, y6⟩
         obtain ⟨d0, d1, d2, d3, d4⟩ := box_at (((up_any (up_any y4 y5) y6).block _ hlt).trans HBX.out))
      | (go_at_call 25
         with_reducible refine (without_p A0 n0 c0 l0 Q x1 w13 w13 S0.out HQ.out N0.out (r0.ext (up_any (up_any y4 y5) y6)) (Below.refl _ _) (by omega)).mono ?_
         rintro e w14 ⟨A6, n6, c6, rfl, N6, q6, r6, y7⟩
         obtain ⟨d0, d1, d2, d3, d4⟩ := box_at (((up_any (up_any (up_any y4 y5) y6) y7).block _ hlt).trans HBX.out))
      | (go_at_call 24
         with_reducible refine (same_p A5 A6 n5 n6 c5 c6 Q Q true w14 N5.out N6.out (decide_eq_true rfl) (r5.ext y7) r6 (by omega) (by omega)).mono ?_
         rintro e w15 ⟨rfl, dd, hd⟩
         have y8 : Below w14.heap.size w14 w15 := by rw [hd]; exact ext_drew w14 dd
         obtain ⟨d0, d1, d2, d3, d4⟩ := box_at (((up_any (up_any (up_any (up_any y4 y5) y6) y7) y8).block _ hlt).trans HBX.out)
         clear hd))
  have y9 := up_any (up_any (up_any (up_any y4 y5) y6) y7) y8
  replace hx := ext_trans hx y9
  replace r0 := r0.ext y9
  replace r1 := r1.ext y9
  have hbx := (y9.block _ hlt).trans HBX.out
  clear HBX hlt b0 b1 b2 b3 b4
  clear y4 y5 y6 y7 y8 y9 r4 r5 r6 r3 N4 N5 N6 N3 q4 q5 q6 q3' HQ HQP HP HPP HPR HPO
  have HBX := Lib.hid hbx
  have hlt := blk_lt hbx
  obtain ⟨b0, b1, b2, b3, b4⟩ := box_at HBX.out
  clear d0 d1 d2 d3 d4 hbx
  go_wp2_with (go_at_call 23; refine Hid.out ?_)
  refine Lib.hid ?_
  refine (get_any A0 n0 c0 l0 x1 w15 N0.out r0 (by omega)).mono ?_
  rintro e w16 ⟨v, b, rfl, ⟨-, -, hgv⟩, y⟩
  replace hgv := hgv S0.out
  obtain ⟨vk, vn, vf, vs⟩ := v
  have o := heap_alloc_new w16 (.cells #[.int .u8 vk, .int .i64 vn, .int .u64 vf, .string vs] 38)
  have z := up_alloc y (.cells #[.int .u8 vk, .int .i64 vn, .int .u64 vf, .string vs] 38)
  have hbx := (z.block _ hlt).trans HBX.out
  clear b0 b1 b2 b3 b4 HBX hlt y
  replace hx := ext_trans hx z
  replace r0 := r0.ext z
  replace r1 := r1.ext z
  clear z
  obtain ⟨o0, o1, o2, o3⟩ := box_v o
  obtain ⟨b0, -⟩ := box_at hbx
  clear hbx o
  cases b with
  | false =>
    clear hgv
    go_wp2_with (fail)
    clear o0 o1 o2 o3 b0
    generalize World.alloc w16 _ = wz at *
    go_wp2_with (fail)
    go_loopg [94] n1 (fun g iv wr => ∃ (i : Nat) (w1 : World), i ≤ n1 ∧ g = n1 - i ∧ iv = .int .i64 i ∧ w1 = wr ∧ Below wz.heap.size wz w1)
    case atStart => exact ⟨0, wz, by omega, rfl, rfl, rfl, Below.refl _ _⟩
    case round =>
      obtain ⟨i, w2, hi, hg, rfl, rfl, hx1⟩ := hrel
      have HG := Lib.hid hg
      clear hg
      have r2 := r0.ext hx1
      have r3 := r1.ext hx1
      by_cases hlt : i < n1
      · obtain ⟨ad, y, rfl, had, _, hyi, hc1⟩ := r3.el (i := i) (by have := N1.out; omega)
        have HYI := Lib.hid hyi
        clear hyi
        obtain ⟨y1, y2, y3, y4, y5⟩ := y
        obtain ⟨t0, t1, t2, t3, t4⟩ := at_cells hc1
        clear hc1
        go_wp2_with (go_at_call 23; refine Hid.out ?_)
        refine Lib.hid ?_
        clear t0 t1 t2 t3 t4
        refine (get_any A0 n0 c0 l0 y1 w2 N0.out r2 (by omega)).mono ?_
        rintro e w3 ⟨v, b, rfl, ⟨-, -, hgv⟩, y⟩
        replace hgv := hgv S0.out
        obtain ⟨vk, vn, vf, vs⟩ := v
        have o := heap_alloc_new w3 (.cells #[.int .u8 vk, .int .i64 vn, .int .u64 vf, .string vs] 38)
        have z := up_alloc y (.cells #[.int .u8 vk, .int .i64 vn, .int .u64 vf, .string vs] 38)
        go_wp2_with (fail)
        generalize World.alloc w3 _ = w4 at *
        replace hx1 := ext_trans hx1 z
        replace r2 := r2.ext z
        replace r3 := r3.ext z
        clear y z
        obtain ⟨o0, o1, o2, o3⟩ := box_v o
        obtain ⟨ad', y, ea, had', _, hyi, hc1⟩ := r3.el (i := i) (by have := N1.out; omega)
        injection ea with ea
        subst ea
        rw [HYI.out] at hyi
        injection hyi with hyi
        subst hyi
        obtain ⟨t0, t1, t2, t3, t4⟩ := at_cells hc1
        clear hc1 had had' o
        cases R with
        | false =>
          clear hgv
          go_quiet ((go_at_call 24; exact Calls.quiet_of (same_p A0 (some ad) n0 n1 c0 c1 l0 l1 false _ N0.out N1.out HR.out (r2.ext (ext_drew _ _)) (r3.ext (ext_drew _ _)) (by omega) (by omega))))
          go_wp2_with (fail)
          go_roundg (n1 - (i + 1))
          case measure => have := HG.out; omega
          case rel => exact ⟨i + 1, _, by omega, rfl, by go_num, rfl, below_drewN hx1 _⟩
        | true =>
          have el : l0 = l1 := of_decide_eq_true HR.out
          rw [el, get_at S1.out HYI.out] at hgv
          cases b with
          | false => cases hgv
          | true =>
          injection hgv with hgv
          injection hgv with g1 g2 g3 g4
          subst g1 g2 g3 g4
          have hq := beqV_eq (rfl : (⟨y2, y3, y4, y5⟩ : V) = ⟨y2, y3, y4, y5⟩)
          clear el
          go_region_held3 (fun w' => w'.cell? ⟨w3.heap.size, 0, none⟩ = some (.int .u8 y2) ∧ w'.cell? ⟨w3.heap.size, 1, none⟩ = some (.int .i64 y3) ∧ w'.cell? ⟨w3.heap.size, 2, none⟩ = some (.int .u64 y4) ∧ w'.cell? ⟨w3.heap.size, 3, none⟩ = some (.string y5) ∧ w'.cell? { block := (ad.add (i * 5)).block, off := (ad.add (i * 5)).off + 1 } = some (.int .u8 y2) ∧ w'.cell? { block := (ad.add (i * 5)).block, off := (ad.add (i * 5)).off + 2 } = some (.int .i64 y3) ∧ w'.cell? { block := (ad.add (i * 5)).block, off := (ad.add (i * 5)).off + 3 } = some (.int .u64 y4) ∧ w'.cell? { block := (ad.add (i * 5)).block, off := (ad.add (i * 5)).off + 4 } = some (.string y5)) (go_keep) (first
            | (go_at_call 24
               with_reducible refine (same_p A0 (some ad) n0 n1 c0 c1 l0 l1 true w4.drew N0.out N1.out HR.out (r2.ext (up_drew (Below.refl _ _))) (r3.ext (up_drew (Below.refl _ _))) (by omega) (by omega)).mono ?_
               rintro e w5 ⟨rfl, dd, hd⟩
               have y8 : Below w4.heap.size w4 w5 := by rw [hd]; exact up_any (up_drew (Below.refl _ _)) (ext_drew w4.drew dd)
               obtain ⟨u0, u1, u2, u3⟩ : w5.cell? ⟨w3.heap.size, 0, none⟩ = _ ∧ w5.cell? ⟨w3.heap.size, 1, none⟩ = _ ∧ w5.cell? ⟨w3.heap.size, 2, none⟩ = _ ∧ w5.cell? ⟨w3.heap.size, 3, none⟩ = _ := by rw [hd]; exact ⟨o0, o1, o2, o3⟩
               obtain ⟨p1, p2, p3, p4⟩ : w5.cell? { block := (ad.add (i * 5)).block, off := (ad.add (i * 5)).off + 1 } = _ ∧ w5.cell? { block := (ad.add (i * 5)).block, off := (ad.add (i * 5)).off + 2 } = _ ∧ w5.cell? { block := (ad.add (i * 5)).block, off := (ad.add (i * 5)).off + 3 } = _ ∧ w5.cell? { block := (ad.add (i * 5)).block, off := (ad.add (i * 5)).off + 4 } = _ := by rw [hd]; exact ⟨t1, t2, t3, t4⟩
               clear hd))
          go_wp2_with (fail)
          go_roundg (n1 - (i + 1))
          case measure => have := HG.out; omega
          case rel => exact ⟨i + 1, w5, by omega, rfl, by go_num, rfl, ext_trans hx1 y8⟩
      · have ein : n1 = i := by omega
        subst ein
        clear HG hlt hi
        go_wp2_with (go_at_call 21; refine Hid.out ?_)
        refine Lib.hid ?_
        refine (known05_any _).mono ?_
        rintro e w3 ⟨rfl, y⟩
        go_wp2_with (fail)
        go_ret
        exact ⟨rfl, ext_trans (ext_trans hx hx1) y⟩
  | true =>
    have hgl : withP l0 ⟨x1, ⟨vk, vn, vf, vs⟩⟩ = l0 := with_get S0.out hgv
    clear hgv
    have HGL := Lib.hid hgl
    clear hgl
    go_wp2_with (go_at_call 22; refine Hid.out ?_)
    refine Lib.hid ?_
    clear o0 o1 o2 o3 b0
    generalize World.alloc w16 _ = w17 at *
    refine (with_p A0 n0 c0 l0 l0 x1 vk vn vf vs w17 w17 S0.out HGL.out N0.out r0 (Below.refl _ _) (by omega)).mono ?_
    rintro e w18 ⟨A7, n7, c7, rfl, N7, q7, r7, y⟩
    replace hx := ext_trans hx y
    replace r0 := r0.ext y
    replace r1 := r1.ext y
    clear y
    go_wp2_with (go_at_call 24; refine Hid.out ?_)
    refine Lib.hid ?_
    refine (same_p A7 A0 n7 n0 c7 c0 l0 l0 true w18 N7.out N0.out (decide_eq_true rfl) r7 r0 (by omega) (by omega)).mono ?_
    rintro e w19 ⟨rfl, dd, hd⟩
    have y : Below w18.heap.size w18 w19 := by rw [hd]; exact ext_drew w18 dd
    clear hd
    replace hx := ext_trans hx y
    replace r0 := r0.ext y
    replace r1 := r1.ext y
    clear y r7
    go_wp2_with (fail)
    generalize hwz : w19 = wz at *
    go_wp2_with (fail)
    go_loopg [94] n1 (fun g iv wr => ∃ (i : Nat) (w1 : World), i ≤ n1 ∧ g = n1 - i ∧ iv = .int .i64 i ∧ w1 = wr ∧ Below wz.heap.size wz w1)
    case atStart => exact ⟨0, wz, by omega, rfl, rfl, rfl, Below.refl _ _⟩
    case round =>
      obtain ⟨i, w2, hi, hg, rfl, rfl, hx1⟩ := hrel
      have HG := Lib.hid hg
      clear hg
      have r2 := r0.ext hx1
      have r3 := r1.ext hx1
      by_cases hlt : i < n1
      · obtain ⟨ad, y, rfl, had, _, hyi, hc1⟩ := r3.el (i := i) (by have := N1.out; omega)
        have HYI := Lib.hid hyi
        clear hyi
        obtain ⟨y1, y2, y3, y4, y5⟩ := y
        obtain ⟨t0, t1, t2, t3, t4⟩ := at_cells hc1
        clear hc1
        go_wp2_with (go_at_call 23; refine Hid.out ?_)
        refine Lib.hid ?_
        clear t0 t1 t2 t3 t4
        refine (get_any A0 n0 c0 l0 y1 w2 N0.out r2 (by omega)).mono ?_
        rintro e w3 ⟨v, b, rfl, ⟨-, -, hgv⟩, y⟩
        replace hgv := hgv S0.out
        obtain ⟨vk, vn, vf, vs⟩ := v
        have o := heap_alloc_new w3 (.cells #[.int .u8 vk, .int .i64 vn, .int .u64 vf, .string vs] 38)
        have z := up_alloc y (.cells #[.int .u8 vk, .int .i64 vn, .int .u64 vf, .string vs] 38)
        go_wp2_with (fail)
        generalize World.alloc w3 _ = w4 at *
        replace hx1 := ext_trans hx1 z
        replace r2 := r2.ext z
        replace r3 := r3.ext z
        clear y z
        obtain ⟨o0, o1, o2, o3⟩ := box_v o
        obtain ⟨ad', y, ea, had', _, hyi, hc1⟩ := r3.el (i := i) (by have := N1.out; omega)
        injection ea with ea
        subst ea
        rw [HYI.out] at hyi
        injection hyi with hyi
        subst hyi
        obtain ⟨t0, t1, t2, t3, t4⟩ := at_cells hc1
        clear hc1 had had' o
        cases R with
        | false =>
          clear hgv
          go_quiet ((go_at_call 24; exact Calls.quiet_of (same_p A0 (some ad) n0 n1 c0 c1 l0 l1 false _ N0.out N1.out HR.out (r2.ext (ext_drew _ _)) (r3.ext (ext_drew _ _)) (by omega) (by omega))))
          go_wp2_with (fail)
          go_roundg (n1 - (i + 1))
          case measure => have := HG.out; omega
          case rel => exact ⟨i + 1, _, by omega, rfl, by go_num, rfl, below_drewN hx1 _⟩
        | true =>
          have el : l0 = l1 := of_decide_eq_true HR.out
          rw [el, get_at S1.out HYI.out] at hgv
          cases b with
          | false => cases hgv
          | true =>
          injection hgv with hgv
          injection hgv with g1 g2 g3 g4
          subst g1 g2 g3 g4
          have hq := beqV_eq (rfl : (⟨y2, y3, y4, y5⟩ : V) = ⟨y2, y3, y4, y5⟩)
          clear el
          go_region_held3 (fun w' => w'.cell? ⟨w3.heap.size, 0, none⟩ = some (.int .u8 y2) ∧ w'.cell? ⟨w3.heap.size, 1, none⟩ = some (.int .i64 y3) ∧ w'.cell? ⟨w3.heap.size, 2, none⟩ = some (.int .u64 y4) ∧ w'.cell? ⟨w3.heap.size, 3, none⟩ = some (.string y5) ∧ w'.cell? { block := (ad.add (i * 5)).block, off := (ad.add (i * 5)).off + 1 } = some (.int .u8 y2) ∧ w'.cell? { block := (ad.add (i * 5)).block, off := (ad.add (i * 5)).off + 2 } = some (.int .i64 y3) ∧ w'.cell? { block := (ad.add (i * 5)).block, off := (ad.add (i * 5)).off + 3 } = some (.int .u64 y4) ∧ w'.cell? { block := (ad.add (i * 5)).block, off := (ad.add (i * 5)).off + 4 } = some (.string y5)) (go_keep) (first
            | (go_at_call 24
               with_reducible refine (same_p A0 (some ad) n0 n1 c0 c1 l0 l1 true w4.drew N0.out N1.out HR.out (r2.ext (up_drew (Below.refl _ _))) (r3.ext (up_drew (Below.refl _ _))) (by omega) (by omega)).mono ?_
               rintro e w5 ⟨rfl, dd, hd⟩
               have y8 : Below w4.heap.size w4 w5 := by rw [hd]; exact up_any (up_drew (Below.refl _ _)) (ext_drew w4.drew dd)
               obtain ⟨u0, u1, u2, u3⟩ : w5.cell? ⟨w3.heap.size, 0, none⟩ = _ ∧ w5.cell? ⟨w3.heap.size, 1, none⟩ = _ ∧ w5.cell? ⟨w3.heap.size, 2, none⟩ = _ ∧ w5.cell? ⟨w3.heap.size, 3, none⟩ = _ := by rw [hd]; exact ⟨o0, o1, o2, o3⟩
               obtain ⟨p1, p2, p3, p4⟩ : w5.cell? { block := (ad.add (i * 5)).block, off := (ad.add (i * 5)).off + 1 } = _ ∧ w5.cell? { block := (ad.add (i * 5)).block, off := (ad.add (i * 5)).off + 2 } = _ ∧ w5.cell? { block := (ad.add (i * 5)).block, off := (ad.add (i * 5)).off + 3 } = _ ∧ w5.cell? { block := (ad.add (i * 5)).block, off := (ad.add (i * 5)).off + 4 } = _ := by rw [hd]; exact ⟨t1, t2, t3, t4⟩
               clear hd))
          go_wp2_with (fail)
          go_roundg (n1 - (i + 1))
          case measure => have := HG.out; omega
          case rel => exact ⟨i + 1, w5, by omega, rfl, by go_num, rfl, ext_trans hx1 y8⟩
      · have ein : n1 = i := by omega
        subst ein
        clear HG hlt hi
        go_wp2_with (go_at_call 21; refine Hid.out ?_)
        refine Lib.hid ?_
        refine (known05_any _).mono ?_
        rintro e w3 ⟨rfl, y⟩
        go_wp2_with (fail)
        go_ret
        exact ⟨rfl, ext_trans (ext_trans hx hx1) y⟩
end Go.Proofs.Ytclfplpggmefjaa
