/- The walk of rubriclaw14.RulesTyped. -/
import Derived.Test.YtnhmbocgopjbjaaKnown14
import Derived.Test.YtnhmbocgopjbjaaTypedLaw
import Derived.Test.YtnhmbocgopjbjaaLawKit
namespace Go.Proofs.Ytnhmbocgopjbjaa
open Go.RowKit
set_option linter.unusedVariables false
set_option linter.unusedSimpArgs false

set_option maxRecDepth 100000 in
set_option maxHeartbeats 4000000 in
theorem rulesTyped_any (A_k A_a A_b : Option Addr) (n_k n_a n_b c_k c_a c_b : Nat) (l_k : List Ky) (l_a l_b : List At) (w : World)
    (hnk : n_k = l_k.length) (hna : n_a = l_a.length) (hnb : n_b = l_b.length) (r_k : RdKy w w.heap.size A_k l_k) (r_a : RdAt w w.heap.size A_a l_a) (r_b : RdAt w w.heap.size A_b l_b)
    (q_k : n_k ≤ 9223372036854775807) (q_a : n_a ≤ 9223372036854775807) (q_b : n_b ≤ 9223372036854775807) :
    Calls Try.prog 5 #[.slice A_k n_k c_k, .slice A_a n_a c_a, .slice A_b n_b c_b] w fun e w' => e = .returned (.bool true) ∧ Below w.heap.size w w' := by
  have N_k := Lib.hid hnk
  have N_a := Lib.hid hna
  have N_b := Lib.hid hnb
  have hx := ext_alloc w (.cells #[.slice A_a n_a c_a, .slice A_b n_b c_b] 23)
  have rx : Rd SlN.enc 1 _ _ _ [⟨A_a, n_a, c_a⟩, ⟨A_b, n_b, c_b⟩] := Rd.new SlN.enc_len w 23 [⟨A_a, n_a, c_a⟩, ⟨A_b, n_b, c_b⟩] (cs := #[.slice A_a n_a c_a, .slice A_b n_b c_b]) rfl rfl
  clear hnk hna hnb
  go_enter Try.func5, Try.ntmps5
  go_wp2_with (go_at_call 6; refine Hid.out ?_)
  refine Lib.hid ?_
  refine (great14_any A_k none _ n_k c_k 0 0 2 2 [⟨A_a, n_a, c_a⟩, ⟨A_b, n_b, c_b⟩] _ rfl q_k (by omega) (by simp [q_a, q_b]) rx (by omega)).mono ?_
  rintro e v ⟨g, rfl, hgr, rfl⟩
  clear rx
  cases g
  case true =>
    go_wp2_with (go_at_call 8; refine Hid.out ?_)
    refine Lib.hid ?_
    refine (known14_any _).mono ?_
    rintro e w2 ⟨rfl, y⟩
    replace hx := ext_trans hx y
    go_wp2_with (fail)
    go_ret
    exact ⟨rfl, hx⟩
  obtain ⟨g1, -, g2⟩ := hgr rfl
  have g3 : n_a ≤ 100 := g2 ⟨A_a, n_a, c_a⟩ (by simp)
  have g4 : n_b ≤ 100 := g2 ⟨A_b, n_b, c_b⟩ (by simp)
  clear g2 hgr
  go_wp2_with (go_at_call 7; refine Hid.out ?_)
  refine Lib.hid ?_
  refine (risingA_any A_a n_a c_a l_a _ N_a.out (r_a.ext hx) (by omega)).mono ?_
  rintro e wn ⟨rfl, d, hd⟩
  have y := drew_ext hd
  clear hd
  replace hx := ext_trans hx y
  clear y
  obtain ⟨ba, hba⟩ : ∃ X, riseA l_a = X := ⟨_, rfl⟩
  rw [hba]
  have S_a := Lib.hid hba
  clear hba
  cases ba
  case false =>
    go_wp2_with (go_at_call 8; refine Hid.out ?_)
    refine Lib.hid ?_
    refine (known14_any _).mono ?_
    rintro e w2 ⟨rfl, y⟩
    replace hx := ext_trans hx y
    go_wp2_with (fail)
    go_ret
    exact ⟨rfl, hx⟩
  go_wp2_with (go_at_call 7; refine Hid.out ?_)
  refine Lib.hid ?_
  refine (risingA_any A_b n_b c_b l_b _ N_b.out (r_b.ext hx) (by omega)).mono ?_
  rintro e wn ⟨rfl, d, hd⟩
  have y := drew_ext hd
  clear hd
  replace hx := ext_trans hx y
  clear y
  obtain ⟨bb, hbb⟩ : ∃ X, riseA l_b = X := ⟨_, rfl⟩
  rw [hbb]
  have S_b := Lib.hid hbb
  clear hbb
  cases bb
  case false =>
    go_wp2_with (go_at_call 8; refine Hid.out ?_)
    refine Lib.hid ?_
    refine (known14_any _).mono ?_
    rintro e w2 ⟨rfl, y⟩
    replace hx := ext_trans hx y
    go_wp2_with (fail)
    go_ret
    exact ⟨rfl, hx⟩
  go_wp2_with (go_at_call 9; refine Hid.out ?_)
  refine Lib.hid ?_
  refine (new_any A_k n_k c_k l_k _ N_k.out (r_k.ext hx) (by omega)).mono ?_
  rintro e wn ⟨y, ⟨hm, s, rfl, hS⟩ | ⟨hm, rfl⟩⟩
  all_goals replace hx := ext_trans hx y
  rotate_left
  · skip
    go_wp2_with (go_at_call 8; refine Hid.out ?_)
    refine Lib.hid ?_
    refine (known14_any _).mono ?_
    rintro e w2 ⟨rfl, y⟩
    replace hx := ext_trans hx y
    go_wp2_with (fail)
    go_ret
    exact ⟨rfl, hx⟩
  have HS := Lib.hid hS
  have HL : Hid (l_k.length ≤ 64) := Lib.hid (by have := N_k.out; omega)
  clear hS hm y
  go_wp2_with (go_at_call 19; refine Hid.out ?_)
  refine Lib.hid ?_
  refine (typed_any s l_k A_a A_b n_a n_b c_a c_b l_a l_b _ N_a.out N_b.out (r_a.ext hx) (r_b.ext hx) (by omega) (by omega) HS.out).mono ?_
  rintro e wn ⟨l_x, he_x, hl_x, A_x, c_x, rfl, ho, y⟩
  have HS := Lib.hid (HS.out.ext y)
  replace hx := ext_trans hx y
  have E_x := Lib.hid (he_x S_a.out)
  have R_x := Lib.hid (ho.rd At.enc_len)
  have S_x : Hid (riseA l_x = true) := Lib.hid (by rw [E_x.out]; exact (typed_all S_a.out S_b.out).1)
  obtain ⟨n_x, hn⟩ : ∃ n, n = l_x.length := ⟨_, rfl⟩
  have hl_x : n_x ≤ n_a + n_b := by have := N_a.out; have := N_b.out; omega
  rw [← hn]
  have N_x := Lib.hid hn
  clear hn ho he_x
  clear y
  go_wp2_with (fail)
  go_loopg [52] n_x (fun g iv wr => ∃ m : Nat, m ≤ n_x ∧ g = n_x - m ∧ iv = .int .i64 (m : Int) ∧ Below wn.heap.size wn wr)
  case atStart => exact ⟨0, by omega, rfl, rfl, Below.refl _ _⟩
  case round =>
    obtain ⟨m, hm, hg, rfl, y⟩ := hrel
    have HG := Lib.hid hg
    have yr := y
    clear hg
    have HS := Lib.hid (HS.out.ext y)
    have R_x := Lib.hid (R_x.out.ext y)
    replace hx := ext_trans hx y
    by_cases hlt : m < n_x
    · skip
      obtain ⟨ad, x, hA, -, hx1, hc0⟩ := R_x.out.elIn (i := m) (by have := N_x.out; omega)
      subst hA
      obtain ⟨⟨i, bl, kd, af, be, gr⟩, hf, hb, hor⟩ := typed_one S_a.out S_b.out (by rw [← E_x.out]; exact List.mem_of_getElem? hx1)
      simp only at hb hor
      subst hb
      obtain ⟨x1, x2, x3, x4, x5⟩ := x
      simp only at hor hf
      have CX := Lib.hid hc0
      have HF := Lib.hid hf
      have hw2 : IntKind.i64.wrap ((m:Int) + 1) = (m : Int) + 1 := IntWalk.i64_in _ (by omega)
      obtain ⟨r0, r1, r2, r3, r4⟩ := at_cells CX.out.2
      clear hx1 hc0 hf
      go_wp2_with (go_at_call 10; refine Hid.out ?_)
      refine Lib.hid ?_
      clear r0 r1 r2 r3 r4
      refine (findS_some s l_k x1 _ HS.out HF.out).mono ?_
      rintro e wn ⟨rfl, y⟩
      have HS := Lib.hid (HS.out.ext y)
      have R_x := Lib.hid (R_x.out.ext y)
      have CX := Lib.hid (CX.out.ext y)
      replace hx := ext_trans hx y
      replace yr := ext_trans yr y
      clear y
      have y := ext_alloc wn (.cells #[.int .i64 i, .bool false, .int .u8 kd, .bool af, .bool be, .int .i64 gr] 32)
      have hb := heap_alloc_new wn (.cells #[.int .i64 i, .bool false, .int .u8 kd, .bool af, .bool be, .int .i64 gr] 32)
      have HS := Lib.hid (HS.out.ext y)
      have R_x := Lib.hid (R_x.out.ext y)
      have CX := Lib.hid (CX.out.ext y)
      replace hx := ext_trans hx y
      have BK := Lib.hid hb
      replace yr := ext_trans yr y
      clear y hb
      obtain ⟨r0, r1, r2, r3, r4⟩ := at_cells CX.out.2
      rcases hor with ⟨rfl, hga⟩ | ⟨hna, rfl, hgb⟩
      · skip
        have GA := Lib.hid hga
        clear hga
        go_wp2_with (go_at_call 13; refine Hid.out ?_)
        refine Lib.hid ?_
        clear r0 r1 r2 r3 r4
        refine (get05_some A_a n_a c_a l_a x1 _ N_a.out (r_a.ext hx) (by omega) GA.out).mono ?_
        rintro e wn ⟨rfl, y⟩
        have HS := Lib.hid (HS.out.ext y)
        have R_x := Lib.hid (R_x.out.ext y)
        have CX := Lib.hid (CX.out.ext y)
        have BK := Lib.hid ((y.block _ (lt_of_some BK.out)).trans BK.out)
        replace hx := ext_trans hx y
        replace yr := ext_trans yr y
        clear y
        have y := ext_alloc wn (.cells #[.int .u8 x2, .int .i64 x3, .int .u64 x4, .string x5] 41)
        have hb := heap_alloc_new wn (.cells #[.int .u8 x2, .int .i64 x3, .int .u64 x4, .string x5] 41)
        have HS := Lib.hid (HS.out.ext y)
        have R_x := Lib.hid (R_x.out.ext y)
        have CX := Lib.hid (CX.out.ext y)
        have BK := Lib.hid ((y.block _ (lt_of_some BK.out)).trans BK.out)
        replace hx := ext_trans hx y
        have BA := Lib.hid hb
        replace yr := ext_trans yr y
        clear y hb
        obtain ⟨r0, r1, r2, r3, r4⟩ := at_cells CX.out.2
        go_wp2_with (go_at_call 13; refine Hid.out ?_)
        refine Lib.hid ?_
        clear r0 r1 r2 r3 r4
        refine (get05_any A_b n_b c_b l_b x1 _ N_b.out (r_b.ext hx) (by omega)).mono ?_
        rintro e wn ⟨u1, u2, u3, u4, q, rfl, -, -, y⟩
        have HS := Lib.hid (HS.out.ext y)
        have R_x := Lib.hid (R_x.out.ext y)
        have CX := Lib.hid (CX.out.ext y)
        have BK := Lib.hid ((y.block _ (lt_of_some BK.out)).trans BK.out)
        have BA := Lib.hid ((y.block _ (lt_of_some BA.out)).trans BA.out)
        replace hx := ext_trans hx y
        replace yr := ext_trans yr y
        clear y
        have y := ext_alloc wn (.cells #[.int .u8 u1, .int .i64 u2, .int .u64 u3, .string u4] 41)
        have hb := heap_alloc_new wn (.cells #[.int .u8 u1, .int .i64 u2, .int .u64 u3, .string u4] 41)
        have HS := Lib.hid (HS.out.ext y)
        have R_x := Lib.hid (R_x.out.ext y)
        have CX := Lib.hid (CX.out.ext y)
        have BK := Lib.hid ((y.block _ (lt_of_some BK.out)).trans BK.out)
        have BA := Lib.hid ((y.block _ (lt_of_some BA.out)).trans BA.out)
        replace hx := ext_trans hx y
        have BB := Lib.hid hb
        replace yr := ext_trans yr y
        clear y hb
        obtain ⟨r0, r1, r2, r3, r4⟩ := at_cells CX.out.2
        have hbq : beqV ⟨x2, x3, x4, x5⟩ ⟨x2, x3, x4, x5⟩ = true := beqV_eq rfl
        obtain ⟨k0, k1, k2, k3, k4, k5⟩ := box_ky BK.out
        obtain ⟨p0, p1, p2, p3⟩ := box_v BA.out
        obtain ⟨o0, o1, o2, o3⟩ := box_v BB.out
        go_wp2_with (fail)
        go_quiet (fail)
        go_wp2_with (fail)
        go_roundg (n_x - (m + 1))
        case measure => have := HG.out; omega
        case rel => exact ⟨m + 1, by omega, rfl, by go_num, by first | exact below_drewN yr _ | exact yr⟩
      · skip
        have GB := Lib.hid hgb
        clear hgb
        cases hga : getA l_a x1 with
        | none =>
          have GA := Lib.hid hga
          clear hga hna
          go_wp2_with (go_at_call 13; refine Hid.out ?_)
          refine Lib.hid ?_
          clear r0 r1 r2 r3 r4
          refine (get05_none A_a n_a c_a l_a x1 _ N_a.out (r_a.ext hx) (by omega) GA.out).mono ?_
          rintro e wn ⟨rfl, y⟩
          have HS := Lib.hid (HS.out.ext y)
          have R_x := Lib.hid (R_x.out.ext y)
          have CX := Lib.hid (CX.out.ext y)
          have BK := Lib.hid ((y.block _ (lt_of_some BK.out)).trans BK.out)
          replace hx := ext_trans hx y
          replace yr := ext_trans yr y
          clear y
          have y := ext_alloc wn (.cells #[.int .u8 0, .int .i64 0, .int .u64 0, .string ⟨#[]⟩] 41)
          have hb := heap_alloc_new wn (.cells #[.int .u8 0, .int .i64 0, .int .u64 0, .string ⟨#[]⟩] 41)
          have HS := Lib.hid (HS.out.ext y)
          have R_x := Lib.hid (R_x.out.ext y)
          have CX := Lib.hid (CX.out.ext y)
          have BK := Lib.hid ((y.block _ (lt_of_some BK.out)).trans BK.out)
          replace hx := ext_trans hx y
          have BA := Lib.hid hb
          replace yr := ext_trans yr y
          clear y hb
          obtain ⟨r0, r1, r2, r3, r4⟩ := at_cells CX.out.2
          go_wp2_with (go_at_call 13; refine Hid.out ?_)
          refine Lib.hid ?_
          clear r0 r1 r2 r3 r4
          refine (get05_some A_b n_b c_b l_b x1 _ N_b.out (r_b.ext hx) (by omega) GB.out).mono ?_
          rintro e wn ⟨rfl, y⟩
          have HS := Lib.hid (HS.out.ext y)
          have R_x := Lib.hid (R_x.out.ext y)
          have CX := Lib.hid (CX.out.ext y)
          have BK := Lib.hid ((y.block _ (lt_of_some BK.out)).trans BK.out)
          have BA := Lib.hid ((y.block _ (lt_of_some BA.out)).trans BA.out)
          replace hx := ext_trans hx y
          replace yr := ext_trans yr y
          clear y
          have y := ext_alloc wn (.cells #[.int .u8 x2, .int .i64 x3, .int .u64 x4, .string x5] 41)
          have hb := heap_alloc_new wn (.cells #[.int .u8 x2, .int .i64 x3, .int .u64 x4, .string x5] 41)
          have HS := Lib.hid (HS.out.ext y)
          have R_x := Lib.hid (R_x.out.ext y)
          have CX := Lib.hid (CX.out.ext y)
          have BK := Lib.hid ((y.block _ (lt_of_some BK.out)).trans BK.out)
          have BA := Lib.hid ((y.block _ (lt_of_some BA.out)).trans BA.out)
          replace hx := ext_trans hx y
          have BB := Lib.hid hb
          replace yr := ext_trans yr y
          clear y hb
          obtain ⟨r0, r1, r2, r3, r4⟩ := at_cells CX.out.2
          have hbq : beqV ⟨x2, x3, x4, x5⟩ ⟨x2, x3, x4, x5⟩ = true := beqV_eq rfl
          obtain ⟨k0, k1, k2, k3, k4, k5⟩ := box_ky BK.out
          obtain ⟨p0, p1, p2, p3⟩ := box_v BA.out
          obtain ⟨o0, o1, o2, o3⟩ := box_v BB.out
          go_wp2_with (fail)
          go_quiet (fail)
          go_wp2_with (fail)
          go_roundg (n_x - (m + 1))
          case measure => have := HG.out; omega
          case rel => exact ⟨m + 1, by omega, rfl, by go_num, by first | exact below_drewN yr _ | exact yr⟩
        | some u =>
          obtain ⟨u1, u2, u3, u4⟩ := u
          have GA := Lib.hid hga
          obtain rfl : af = false := by
            rcases hna with h | h
            · exact h
            · rw [h] at hga; cases hga
          clear hga hna
          go_wp2_with (go_at_call 13; refine Hid.out ?_)
          refine Lib.hid ?_
          clear r0 r1 r2 r3 r4
          refine (get05_some A_a n_a c_a l_a x1 _ N_a.out (r_a.ext hx) (by omega) GA.out).mono ?_
          rintro e wn ⟨rfl, y⟩
          have HS := Lib.hid (HS.out.ext y)
          have R_x := Lib.hid (R_x.out.ext y)
          have CX := Lib.hid (CX.out.ext y)
          have BK := Lib.hid ((y.block _ (lt_of_some BK.out)).trans BK.out)
          replace hx := ext_trans hx y
          replace yr := ext_trans yr y
          clear y
          have y := ext_alloc wn (.cells #[.int .u8 u1, .int .i64 u2, .int .u64 u3, .string u4] 41)
          have hb := heap_alloc_new wn (.cells #[.int .u8 u1, .int .i64 u2, .int .u64 u3, .string u4] 41)
          have HS := Lib.hid (HS.out.ext y)
          have R_x := Lib.hid (R_x.out.ext y)
          have CX := Lib.hid (CX.out.ext y)
          have BK := Lib.hid ((y.block _ (lt_of_some BK.out)).trans BK.out)
          replace hx := ext_trans hx y
          have BA := Lib.hid hb
          replace yr := ext_trans yr y
          clear y hb
          obtain ⟨r0, r1, r2, r3, r4⟩ := at_cells CX.out.2
          go_wp2_with (go_at_call 13; refine Hid.out ?_)
          refine Lib.hid ?_
          clear r0 r1 r2 r3 r4
          refine (get05_some A_b n_b c_b l_b x1 _ N_b.out (r_b.ext hx) (by omega) GB.out).mono ?_
          rintro e wn ⟨rfl, y⟩
          have HS := Lib.hid (HS.out.ext y)
          have R_x := Lib.hid (R_x.out.ext y)
          have CX := Lib.hid (CX.out.ext y)
          have BK := Lib.hid ((y.block _ (lt_of_some BK.out)).trans BK.out)
          have BA := Lib.hid ((y.block _ (lt_of_some BA.out)).trans BA.out)
          replace hx := ext_trans hx y
          replace yr := ext_trans yr y
          clear y
          have y := ext_alloc wn (.cells #[.int .u8 x2, .int .i64 x3, .int .u64 x4, .string x5] 41)
          have hb := heap_alloc_new wn (.cells #[.int .u8 x2, .int .i64 x3, .int .u64 x4, .string x5] 41)
          have HS := Lib.hid (HS.out.ext y)
          have R_x := Lib.hid (R_x.out.ext y)
          have CX := Lib.hid (CX.out.ext y)
          have BK := Lib.hid ((y.block _ (lt_of_some BK.out)).trans BK.out)
          have BA := Lib.hid ((y.block _ (lt_of_some BA.out)).trans BA.out)
          replace hx := ext_trans hx y
          have BB := Lib.hid hb
          replace yr := ext_trans yr y
          clear y hb
          obtain ⟨r0, r1, r2, r3, r4⟩ := at_cells CX.out.2
          have hbq : beqV ⟨x2, x3, x4, x5⟩ ⟨x2, x3, x4, x5⟩ = true := beqV_eq rfl
          obtain ⟨k0, k1, k2, k3, k4, k5⟩ := box_ky BK.out
          obtain ⟨p0, p1, p2, p3⟩ := box_v BA.out
          obtain ⟨o0, o1, o2, o3⟩ := box_v BB.out
          go_wp2_with (fail)
          go_quiet (fail)
          go_wp2_with (fail)
          go_roundg (n_x - (m + 1))
          case measure => have := HG.out; omega
          case rel => exact ⟨m + 1, by omega, rfl, by go_num, by first | exact below_drewN yr _ | exact yr⟩
    · skip
      clear yr HG
      go_wp2_with (go_at_call 19; refine Hid.out ?_)
      refine Lib.hid ?_
      refine (typed_any s l_k A_x A_b n_x n_b c_x c_b l_x l_b _ N_x.out N_b.out R_x.out (r_b.ext hx) (by omega) (by omega) HS.out).mono ?_
      rintro e wn ⟨l_y, he_y, hl_y, A_y, c_y, rfl, ho, y⟩
      have HS := Lib.hid (HS.out.ext y)
      have R_x := Lib.hid (R_x.out.ext y)
      replace hx := ext_trans hx y
      have E_y := Lib.hid (he_y S_x.out)
      have R_y := Lib.hid (ho.rd At.enc_len)
      have S_y : Hid (riseA l_y = true) := Lib.hid (by rw [E_y.out]; exact (typed_all S_x.out S_b.out).1)
      obtain ⟨n_y, hn⟩ : ∃ n, n = l_y.length := ⟨_, rfl⟩
      have hl_y : n_y ≤ n_x + n_b := by have := N_x.out; have := N_b.out; omega
      rw [← hn]
      have N_y := Lib.hid hn
      clear hn ho he_y
      clear y
      have YX : Hid (l_y = l_x) := Lib.hid (by rw [E_y.out, E_x.out]; exact typed_again S_a.out S_b.out)
      go_wp2_with (go_at_call 19; refine Hid.out ?_)
      refine Lib.hid ?_
      refine (typed_any s l_k A_a A_a n_a n_a c_a c_a l_a l_a _ N_a.out N_a.out (r_a.ext hx) (r_a.ext hx) (by omega) (by omega) HS.out).mono ?_
      rintro e wn ⟨l_z, he_z, hl_z, A_z, c_z, rfl, ho, y⟩
      have HS := Lib.hid (HS.out.ext y)
      have R_x := Lib.hid (R_x.out.ext y)
      have R_y := Lib.hid (R_y.out.ext y)
      replace hx := ext_trans hx y
      have E_z := Lib.hid (he_z S_a.out)
      have R_z := Lib.hid (ho.rd At.enc_len)
      have S_z : Hid (riseA l_z = true) := Lib.hid (by rw [E_z.out]; exact (typed_all S_a.out S_a.out).1)
      obtain ⟨n_z, hn⟩ : ∃ n, n = l_z.length := ⟨_, rfl⟩
      have hl_z : n_z ≤ n_a + n_a := by have := N_a.out; have := N_a.out; omega
      rw [← hn]
      have N_z := Lib.hid hn
      clear hn ho he_z
      clear y
      go_wp2_with (fail)
      go_loopg [143] n_z (fun g iv wr => ∃ m : Nat, m ≤ n_z ∧ g = n_z - m ∧ iv = .int .i64 (m : Int) ∧ Below wn.heap.size wn wr)
      case atStart => exact ⟨0, by omega, rfl, rfl, Below.refl _ _⟩
      case round =>
        obtain ⟨m, hm, hg, rfl, y⟩ := hrel
        have HG := Lib.hid hg
        have yr := y
        clear hg
        have HS := Lib.hid (HS.out.ext y)
        have R_x := Lib.hid (R_x.out.ext y)
        have R_y := Lib.hid (R_y.out.ext y)
        have R_z := Lib.hid (R_z.out.ext y)
        replace hx := ext_trans hx y
        by_cases hlt : m < n_z
        · skip
          obtain ⟨ad, x, hA, -, hx1, hc0⟩ := R_z.out.elIn (i := m) (by have := N_z.out; omega)
          subst hA
          have hga := typed_left S_a.out (l := l_k) (x := x) (by rw [← E_z.out]; exact List.mem_of_getElem? hx1)
          obtain ⟨x1, x2, x3, x4, x5⟩ := x
          have GA := Lib.hid hga
          have CX := Lib.hid hc0
          have hw2 : IntKind.i64.wrap ((m:Int) + 1) = (m : Int) + 1 := IntWalk.i64_in _ (by omega)
          have hbq : beqV ⟨x2, x3, x4, x5⟩ ⟨x2, x3, x4, x5⟩ = true := beqV_eq rfl
          obtain ⟨r0, r1, r2, r3, r4⟩ := at_cells CX.out.2
          clear hx1 hc0 hga
          go_wp2_with (go_at_call 13; refine Hid.out ?_)
          refine Lib.hid ?_
          clear r0 r1 r2 r3 r4
          refine (get05_some A_a n_a c_a l_a x1 _ N_a.out (r_a.ext hx) (by omega) GA.out).mono ?_
          rintro e wn ⟨rfl, y⟩
          have HS := Lib.hid (HS.out.ext y)
          have R_x := Lib.hid (R_x.out.ext y)
          have R_y := Lib.hid (R_y.out.ext y)
          have R_z := Lib.hid (R_z.out.ext y)
          have CX := Lib.hid (CX.out.ext y)
          replace hx := ext_trans hx y
          replace yr := ext_trans yr y
          clear y
          have y := ext_alloc wn (.cells #[.int .u8 x2, .int .i64 x3, .int .u64 x4, .string x5] 41)
          have hb := heap_alloc_new wn (.cells #[.int .u8 x2, .int .i64 x3, .int .u64 x4, .string x5] 41)
          have HS := Lib.hid (HS.out.ext y)
          have R_x := Lib.hid (R_x.out.ext y)
          have R_y := Lib.hid (R_y.out.ext y)
          have R_z := Lib.hid (R_z.out.ext y)
          have CX := Lib.hid (CX.out.ext y)
          replace hx := ext_trans hx y
          have BA := Lib.hid hb
          replace yr := ext_trans yr y
          clear y hb
          obtain ⟨r0, r1, r2, r3, r4⟩ := at_cells CX.out.2
          obtain ⟨p0, p1, p2, p3⟩ := box_v BA.out
          go_wp2_with (fail)
          go_quiet (fail)
          go_wp2_with (fail)
          go_roundg (n_z - (m + 1))
          case measure => have := HG.out; omega
          case rel => exact ⟨m + 1, by omega, rfl, by go_num, by first | exact below_drewN yr _ | exact yr⟩
        · skip
          clear yr HG
          go_wp2_with (go_at_call 14; refine Hid.out ?_)
          refine Lib.hid ?_
          refine (sameA_any A_x A_y n_x n_y c_x c_y l_x l_y _ N_x.out N_y.out R_x.out R_y.out (by omega) (by omega)).mono ?_
          rintro e wn ⟨rfl, d, hd⟩
          have y := drew_ext hd
          clear hd
          have HS := Lib.hid (HS.out.ext y)
          have R_x := Lib.hid (R_x.out.ext y)
          have R_y := Lib.hid (R_y.out.ext y)
          have R_z := Lib.hid (R_z.out.ext y)
          replace hx := ext_trans hx y
          rw [decide_eq_true YX.out.symm]
          clear y
          go_wp2_with (go_at_call 19; refine Hid.out ?_)
          refine Lib.hid ?_
          refine (typed_any s l_k none none 0 0 0 0 [] [] _ rfl rfl Rd.nil Rd.nil (by omega) (by omega) HS.out).mono ?_
          rintro e wn ⟨l_o, he, -, A_o, c_o, rfl, -, y⟩
          have HS := Lib.hid (HS.out.ext y)
          have R_x := Lib.hid (R_x.out.ext y)
          have R_y := Lib.hid (R_y.out.ext y)
          have R_z := Lib.hid (R_z.out.ext y)
          replace hx := ext_trans hx y
          obtain rfl : l_o = [] := he rfl
          clear he
          clear y
          have hsl : (siftP l_k splitK l_a).length ≤ 100 := by have := sift_len l_k splitK l_a; have := N_a.out; omega
          obtain ⟨n_p, hnp⟩ : ∃ n, n = (siftP l_k splitK l_a).length := ⟨_, rfl⟩
          rw [← hnp] at hsl
          have NP := Lib.hid hnp
          clear hnp
          go_wp2_with (go_at_call 18; refine Hid.out ?_)
          refine Lib.hid ?_
          refine (split_any s l_k A_a n_a c_a l_a _ N_a.out (r_a.ext hx) (by omega) HS.out).mono ?_
          rintro e wn ⟨A_p, c_p, rfl, ho, y⟩
          have HS := Lib.hid (HS.out.ext y)
          have R_x := Lib.hid (R_x.out.ext y)
          have R_y := Lib.hid (R_y.out.ext y)
          have R_z := Lib.hid (R_z.out.ext y)
          replace hx := ext_trans hx y
          have R_p := Lib.hid (ho.rd At.enc_len)
          clear ho
          clear y
          rw [← NP.out]
          go_wp2_with (go_at_call 18; refine Hid.out ?_)
          refine Lib.hid ?_
          refine (split_any s l_k A_p n_p c_p (siftP l_k splitK l_a) _ NP.out R_p.out (by omega) HS.out).mono ?_
          rintro e wn ⟨A_q, c_q, rfl, ho, y⟩
          have HS := Lib.hid (HS.out.ext y)
          have R_x := Lib.hid (R_x.out.ext y)
          have R_y := Lib.hid (R_y.out.ext y)
          have R_z := Lib.hid (R_z.out.ext y)
          have R_p := Lib.hid (R_p.out.ext y)
          replace hx := ext_trans hx y
          have R_q := Lib.hid (ho.rd At.enc_len)
          clear ho
          clear y
          rw [sift_twice] at R_q ⊢
          rw [← NP.out]
          go_wp2_with (go_at_call 18; refine Hid.out ?_)
          refine Lib.hid ?_
          refine (split_any s l_k A_a n_a c_a l_a _ N_a.out (r_a.ext hx) (by omega) HS.out).mono ?_
          rintro e wn ⟨A_t, c_t, rfl, ho, y⟩
          have HS := Lib.hid (HS.out.ext y)
          have R_x := Lib.hid (R_x.out.ext y)
          have R_y := Lib.hid (R_y.out.ext y)
          have R_z := Lib.hid (R_z.out.ext y)
          have R_p := Lib.hid (R_p.out.ext y)
          have R_q := Lib.hid (R_q.out.ext y)
          replace hx := ext_trans hx y
          have R_t := Lib.hid (ho.rd At.enc_len)
          clear ho
          clear y
          rw [← NP.out]
          go_wp2_with (go_at_call 14; refine Hid.out ?_)
          refine Lib.hid ?_
          refine (sameA_any A_q A_t n_p n_p c_q c_t (siftP l_k splitK l_a) (siftP l_k splitK l_a) _ NP.out NP.out R_q.out R_t.out (by omega) (by omega)).mono ?_
          rintro e wn ⟨rfl, d, hd⟩
          have y := drew_ext hd
          clear hd
          have HS := Lib.hid (HS.out.ext y)
          have R_x := Lib.hid (R_x.out.ext y)
          have R_y := Lib.hid (R_y.out.ext y)
          have R_z := Lib.hid (R_z.out.ext y)
          have R_p := Lib.hid (R_p.out.ext y)
          have R_q := Lib.hid (R_q.out.ext y)
          have R_t := Lib.hid (R_t.out.ext y)
          replace hx := ext_trans hx y
          rw [decide_eq_true rfl]
          clear y
          go_wp2_with (go_at_call 8; refine Hid.out ?_)
          refine Lib.hid ?_
          refine (known14_any _).mono ?_
          rintro e w2 ⟨rfl, y⟩
          replace hx := ext_trans hx y
          go_wp2_with (fail)
          go_ret
          exact ⟨rfl, hx⟩
end Go.Proofs.Ytnhmbocgopjbjaa
