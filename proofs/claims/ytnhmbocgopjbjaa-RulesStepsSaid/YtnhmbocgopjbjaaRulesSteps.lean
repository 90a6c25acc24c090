/- The walk of rubriclaw14.RulesSteps. -/
import Derived.Test.YtnhmbocgopjbjaaKnown14
import Derived.Test.YtnhmbocgopjbjaaStepLaw
import Derived.Test.YtnhmbocgopjbjaaLawKit
namespace Go.Proofs.Ytnhmbocgopjbjaa
open Go.RowKit
set_option linter.unusedVariables false
set_option linter.unusedSimpArgs false

set_option maxRecDepth 100000 in
set_option maxHeartbeats 4000000 in
theorem rulesSteps_any (A_k A_a : Option Addr) (n_k n_a c_k c_a : Nat) (l_k : List Ky) (l_a : List At) (key b : Int) (w : World)
    (hnk : n_k = l_k.length) (hna : n_a = l_a.length) (r_k : RdKy w w.heap.size A_k l_k) (r_a : RdAt w w.heap.size A_a l_a)
    (q_k : n_k ≤ 9223372036854775807) (q_a : n_a ≤ 9223372036854775807) (hca : n_a ≤ c_a) (hcm : c_a ≤ maxLen) :
    Calls Try.prog 3 #[.slice A_k n_k c_k, .slice A_a n_a c_a, .int .i64 key, .int .i64 b] w fun e w' => e = .returned (.bool true) ∧ Below w.heap.size w w' := by
  have N_k := Lib.hid hnk
  have N_a := Lib.hid hna
  have C1 := Lib.hid hca
  have C2 := Lib.hid hcm
  have hx := ext_alloc w (.cells #[.slice A_a n_a c_a] 23)
  have rx : Rd SlN.enc 1 _ _ _ [⟨A_a, n_a, c_a⟩] := Rd.new SlN.enc_len w 23 [⟨A_a, n_a, c_a⟩] (cs := #[.slice A_a n_a c_a]) rfl rfl
  clear hnk hna hca hcm
  go_enter Try.func3, Try.ntmps3
  go_wp2_with (go_at_call 6; refine Hid.out ?_)
  refine Lib.hid ?_
  refine (great14_any A_k none _ n_k c_k 0 0 1 1 [⟨A_a, n_a, c_a⟩] _ rfl q_k (by omega) (by simp [q_a]) rx (by omega)).mono ?_
  rintro e v ⟨g, rfl, hgr, rfl⟩
  clear rx
  cases g
  case true =>
    go_wp2_with (go_at_call 8; refine Hid.out ?_)
    refine Lib.hid ?_
    refine (known14_any _).mono ?_
    rintro e w2 ⟨rfl, y⟩
    replace hx := ext_trans hx y
    go_wp2_with (fail)
    go_ret
    exact ⟨rfl, hx⟩
  obtain ⟨g1, -, g2⟩ := hgr rfl
  have g3 : n_a ≤ 100 := g2 ⟨A_a, n_a, c_a⟩ (by simp)
  clear g2 hgr
  go_wp2_with (go_at_call 7; refine Hid.out ?_)
  refine Lib.hid ?_
  refine (risingA_any A_a n_a c_a l_a _ N_a.out (r_a.ext hx) (by omega)).mono ?_
  rintro e wn ⟨rfl, d, hd⟩
  have y := drew_ext hd
  clear hd
  replace hx := ext_trans hx y
  clear y
  obtain ⟨ba, hba⟩ : ∃ X, riseA l_a = X := ⟨_, rfl⟩
  rw [hba]
  have S_a := Lib.hid hba
  clear hba
  cases ba
  case false =>
    go_wp2_with (go_at_call 8; refine Hid.out ?_)
    refine Lib.hid ?_
    refine (known14_any _).mono ?_
    rintro e w2 ⟨rfl, y⟩
    replace hx := ext_trans hx y
    go_wp2_with (fail)
    go_ret
    exact ⟨rfl, hx⟩
  go_wp2_with (go_at_call 9; refine Hid.out ?_)
  refine Lib.hid ?_
  refine (new_any A_k n_k c_k l_k _ N_k.out (r_k.ext hx) (by omega)).mono ?_
  rintro e wn ⟨y, ⟨hm, s, rfl, hS⟩ | ⟨hm, rfl⟩⟩
  all_goals replace hx := ext_trans hx y
  rotate_left
  · skip
    go_wp2_with (go_at_call 8; refine Hid.out ?_)
    refine Lib.hid ?_
    refine (known14_any _).mono ?_
    rintro e w2 ⟨rfl, y⟩
    replace hx := ext_trans hx y
    go_wp2_with (fail)
    go_ret
    exact ⟨rfl, hx⟩
  have HS := Lib.hid hS
  have HL : Hid (l_k.length ≤ 64) := Lib.hid (by have := N_k.out; omega)
  clear hS hm y
  by_cases hgk : GoodK l_k key
  rotate_left
  · skip
    have NG := Lib.hid hgk
    cases hf : findK l_k key with
    | none =>
      have HF := Lib.hid hf
      clear hf hgk
      go_wp2_with (go_at_call 10; refine Hid.out ?_)
      refine Lib.hid ?_
      refine (findS_none s l_k key _ HS.out HF.out).mono ?_
      rintro e wn ⟨rfl, y⟩
      have HS := Lib.hid (HS.out.ext y)
      replace hx := ext_trans hx y
      clear y
      have y := ext_alloc wn (.cells #[.int .i64 0, .bool false, .int .u8 0, .bool false, .bool false, .int .i64 0] 32)
      have hb := heap_alloc_new wn (.cells #[.int .i64 0, .bool false, .int .u8 0, .bool false, .bool false, .int .i64 0] 32)
      have HS := Lib.hid (HS.out.ext y)
      replace hx := ext_trans hx y
      have BK := Lib.hid hb
      clear y hb
      go_wp2_with (go_at_call 11; refine Hid.out ?_)
      refine Lib.hid ?_
      refine (step_any s l_k A_a n_a c_a l_a key b _ N_a.out (r_a.ext hx) (by omega) C1.out C2.out HS.out HL.out).mono ?_
      rintro e wn ⟨r, er, A_r, c_r, rfl, hst, -, -, y⟩
      have HS := Lib.hid (HS.out.ext y)
      have BK := Lib.hid ((y.block _ (lt_of_some BK.out)).trans BK.out)
      replace hx := ext_trans hx y
      have hr := hst S_a.out
      obtain ⟨q1, q2⟩ := step_bad (l := l_k) (key := key) (b := b) (s := l_a) NG.out
      rw [← hr] at q1 q2
      simp only at q1 q2
      subst q1
      have he : (er != 0) = true := by rcases q2 with h | h <;> (rw [h]; rfl)
      have he2 : (er == 0) = false := by rcases q2 with h | h <;> (rw [h]; rfl)
      obtain ⟨k0, k1, k2, k3, k4, k5⟩ := box_ky BK.out
      clear hst hr q2
      clear y
      go_wp2_with (go_at_call 8; refine Hid.out ?_)
      refine Lib.hid ?_
      refine (known14_any _).mono ?_
      rintro e w2 ⟨rfl, y⟩
      replace hx := ext_trans hx y
      go_wp2_with (fail)
      go_ret
      exact ⟨rfl, hx⟩
    | some K =>
      obtain ⟨i, bl, kd, af, be, gr⟩ := K
      have HF := Lib.hid hf
      by_cases hkd : kd = 2
      · skip
        subst hkd
        obtain rfl : bl = false := by
          cases bl with
          | false => rfl
          | true => exact absurd ⟨_, hf, rfl, rfl⟩ hgk
        clear hf hgk
        go_wp2_with (go_at_call 10; refine Hid.out ?_)
        refine Lib.hid ?_
        refine (findS_some s l_k key _ HS.out HF.out).mono ?_
        rintro e wn ⟨rfl, y⟩
        have HS := Lib.hid (HS.out.ext y)
        replace hx := ext_trans hx y
        clear y
        have y := ext_alloc wn (.cells #[.int .i64 i, .bool false, .int .u8 2, .bool af, .bool be, .int .i64 gr] 32)
        have hb := heap_alloc_new wn (.cells #[.int .i64 i, .bool false, .int .u8 2, .bool af, .bool be, .int .i64 gr] 32)
        have HS := Lib.hid (HS.out.ext y)
        replace hx := ext_trans hx y
        have BK := Lib.hid hb
        clear y hb
        go_wp2_with (go_at_call 11; refine Hid.out ?_)
        refine Lib.hid ?_
        refine (step_any s l_k A_a n_a c_a l_a key b _ N_a.out (r_a.ext hx) (by omega) C1.out C2.out HS.out HL.out).mono ?_
        rintro e wn ⟨r, er, A_r, c_r, rfl, hst, -, -, y⟩
        have HS := Lib.hid (HS.out.ext y)
        have BK := Lib.hid ((y.block _ (lt_of_some BK.out)).trans BK.out)
        replace hx := ext_trans hx y
        have hr := hst S_a.out
        obtain ⟨q1, q2⟩ := step_bad (l := l_k) (key := key) (b := b) (s := l_a) NG.out
        rw [← hr] at q1 q2
        simp only at q1 q2
        subst q1
        have he : (er != 0) = true := by rcases q2 with h | h <;> (rw [h]; rfl)
        have he2 : (er == 0) = false := by rcases q2 with h | h <;> (rw [h]; rfl)
        obtain ⟨k0, k1, k2, k3, k4, k5⟩ := box_ky BK.out
        clear hst hr q2
        clear y
        go_wp2_with (go_at_call 8; refine Hid.out ?_)
        refine Lib.hid ?_
        refine (known14_any _).mono ?_
        rintro e w2 ⟨rfl, y⟩
        replace hx := ext_trans hx y
        go_wp2_with (fail)
        go_ret
        exact ⟨rfl, hx⟩
      · skip
        have hkb : (kd == 2) = false := beq_eq_false_iff_ne.2 hkd
        have hkb2 : (kd != 2) = true := by rw [bne_iff_ne]; exact hkd
        clear hf hgk hkd
        go_wp2_with (go_at_call 10; refine Hid.out ?_)
        refine Lib.hid ?_
        refine (findS_some s l_k key _ HS.out HF.out).mono ?_
        rintro e wn ⟨rfl, y⟩
        have HS := Lib.hid (HS.out.ext y)
        replace hx := ext_trans hx y
        clear y
        have y := ext_alloc wn (.cells #[.int .i64 i, .bool bl, .int .u8 kd, .bool af, .bool be, .int .i64 gr] 32)
        have hb := heap_alloc_new wn (.cells #[.int .i64 i, .bool bl, .int .u8 kd, .bool af, .bool be, .int .i64 gr] 32)
        have HS := Lib.hid (HS.out.ext y)
        replace hx := ext_trans hx y
        have BK := Lib.hid hb
        clear y hb
        go_wp2_with (go_at_call 11; refine Hid.out ?_)
        refine Lib.hid ?_
        refine (step_any s l_k A_a n_a c_a l_a key b _ N_a.out (r_a.ext hx) (by omega) C1.out C2.out HS.out HL.out).mono ?_
        rintro e wn ⟨r, er, A_r, c_r, rfl, hst, -, -, y⟩
        have HS := Lib.hid (HS.out.ext y)
        have BK := Lib.hid ((y.block _ (lt_of_some BK.out)).trans BK.out)
        replace hx := ext_trans hx y
        have hr := hst S_a.out
        obtain ⟨q1, q2⟩ := step_bad (l := l_k) (key := key) (b := b) (s := l_a) NG.out
        rw [← hr] at q1 q2
        simp only at q1 q2
        subst q1
        have he : (er != 0) = true := by rcases q2 with h | h <;> (rw [h]; rfl)
        have he2 : (er == 0) = false := by rcases q2 with h | h <;> (rw [h]; rfl)
        obtain ⟨k0, k1, k2, k3, k4, k5⟩ := box_ky BK.out
        clear hst hr q2
        clear y
        go_wp2_with (go_at_call 8; refine Hid.out ?_)
        refine Lib.hid ?_
        refine (known14_any _).mono ?_
        rintro e w2 ⟨rfl, y⟩
        replace hx := ext_trans hx y
        go_wp2_with (fail)
        go_ret
        exact ⟨rfl, hx⟩
  have GK := Lib.hid hgk
  obtain ⟨⟨i, bl, kd, af, be, gr⟩, hf, hk1, hk2⟩ := hgk
  simp only at hk1 hk2
  subst hk1 hk2
  have HF := Lib.hid hf
  clear hf
  go_wp2_with (go_at_call 10; refine Hid.out ?_)
  refine Lib.hid ?_
  refine (findS_some s l_k key _ HS.out HF.out).mono ?_
  rintro e wn ⟨rfl, y⟩
  have HS := Lib.hid (HS.out.ext y)
  replace hx := ext_trans hx y
  clear y
  have y := ext_alloc wn (.cells #[.int .i64 i, .bool true, .int .u8 2, .bool af, .bool be, .int .i64 gr] 32)
  have hb := heap_alloc_new wn (.cells #[.int .i64 i, .bool true, .int .u8 2, .bool af, .bool be, .int .i64 gr] 32)
  have HS := Lib.hid (HS.out.ext y)
  replace hx := ext_trans hx y
  have BK := Lib.hid hb
  clear y hb
  go_wp2_with (go_at_call 11; refine Hid.out ?_)
  refine Lib.hid ?_
  refine (step_any s l_k A_a n_a c_a l_a key b _ N_a.out (r_a.ext hx) (by omega) C1.out C2.out HS.out HL.out).mono ?_
  rintro e wn ⟨r, er, A_r, c_r, rfl, hst, hlr, ho, y⟩
  have HS := Lib.hid (HS.out.ext y)
  have BK := Lib.hid ((y.block _ (lt_of_some BK.out)).trans BK.out)
  replace hx := ext_trans hx y
  have hr := hst S_a.out
  have hr2 : er = 0 := by have := congrArg Prod.snd hr; rw [stepP_good GK.out] at this; exact this
  subst hr2
  have RE : Hid (applyP r l_a = applyP (stepQ l_k key (stepN l_a key b)) l_a) := Lib.hid (by have := congrArg Prod.fst hr; rw [show r = (stepP l_k l_a key b).1 from this]; exact step_now GK.out)
  have R_r := Lib.hid (ho.rd Ch.enc_len)
  obtain ⟨n_r, hn⟩ : ∃ n, n = r.length := ⟨_, rfl⟩
  rw [← hn] at hlr ⊢
  have N_r := Lib.hid hn
  obtain ⟨S, hS⟩ : ∃ X, applyP (stepQ l_k key (stepN l_a key b)) l_a = X := ⟨_, rfl⟩
  rw [hS] at RE
  have hSr : riseA S = true := by rw [← hS]; exact apply_rise (stepQ_rise _ _ _) S_a.out
  have S_s := Lib.hid hSr
  obtain ⟨n, m0, m8, hge⟩ := step_get (l := l_k) (key := key) (b := b) (s := l_a) GK.out S_a.out
  have hz := step_zero (l := l_k) (key := key) (b := b) (s := l_a) GK.out S_a.out
  rw [hS] at hge hz
  have HGE := Lib.hid hge
  have HZ := Lib.hid hz
  have hSl : S.length ≤ 165 := by rw [← RE.out]; have := apply_len_any r l_a; have := N_r.out; have := N_a.out; omega
  obtain ⟨k0, k1, k2, k3, k4, k5⟩ := box_ky BK.out
  clear hst hr ho hn hS hSr hge hz
  clear y
  go_wp2_with (go_at_call 12; refine Hid.out ?_)
  refine Lib.hid ?_
  clear k0 k1 k2 k3 k4 k5
  refine (apply_any A_a A_r n_a n_r c_a c_r l_a r _ N_a.out N_r.out (r_a.ext hx) R_r.out (by omega) (by omega) C1.out C2.out).mono ?_
  rintro e wn ⟨A_s, c_s, rfl, ho, y⟩
  have HS := Lib.hid (HS.out.ext y)
  have BK := Lib.hid ((y.block _ (lt_of_some BK.out)).trans BK.out)
  have R_r := Lib.hid (R_r.out.ext y)
  replace hx := ext_trans hx y
  rw [RE.out] at ho ⊢
  have hcap := ho.cap
  obtain ⟨n_s, hn⟩ : ∃ n, n = S.length := ⟨_, rfl⟩
  rw [← hn] at hcap hSl ⊢
  have N_s := Lib.hid hn
  have R_s := Lib.hid (ho.rd At.enc_len)
  have C3 := Lib.hid hcap
  clear ho hn hcap y
  by_cases hn0 : n = 0
  · skip
    have GN : Hid (getA S key = none) := Lib.hid (by rw [HGE.out, if_pos hn0])
    clear hn0
    go_wp2_with (go_at_call 13; refine Hid.out ?_)
    refine Lib.hid ?_
    refine (get05_none A_s n_s c_s S key _ N_s.out R_s.out (by omega) GN.out).mono ?_
    rintro e wn ⟨rfl, y⟩
    have HS := Lib.hid (HS.out.ext y)
    have R_r := Lib.hid (R_r.out.ext y)
    have R_s := Lib.hid (R_s.out.ext y)
    replace hx := ext_trans hx y
    clear y
    have y := ext_alloc wn (.cells #[.int .u8 0, .int .i64 0, .int .u64 0, .string ⟨#[]⟩] 41)
    have hb := heap_alloc_new wn (.cells #[.int .u8 0, .int .i64 0, .int .u64 0, .string ⟨#[]⟩] 41)
    have HS := Lib.hid (HS.out.ext y)
    have R_r := Lib.hid (R_r.out.ext y)
    have R_s := Lib.hid (R_s.out.ext y)
    replace hx := ext_trans hx y
    have BV := Lib.hid hb
    clear y hb
    obtain ⟨p0, p1, p2, p3⟩ := box_v BV.out
    go_wp2_with (go_at_call 11; refine Hid.out ?_)
    refine Lib.hid ?_
    clear p0 p1 p2 p3
    refine (step_any s l_k A_s n_s c_s S key 0 _ N_s.out R_s.out (by omega) C3.out.1 (by unfold maxLen; exact C3.out.2) HS.out HL.out).mono ?_
    rintro e wn ⟨q, eq, A_q, c_q, rfl, hst, -, -, y⟩
    have HS := Lib.hid (HS.out.ext y)
    have R_r := Lib.hid (R_r.out.ext y)
    have R_s := Lib.hid (R_s.out.ext y)
    replace hx := ext_trans hx y
    have hq := hst S_s.out
    rw [HZ.out] at hq
    injection hq with hq1 hq2
    subst hq1 hq2
    clear hst y
    go_wp2_with (go_at_call 12; refine Hid.out ?_)
    refine Lib.hid ?_
    refine (apply_any A_s A_q n_s 0 c_s c_q S [] _ N_s.out rfl R_s.out Rd.nil (by omega) (by omega) C3.out.1 (by unfold maxLen; exact C3.out.2)).mono ?_
    rintro e wn ⟨A_t, c_t, rfl, ho, y⟩
    have HS := Lib.hid (HS.out.ext y)
    have R_r := Lib.hid (R_r.out.ext y)
    have R_s := Lib.hid (R_s.out.ext y)
    replace hx := ext_trans hx y
    rw [apply_nil'] at ho ⊢
    rw [← N_s.out]
    have R_t := Lib.hid (ho.rd At.enc_len)
    clear ho
    clear y
    go_wp2_with (go_at_call 14; refine Hid.out ?_)
    refine Lib.hid ?_
    refine (sameA_any A_t A_s n_s n_s c_t c_s S S _ N_s.out N_s.out R_t.out R_s.out (by omega) (by omega)).mono ?_
    rintro e wn ⟨rfl, d, hd⟩
    have y := drew_ext hd
    clear hd
    have HS := Lib.hid (HS.out.ext y)
    have R_r := Lib.hid (R_r.out.ext y)
    have R_s := Lib.hid (R_s.out.ext y)
    have R_t := Lib.hid (R_t.out.ext y)
    replace hx := ext_trans hx y
    rw [decide_eq_true rfl]
    clear y
    go_wp2_with (go_at_call 8; refine Hid.out ?_)
    refine Lib.hid ?_
    refine (known14_any _).mono ?_
    rintro e w2 ⟨rfl, y⟩
    replace hx := ext_trans hx y
    go_wp2_with (fail)
    go_ret
    exact ⟨rfl, hx⟩
  · skip
    have GN : Hid (getA S key = some ⟨2, n, 0, ⟨#[]⟩⟩) := Lib.hid (by rw [HGE.out, if_neg hn0])
    have hn1 : 1 ≤ n := by omega
    clear hn0
    go_wp2_with (go_at_call 13; refine Hid.out ?_)
    refine Lib.hid ?_
    refine (get05_some A_s n_s c_s S key _ N_s.out R_s.out (by omega) GN.out).mono ?_
    rintro e wn ⟨rfl, y⟩
    have HS := Lib.hid (HS.out.ext y)
    have R_r := Lib.hid (R_r.out.ext y)
    have R_s := Lib.hid (R_s.out.ext y)
    replace hx := ext_trans hx y
    clear y
    have y := ext_alloc wn (.cells #[.int .u8 2, .int .i64 n, .int .u64 0, .string ⟨#[]⟩] 41)
    have hb := heap_alloc_new wn (.cells #[.int .u8 2, .int .i64 n, .int .u64 0, .string ⟨#[]⟩] 41)
    have HS := Lib.hid (HS.out.ext y)
    have R_r := Lib.hid (R_r.out.ext y)
    have R_s := Lib.hid (R_s.out.ext y)
    replace hx := ext_trans hx y
    have BV := Lib.hid hb
    clear y hb
    obtain ⟨p0, p1, p2, p3⟩ := box_v BV.out
    go_wp2_with (go_at_call 11; refine Hid.out ?_)
    refine Lib.hid ?_
    clear p0 p1 p2 p3
    refine (step_any s l_k A_s n_s c_s S key 0 _ N_s.out R_s.out (by omega) C3.out.1 (by unfold maxLen; exact C3.out.2) HS.out HL.out).mono ?_
    rintro e wn ⟨q, eq, A_q, c_q, rfl, hst, -, -, y⟩
    have HS := Lib.hid (HS.out.ext y)
    have R_r := Lib.hid (R_r.out.ext y)
    have R_s := Lib.hid (R_s.out.ext y)
    replace hx := ext_trans hx y
    have hq := hst S_s.out
    rw [HZ.out] at hq
    injection hq with hq1 hq2
    subst hq1 hq2
    clear hst y
    go_wp2_with (go_at_call 12; refine Hid.out ?_)
    refine Lib.hid ?_
    refine (apply_any A_s A_q n_s 0 c_s c_q S [] _ N_s.out rfl R_s.out Rd.nil (by omega) (by omega) C3.out.1 (by unfold maxLen; exact C3.out.2)).mono ?_
    rintro e wn ⟨A_t, c_t, rfl, ho, y⟩
    have HS := Lib.hid (HS.out.ext y)
    have R_r := Lib.hid (R_r.out.ext y)
    have R_s := Lib.hid (R_s.out.ext y)
    replace hx := ext_trans hx y
    rw [apply_nil'] at ho ⊢
    rw [← N_s.out]
    have R_t := Lib.hid (ho.rd At.enc_len)
    clear ho
    clear y
    go_wp2_with (go_at_call 14; refine Hid.out ?_)
    refine Lib.hid ?_
    refine (sameA_any A_t A_s n_s n_s c_t c_s S S _ N_s.out N_s.out R_t.out R_s.out (by omega) (by omega)).mono ?_
    rintro e wn ⟨rfl, d, hd⟩
    have y := drew_ext hd
    clear hd
    have HS := Lib.hid (HS.out.ext y)
    have R_r := Lib.hid (R_r.out.ext y)
    have R_s := Lib.hid (R_s.out.ext y)
    have R_t := Lib.hid (R_t.out.ext y)
    replace hx := ext_trans hx y
    rw [decide_eq_true rfl]
    clear y
    go_wp2_with (go_at_call 8; refine Hid.out ?_)
    refine Lib.hid ?_
    refine (known14_any _).mono ?_
    rintro e w2 ⟨rfl, y⟩
    replace hx := ext_trans hx y
    go_wp2_with (fail)
    go_ret
    exact ⟨rfl, hx⟩
end Go.Proofs.Ytnhmbocgopjbjaa
