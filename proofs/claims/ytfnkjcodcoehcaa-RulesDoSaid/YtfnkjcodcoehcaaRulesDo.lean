/- The walk of rubriclaw14.RulesDo. -/
import Derived.Test.YtfnkjcodcoehcaaKnown14
import Derived.Test.YtfnkjcodcoehcaaLawKit
import Derived.Test.YtfnkjcodcoehcaaSame06
import Derived.Test.YtfnkjcodcoehcaaRef14
import Derived.Test.YtfnkjcodcoehcaaKeyRowA
namespace Go.Proofs.Ytfnkjcodcoehcaa
open Go.RowKit
set_option linter.unusedVariables false
set_option linter.unusedSimpArgs false

set_option maxRecDepth 100000 in
set_option maxHeartbeats 4000000 in
theorem rulesDo_any (A_k A_p A_a A_b : Option Addr) (n_k n_p n_a n_b c_k c_p c_a c_b : Nat) (l_k : List Ky) (l_p : List Ch) (l_a l_b : List At) (key b : Int) (w : World)
    (hnk : n_k = l_k.length) (hnp : n_p = l_p.length) (hna : n_a = l_a.length) (hnb : n_b = l_b.length) (r_k : RdKy w w.heap.size A_k l_k) (r_p : RdCh w w.heap.size A_p l_p) (r_a : RdAt w w.heap.size A_a l_a) (r_b : RdAt w w.heap.size A_b l_b)
    (q_k : n_k ≤ 9223372036854775807) (q_p : n_p ≤ 9223372036854775807) (q_a : n_a ≤ 9223372036854775807) (q_b : n_b ≤ 9223372036854775807) (hca : n_a ≤ c_a) (hcm : c_a ≤ maxLen) :
    Calls Try.prog 3 #[.slice A_k n_k c_k, .slice A_p n_p c_p, .slice A_a n_a c_a, .slice A_b n_b c_b, .int .i64 key, .int .i64 b] w fun e w' => e = .returned (.bool true) ∧ Below w.heap.size w w' := by
  have N_k := Lib.hid hnk
  have N_p := Lib.hid hnp
  have N_a := Lib.hid hna
  have N_b := Lib.hid hnb
  have C1 := Lib.hid hca
  have C2 := Lib.hid hcm
  have hx := ext_alloc w (.cells #[.slice A_a n_a c_a, .slice A_b n_b c_b] 24)
  have rx : Rd SlN.enc 1 _ _ _ [⟨A_a, n_a, c_a⟩, ⟨A_b, n_b, c_b⟩] := Rd.new SlN.enc_len w 24 [⟨A_a, n_a, c_a⟩, ⟨A_b, n_b, c_b⟩] (cs := #[.slice A_a n_a c_a, .slice A_b n_b c_b]) rfl rfl
  clear hnk hnp hna hnb hca hcm
  go_enter Try.func3, Try.ntmps3
  go_wp2_with (go_at_call 4; refine Hid.out ?_)
  refine Lib.hid ?_
  refine (great14_any A_k A_p _ n_k c_k n_p c_p 2 2 [⟨A_a, n_a, c_a⟩, ⟨A_b, n_b, c_b⟩] _ rfl q_k q_p (by simp [q_a, q_b]) rx (by omega)).mono ?_
  rintro e v ⟨g, rfl, hgr, rfl⟩
  clear rx
  cases g
  case true =>
    go_wp2_with (go_at_call 5; refine Hid.out ?_)
    refine Lib.hid ?_
    refine (known14_any _).mono ?_
    rintro e w2 ⟨rfl, y⟩
    replace hx := ext_trans hx y
    go_wp2_with (fail)
    go_ret
    exact ⟨rfl, hx⟩
  obtain ⟨g1, g5, g2⟩ := hgr rfl
  have g3 : n_a ≤ 100 := g2 ⟨A_a, n_a, c_a⟩ (by simp)
  have g4 : n_b ≤ 100 := g2 ⟨A_b, n_b, c_b⟩ (by simp)
  clear g2 hgr
  go_wp2_with (go_at_call 6; refine Hid.out ?_)
  refine Lib.hid ?_
  refine (new_any A_k n_k c_k l_k _ N_k.out (r_k.ext hx) (by omega)).mono ?_
  rintro e wn ⟨y, ⟨hm, s, rfl, hS⟩ | ⟨hm, rfl⟩⟩
  all_goals replace hx := ext_trans hx y
  rotate_left
  · skip
    have HM := Lib.hid hm
    clear hm y
    go_wp2_with (go_at_call 7; refine Hid.out ?_)
    refine Lib.hid ?_
    refine (mayR4_any A_k n_k c_k l_k _ N_k.out (r_k.ext hx) (by omega)).mono ?_
    rintro e wn ⟨rfl, y⟩
    replace hx := ext_trans hx y
    rw [HM.out]
    clear y
    go_wp2_with (go_at_call 5; refine Hid.out ?_)
    refine Lib.hid ?_
    refine (known14_any _).mono ?_
    rintro e w2 ⟨rfl, y⟩
    replace hx := ext_trans hx y
    go_wp2_with (fail)
    go_ret
    exact ⟨rfl, hx⟩
  have HS := Lib.hid hS
  have HM := Lib.hid hm
  have HL : Hid (l_k.length ≤ 64) := Lib.hid (by have := N_k.out; omega)
  clear hS hm y
  go_wp2_with (go_at_call 8; refine Hid.out ?_)
  refine Lib.hid ?_
  refine (risingC_any A_p n_p c_p l_p _ N_p.out (r_p.ext hx) (by omega)).mono ?_
  rintro e wn ⟨rfl, d, hd⟩
  have y := drew_ext hd
  clear hd
  have HS := Lib.hid (HS.out.ext y)
  replace hx := ext_trans hx y
  clear y
  obtain ⟨bp, hbp⟩ : ∃ X, riseC l_p = X := ⟨_, rfl⟩
  rw [hbp]
  have S_p := Lib.hid hbp
  clear hbp
  cases bp
  case false =>
    go_wp2_with (go_at_call 10; refine Hid.out ?_)
    refine Lib.hid ?_
    refine (complete_any s l_k A_p n_p c_p l_p _ N_p.out (r_p.ext hx) (by omega) HS.out HL.out).mono ?_
    rintro e wn ⟨x, f, A_x, c_x, rfl, -, -, -, y⟩
    have HS := Lib.hid (HS.out.ext y)
    replace hx := ext_trans hx y
    clear y
    go_wp2_with (go_at_call 11; refine Hid.out ?_)
    refine Lib.hid ?_
    refine (split_any s l_k A_a n_a c_a l_a _ N_a.out (r_a.ext hx) (by omega) HS.out).mono ?_
    rintro e wn ⟨A_y, c_y, rfl, -, y⟩
    have HS := Lib.hid (HS.out.ext y)
    replace hx := ext_trans hx y
    clear y
    go_wp2_with (go_at_call 12; refine Hid.out ?_)
    refine Lib.hid ?_
    refine (typed_any s l_k A_a A_b n_a n_b c_a c_b l_a l_b _ N_a.out N_b.out (r_a.ext hx) (r_b.ext hx) (by omega) (by omega) HS.out).mono ?_
    rintro e wn ⟨l_z, -, -, A_z, c_z, rfl, -, y⟩
    have HS := Lib.hid (HS.out.ext y)
    replace hx := ext_trans hx y
    clear y
    go_wp2_with (go_at_call 13; refine Hid.out ?_)
    refine Lib.hid ?_
    refine (step_any s l_k A_a n_a c_a l_a key b _ N_a.out (r_a.ext hx) (by omega) C1.out C2.out HS.out HL.out).mono ?_
    rintro e wn ⟨r, er, A_r, c_r, rfl, -, -, -, y⟩
    have HS := Lib.hid (HS.out.ext y)
    replace hx := ext_trans hx y
    clear y
    go_wp2_with (go_at_call 5; refine Hid.out ?_)
    refine Lib.hid ?_
    refine (known14_any _).mono ?_
    rintro e w2 ⟨rfl, y⟩
    replace hx := ext_trans hx y
    go_wp2_with (fail)
    go_ret
    exact ⟨rfl, hx⟩
  go_wp2_with (go_at_call 9; refine Hid.out ?_)
  refine Lib.hid ?_
  refine (risingA_any A_a n_a c_a l_a _ N_a.out (r_a.ext hx) (by omega)).mono ?_
  rintro e wn ⟨rfl, d, hd⟩
  have y := drew_ext hd
  clear hd
  have HS := Lib.hid (HS.out.ext y)
  replace hx := ext_trans hx y
  clear y
  obtain ⟨ba, hba⟩ : ∃ X, riseA l_a = X := ⟨_, rfl⟩
  rw [hba]
  have S_a := Lib.hid hba
  clear hba
  cases ba
  case false =>
    go_wp2_with (go_at_call 10; refine Hid.out ?_)
    refine Lib.hid ?_
    refine (complete_any s l_k A_p n_p c_p l_p _ N_p.out (r_p.ext hx) (by omega) HS.out HL.out).mono ?_
    rintro e wn ⟨x, f, A_x, c_x, rfl, -, -, -, y⟩
    have HS := Lib.hid (HS.out.ext y)
    replace hx := ext_trans hx y
    clear y
    go_wp2_with (go_at_call 11; refine Hid.out ?_)
    refine Lib.hid ?_
    refine (split_any s l_k A_a n_a c_a l_a _ N_a.out (r_a.ext hx) (by omega) HS.out).mono ?_
    rintro e wn ⟨A_y, c_y, rfl, -, y⟩
    have HS := Lib.hid (HS.out.ext y)
    replace hx := ext_trans hx y
    clear y
    go_wp2_with (go_at_call 12; refine Hid.out ?_)
    refine Lib.hid ?_
    refine (typed_any s l_k A_a A_b n_a n_b c_a c_b l_a l_b _ N_a.out N_b.out (r_a.ext hx) (r_b.ext hx) (by omega) (by omega) HS.out).mono ?_
    rintro e wn ⟨l_z, -, -, A_z, c_z, rfl, -, y⟩
    have HS := Lib.hid (HS.out.ext y)
    replace hx := ext_trans hx y
    clear y
    go_wp2_with (go_at_call 13; refine Hid.out ?_)
    refine Lib.hid ?_
    refine (step_any s l_k A_a n_a c_a l_a key b _ N_a.out (r_a.ext hx) (by omega) C1.out C2.out HS.out HL.out).mono ?_
    rintro e wn ⟨r, er, A_r, c_r, rfl, -, -, -, y⟩
    have HS := Lib.hid (HS.out.ext y)
    replace hx := ext_trans hx y
    clear y
    go_wp2_with (go_at_call 5; refine Hid.out ?_)
    refine Lib.hid ?_
    refine (known14_any _).mono ?_
    rintro e w2 ⟨rfl, y⟩
    replace hx := ext_trans hx y
    go_wp2_with (fail)
    go_ret
    exact ⟨rfl, hx⟩
  go_wp2_with (go_at_call 9; refine Hid.out ?_)
  refine Lib.hid ?_
  refine (risingA_any A_b n_b c_b l_b _ N_b.out (r_b.ext hx) (by omega)).mono ?_
  rintro e wn ⟨rfl, d, hd⟩
  have y := drew_ext hd
  clear hd
  have HS := Lib.hid (HS.out.ext y)
  replace hx := ext_trans hx y
  clear y
  obtain ⟨bb, hbb⟩ : ∃ X, riseA l_b = X := ⟨_, rfl⟩
  rw [hbb]
  have S_b := Lib.hid hbb
  clear hbb
  cases bb
  case false =>
    go_wp2_with (go_at_call 10; refine Hid.out ?_)
    refine Lib.hid ?_
    refine (complete_any s l_k A_p n_p c_p l_p _ N_p.out (r_p.ext hx) (by omega) HS.out HL.out).mono ?_
    rintro e wn ⟨x, f, A_x, c_x, rfl, -, -, -, y⟩
    have HS := Lib.hid (HS.out.ext y)
    replace hx := ext_trans hx y
    clear y
    go_wp2_with (go_at_call 11; refine Hid.out ?_)
    refine Lib.hid ?_
    refine (split_any s l_k A_a n_a c_a l_a _ N_a.out (r_a.ext hx) (by omega) HS.out).mono ?_
    rintro e wn ⟨A_y, c_y, rfl, -, y⟩
    have HS := Lib.hid (HS.out.ext y)
    replace hx := ext_trans hx y
    clear y
    go_wp2_with (go_at_call 12; refine Hid.out ?_)
    refine Lib.hid ?_
    refine (typed_any s l_k A_a A_b n_a n_b c_a c_b l_a l_b _ N_a.out N_b.out (r_a.ext hx) (r_b.ext hx) (by omega) (by omega) HS.out).mono ?_
    rintro e wn ⟨l_z, -, -, A_z, c_z, rfl, -, y⟩
    have HS := Lib.hid (HS.out.ext y)
    replace hx := ext_trans hx y
    clear y
    go_wp2_with (go_at_call 13; refine Hid.out ?_)
    refine Lib.hid ?_
    refine (step_any s l_k A_a n_a c_a l_a key b _ N_a.out (r_a.ext hx) (by omega) C1.out C2.out HS.out HL.out).mono ?_
    rintro e wn ⟨r, er, A_r, c_r, rfl, -, -, -, y⟩
    have HS := Lib.hid (HS.out.ext y)
    replace hx := ext_trans hx y
    clear y
    go_wp2_with (go_at_call 5; refine Hid.out ?_)
    refine Lib.hid ?_
    refine (known14_any _).mono ?_
    rintro e w2 ⟨rfl, y⟩
    replace hx := ext_trans hx y
    go_wp2_with (fail)
    go_ret
    exact ⟨rfl, hx⟩
  go_wp2_with (first
      | (at_builtin; refine app_ch (l := []) (m := l_p) rfl (.tmp 76) (.tmp 77) rfl rfl (by exact Ow.empty _ wn.heap.size _) _ _ _ _ rfl N_p.out (by exact (r_p.ext (ext_trans hx (ext_alloc wn _)))) (by have := N_p.out; simp only [List.length_nil]; omega) (by simp) ?_; intro vq wq hoq gq hvq; have yq : Hid (Below wn.heap.size wn wq) := Lib.hid ((ext_alloc wn _).grown gq (by simp) (fun k hk => by cases hk)); replace hoq := Lib.hid hoq; clear gq hvq)
      | (at_builtin; refine app_at (l := []) (m := l_a) rfl (.tmp 79) (.tmp 80) rfl rfl (by exact Ow.empty _ wq.heap.size _) _ _ _ _ rfl N_a.out (by exact (r_a.ext (ext_trans hx (ext_trans yq.out (ext_alloc wq _))))) (by have := N_a.out; simp only [List.length_nil]; omega) (by simp) ?_; intro vc wc hoc gc hvc; have yc : Hid (Below wq.heap.size wq wc) := Lib.hid ((ext_alloc wq _).grown gc (by simp) (fun k hk => by cases hk)); replace hoc := Lib.hid hoc; clear gc hvc)
      | (at_builtin; refine app_at (l := []) (m := l_b) rfl (.tmp 82) (.tmp 83) rfl rfl (by exact Ow.empty _ wc.heap.size _) _ _ _ _ rfl N_b.out (by exact (r_b.ext (ext_trans hx (ext_trans yq.out (ext_trans yc.out (ext_alloc wc _)))))) (by have := N_b.out; simp only [List.length_nil]; omega) (by simp) ?_; intro vd wd hod gd hvd; have yd : Hid (Below wc.heap.size wc wd) := Lib.hid ((ext_alloc wc _).grown gd (by simp) (fun k hk => by cases hk)); replace hod := Lib.hid hod; clear gd hvd))
  have y := ext_trans yq.out (ext_trans yc.out yd.out)
  have HS := Lib.hid (HS.out.ext y)
  replace hx := ext_trans hx y
  have z1 := ext_trans yc.out yd.out
  have z2 := yd.out
  have h1 := hoq.out
  rw [List.nil_append] at h1
  obtain ⟨A_q, c_q, rfl, -, -⟩ := h1.form
  have hcap := h1.cap
  rw [← N_p.out] at h1 hcap ⊢
  have R_q := Lib.hid ((h1.below z1 (Nat.le_refl _)).rd Ch.enc_len)
  have CP_q := Lib.hid hcap
  clear h1 hcap hoq
  have h1 := hoc.out
  rw [List.nil_append] at h1
  obtain ⟨A_c, c_c, rfl, -, -⟩ := h1.form
  have hcap := h1.cap
  rw [← N_a.out] at h1 hcap ⊢
  have R_c := Lib.hid ((h1.below z2 (Nat.le_refl _)).rd At.enc_len)
  have CP_c := Lib.hid hcap
  clear h1 hcap hoc
  have h1 := hod.out
  rw [List.nil_append] at h1
  obtain ⟨A_d, c_d, rfl, -, -⟩ := h1.form
  have hcap := h1.cap
  rw [← N_b.out] at h1 hcap ⊢
  have R_d := Lib.hid (h1.rd At.enc_len)
  have CP_d := Lib.hid hcap
  clear h1 hcap hod
  clear y z1 z2 yq yc yd
  obtain ⟨wn, hwn⟩ : ∃ X, X = wd := ⟨_, rfl⟩
  subst hwn
  obtain ⟨wm, hwm⟩ : ∃ X, X = wn := ⟨_, rfl⟩
  have YM : Hid (Below wm.heap.size wm wn) := Lib.hid (by rw [hwm]; exact Below.refl _ _)
  have hm0 := hx
  rw [← hwm] at hm0
  have HX := Lib.hid hm0
  have M_q := R_q
  rw [← hwm] at M_q
  have M_c := R_c
  rw [← hwm] at M_c
  have M_d := R_d
  rw [← hwm] at M_d
  have WM := Lib.hid hwm
  clear hwm hm0
  go_wp2_with (go_at_call 10; refine Hid.out ?_)
  refine Lib.hid ?_
  refine (complete_any s l_k A_q n_p c_q l_p _ N_p.out R_q.out (by omega) HS.out HL.out).mono ?_
  rintro e wn ⟨x, f, A_x, c_x, rfl, hcx, hlx, ho, y⟩
  have YB := Lib.hid YM.out.size
  have HS := Lib.hid (HS.out.ext y)
  have R_q := Lib.hid (R_q.out.ext y)
  have R_c := Lib.hid (R_c.out.ext y)
  have R_d := Lib.hid (R_d.out.ext y)
  replace hx := ext_trans hx y
  have YM := Lib.hid (ext_trans YM.out y)
  have CX := Lib.hid (complOut_is (hcx S_p.out))
  have KX := Lib.hid (KeyRow.of Ch.enc_len ch_head (ho.base_le (B := wm.heap.size) YB.out) rfl)
  have R_x := Lib.hid (ho.rd Ch.enc_len)
  obtain ⟨n_x, hn⟩ : ∃ n, n = x.length := ⟨_, rfl⟩
  rw [← hn] at hlx KX ⊢
  have N_x := Lib.hid hn
  have LX : Hid (n_x ≤ 100000) := Lib.hid (by have := N_p.out; omega)
  clear hcx ho hn hlx
  clear y
  go_wp2_with (go_at_call 14; refine Hid.out ?_)
  refine Lib.hid ?_
  refine (compl14_any A_k n_k c_k l_k A_p n_p c_p l_p _ N_k.out (r_k.ext hx) (by omega) N_p.out (r_p.ext hx) (by omega) HM.out).mono ?_
  rintro e wn ⟨y1, g, A_y, c_y, rfl, hcy, hly, ho, y⟩
  have HS := Lib.hid (HS.out.ext y)
  have R_q := Lib.hid (R_q.out.ext y)
  have R_c := Lib.hid (R_c.out.ext y)
  have R_d := Lib.hid (R_d.out.ext y)
  have R_x := Lib.hid (R_x.out.ext y)
  replace hx := ext_trans hx y
  have YM := Lib.hid (ext_trans YM.out y)
  have KX := Lib.hid (KX.out.below y)
  have hc2 := complOut_is (hcy S_p.out)
  rw [← CX.out] at hc2
  injection hc2 with hc3 hc4
  subst hc3 hc4
  have R_y := Lib.hid (ho.rd Ch.enc_len)
  rw [← N_x.out]
  clear hcy ho hly
  clear y
  go_wp2_with (go_at_call 13; refine Hid.out ?_)
  refine Lib.hid ?_
  refine (step_any s l_k A_c n_a c_c l_a key b _ N_a.out R_c.out (by omega) CP_c.out.1 CP_c.out.2 HS.out HL.out).mono ?_
  rintro e wn ⟨u, h, A_u, c_u, rfl, hst, hlu, ho, y⟩
  have HS := Lib.hid (HS.out.ext y)
  have R_q := Lib.hid (R_q.out.ext y)
  have R_c := Lib.hid (R_c.out.ext y)
  have R_d := Lib.hid (R_d.out.ext y)
  have R_x := Lib.hid (R_x.out.ext y)
  have R_y := Lib.hid (R_y.out.ext y)
  replace hx := ext_trans hx y
  have YM := Lib.hid (ext_trans YM.out y)
  have KX := Lib.hid (KX.out.below y)
  have ST := Lib.hid (hst S_a.out)
  have R_u := Lib.hid (ho.rd Ch.enc_len)
  obtain ⟨n_u, hn⟩ : ∃ n, n = u.length := ⟨_, rfl⟩
  rw [← hn] at hlu ⊢
  have N_u := Lib.hid hn
  clear hst ho hn
  clear y
  go_wp2_with (go_at_call 15; refine Hid.out ?_)
  refine Lib.hid ?_
  refine (step14_any A_k n_k c_k l_k A_a n_a c_a l_a key b _ N_k.out (r_k.ext hx) (by omega) N_a.out (r_a.ext hx) (by omega) HM.out S_a.out).mono ?_
  rintro e wn ⟨v, i, A_v, c_v, rfl, hst, hlv, ho, y⟩
  have HS := Lib.hid (HS.out.ext y)
  have R_q := Lib.hid (R_q.out.ext y)
  have R_c := Lib.hid (R_c.out.ext y)
  have R_d := Lib.hid (R_d.out.ext y)
  have R_x := Lib.hid (R_x.out.ext y)
  have R_y := Lib.hid (R_y.out.ext y)
  have R_u := Lib.hid (R_u.out.ext y)
  replace hx := ext_trans hx y
  have YM := Lib.hid (ext_trans YM.out y)
  have KX := Lib.hid (KX.out.below y)
  rw [← ST.out] at hst
  injection hst with hc3 hc4
  subst hc3 hc4
  have R_v := Lib.hid (ho.rd Ch.enc_len)
  rw [← N_u.out]
  clear ho hlv
  clear y
  have hne1 : (g != g) = false := bne_self_eq_false _
  have hne2 : (i != i) = false := bne_self_eq_false _
  go_wp2_with (go_at_call 16; refine Hid.out ?_)
  refine Lib.hid ?_
  refine (sameR6_any A_x A_y n_x n_x c_x c_y y1 y1 _ N_x.out N_x.out R_x.out R_y.out (by have := LX.out; omega) (by have := LX.out; omega)).mono ?_
  rintro e wn ⟨rfl, d, hd⟩
  have y := drew_ext hd
  clear hd
  have HS := Lib.hid (HS.out.ext y)
  have R_q := Lib.hid (R_q.out.ext y)
  have R_c := Lib.hid (R_c.out.ext y)
  have R_d := Lib.hid (R_d.out.ext y)
  have R_x := Lib.hid (R_x.out.ext y)
  have R_y := Lib.hid (R_y.out.ext y)
  have R_u := Lib.hid (R_u.out.ext y)
  have R_v := Lib.hid (R_v.out.ext y)
  replace hx := ext_trans hx y
  have YM := Lib.hid (ext_trans YM.out y)
  have KX := Lib.hid (KX.out.below y)
  rw [decide_eq_true rfl]
  clear y
  go_wp2_with (go_at_call 16; refine Hid.out ?_)
  refine Lib.hid ?_
  refine (sameR6_any A_u A_v n_u n_u c_u c_v v v _ N_u.out N_u.out R_u.out R_v.out (by omega) (by omega)).mono ?_
  rintro e wn ⟨rfl, d, hd⟩
  have y := drew_ext hd
  clear hd
  have HS := Lib.hid (HS.out.ext y)
  have R_q := Lib.hid (R_q.out.ext y)
  have R_c := Lib.hid (R_c.out.ext y)
  have R_d := Lib.hid (R_d.out.ext y)
  have R_x := Lib.hid (R_x.out.ext y)
  have R_y := Lib.hid (R_y.out.ext y)
  have R_u := Lib.hid (R_u.out.ext y)
  have R_v := Lib.hid (R_v.out.ext y)
  replace hx := ext_trans hx y
  have YM := Lib.hid (ext_trans YM.out y)
  have KX := Lib.hid (KX.out.below y)
  rw [decide_eq_true rfl]
  clear y
  clear hlu
  obtain ⟨l_s, hls⟩ : ∃ X, siftP l_k splitK l_a = X := ⟨_, rfl⟩
  have hsl : l_s.length ≤ 100 := by have := sift_len l_k splitK l_a; have := N_a.out; rw [← hls]; omega
  obtain ⟨n_s, hns⟩ : ∃ n, n = l_s.length := ⟨_, rfl⟩
  rw [← hns] at hsl
  have NS := Lib.hid hns
  have LS := Lib.hid hls
  clear hls hns
  go_wp2_with (go_at_call 11; refine Hid.out ?_)
  refine Lib.hid ?_
  refine (split_any s l_k A_c n_a c_c l_a _ N_a.out R_c.out (by omega) HS.out).mono ?_
  rintro e wn ⟨A_s, c_s, rfl, ho, y⟩
  have HS := Lib.hid (HS.out.ext y)
  have R_q := Lib.hid (R_q.out.ext y)
  have R_c := Lib.hid (R_c.out.ext y)
  have R_d := Lib.hid (R_d.out.ext y)
  have R_x := Lib.hid (R_x.out.ext y)
  have R_y := Lib.hid (R_y.out.ext y)
  have R_u := Lib.hid (R_u.out.ext y)
  have R_v := Lib.hid (R_v.out.ext y)
  replace hx := ext_trans hx y
  have YM := Lib.hid (ext_trans YM.out y)
  have KX := Lib.hid (KX.out.below y)
  rw [LS.out] at ho ⊢
  rw [← NS.out]
  have R_s := Lib.hid (ho.rd At.enc_len)
  clear ho
  clear y
  go_wp2_with (go_at_call 18; refine Hid.out ?_)
  refine Lib.hid ?_
  refine (split14S_any A_k n_k c_k l_k A_a n_a c_a l_a _ N_a.out (r_a.ext hx) (by omega) N_k.out (r_k.ext hx) (by omega)).mono ?_
  rintro e wn ⟨A_t, c_t, rfl, ho, y⟩
  have HS := Lib.hid (HS.out.ext y)
  have R_q := Lib.hid (R_q.out.ext y)
  have R_c := Lib.hid (R_c.out.ext y)
  have R_d := Lib.hid (R_d.out.ext y)
  have R_x := Lib.hid (R_x.out.ext y)
  have R_y := Lib.hid (R_y.out.ext y)
  have R_u := Lib.hid (R_u.out.ext y)
  have R_v := Lib.hid (R_v.out.ext y)
  have R_s := Lib.hid (R_s.out.ext y)
  replace hx := ext_trans hx y
  have YM := Lib.hid (ext_trans YM.out y)
  have KX := Lib.hid (KX.out.below y)
  rw [LS.out] at ho ⊢
  rw [← NS.out]
  have R_t := Lib.hid (ho.rd At.enc_len)
  clear ho
  clear y
  go_wp2_with (go_at_call 17; refine Hid.out ?_)
  refine Lib.hid ?_
  refine (sameA_any A_s A_t n_s n_s c_s c_t l_s l_s _ NS.out NS.out R_s.out R_t.out (by omega) (by omega)).mono ?_
  rintro e wn ⟨rfl, d, hd⟩
  have y := drew_ext hd
  clear hd
  have HS := Lib.hid (HS.out.ext y)
  have R_q := Lib.hid (R_q.out.ext y)
  have R_c := Lib.hid (R_c.out.ext y)
  have R_d := Lib.hid (R_d.out.ext y)
  have R_x := Lib.hid (R_x.out.ext y)
  have R_y := Lib.hid (R_y.out.ext y)
  have R_u := Lib.hid (R_u.out.ext y)
  have R_v := Lib.hid (R_v.out.ext y)
  have R_s := Lib.hid (R_s.out.ext y)
  have R_t := Lib.hid (R_t.out.ext y)
  replace hx := ext_trans hx y
  have YM := Lib.hid (ext_trans YM.out y)
  have KX := Lib.hid (KX.out.below y)
  rw [decide_eq_true rfl]
  clear y
  go_wp2_with (go_at_call 12; refine Hid.out ?_)
  refine Lib.hid ?_
  refine (typed_any s l_k A_c A_d n_a n_b c_c c_d l_a l_b _ N_a.out N_b.out R_c.out R_d.out (by omega) (by omega) HS.out).mono ?_
  rintro e wn ⟨l_z, hz, hlz, A_z, c_z, rfl, ho, y⟩
  have HS := Lib.hid (HS.out.ext y)
  have R_q := Lib.hid (R_q.out.ext y)
  have R_c := Lib.hid (R_c.out.ext y)
  have R_d := Lib.hid (R_d.out.ext y)
  have R_x := Lib.hid (R_x.out.ext y)
  have R_y := Lib.hid (R_y.out.ext y)
  have R_u := Lib.hid (R_u.out.ext y)
  have R_v := Lib.hid (R_v.out.ext y)
  have R_s := Lib.hid (R_s.out.ext y)
  have R_t := Lib.hid (R_t.out.ext y)
  replace hx := ext_trans hx y
  have YM := Lib.hid (ext_trans YM.out y)
  have KX := Lib.hid (KX.out.below y)
  have EZ := Lib.hid (hz S_a.out)
  have R_z := Lib.hid (ho.rd At.enc_len)
  obtain ⟨n_z, hn⟩ : ∃ n, n = l_z.length := ⟨_, rfl⟩
  have hlz2 : n_z ≤ 200 := by have := N_a.out; have := N_b.out; omega
  rw [← hn]
  have N_z := Lib.hid hn
  clear hz hlz ho hn
  clear y
  go_wp2_with (go_at_call 19; refine Hid.out ?_)
  refine Lib.hid ?_
  refine (typed14_any A_k n_k c_k l_k A_a A_b n_a n_b c_a c_b l_a l_b _ N_k.out (r_k.ext hx) (by omega) N_a.out N_b.out (r_a.ext hx) (r_b.ext hx) (by omega) (by omega)).mono ?_
  rintro e wn ⟨A_e, c_e, rfl, ho, y⟩
  have HS := Lib.hid (HS.out.ext y)
  have R_q := Lib.hid (R_q.out.ext y)
  have R_c := Lib.hid (R_c.out.ext y)
  have R_d := Lib.hid (R_d.out.ext y)
  have R_x := Lib.hid (R_x.out.ext y)
  have R_y := Lib.hid (R_y.out.ext y)
  have R_u := Lib.hid (R_u.out.ext y)
  have R_v := Lib.hid (R_v.out.ext y)
  have R_s := Lib.hid (R_s.out.ext y)
  have R_t := Lib.hid (R_t.out.ext y)
  have R_z := Lib.hid (R_z.out.ext y)
  replace hx := ext_trans hx y
  have YM := Lib.hid (ext_trans YM.out y)
  have KX := Lib.hid (KX.out.below y)
  rw [typedR_is S_a.out, ← EZ.out] at ho ⊢
  have R_e := Lib.hid (ho.rd At.enc_len)
  rw [← N_z.out]
  clear ho
  clear y
  go_wp2_with (go_at_call 17; refine Hid.out ?_)
  refine Lib.hid ?_
  refine (sameA_any A_z A_e n_z n_z c_z c_e l_z l_z _ N_z.out N_z.out R_z.out R_e.out (by omega) (by omega)).mono ?_
  rintro e wn ⟨rfl, d, hd⟩
  have y := drew_ext hd
  clear hd
  have HS := Lib.hid (HS.out.ext y)
  have R_q := Lib.hid (R_q.out.ext y)
  have R_c := Lib.hid (R_c.out.ext y)
  have R_d := Lib.hid (R_d.out.ext y)
  have R_x := Lib.hid (R_x.out.ext y)
  have R_y := Lib.hid (R_y.out.ext y)
  have R_u := Lib.hid (R_u.out.ext y)
  have R_v := Lib.hid (R_v.out.ext y)
  have R_s := Lib.hid (R_s.out.ext y)
  have R_t := Lib.hid (R_t.out.ext y)
  have R_z := Lib.hid (R_z.out.ext y)
  have R_e := Lib.hid (R_e.out.ext y)
  replace hx := ext_trans hx y
  have YM := Lib.hid (ext_trans YM.out y)
  have KX := Lib.hid (KX.out.below y)
  rw [decide_eq_true rfl]
  clear y
  clear hlz2
  go_wp2_with (fail)
  go_loopg [157] n_x (fun g iv wr => ∃ m : Nat, m ≤ n_x ∧ g = n_x - m ∧ iv = .int .i64 (m : Int) ∧ Hid (KeyRow .i64 6 49 wr wm.heap.size A_x n_x) ∧ Below wm.heap.size wm wr)
  case atStart => exact ⟨0, by omega, rfl, rfl, KX, YM.out⟩
  case round =>
    clear KX YM
    obtain ⟨m, hm, hg, rfl, KX, ym⟩ := hrel
    have HG := Lib.hid hg
    clear hg
    by_cases hlt : m < n_x
    · skip
      obtain ⟨g, cur, k, rfl, hgb, hgc, hck⟩ := KX.out.at_ hlt
      have hth := box_thaw hgc (m * 6)
      have K2 := Lib.hid (KX.out.set hgc m (-2))
      have y2 : Below wm.heap.size wm (wr.setCell ⟨g, m * 6, none⟩ (.int .i64 (-2))) := ym.setCell (p := ⟨g, m * 6, none⟩) hgb _
      have hw2 : IntKind.i64.wrap ((m:Int) + 1) = (m : Int) + 1 := IntWalk.i64_in _ (by have := LX.out; omega)
      go_wp2_with (fail)
      go_roundg (n_x - (m + 1))
      case measure => have := HG.out; omega
      case rel => exact ⟨m + 1, by omega, rfl, by go_num, K2, y2⟩
    · skip
      clear KX HG
      have YM := Lib.hid ym
      have hx := ext_trans HX.out ym
      have R_q := Lib.hid (M_q.out.ext ym)
      have R_c := Lib.hid (M_c.out.ext ym)
      have R_d := Lib.hid (M_d.out.ext ym)
      obtain ⟨wn, hwn⟩ : ∃ X, X = wr := ⟨_, rfl⟩
      subst hwn
      go_wp2_with (go_at_call 16; refine Hid.out ?_)
      refine Lib.hid ?_
      refine (sameR6_any A_q A_p n_p n_p c_q c_p l_p l_p _ N_p.out N_p.out R_q.out (r_p.ext hx) (by omega) (by omega)).mono ?_
      rintro e wn ⟨rfl, d, hd⟩
      have y := drew_ext hd
      clear hd
      have R_q := Lib.hid (R_q.out.ext y)
      have R_c := Lib.hid (R_c.out.ext y)
      have R_d := Lib.hid (R_d.out.ext y)
      replace hx := ext_trans hx y
      rw [decide_eq_true rfl]
      clear y
      go_wp2_with (go_at_call 17; refine Hid.out ?_)
      refine Lib.hid ?_
      refine (sameA_any A_c A_a n_a n_a c_c c_a l_a l_a _ N_a.out N_a.out R_c.out (r_a.ext hx) (by omega) (by omega)).mono ?_
      rintro e wn ⟨rfl, d, hd⟩
      have y := drew_ext hd
      clear hd
      have R_q := Lib.hid (R_q.out.ext y)
      have R_c := Lib.hid (R_c.out.ext y)
      have R_d := Lib.hid (R_d.out.ext y)
      replace hx := ext_trans hx y
      rw [decide_eq_true rfl]
      clear y
      go_wp2_with (go_at_call 17; refine Hid.out ?_)
      refine Lib.hid ?_
      refine (sameA_any A_d A_b n_b n_b c_d c_b l_b l_b _ N_b.out N_b.out R_d.out (r_b.ext hx) (by omega) (by omega)).mono ?_
      rintro e wn ⟨rfl, d, hd⟩
      have y := drew_ext hd
      clear hd
      have R_q := Lib.hid (R_q.out.ext y)
      have R_c := Lib.hid (R_c.out.ext y)
      have R_d := Lib.hid (R_d.out.ext y)
      replace hx := ext_trans hx y
      rw [decide_eq_true rfl]
      clear y
      go_wp2_with (go_at_call 5; refine Hid.out ?_)
      refine Lib.hid ?_
      refine (known14_any _).mono ?_
      rintro e w2 ⟨rfl, y⟩
      replace hx := ext_trans hx y
      go_wp2_with (fail)
      go_ret
      exact ⟨rfl, hx⟩
end Go.Proofs.Ytfnkjcodcoehcaa
