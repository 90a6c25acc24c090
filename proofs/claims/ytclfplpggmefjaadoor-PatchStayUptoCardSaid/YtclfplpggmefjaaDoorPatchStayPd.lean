/- The walk of rubriclaw06.PatchStay: whatever is handed in, within the bound of the second form, it answers true and changes nothing that was there. -/
import Derived.Test.YtclfplpggmefjaaDoorStayLawPd
import Derived.Test.YtclfplpggmefjaaDoorComposePd
import Derived.Test.YtclfplpggmefjaaDoorPk12
import Derived.Test.YtclfplpggmefjaaDoorPk13
namespace Go.Proofs.YtclfplpggmefjaaDoor
open Go.RowKit
set_option linter.unusedVariables false
set_option linter.unusedSimpArgs false

structure SC where
  A : Option Addr
  c : Nat
  l : List Ch
def SC.enc (s : SC) : List Value := [.slice s.A s.l.length s.c]

set_option maxRecDepth 100000 in
set_option maxHeartbeats 4000000 in
theorem patchStay_any (A_k A_a A_b A_p A_q : Option Addr) (n_k n_a n_b n_p n_q c_k c_a c_b c_p c_q : Nat) (l_k : List Ky) (l_a l_b : List At) (l_p l_q : List Ch) (w : World)
    (hnk : n_k = l_k.length) (hna : n_a = l_a.length) (hnb : n_b = l_b.length) (hnp : n_p = l_p.length) (hnq : n_q = l_q.length) (r_k : RdKy w w.heap.size A_k l_k) (r_a : RdAt w w.heap.size A_a l_a) (r_b : RdAt w w.heap.size A_b l_b) (r_p : RdCh w w.heap.size A_p l_p) (r_q : RdCh w w.heap.size A_q l_q)
    (q_k : n_k ≤ 1048576) (q_a : n_a ≤ 1048576) (q_b : n_b ≤ 1048576) (q_p : n_p ≤ 1048576) (q_q : n_q ≤ 1048576) (k_a : n_a ≤ c_a ∧ c_a ≤ maxLen) (k_p : n_p ≤ c_p ∧ c_p ≤ maxLen) (va : okVa l_a) (vb : okVa l_b) (vp : okVs l_p) (vq : okVs l_q) (hT : Lib.Utf8Tabs 1 2 w) :
    Calls Tryd.prog 9 #[.slice A_k n_k c_k, .slice A_a n_a c_a, .slice A_b n_b c_b, .slice A_p n_p c_p, .slice A_q n_q c_q] w fun e w' => e = .returned (.bool true) ∧ Below w.heap.size w w' := by
  have N_k := Lib.hid hnk
  have N_a := Lib.hid hna
  have N_b := Lib.hid hnb
  have N_p := Lib.hid hnp
  have N_q := Lib.hid hnq
  have K_a := Lib.hid k_a
  have K_p := Lib.hid k_p
  have hx := Below.refl w.heap.size w
  clear hnk hna hnb hnp hnq k_a k_p
  by_cases h64 : (64 : Int) < (n_k : Int)
  · go_enter Tryd.func9, Tryd.ntmps9
    go_wp2_with (go_at_call 26; refine Hid.out ?_)
    refine Lib.hid ?_
    refine (known_any _).mono ?_
    rintro e w2 ⟨rfl, y⟩
    replace hx := ext_trans hx y
    go_wp2_with (fail)
    go_ret
    exact ⟨rfl, hx⟩
  go_enter Tryd.func9, Tryd.ntmps9
  go_wp2_with (go_at_call 24; refine Hid.out ?_)
  refine Lib.hid ?_
  have rss : Rd SA.enc 1 _ _ _ ([SA.mk A_a c_a l_a, SA.mk A_b c_b l_b] : List SA) := Rd.new (enc := SA.enc) (size := 1) (fun _ => rfl) w 46 [SA.mk A_a c_a l_a, SA.mk A_b c_b l_b] (cs := #[.slice A_a n_a c_a, .slice A_b n_b c_b]) (by rw [N_a.out, N_b.out]; rfl) rfl
  have y := ext_alloc w (.cells #[.slice A_a n_a c_a, .slice A_b n_b c_b] 46)
  replace hx := ext_trans hx y
  refine (great_any _ _ n_p 2 _ _ l_p _ _ N_p.out rfl (r_p.ext y) rss ?hs ?hsb (by omega) (by omega)).mono ?_
  case hs =>
    intro s hs; simp at hs; rcases hs with rfl | rfl
    · exact r_a.ext y
    · exact r_b.ext y
  case hsb =>
    have e1 := N_a.out
    have e2 := N_b.out
    intro s hs; simp at hs; rcases hs with rfl | rfl <;> simp only <;> omega
  rintro e w1 ⟨g, rfl, rfl⟩
  clear rss y
  generalize World.alloc w _ = w1 at *
  cases g
  case true =>
    go_wp2_with (go_at_call 26; refine Hid.out ?_)
    refine Lib.hid ?_
    refine (known_any _).mono ?_
    rintro e w2 ⟨rfl, y⟩
    replace hx := ext_trans hx y
    go_wp2_with (fail)
    go_ret
    exact ⟨rfl, hx⟩
  go_wp2_with (go_at_call 24; refine Hid.out ?_)
  refine Lib.hid ?_
  refine (great_any A_q none n_q 0 c_q 0 l_q [] _ N_q.out rfl (r_q.ext hx) Rd.nil (by intro s hs; cases hs) (by intro s hs; cases hs) (by omega) (by omega)).mono ?_
  rintro e v ⟨g, rfl, rfl⟩
  cases g
  case true =>
    go_wp2_with (go_at_call 26; refine Hid.out ?_)
    refine Lib.hid ?_
    refine (known_any _).mono ?_
    rintro e w2 ⟨rfl, y⟩
    replace hx := ext_trans hx y
    go_wp2_with (fail)
    go_ret
    exact ⟨rfl, hx⟩
  go_wp2_with (go_at_call 27; refine Hid.out ?_)
  refine Lib.hid ?_
  refine (new_any A_k n_k c_k l_k _ N_k.out (r_k.ext hx) (by omega)).mono ?_
  rintro e v1 ⟨y, ⟨hm, s, rfl, hS⟩ | ⟨hm, rfl⟩⟩
  all_goals
    replace hx := ext_trans hx y
    clear y
  rotate_left
  · skip
    go_wp2_with (go_at_call 26; refine Hid.out ?_)
    refine Lib.hid ?_
    refine (known_any _).mono ?_
    rintro e w2 ⟨rfl, y⟩
    replace hx := ext_trans hx y
    go_wp2_with (fail)
    go_ret
    exact ⟨rfl, hx⟩
  have HS := Lib.hid hS
  have HL := Lib.hid (mayKs_len hm)
  clear hS hm
  go_wp2_with (go_at_call 28; refine Hid.out ?_)
  refine Lib.hid ?_
  refine (mayP_any s l_k A_p n_p c_p l_p _ N_p.out (r_p.ext hx) (by omega) HS.out vp (Utf8Tabs_below hT hx)).mono ?_
  rintro e v2 ⟨rfl, y⟩
  have HS := Lib.hid (HS.out.ext y)
  replace hx := ext_trans hx y
  clear y
  obtain ⟨E, hE⟩ : ∃ X, mayP l_k l_p = X := ⟨_, rfl⟩
  rw [hE]
  by_cases hE0 : E = 0
  rotate_left
  · have hne : (E == 0) = false := beq_eq_false_iff_ne.2 hE0
    clear hE
    go_wp2_with (go_at_call 26; refine Hid.out ?_)
    refine Lib.hid ?_
    refine (known_any _).mono ?_
    rintro e w2 ⟨rfl, y⟩
    replace hx := ext_trans hx y
    go_wp2_with (fail)
    go_ret
    exact ⟨rfl, hx⟩
  subst hE0
  have M_p := Lib.hid hE
  clear hE
  go_wp2_with (go_at_call 28; refine Hid.out ?_)
  refine Lib.hid ?_
  refine (mayP_any s l_k A_q n_q c_q l_q _ N_q.out (r_q.ext hx) (by omega) HS.out vq (Utf8Tabs_below hT hx)).mono ?_
  rintro e v2 ⟨rfl, y⟩
  have HS := Lib.hid (HS.out.ext y)
  replace hx := ext_trans hx y
  clear y
  obtain ⟨E, hE⟩ : ∃ X, mayP l_k l_q = X := ⟨_, rfl⟩
  rw [hE]
  by_cases hE0 : E = 0
  rotate_left
  · have hne : (E == 0) = false := beq_eq_false_iff_ne.2 hE0
    clear hE
    go_wp2_with (go_at_call 26; refine Hid.out ?_)
    refine Lib.hid ?_
    refine (known_any _).mono ?_
    rintro e w2 ⟨rfl, y⟩
    replace hx := ext_trans hx y
    go_wp2_with (fail)
    go_ret
    exact ⟨rfl, hx⟩
  subst hE0
  have M_q := Lib.hid hE
  clear hE
  go_wp2_with (go_at_call 41; refine Hid.out ?_)
  refine Lib.hid ?_
  refine (mayR5_any A_k A_a n_k c_k n_a c_a l_k l_a _ N_k.out (r_k.ext hx) (by omega) N_a.out (r_a.ext hx) (by omega) va (Utf8Tabs_below hT hx)).mono ?_
  rintro e v2 ⟨rfl, y⟩
  have HS := Lib.hid (HS.out.ext y)
  replace hx := ext_trans hx y
  clear y
  obtain ⟨E, hE⟩ : ∃ X, mayS l_k l_a = X := ⟨_, rfl⟩
  rw [hE]
  by_cases hE0 : E = 0
  rotate_left
  · have hne : (E == 0) = false := beq_eq_false_iff_ne.2 hE0
    clear hE
    go_wp2_with (go_at_call 26; refine Hid.out ?_)
    refine Lib.hid ?_
    refine (known_any _).mono ?_
    rintro e w2 ⟨rfl, y⟩
    replace hx := ext_trans hx y
    go_wp2_with (fail)
    go_ret
    exact ⟨rfl, hx⟩
  subst hE0
  have M_a := Lib.hid hE
  clear hE
  go_wp2_with (go_at_call 41; refine Hid.out ?_)
  refine Lib.hid ?_
  refine (mayR5_any A_k A_b n_k c_k n_b c_b l_k l_b _ N_k.out (r_k.ext hx) (by omega) N_b.out (r_b.ext hx) (by omega) vb (Utf8Tabs_below hT hx)).mono ?_
  rintro e v2 ⟨rfl, y⟩
  have HS := Lib.hid (HS.out.ext y)
  replace hx := ext_trans hx y
  clear y
  obtain ⟨E, hE⟩ : ∃ X, mayS l_k l_b = X := ⟨_, rfl⟩
  rw [hE]
  by_cases hE0 : E = 0
  rotate_left
  · have hne : (E == 0) = false := beq_eq_false_iff_ne.2 hE0
    clear hE
    go_wp2_with (go_at_call 26; refine Hid.out ?_)
    refine Lib.hid ?_
    refine (known_any _).mono ?_
    rintro e w2 ⟨rfl, y⟩
    replace hx := ext_trans hx y
    go_wp2_with (fail)
    go_ret
    exact ⟨rfl, hx⟩
  subst hE0
  have M_b := Lib.hid hE
  clear hE
  have S_a := Lib.hid (mayS_zero M_a.out).2.1
  have S_b := Lib.hid (mayS_zero M_b.out).2.1
  have S_p := Lib.hid (mayP_zero M_p.out).2.1
  have S_q := Lib.hid (mayP_zero M_q.out).2.1
  go_wp2_with (go_at_call 42; refine Hid.out ?_)
  refine Lib.hid ?_
  refine (diff_any A_a A_b n_a n_b c_a c_b l_a l_b _ N_a.out N_b.out (r_a.ext hx) (r_b.ext hx) (by omega) (by omega) K_a.out.1 K_a.out.2).mono ?_
  rintro e v2 ⟨A_d, c_d, rfl, ho, y⟩
  have HS := Lib.hid (HS.out.ext y)
  replace hx := ext_trans hx y
  clear y
  have hm : mayP l_k (diffP l_a l_b) = 0 := stay_diff HL.out M_a.out M_b.out
  have hvs : okVs (diffP l_a l_b) := vs_diff S_a.out S_b.out vb
  have hl : (diffP l_a l_b).length ≤ 64 := (mayP_zero hm).1
  obtain ⟨l_d, hl2⟩ : ∃ X, diffP l_a l_b = X := ⟨_, rfl⟩
  rw [hl2] at ho hl hm hvs ⊢
  have M_d := Lib.hid hm
  have V_d := Lib.hid hvs
  have R_d := Lib.hid (ho.rd Ch.enc_len)
  obtain ⟨n_d, hn⟩ : ∃ X, l_d.length = X := ⟨_, rfl⟩
  rw [hn] at hl ⊢
  have N_d := Lib.hid hn.symm
  have Q_d := Lib.hid hl
  clear ho hn hl hl2 hm hvs
  go_wp2_with (go_at_call 43; refine Hid.out ?_)
  refine Lib.hid ?_
  refine (compose_any A_p A_q n_p n_q c_p c_q l_p l_q _ N_p.out N_q.out (r_p.ext hx) (r_q.ext hx) (by omega) (by omega) K_p.out.1 K_p.out.2).mono ?_
  rintro e v2 ⟨A_m, c_m, rfl, ho, y⟩
  have HS := Lib.hid (HS.out.ext y)
  have R_d := Lib.hid (R_d.out.ext y)
  replace hx := ext_trans hx y
  clear y
  have hm : mayP l_k (composeP l_p l_q) = 0 := stay_comp HL.out M_p.out M_q.out
  have hvs : okVs (composeP l_p l_q) := vs_comp S_p.out S_q.out vp vq
  have hl : (composeP l_p l_q).length ≤ 64 := (mayP_zero hm).1
  obtain ⟨l_m, hl2⟩ : ∃ X, composeP l_p l_q = X := ⟨_, rfl⟩
  rw [hl2] at ho hl hm hvs ⊢
  have M_m := Lib.hid hm
  have V_m := Lib.hid hvs
  have R_m := Lib.hid (ho.rd Ch.enc_len)
  obtain ⟨n_m, hn⟩ : ∃ X, l_m.length = X := ⟨_, rfl⟩
  rw [hn] at hl ⊢
  have N_m := Lib.hid hn.symm
  have Q_m := Lib.hid hl
  clear ho hn hl hl2 hm hvs
  go_wp2_with (go_at_call 44; refine Hid.out ?_)
  refine Lib.hid ?_
  refine (invert_any A_a A_p n_a n_p c_a c_p l_a l_p _ S_a.out N_a.out N_p.out (r_a.ext hx) (r_p.ext hx) (by omega) (by omega)).mono ?_
  rintro e v2 ⟨A_i, c_i, rfl, ho, y⟩
  have HS := Lib.hid (HS.out.ext y)
  have R_d := Lib.hid (R_d.out.ext y)
  have R_m := Lib.hid (R_m.out.ext y)
  replace hx := ext_trans hx y
  clear y
  have hm : mayP l_k (invertP l_a l_p) = 0 := stay_inv HL.out M_a.out M_p.out
  have hvs : okVs (invertP l_a l_p) := vs_inv S_p.out va
  have hl : (invertP l_a l_p).length ≤ 64 := (mayP_zero hm).1
  obtain ⟨l_i, hl2⟩ : ∃ X, invertP l_a l_p = X := ⟨_, rfl⟩
  rw [hl2] at ho hl hm hvs ⊢
  have M_i := Lib.hid hm
  have V_i := Lib.hid hvs
  have R_i := Lib.hid (ho.rd Ch.enc_len)
  obtain ⟨n_i, hn⟩ : ∃ X, l_i.length = X := ⟨_, rfl⟩
  rw [hn] at hl ⊢
  have N_i := Lib.hid hn.symm
  have Q_i := Lib.hid hl
  clear ho hn hl hl2 hm hvs
  go_wp2_with (go_at_call 45; refine Hid.out ?_)
  refine Lib.hid ?_
  refine (less_any A_p A_q n_p n_q c_p c_q l_p l_q _ N_p.out N_q.out (r_p.ext hx) (r_q.ext hx) (by omega) (by omega)).mono ?_
  rintro e v2 ⟨A_z, c_z, rfl, ho, y⟩
  have HS := Lib.hid (HS.out.ext y)
  have R_d := Lib.hid (R_d.out.ext y)
  have R_m := Lib.hid (R_m.out.ext y)
  have R_i := Lib.hid (R_i.out.ext y)
  replace hx := ext_trans hx y
  clear y
  have hm : mayP l_k (lessP l_p l_q) = 0 := stay_filter _ M_p.out
  have hvs : okVs (lessP l_p l_q) := vs_filter _ vp
  have hl : (lessP l_p l_q).length ≤ 64 := (mayP_zero hm).1
  obtain ⟨l_z, hl2⟩ : ∃ X, lessP l_p l_q = X := ⟨_, rfl⟩
  rw [hl2] at ho hl hm hvs ⊢
  have M_z := Lib.hid hm
  have V_z := Lib.hid hvs
  have R_z := Lib.hid (ho.rd Ch.enc_len)
  obtain ⟨n_z, hn⟩ : ∃ X, l_z.length = X := ⟨_, rfl⟩
  rw [hn] at hl ⊢
  have N_z := Lib.hid hn.symm
  have Q_z := Lib.hid hl
  clear ho hn hl hl2 hm hvs
  go_wp2_with (go_at_call 29; refine Hid.out ?_)
  refine Lib.hid ?_
  refine (part_any s l_k true A_p n_p c_p l_p _ N_p.out (r_p.ext hx) (by omega) HS.out).mono ?_
  rintro e v2 ⟨A_t, c_t, rfl, ho, y⟩
  have HS := Lib.hid (HS.out.ext y)
  have R_d := Lib.hid (R_d.out.ext y)
  have R_m := Lib.hid (R_m.out.ext y)
  have R_i := Lib.hid (R_i.out.ext y)
  have R_z := Lib.hid (R_z.out.ext y)
  replace hx := ext_trans hx y
  clear y
  have hm : mayP l_k (partP l_k true l_p) = 0 := stay_filter _ M_p.out
  have hvs : okVs (partP l_k true l_p) := vs_filter _ vp
  have hl : (partP l_k true l_p).length ≤ 64 := (mayP_zero hm).1
  obtain ⟨l_t, hl2⟩ : ∃ X, partP l_k true l_p = X := ⟨_, rfl⟩
  rw [hl2] at ho hl hm hvs ⊢
  have M_t := Lib.hid hm
  have V_t := Lib.hid hvs
  have R_t := Lib.hid (ho.rd Ch.enc_len)
  obtain ⟨n_t, hn⟩ : ∃ X, l_t.length = X := ⟨_, rfl⟩
  rw [hn] at hl ⊢
  have N_t := Lib.hid hn.symm
  have Q_t := Lib.hid hl
  clear ho hn hl hl2 hm hvs
  go_wp2_with (go_at_call 29; refine Hid.out ?_)
  refine Lib.hid ?_
  refine (part_any s l_k false A_p n_p c_p l_p _ N_p.out (r_p.ext hx) (by omega) HS.out).mono ?_
  rintro e v2 ⟨A_f, c_f, rfl, ho, y⟩
  have HS := Lib.hid (HS.out.ext y)
  have R_d := Lib.hid (R_d.out.ext y)
  have R_m := Lib.hid (R_m.out.ext y)
  have R_i := Lib.hid (R_i.out.ext y)
  have R_z := Lib.hid (R_z.out.ext y)
  have R_t := Lib.hid (R_t.out.ext y)
  replace hx := ext_trans hx y
  clear y
  have hm : mayP l_k (partP l_k false l_p) = 0 := stay_filter _ M_p.out
  have hvs : okVs (partP l_k false l_p) := vs_filter _ vp
  have hl : (partP l_k false l_p).length ≤ 64 := (mayP_zero hm).1
  obtain ⟨l_f, hl2⟩ : ∃ X, partP l_k false l_p = X := ⟨_, rfl⟩
  rw [hl2] at ho hl hm hvs ⊢
  have M_f := Lib.hid hm
  have V_f := Lib.hid hvs
  have R_f := Lib.hid (ho.rd Ch.enc_len)
  obtain ⟨n_f, hn⟩ : ∃ X, l_f.length = X := ⟨_, rfl⟩
  rw [hn] at hl ⊢
  have N_f := Lib.hid hn.symm
  have Q_f := Lib.hid hl
  clear ho hn hl hl2 hm hvs
  have rss : Rd SC.enc 1 _ _ _ ([SC.mk A_d c_d l_d, SC.mk A_m c_m l_m, SC.mk A_i c_i l_i, SC.mk A_z c_z l_z, SC.mk A_t c_t l_t, SC.mk A_f c_f l_f] : List SC) := Rd.new (enc := SC.enc) (size := 1) (fun _ => rfl) v2 47 [SC.mk A_d c_d l_d, SC.mk A_m c_m l_m, SC.mk A_i c_i l_i, SC.mk A_z c_z l_z, SC.mk A_t c_t l_t, SC.mk A_f c_f l_f] (cs := #[.slice A_d n_d c_d, .slice A_m n_m c_m, .slice A_i n_i c_i, .slice A_z n_z c_z, .slice A_t n_t c_t, .slice A_f n_f c_f]) (by rw [N_d.out, N_m.out, N_i.out, N_z.out, N_t.out, N_f.out]; rfl) rfl
  have y := ext_alloc v2 (.cells #[.slice A_d n_d c_d, .slice A_m n_m c_m, .slice A_i n_i c_i, .slice A_z n_z c_z, .slice A_t n_t c_t, .slice A_f n_f c_f] 47)
  replace hx := ext_trans hx y
  have HS := Lib.hid (HS.out.ext y)
  have HF : Hid (∀ s ∈ ([SC.mk A_d c_d l_d, SC.mk A_m c_m l_m, SC.mk A_i c_i l_i, SC.mk A_z c_z l_z, SC.mk A_t c_t l_t, SC.mk A_f c_f l_f] : List SC), RdCh (v2.alloc (.cells #[.slice A_d n_d c_d, .slice A_m n_m c_m, .slice A_i n_i c_i, .slice A_z n_z c_z, .slice A_t n_t c_t, .slice A_f n_f c_f] 47)) (v2.alloc (.cells #[.slice A_d n_d c_d, .slice A_m n_m c_m, .slice A_i n_i c_i, .slice A_z n_z c_z, .slice A_t n_t c_t, .slice A_f n_f c_f] 47)).heap.size s.A s.l ∧ mayP l_k s.l = 0 ∧ okVs s.l ∧ s.l.length ≤ 64) := Lib.hid (by
    intro s hs
    simp only [List.mem_cons, List.not_mem_nil, or_false] at hs
    rcases hs with rfl | rfl | rfl | rfl | rfl | rfl
    · exact ⟨R_d.out.ext y, M_d.out, V_d.out, by have := N_d.out; have := Q_d.out; simp only; omega⟩
    · exact ⟨R_m.out.ext y, M_m.out, V_m.out, by have := N_m.out; have := Q_m.out; simp only; omega⟩
    · exact ⟨R_i.out.ext y, M_i.out, V_i.out, by have := N_i.out; have := Q_i.out; simp only; omega⟩
    · exact ⟨R_z.out.ext y, M_z.out, V_z.out, by have := N_z.out; have := Q_z.out; simp only; omega⟩
    · exact ⟨R_t.out.ext y, M_t.out, V_t.out, by have := N_t.out; have := Q_t.out; simp only; omega⟩
    · exact ⟨R_f.out.ext y, M_f.out, V_f.out, by have := N_f.out; have := Q_f.out; simp only; omega⟩)
  obtain ⟨ss, hss⟩ : ∃ X : List SC, X = [SC.mk A_d c_d l_d, SC.mk A_m c_m l_m, SC.mk A_i c_i l_i, SC.mk A_z c_z l_z, SC.mk A_t c_t l_t, SC.mk A_f c_f l_f] := ⟨_, rfl⟩
  rw [← hss] at rss HF
  have hsl : ss.length = 6 := by rw [hss]; rfl
  clear hss R_d R_m R_i R_z R_t R_f y
  go_wp2_with (fail)
  generalize World.alloc v2 _ = v3 at *
  generalize (⟨v2.heap.size, 0, none⟩ : Addr) = ad0 at *
  go_loopg [83] 6 (fun g iv wr => ∃ m : Nat, m ≤ 6 ∧ g = 6 - m ∧ iv = .int .i64 (m : Int) ∧ Below v3.heap.size v3 wr)
  case atStart => exact ⟨0, by omega, rfl, rfl, Below.refl _ _⟩
  case round =>
    obtain ⟨m, hm, hg, rfl, yr⟩ := hrel
    have HG := Lib.hid hg
    clear hg
    by_cases hlt : m < 6
    · have hl1 : m < ss.length := by omega
      obtain ⟨ad, sc, had, hab, _, hsj, hc2⟩ := (rss.below yr (Nat.le_refl _)).el hl1
      injection had with had
      subst had
      obtain ⟨f1, f2, f3, f4⟩ := HF.out sc (List.mem_of_getElem? hsj)
      obtain ⟨A3, c3, k⟩ := sc
      simp only at f1 f2 f3 f4
      have q0 : _ = some (Value.slice A3 k.length c3) := hc2 0 _ rfl
      rw [add_zero', Nat.mul_one] at q0
      obtain ⟨n3, hn3⟩ : ∃ n3, n3 = k.length := ⟨_, rfl⟩
      rw [← hn3] at q0 f4
      have N3 := Lib.hid hn3
      have F2 := Lib.hid f2
      clear hn3 hsj hc2 f2
      have hw2 : IntKind.i64.wrap ((m:Int) + 1) = (m : Int) + 1 := IntWalk.i64_in _ (by omega)
      have hm6 : (m : Int) < 6 := by omega
      go_wp2_with (go_at_call 28; refine Hid.out ?_)
      refine Lib.hid ?_
      refine (mayP_any s l_k A3 n3 c3 k wr N3.out (f1.ext yr) (by omega) (HS.out.ext yr) f3 (Utf8Tabs_below hT (ext_trans hx yr))).mono ?_
      rintro e v4 ⟨rfl, y4⟩
      rw [F2.out]
      have yy := ext_trans yr y4
      go_wp2_with (fail)
      go_roundg (6 - (m + 1))
      case measure => have := HG.out; omega
      case rel => exact ⟨m + 1, by omega, rfl, by go_num, yy⟩
    · replace hx := ext_trans hx yr
      clear yr rss
      go_wp2_with (go_at_call 30; refine Hid.out ?_)
      refine Lib.hid ?_
      refine (apply_any A_a A_p n_a n_p c_a c_p l_a l_p _ N_a.out N_p.out (r_a.ext hx) (r_p.ext hx) (by omega) (by omega) K_a.out.1 K_a.out.2).mono ?_
      rintro e v2 ⟨A_o, c_o, rfl, ho, y⟩
      replace hx := ext_trans hx y
      clear y
      have hm2 : mayS l_k (applyP l_p l_a) = 0 := stay_apply HL.out M_a.out M_p.out
      have hvs : okVa (applyP l_p l_a) := va_apply S_a.out S_p.out va vp
      have hl : (applyP l_p l_a).length ≤ 64 := (mayS_zero hm2).1
      generalize applyP l_p l_a = l_o at *
      have M_o := Lib.hid hm2
      have R_o := Lib.hid (ho.rd At.enc_len)
      obtain ⟨n_o, hn⟩ : ∃ X, l_o.length = X := ⟨_, rfl⟩
      rw [hn] at hl ⊢
      have N_o := Lib.hid hn.symm
      clear ho hn hm2
      go_wp2_with (go_at_call 41; refine Hid.out ?_)
      refine Lib.hid ?_
      refine (mayR5_any A_k A_o n_k c_k n_o c_o l_k l_o _ N_k.out (r_k.ext hx) (by omega) N_o.out R_o.out (by omega) hvs (Utf8Tabs_below hT hx)).mono ?_
      rintro e v2 ⟨rfl, y⟩
      rw [M_o.out]
      replace hx := ext_trans hx y
      clear y
      go_wp2_with (go_at_call 26; refine Hid.out ?_)
      refine Lib.hid ?_
      refine (known_any _).mono ?_
      rintro e w2 ⟨rfl, y⟩
      replace hx := ext_trans hx y
      go_wp2_with (fail)
      go_ret
      exact ⟨rfl, hx⟩
end Go.Proofs.YtclfplpggmefjaaDoor
