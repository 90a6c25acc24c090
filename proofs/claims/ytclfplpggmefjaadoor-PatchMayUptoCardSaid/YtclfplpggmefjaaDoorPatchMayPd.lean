/- The walk of rubriclaw06.PatchMay: whatever is handed in, within the bound of the second form, it answers true and changes nothing that was there. -/
import Derived.Test.YtclfplpggmefjaaDoorPk11
import Derived.Test.YtclfplpggmefjaaDoorPk12
import Derived.Test.YtclfplpggmefjaaDoorPk13
namespace Go.Proofs.YtclfplpggmefjaaDoor
open Go.RowKit
set_option linter.unusedVariables false
set_option linter.unusedSimpArgs false

set_option maxRecDepth 100000 in
theorem copyCh_any (A : Option Addr) (n c : Nat) (l : List Ch) (w : World) (hn : n = l.length) (h : RdCh w w.heap.size A l) (hb : n ≤ 100000000) :
    Calls Tryd.prog 38 #[.slice A n c] w (NewCh l w) := by
  have N := Lib.hid hn
  clear hn
  go_enter Tryd.func38, Tryd.ntmps38
  go_wp2_with (go_at_call 63; refine Hid.out ?_)
  refine Lib.hid ?_
  refine (cloneCh_any A n c l w N.out h hb).mono ?_
  rintro e w1 ⟨A', c', rfl, hown, y⟩
  go_wp2_with (fail)
  go_ret
  exact ⟨A', c', rfl, hown, y⟩

set_option maxRecDepth 100000 in
set_option maxHeartbeats 4000000 in
theorem patchMay_any (A_k A_p A_q : Option Addr) (n_k n_p n_q c_k c_p c_q : Nat) (l_k : List Ky) (l_p l_q : List Ch) (w : World)
    (hnk : n_k = l_k.length) (hnp : n_p = l_p.length) (hnq : n_q = l_q.length) (r_k : RdKy w w.heap.size A_k l_k) (r_p : RdCh w w.heap.size A_p l_p) (r_q : RdCh w w.heap.size A_q l_q)
    (q_k : n_k ≤ 1048576) (q_p : n_p ≤ 1048576) (q_q : n_q ≤ 1048576) (hv : okVs l_p) (hT : Lib.Utf8Tabs 1 2 w) :
    Calls Tryd.prog 8 #[.slice A_k n_k c_k, .slice A_p n_p c_p, .slice A_q n_q c_q] w fun e w' => e = .returned (.bool true) ∧ Below w.heap.size w w' := by
  have N_k := Lib.hid hnk
  have N_p := Lib.hid hnp
  have N_q := Lib.hid hnq
  have hx := Below.refl w.heap.size w
  clear hnk hnp hnq
  by_cases h64 : (64 : Int) < (n_k : Int)
  · go_enter Tryd.func8, Tryd.ntmps8
    go_wp2_with (go_at_call 26; refine Hid.out ?_)
    refine Lib.hid ?_
    refine (known_any _).mono ?_
    rintro e w2 ⟨rfl, y⟩
    replace hx := ext_trans hx y
    go_wp2_with (fail)
    go_ret
    exact ⟨rfl, hx⟩
  go_enter Tryd.func8, Tryd.ntmps8
  go_wp2_with (go_at_call 24; refine Hid.out ?_)
  refine Lib.hid ?_
  refine (great_any A_p none n_p 0 c_p 0 l_p [] _ N_p.out rfl (r_p.ext hx) Rd.nil (by intro s hs; cases hs) (by intro s hs; cases hs) (by omega) (by omega)).mono ?_
  rintro e v ⟨g, rfl, rfl⟩
  cases g
  case true =>
    go_wp2_with (go_at_call 26; refine Hid.out ?_)
    refine Lib.hid ?_
    refine (known_any _).mono ?_
    rintro e w2 ⟨rfl, y⟩
    replace hx := ext_trans hx y
    go_wp2_with (fail)
    go_ret
    exact ⟨rfl, hx⟩
  go_wp2_with (go_at_call 24; refine Hid.out ?_)
  refine Lib.hid ?_
  refine (great_any A_q none n_q 0 c_q 0 l_q [] _ N_q.out rfl (r_q.ext hx) Rd.nil (by intro s hs; cases hs) (by intro s hs; cases hs) (by omega) (by omega)).mono ?_
  rintro e v ⟨g, rfl, rfl⟩
  cases g
  case true =>
    go_wp2_with (go_at_call 26; refine Hid.out ?_)
    refine Lib.hid ?_
    refine (known_any _).mono ?_
    rintro e w2 ⟨rfl, y⟩
    replace hx := ext_trans hx y
    go_wp2_with (fail)
    go_ret
    exact ⟨rfl, hx⟩
  go_wp2_with (go_at_call 27; refine Hid.out ?_)
  refine Lib.hid ?_
  refine (new_any A_k n_k c_k l_k _ N_k.out (r_k.ext hx) (by omega)).mono ?_
  rintro e v1 ⟨y, ⟨hm, s, rfl, hS⟩ | ⟨hm, rfl⟩⟩
  all_goals
    replace hx := ext_trans hx y
    clear y
    have HM := Lib.hid hm
    clear hm
  · have HS := Lib.hid hS
    clear hS
    go_wp2_with (go_at_call 28; refine Hid.out ?_)
    refine Lib.hid ?_
    refine (mayP_any s l_k A_p n_p c_p l_p _ N_p.out (r_p.ext hx) (by omega) HS.out hv (Utf8Tabs_below hT hx)).mono ?_
    rintro e v2 ⟨rfl, y⟩
    have HS := Lib.hid (HS.out.ext y)
    replace hx := ext_trans hx y
    clear y
    go_wp2_with (go_at_call 35; refine Hid.out ?_)
    refine Lib.hid ?_
    refine (mayR6_any A_k A_p n_k c_k n_p c_p l_k l_p _ N_k.out (r_k.ext hx) (by omega) N_p.out (r_p.ext hx) (by omega) hv (Utf8Tabs_below hT hx)).mono ?_
    rintro e v2 ⟨rfl, y⟩
    have HS := Lib.hid (HS.out.ext y)
    replace hx := ext_trans hx y
    clear y
    generalize mayP l_k l_p = E
    go_wp2_with (go_at_call 36; refine Hid.out ?_)
    refine Lib.hid ?_
    refine (sameC_any A_p A_q n_p n_q c_p c_q l_p l_q _ N_p.out N_q.out (r_p.ext hx) (r_q.ext hx) (by omega) (by omega)).mono ?_
    rintro e v2 ⟨rfl, d, hd⟩
    have y := (by rw [hd]; exact ext_drew _ _ : Below _ _ v2)
    clear hd
    have HS := Lib.hid (HS.out.ext y)
    replace hx := ext_trans hx y
    clear y
    go_wp2_with (go_at_call 37; refine Hid.out ?_)
    refine Lib.hid ?_
    refine (sameR6_any A_p A_q n_p n_q c_p c_q l_p l_q _ N_p.out N_q.out (r_p.ext hx) (r_q.ext hx) (by omega) (by omega)).mono ?_
    rintro e v2 ⟨rfl, d, hd⟩
    have y := (by rw [hd]; exact ext_drew _ _ : Below _ _ v2)
    clear hd
    have HS := Lib.hid (HS.out.ext y)
    replace hx := ext_trans hx y
    clear y
    generalize decide (l_p = l_q) = E2
    go_wp2_with (go_at_call 38; refine Hid.out ?_)
    refine Lib.hid ?_
    refine (copyCh_any A_p n_p c_p l_p _ N_p.out (r_p.ext hx) (by omega)).mono ?_
    rintro e v2 ⟨A1, c1, rfl, ho, y⟩
    have HS := Lib.hid (HS.out.ext y)
    have r1 := ho.rd Ch.enc_len
    clear ho
    replace hx := ext_trans hx y
    clear y
    go_wp2_with (go_at_call 36; refine Hid.out ?_)
    refine Lib.hid ?_
    refine (sameC_any A1 A_p l_p.length n_p c1 c_p l_p l_p _ rfl N_p.out r1 (r_p.ext hx) (by have := N_p.out; omega) (by omega)).mono ?_
    rintro e v2 ⟨rfl, d, hd⟩
    have y := (by rw [hd]; exact ext_drew _ _ : Below _ _ v2)
    clear hd r1
    have HS := Lib.hid (HS.out.ext y)
    have ht : decide (l_p = l_p) = true := decide_eq_true rfl
    rw [ht]
    replace hx := ext_trans hx y
    clear y
    go_wp2_with (go_at_call 29; refine Hid.out ?_)
    refine Lib.hid ?_
    refine (part_any s l_k true A_p n_p c_p l_p _ N_p.out (r_p.ext hx) (by omega) HS.out).mono ?_
    rintro e v2 ⟨A1, c1, rfl, ho, y⟩
    have HS := Lib.hid (HS.out.ext y)
    have HO1 := Lib.hid (ho.rd Ch.enc_len)
    clear ho
    replace hx := ext_trans hx y
    clear y
    go_wp2_with (go_at_call 29; refine Hid.out ?_)
    refine Lib.hid ?_
    refine (part_any s l_k false A_p n_p c_p l_p _ N_p.out (r_p.ext hx) (by omega) HS.out).mono ?_
    rintro e v2 ⟨A2, c2, rfl, ho, y⟩
    have HO1 := Lib.hid (HO1.out.ext y)
    have HO2 := Lib.hid (ho.rd Ch.enc_len)
    have hl1 : (partP l_k true l_p).length ≤ l_p.length := List.length_filter_le _ _
    have hl2 : (partP l_k false l_p).length ≤ l_p.length := List.length_filter_le _ _
    have HL1 := Lib.hid hl1
    have HL2 := Lib.hid hl2
    clear ho hl1 hl2
    replace hx := ext_trans hx y
    clear y
    go_wp2_with (go_at_call 39; refine Hid.out ?_)
    refine Lib.hid ?_
    refine (risingC_any A_p n_p c_p l_p _ N_p.out (r_p.ext hx) (by omega)).mono ?_
    rintro e v2 ⟨rfl, d, hd⟩
    have y := (by rw [hd]; exact ext_drew _ _ : Below _ _ v2)
    clear hd
    have HO1 := Lib.hid (HO1.out.ext y)
    have HO2 := Lib.hid (HO2.out.ext y)
    replace hx := ext_trans hx y
    clear y
    generalize riseC l_p = Q
    cases Q
    case false =>
      go_wp2_with (go_at_call 26; refine Hid.out ?_)
      refine Lib.hid ?_
      refine (known_any _).mono ?_
      rintro e w2 ⟨rfl, y⟩
      replace hx := ext_trans hx y
      go_wp2_with (fail)
      go_ret
      exact ⟨rfl, hx⟩
    go_wp2_with (go_at_call 40; refine Hid.out ?_)
    refine Lib.hid ?_
    refine (partR6_any A_k A_p n_k c_k n_p c_p l_k true l_p _ N_k.out (r_k.ext hx) (by omega) N_p.out (r_p.ext hx) (by omega)).mono ?_
    rintro e v2 ⟨A3, c3, rfl, ho, y⟩
    have HO1 := Lib.hid (HO1.out.ext y)
    have HO2 := Lib.hid (HO2.out.ext y)
    have HO3 := Lib.hid (ho.rd Ch.enc_len)
    clear ho
    replace hx := ext_trans hx y
    clear y
    go_wp2_with (go_at_call 37; refine Hid.out ?_)
    refine Lib.hid ?_
    refine (sameR6_any A1 A3 _ _ c1 c3 (partP l_k true l_p) (partP l_k true l_p) _ rfl rfl HO1.out HO3.out (by have := N_p.out; have := HL1.out; omega) (by have := N_p.out; have := HL1.out; omega)).mono ?_
    rintro e v2 ⟨rfl, d, hd⟩
    have y := (by rw [hd]; exact ext_drew _ _ : Below _ _ v2)
    clear hd
    have HO2 := Lib.hid (HO2.out.ext y)
    have ht : decide (partP l_k true l_p = partP l_k true l_p) = true := decide_eq_true rfl
    rw [ht]
    replace hx := ext_trans hx y
    clear y
    go_wp2_with (go_at_call 40; refine Hid.out ?_)
    refine Lib.hid ?_
    refine (partR6_any A_k A_p n_k c_k n_p c_p l_k false l_p _ N_k.out (r_k.ext hx) (by omega) N_p.out (r_p.ext hx) (by omega)).mono ?_
    rintro e v2 ⟨A4, c4, rfl, ho, y⟩
    have HO2 := Lib.hid (HO2.out.ext y)
    have HO4 := Lib.hid (ho.rd Ch.enc_len)
    clear ho
    replace hx := ext_trans hx y
    clear y
    go_wp2_with (go_at_call 37; refine Hid.out ?_)
    refine Lib.hid ?_
    refine (sameR6_any A2 A4 _ _ c2 c4 (partP l_k false l_p) (partP l_k false l_p) _ rfl rfl HO2.out HO4.out (by have := N_p.out; have := HL2.out; omega) (by have := N_p.out; have := HL2.out; omega)).mono ?_
    rintro e v2 ⟨rfl, d, hd⟩
    have y := (by rw [hd]; exact ext_drew _ _ : Below _ _ v2)
    clear hd
    have ht : decide (partP l_k false l_p = partP l_k false l_p) = true := decide_eq_true rfl
    rw [ht]
    replace hx := ext_trans hx y
    clear y
    go_wp2_with (go_at_call 26; refine Hid.out ?_)
    refine Lib.hid ?_
    refine (known_any _).mono ?_
    rintro e w2 ⟨rfl, y⟩
    replace hx := ext_trans hx y
    go_wp2_with (fail)
    go_ret
    exact ⟨rfl, hx⟩
  · skip
    go_wp2_with (go_at_call 34; refine Hid.out ?_)
    refine Lib.hid ?_
    refine (mayR4_any A_k n_k c_k l_k _ N_k.out (r_k.ext hx) (by omega)).mono ?_
    rintro e v2 ⟨rfl, y⟩
    rw [HM.out]
    replace hx := ext_trans hx y
    clear y
    go_wp2_with (go_at_call 26; refine Hid.out ?_)
    refine Lib.hid ?_
    refine (known_any _).mono ?_
    rintro e w2 ⟨rfl, y⟩
    replace hx := ext_trans hx y
    go_wp2_with (fail)
    go_ret
    exact ⟨rfl, hx⟩
end Go.Proofs.YtclfplpggmefjaaDoor
