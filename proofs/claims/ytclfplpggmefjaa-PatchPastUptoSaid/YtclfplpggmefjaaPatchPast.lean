/- The walk of PatchPast: whatever is handed in, within the bound of the second form, it answers true and changes nothing that was there. -/
import Derived.Test.YtclfplpggmefjaaKnown06
import Derived.Test.YtclfplpggmefjaaGreat
import Derived.Test.YtclfplpggmefjaaPastLaw
namespace Go.Proofs.Ytclfplpggmefjaa
open Go.RowKit
set_option linter.unusedVariables false
set_option linter.unusedSimpArgs false

set_option maxRecDepth 100000 in
set_option maxHeartbeats 4000000 in
theorem patchPast_any (A_a : Option Addr) (n_a c_a : Nat) (l_a : List At) (A_p : Option Addr) (n_p c_p : Nat) (l_p : List Ch) (A_q : Option Addr) (n_q c_q : Nat) (l_q : List Ch) (w : World)
    (hna : n_a = l_a.length) (r_a : RdAt w w.heap.size A_a l_a) (q_a : n_a ≤ 1048576) (k_a : n_a ≤ c_a ∧ c_a ≤ maxLen) (hnp : n_p = l_p.length) (r_p : RdCh w w.heap.size A_p l_p) (q_p : n_p ≤ 1048576) (k_p : n_p ≤ c_p ∧ c_p ≤ maxLen) (hnq : n_q = l_q.length) (r_q : RdCh w w.heap.size A_q l_q) (q_q : n_q ≤ 1048576) (k_q : n_q ≤ c_q ∧ c_q ≤ maxLen) :
    Calls Try.prog 5 #[.slice A_a n_a c_a, .slice A_p n_p c_p, .slice A_q n_q c_q] w fun e w' => e = .returned (.bool true) ∧ Below w.heap.size w w' := by
  unfold maxLen at k_a
  have N_a := Lib.hid hna
  clear hna
  unfold maxLen at k_p
  have N_p := Lib.hid hnp
  clear hnp
  unfold maxLen at k_q
  have N_q := Lib.hid hnq
  clear hnq
  have hx := Below.refl w.heap.size w
  go_enter Try.func5, Try.ntmps5
  go_wp2_with (go_at_call 8; refine Hid.out ?_)
  refine Lib.hid ?_
  have rss : Rd SA.enc 1 _ _ _ ([SA.mk A_a c_a l_a] : List SA) := Rd.new (enc := SA.enc) (size := 1) (fun _ => rfl) w 22 [SA.mk A_a c_a l_a] (cs := #[.slice A_a n_a c_a]) (by rw [N_a.out]; rfl) rfl
  have y := ext_alloc w (.cells #[.slice A_a n_a c_a] 22)
  replace r_a := r_a.ext y
  replace r_p := r_p.ext y
  replace r_q := r_q.ext y
  replace hx := ext_trans hx y
  clear y
  refine (great_any _ _ n_p 1 _ _ l_p _ _ N_p.out rfl r_p rss ?hs ?hsb (by omega) (by omega)).mono ?_
  case hs =>
    intro s hs; simp at hs; rcases hs with rfl
    exact r_a
  case hsb =>
    have e1 := N_a.out
    intro s hs; simp at hs; rcases hs with rfl; simp only; omega
  rintro e w1 ⟨g, rfl, rfl⟩
  clear rss
  generalize World.alloc w _ = w1 at *
  cases g
  case true =>
    go_wp2_with (go_at_call 11; refine Hid.out ?_)
    refine Lib.hid ?_
    refine (known_any _).mono ?_
    rintro e w2 ⟨rfl, y⟩
    replace hx := ext_trans hx y
    go_wp2_with (fail)
    go_ret
    exact ⟨rfl, hx⟩
  go_wp2_with (go_at_call 8; refine Hid.out ?_)
  refine Lib.hid ?_
  refine (great_any _ none n_q 0 _ 0 l_q [] _ N_q.out rfl r_q Rd.nil (by simp) (by simp) (by omega) (by omega)).mono ?_
  rintro e w2 ⟨g, rfl, hww⟩
  subst hww
  cases g
  case true =>
    go_wp2_with (go_at_call 11; refine Hid.out ?_)
    refine Lib.hid ?_
    refine (known_any _).mono ?_
    rintro e w3 ⟨rfl, y⟩
    replace hx := ext_trans hx y
    go_wp2_with (fail)
    go_ret
    exact ⟨rfl, hx⟩
  go_wp2_with (go_at_call 9; refine Hid.out ?_)
  refine Lib.hid ?_
  refine (risingA_any _ _ _ l_a _ N_a.out r_a (by omega)).mono ?_
  rintro e w3 ⟨rfl, d, rfl⟩
  have y := ext_drew w1 d
  replace r_a := r_a.ext y
  replace r_p := r_p.ext y
  replace r_q := r_q.ext y
  replace hx := ext_trans hx y
  clear y
  generalize World.drewN w1 d = w3 at *
  cases s_a : riseA l_a
  case false =>
    clear s_a
    go_wp2_with (go_at_call 11; refine Hid.out ?_)
    refine Lib.hid ?_
    refine (known_any _).mono ?_
    rintro e w4 ⟨rfl, y⟩
    replace hx := ext_trans hx y
    go_wp2_with (fail)
    go_ret
    exact ⟨rfl, hx⟩
  have S_a := Lib.hid s_a
  clear s_a
  go_wp2_with (go_at_call 10; refine Hid.out ?_)
  refine Lib.hid ?_
  refine (risingC_any _ _ _ l_p _ N_p.out r_p (by omega)).mono ?_
  rintro e w4 ⟨rfl, d, rfl⟩
  have y := ext_drew w3 d
  replace r_a := r_a.ext y
  replace r_p := r_p.ext y
  replace r_q := r_q.ext y
  replace hx := ext_trans hx y
  clear y
  generalize World.drewN w3 d = w4 at *
  cases s_p : riseC l_p
  case false =>
    clear s_p
    go_wp2_with (go_at_call 11; refine Hid.out ?_)
    refine Lib.hid ?_
    refine (known_any _).mono ?_
    rintro e w5 ⟨rfl, y⟩
    replace hx := ext_trans hx y
    go_wp2_with (fail)
    go_ret
    exact ⟨rfl, hx⟩
  have S_p := Lib.hid s_p
  clear s_p
  go_wp2_with (go_at_call 10; refine Hid.out ?_)
  refine Lib.hid ?_
  refine (risingC_any _ _ _ l_q _ N_q.out r_q (by omega)).mono ?_
  rintro e w5 ⟨rfl, d, rfl⟩
  have y := ext_drew w4 d
  replace r_a := r_a.ext y
  replace r_p := r_p.ext y
  replace r_q := r_q.ext y
  replace hx := ext_trans hx y
  clear y
  generalize World.drewN w4 d = w5 at *
  cases s_q : riseC l_q
  case false =>
    clear s_q
    go_wp2_with (go_at_call 11; refine Hid.out ?_)
    refine Lib.hid ?_
    refine (known_any _).mono ?_
    rintro e w6 ⟨rfl, y⟩
    replace hx := ext_trans hx y
    go_wp2_with (fail)
    go_ret
    exact ⟨rfl, hx⟩
  have S_q := Lib.hid s_q
  clear s_q
  go_wp2_with (go_at_call 13; refine Hid.out ?_)
  refine Lib.hid ?_
  refine (apply_any _ _ _ _ _ _ l_a l_p _ N_a.out N_p.out r_a r_p (by omega) (by omega) k_a.1 (by unfold maxLen; exact k_a.2)).mono ?_
  rintro e w6 ⟨A_x0, c_x0, rfl, ho, y⟩
  have r_new := ho.rd At.enc_len
  have k_new := ho.cap
  replace r_a := r_a.ext y
  replace r_p := r_p.ext y
  replace r_q := r_q.ext y
  replace hx := ext_trans hx y
  clear y ho
  have r_x0 := r_new
  have k_x0 := k_new
  clear r_new k_new
  unfold maxLen at k_x0
  have q_x0 : (applyP l_p l_a).length ≤ 2097152 := by have := apply_len S_p.out S_a.out; have := N_a.out; have := N_p.out; omega
  generalize hE : applyP l_p l_a = l_x0 at *
  have E_x0 := Lib.hid hE
  clear hE
  obtain ⟨n_x0, hn⟩ : ∃ n, n = l_x0.length := ⟨_, rfl⟩
  rw [← hn] at q_x0 k_x0 ⊢
  have N_x0 := Lib.hid hn
  clear hn
  have R_x0 : riseA l_x0 = true := by rw [← E_x0.out]; exact apply_rise S_p.out S_a.out
  have S_x0 := Lib.hid R_x0
  clear R_x0
  go_wp2_with (go_at_call 18; refine Hid.out ?_)
  refine Lib.hid ?_
  refine (less_any _ _ _ _ _ _ l_q l_p _ N_q.out N_p.out r_q r_p (by omega) (by omega)).mono ?_
  rintro e w7 ⟨A_d, c_d, rfl, ho, y⟩
  have r_new := ho.rd Ch.enc_len
  have k_new := ho.cap
  replace r_a := r_a.ext y
  replace r_p := r_p.ext y
  replace r_q := r_q.ext y
  replace r_x0 := r_x0.ext y
  replace hx := ext_trans hx y
  clear y ho
  have r_d := r_new
  have k_d := k_new
  clear r_new k_new
  unfold maxLen at k_d
  have q_d : (lessP l_q l_p).length ≤ 1048576 := by have := less_len l_q l_p; have := N_q.out; omega
  generalize hE : lessP l_q l_p = l_d at *
  have E_d := Lib.hid hE
  clear hE
  obtain ⟨n_d, hn⟩ : ∃ n, n = l_d.length := ⟨_, rfl⟩
  rw [← hn] at q_d k_d ⊢
  have N_d := Lib.hid hn
  clear hn
  have R_d : riseC l_d = true := by rw [← E_d.out]; exact less_rise S_q.out
  have S_d := Lib.hid R_d
  clear R_d
  go_wp2_with (go_at_call 13; refine Hid.out ?_)
  refine Lib.hid ?_
  refine (apply_any _ _ _ _ _ _ l_x0 l_d _ N_x0.out N_d.out r_x0 r_d (by omega) (by omega) k_x0.1 (by unfold maxLen; exact k_x0.2)).mono ?_
  rintro e w8 ⟨A_x, c_x, rfl, ho, y⟩
  have r_new := ho.rd At.enc_len
  have k_new := ho.cap
  replace r_a := r_a.ext y
  replace r_p := r_p.ext y
  replace r_q := r_q.ext y
  replace r_x0 := r_x0.ext y
  replace r_d := r_d.ext y
  replace hx := ext_trans hx y
  clear y ho
  have r_x := r_new
  have k_x := k_new
  clear r_new k_new
  unfold maxLen at k_x
  have q_x : (applyP l_d l_x0).length ≤ 3145728 := by have := apply_len S_d.out S_x0.out; have := N_x0.out; have := N_d.out; omega
  generalize hE : applyP l_d l_x0 = l_x at *
  have E_x := Lib.hid hE
  clear hE
  obtain ⟨n_x, hn⟩ : ∃ n, n = l_x.length := ⟨_, rfl⟩
  rw [← hn] at q_x k_x ⊢
  have N_x := Lib.hid hn
  clear hn
  have R_x : riseA l_x = true := by rw [← E_x.out]; exact apply_rise S_d.out S_x0.out
  have S_x := Lib.hid R_x
  clear R_x
  clear r_x0
  clear r_d
  go_wp2_with (go_at_call 13; refine Hid.out ?_)
  refine Lib.hid ?_
  refine (apply_any _ _ _ _ _ _ l_a l_q _ N_a.out N_q.out r_a r_q (by omega) (by omega) k_a.1 (by unfold maxLen; exact k_a.2)).mono ?_
  rintro e w9 ⟨A_y0, c_y0, rfl, ho, y⟩
  have r_new := ho.rd At.enc_len
  have k_new := ho.cap
  replace r_a := r_a.ext y
  replace r_p := r_p.ext y
  replace r_q := r_q.ext y
  replace r_x := r_x.ext y
  replace hx := ext_trans hx y
  clear y ho
  have r_y0 := r_new
  have k_y0 := k_new
  clear r_new k_new
  unfold maxLen at k_y0
  have q_y0 : (applyP l_q l_a).length ≤ 2097152 := by have := apply_len S_q.out S_a.out; have := N_a.out; have := N_q.out; omega
  generalize hE : applyP l_q l_a = l_y0 at *
  have E_y0 := Lib.hid hE
  clear hE
  obtain ⟨n_y0, hn⟩ : ∃ n, n = l_y0.length := ⟨_, rfl⟩
  rw [← hn] at q_y0 k_y0 ⊢
  have N_y0 := Lib.hid hn
  clear hn
  have R_y0 : riseA l_y0 = true := by rw [← E_y0.out]; exact apply_rise S_q.out S_a.out
  have S_y0 := Lib.hid R_y0
  clear R_y0
  go_wp2_with (go_at_call 13; refine Hid.out ?_)
  refine Lib.hid ?_
  refine (apply_any _ _ _ _ _ _ l_y0 l_p _ N_y0.out N_p.out r_y0 r_p (by omega) (by omega) k_y0.1 (by unfold maxLen; exact k_y0.2)).mono ?_
  rintro e w10 ⟨A_y1, c_y1, rfl, ho, y⟩
  have r_new := ho.rd At.enc_len
  have k_new := ho.cap
  replace r_a := r_a.ext y
  replace r_p := r_p.ext y
  replace r_q := r_q.ext y
  replace r_x := r_x.ext y
  replace r_y0 := r_y0.ext y
  replace hx := ext_trans hx y
  clear y ho
  have r_y1 := r_new
  have k_y1 := k_new
  clear r_new k_new
  unfold maxLen at k_y1
  have q_y1 : (applyP l_p l_y0).length ≤ 3145728 := by have := apply_len S_p.out S_y0.out; have := N_y0.out; have := N_p.out; omega
  generalize hE : applyP l_p l_y0 = l_y1 at *
  have E_y1 := Lib.hid hE
  clear hE
  obtain ⟨n_y1, hn⟩ : ∃ n, n = l_y1.length := ⟨_, rfl⟩
  rw [← hn] at q_y1 k_y1 ⊢
  have N_y1 := Lib.hid hn
  clear hn
  have R_y1 : riseA l_y1 = true := by rw [← E_y1.out]; exact apply_rise S_p.out S_y0.out
  have S_y1 := Lib.hid R_y1
  clear R_y1
  clear r_y0
  clear r_a
  go_wp2_with (go_at_call 18; refine Hid.out ?_)
  refine Lib.hid ?_
  refine (less_any _ _ _ _ _ _ l_q l_p _ N_q.out N_p.out r_q r_p (by omega) (by omega)).mono ?_
  rintro e w11 ⟨A_m, c_m, rfl, ho, y⟩
  have r_new := ho.rd Ch.enc_len
  have k_new := ho.cap
  replace r_p := r_p.ext y
  replace r_q := r_q.ext y
  replace r_x := r_x.ext y
  replace r_y1 := r_y1.ext y
  replace hx := ext_trans hx y
  clear y ho
  have r_m := r_new
  have k_m := k_new
  clear r_new k_new
  unfold maxLen at k_m
  have q_m : (lessP l_q l_p).length ≤ 1048576 := by have := less_len l_q l_p; have := N_q.out; omega
  generalize hE : lessP l_q l_p = l_m at *
  have E_m := Lib.hid hE
  clear hE
  obtain ⟨n_m, hn⟩ : ∃ n, n = l_m.length := ⟨_, rfl⟩
  rw [← hn] at q_m k_m ⊢
  have N_m := Lib.hid hn
  clear hn
  have R_m : riseC l_m = true := by rw [← E_m.out]; exact less_rise S_q.out
  have S_m := Lib.hid R_m
  clear R_m
  have T_1 : decide (l_x = l_y1) = true := decide_eq_true (by rw [← E_x.out, ← E_d.out, ← E_m.out, ← E_x0.out, ← E_y1.out, ← E_y0.out]; exact law_past S_a.out S_p.out S_q.out)
  have Q_1 := Lib.hid T_1
  have HM : Hid (∀ c ∈ l_m, hasKey l_p c.key = false) := Lib.hid (by rw [← E_m.out]; exact fun c hc => less_none hc)
  clear T_1
  go_wp2_with (fail)
  go_loopg [54] n_m (fun g iv wr => ∃ i : Nat, i ≤ n_m ∧ g = n_m - i ∧ iv = .int .i64 i ∧ Below w11.heap.size w11 wr)
  case atStart => exact ⟨0, by omega, rfl, rfl, Below.refl _ _⟩
  case round =>
    obtain ⟨i, hi, hg, rfl, hb⟩ := hrel
    have HG := Lib.hid hg
    clear hg
    by_cases hlt : i < n_m
    · obtain ⟨ad, c, rfl, _, _, hc, hc1⟩ := (r_m.below hb (Nat.le_refl _)).el (i := i) (by have := N_m.out; omega)
      have hk := HM.out c (List.mem_of_getElem? hc)
      clear hc
      obtain ⟨x1, x6, x2, x3, x4, x5⟩ := c
      obtain ⟨u0, u1, u2, u3, u4, u5⟩ := ch_cells hc1
      clear hc1
      go_wp2_with (go_at_call 19; refine Hid.out ?_)
      refine Lib.hid ?_
      refine (find06_any _ _ _ l_p x1 _ N_p.out ((r_p.below hb (Nat.le_refl _)).more hb.size) (by omega)).mono ?_
      rintro e w' ⟨v, rfl, hb'⟩
      have hb2 := hb.trans (hb'.mono hb.size)
      rw [hk]
      have HK := Lib.hid hk
      clear hk
      go_wp2_with (fail)
      go_roundg (n_m - (i + 1))
      case measure => have := HG.out; omega
      case rel => exact ⟨i + 1, by omega, rfl, by go_num, hb2.alloc hb2.size _⟩
    · clear hi HG
      replace hx := ext_trans hx hb
      replace r_x := r_x.ext hb
      replace r_y1 := r_y1.ext hb
      clear r_m r_p r_q hb
      go_wp2_with (go_at_call 12; refine Hid.out ?_)
      refine Lib.hid ?_
      refine (sameA_any _ _ _ _ _ _ l_x l_y1 _ N_x.out N_y1.out r_x r_y1 (by omega) (by omega)).mono ?_
      rintro e w12 ⟨rfl, d, rfl⟩
      rw [Q_1.out]
      have y := ext_drew wr d
      replace r_x := r_x.ext y
      replace r_y1 := r_y1.ext y
      replace hx := ext_trans hx y
      clear y
      generalize World.drewN wr d = w12 at *
      go_wp2_with (go_at_call 11; refine Hid.out ?_)
      refine Lib.hid ?_
      refine (known_any _).mono ?_
      rintro e w13 ⟨rfl, y⟩
      replace hx := ext_trans hx y
      go_wp2_with (fail)
      go_ret
      exact ⟨rfl, hx⟩
end Go.Proofs.Ytclfplpggmefjaa
