/- The walk of PatchAlgebra: whatever is handed in, within the bound of the second form, it answers true and changes nothing that was there. -/
import Derived.Test.YtclfplpggmefjaaKnown06
import Derived.Test.YtclfplpggmefjaaGreat
import Derived.Test.YtclfplpggmefjaaPatchLaw
import Derived.Test.YtclfplpggmefjaaCompose
namespace Go.Proofs.Ytclfplpggmefjaa
open Go.RowKit
set_option linter.unusedVariables false
set_option linter.unusedSimpArgs false

set_option maxRecDepth 100000 in
set_option maxHeartbeats 4000000 in
theorem patchAlgebra_any (A_a : Option Addr) (n_a c_a : Nat) (l_a : List At) (A_p : Option Addr) (n_p c_p : Nat) (l_p : List Ch) (A_q : Option Addr) (n_q c_q : Nat) (l_q : List Ch) (A_r : Option Addr) (n_r c_r : Nat) (l_r : List Ch) (w : World)
    (hna : n_a = l_a.length) (r_a : RdAt w w.heap.size A_a l_a) (q_a : n_a ≤ 1048576) (k_a : n_a ≤ c_a ∧ c_a ≤ maxLen) (hnp : n_p = l_p.length) (r_p : RdCh w w.heap.size A_p l_p) (q_p : n_p ≤ 1048576) (k_p : n_p ≤ c_p ∧ c_p ≤ maxLen) (hnq : n_q = l_q.length) (r_q : RdCh w w.heap.size A_q l_q) (q_q : n_q ≤ 1048576) (k_q : n_q ≤ c_q ∧ c_q ≤ maxLen) (hnr : n_r = l_r.length) (r_r : RdCh w w.heap.size A_r l_r) (q_r : n_r ≤ 1048576) (k_r : n_r ≤ c_r ∧ c_r ≤ maxLen) :
    Calls Try.prog 4 #[.slice A_a n_a c_a, .slice A_p n_p c_p, .slice A_q n_q c_q, .slice A_r n_r c_r] w fun e w' => e = .returned (.bool true) ∧ Below w.heap.size w w' := by
  unfold maxLen at k_a
  have N_a := Lib.hid hna
  clear hna
  unfold maxLen at k_p
  have N_p := Lib.hid hnp
  clear hnp
  unfold maxLen at k_q
  have N_q := Lib.hid hnq
  clear hnq
  unfold maxLen at k_r
  have N_r := Lib.hid hnr
  clear hnr
  have hx := Below.refl w.heap.size w
  go_enter Try.func4, Try.ntmps4
  go_wp2_with (go_at_call 8; refine Hid.out ?_)
  refine Lib.hid ?_
  have rss : Rd SA.enc 1 _ _ _ ([SA.mk A_a c_a l_a] : List SA) := Rd.new (enc := SA.enc) (size := 1) (fun _ => rfl) w 22 [SA.mk A_a c_a l_a] (cs := #[.slice A_a n_a c_a]) (by rw [N_a.out]; rfl) rfl
  have y := ext_alloc w (.cells #[.slice A_a n_a c_a] 22)
  replace r_a := r_a.ext y
  replace r_p := r_p.ext y
  replace r_q := r_q.ext y
  replace r_r := r_r.ext y
  replace hx := ext_trans hx y
  clear y
  refine (great_any _ _ n_p 1 _ _ l_p _ _ N_p.out rfl r_p rss ?hs ?hsb (by omega) (by omega)).mono ?_
  case hs =>
    intro s hs; simp at hs; rcases hs with rfl
    exact r_a
  case hsb =>
    have e1 := N_a.out
    intro s hs; simp at hs; rcases hs with rfl; simp only; omega
  rintro e w1 ⟨g, rfl, rfl⟩
  clear rss
  generalize World.alloc w _ = w1 at *
  cases g
  case true =>
    go_wp2_with (go_at_call 11; refine Hid.out ?_)
    refine Lib.hid ?_
    refine (known_any _).mono ?_
    rintro e w2 ⟨rfl, y⟩
    replace hx := ext_trans hx y
    go_wp2_with (fail)
    go_ret
    exact ⟨rfl, hx⟩
  go_wp2_with (go_at_call 8; refine Hid.out ?_)
  refine Lib.hid ?_
  refine (great_any _ none n_q 0 _ 0 l_q [] _ N_q.out rfl r_q Rd.nil (by simp) (by simp) (by omega) (by omega)).mono ?_
  rintro e w2 ⟨g, rfl, hww⟩
  subst hww
  cases g
  case true =>
    go_wp2_with (go_at_call 11; refine Hid.out ?_)
    refine Lib.hid ?_
    refine (known_any _).mono ?_
    rintro e w3 ⟨rfl, y⟩
    replace hx := ext_trans hx y
    go_wp2_with (fail)
    go_ret
    exact ⟨rfl, hx⟩
  go_wp2_with (go_at_call 8; refine Hid.out ?_)
  refine Lib.hid ?_
  refine (great_any _ none n_r 0 _ 0 l_r [] _ N_r.out rfl r_r Rd.nil (by simp) (by simp) (by omega) (by omega)).mono ?_
  rintro e w3 ⟨g, rfl, hww⟩
  subst hww
  cases g
  case true =>
    go_wp2_with (go_at_call 11; refine Hid.out ?_)
    refine Lib.hid ?_
    refine (known_any _).mono ?_
    rintro e w4 ⟨rfl, y⟩
    replace hx := ext_trans hx y
    go_wp2_with (fail)
    go_ret
    exact ⟨rfl, hx⟩
  go_wp2_with (go_at_call 9; refine Hid.out ?_)
  refine Lib.hid ?_
  refine (risingA_any _ _ _ l_a _ N_a.out r_a (by omega)).mono ?_
  rintro e w4 ⟨rfl, d, rfl⟩
  have y := ext_drew w1 d
  replace r_a := r_a.ext y
  replace r_p := r_p.ext y
  replace r_q := r_q.ext y
  replace r_r := r_r.ext y
  replace hx := ext_trans hx y
  clear y
  generalize World.drewN w1 d = w4 at *
  cases s_a : riseA l_a
  case false =>
    clear s_a
    go_wp2_with (go_at_call 11; refine Hid.out ?_)
    refine Lib.hid ?_
    refine (known_any _).mono ?_
    rintro e w5 ⟨rfl, y⟩
    replace hx := ext_trans hx y
    go_wp2_with (fail)
    go_ret
    exact ⟨rfl, hx⟩
  have S_a := Lib.hid s_a
  clear s_a
  go_wp2_with (go_at_call 10; refine Hid.out ?_)
  refine Lib.hid ?_
  refine (risingC_any _ _ _ l_p _ N_p.out r_p (by omega)).mono ?_
  rintro e w5 ⟨rfl, d, rfl⟩
  have y := ext_drew w4 d
  replace r_a := r_a.ext y
  replace r_p := r_p.ext y
  replace r_q := r_q.ext y
  replace r_r := r_r.ext y
  replace hx := ext_trans hx y
  clear y
  generalize World.drewN w4 d = w5 at *
  cases s_p : riseC l_p
  case false =>
    clear s_p
    go_wp2_with (go_at_call 11; refine Hid.out ?_)
    refine Lib.hid ?_
    refine (known_any _).mono ?_
    rintro e w6 ⟨rfl, y⟩
    replace hx := ext_trans hx y
    go_wp2_with (fail)
    go_ret
    exact ⟨rfl, hx⟩
  have S_p := Lib.hid s_p
  clear s_p
  go_wp2_with (go_at_call 10; refine Hid.out ?_)
  refine Lib.hid ?_
  refine (risingC_any _ _ _ l_q _ N_q.out r_q (by omega)).mono ?_
  rintro e w6 ⟨rfl, d, rfl⟩
  have y := ext_drew w5 d
  replace r_a := r_a.ext y
  replace r_p := r_p.ext y
  replace r_q := r_q.ext y
  replace r_r := r_r.ext y
  replace hx := ext_trans hx y
  clear y
  generalize World.drewN w5 d = w6 at *
  cases s_q : riseC l_q
  case false =>
    clear s_q
    go_wp2_with (go_at_call 11; refine Hid.out ?_)
    refine Lib.hid ?_
    refine (known_any _).mono ?_
    rintro e w7 ⟨rfl, y⟩
    replace hx := ext_trans hx y
    go_wp2_with (fail)
    go_ret
    exact ⟨rfl, hx⟩
  have S_q := Lib.hid s_q
  clear s_q
  go_wp2_with (go_at_call 10; refine Hid.out ?_)
  refine Lib.hid ?_
  refine (risingC_any _ _ _ l_r _ N_r.out r_r (by omega)).mono ?_
  rintro e w7 ⟨rfl, d, rfl⟩
  have y := ext_drew w6 d
  replace r_a := r_a.ext y
  replace r_p := r_p.ext y
  replace r_q := r_q.ext y
  replace r_r := r_r.ext y
  replace hx := ext_trans hx y
  clear y
  generalize World.drewN w6 d = w7 at *
  cases s_r : riseC l_r
  case false =>
    clear s_r
    go_wp2_with (go_at_call 11; refine Hid.out ?_)
    refine Lib.hid ?_
    refine (known_any _).mono ?_
    rintro e w8 ⟨rfl, y⟩
    replace hx := ext_trans hx y
    go_wp2_with (fail)
    go_ret
    exact ⟨rfl, hx⟩
  have S_r := Lib.hid s_r
  clear s_r
  go_wp2_with (go_at_call 13; refine Hid.out ?_)
  refine Lib.hid ?_
  refine (apply_any _ _ _ _ _ _ l_a l_p _ N_a.out N_p.out r_a r_p (by omega) (by omega) k_a.1 (by unfold maxLen; exact k_a.2)).mono ?_
  rintro e w8 ⟨A_x, c_x, rfl, ho, y⟩
  have r_new := ho.rd At.enc_len
  have k_new := ho.cap
  replace r_a := r_a.ext y
  replace r_p := r_p.ext y
  replace r_q := r_q.ext y
  replace r_r := r_r.ext y
  replace hx := ext_trans hx y
  clear y ho
  have r_x := r_new
  have k_x := k_new
  clear r_new k_new
  unfold maxLen at k_x
  have q_x : (applyP l_p l_a).length ≤ 2097152 := by have := apply_len S_p.out S_a.out; have := N_a.out; have := N_p.out; omega
  generalize hE : applyP l_p l_a = l_x at *
  have E_x := Lib.hid hE
  clear hE
  obtain ⟨n_x, hn⟩ : ∃ n, n = l_x.length := ⟨_, rfl⟩
  rw [← hn] at q_x k_x ⊢
  have N_x := Lib.hid hn
  clear hn
  have R_x : riseA l_x = true := by rw [← E_x.out]; exact apply_rise S_p.out S_a.out
  have S_x := Lib.hid R_x
  clear R_x
  go_wp2_with (go_at_call 13; refine Hid.out ?_)
  refine Lib.hid ?_
  refine (apply_any _ _ _ _ _ _ l_x l_q _ N_x.out N_q.out r_x r_q (by omega) (by omega) k_x.1 (by unfold maxLen; exact k_x.2)).mono ?_
  rintro e w9 ⟨A_y1, c_y1, rfl, ho, y⟩
  have r_new := ho.rd At.enc_len
  have k_new := ho.cap
  replace r_a := r_a.ext y
  replace r_p := r_p.ext y
  replace r_q := r_q.ext y
  replace r_r := r_r.ext y
  replace r_x := r_x.ext y
  replace hx := ext_trans hx y
  clear y ho
  have r_y1 := r_new
  have k_y1 := k_new
  clear r_new k_new
  unfold maxLen at k_y1
  have q_y1 : (applyP l_q l_x).length ≤ 3145728 := by have := apply_len S_q.out S_x.out; have := N_x.out; have := N_q.out; omega
  generalize hE : applyP l_q l_x = l_y1 at *
  have E_y1 := Lib.hid hE
  clear hE
  obtain ⟨n_y1, hn⟩ : ∃ n, n = l_y1.length := ⟨_, rfl⟩
  rw [← hn] at q_y1 k_y1 ⊢
  have N_y1 := Lib.hid hn
  clear hn
  have R_y1 : riseA l_y1 = true := by rw [← E_y1.out]; exact apply_rise S_q.out S_x.out
  have S_y1 := Lib.hid R_y1
  clear R_y1
  go_wp2_with (go_at_call 17; refine Hid.out ?_)
  refine Lib.hid ?_
  refine (compose_any _ _ _ _ _ _ l_p l_q _ N_p.out N_q.out r_p r_q (by omega) (by omega) k_p.1 (by unfold maxLen; exact k_p.2)).mono ?_
  rintro e w10 ⟨A_c, c_c, rfl, ho, y⟩
  have r_new := ho.rd Ch.enc_len
  have k_new := ho.cap
  replace r_a := r_a.ext y
  replace r_p := r_p.ext y
  replace r_q := r_q.ext y
  replace r_r := r_r.ext y
  replace r_x := r_x.ext y
  replace r_y1 := r_y1.ext y
  replace hx := ext_trans hx y
  clear y ho
  have r_c := r_new
  have k_c := k_new
  clear r_new k_new
  unfold maxLen at k_c
  have q_c : (composeP l_p l_q).length ≤ 2097152 := by have := compose_len S_p.out S_q.out; have := N_p.out; have := N_q.out; omega
  generalize hE : composeP l_p l_q = l_c at *
  have E_c := Lib.hid hE
  clear hE
  obtain ⟨n_c, hn⟩ : ∃ n, n = l_c.length := ⟨_, rfl⟩
  rw [← hn] at q_c k_c ⊢
  have N_c := Lib.hid hn
  clear hn
  have R_c : riseC l_c = true := by rw [← E_c.out]; exact compose_rise S_p.out S_q.out
  have S_c := Lib.hid R_c
  clear R_c
  go_wp2_with (go_at_call 13; refine Hid.out ?_)
  refine Lib.hid ?_
  refine (apply_any _ _ _ _ _ _ l_a l_c _ N_a.out N_c.out r_a r_c (by omega) (by omega) k_a.1 (by unfold maxLen; exact k_a.2)).mono ?_
  rintro e w11 ⟨A_z, c_z, rfl, ho, y⟩
  have r_new := ho.rd At.enc_len
  have k_new := ho.cap
  replace r_a := r_a.ext y
  replace r_p := r_p.ext y
  replace r_q := r_q.ext y
  replace r_r := r_r.ext y
  replace r_x := r_x.ext y
  replace r_y1 := r_y1.ext y
  replace r_c := r_c.ext y
  replace hx := ext_trans hx y
  clear y ho
  have r_z := r_new
  have k_z := k_new
  clear r_new k_new
  unfold maxLen at k_z
  have q_z : (applyP l_c l_a).length ≤ 3145728 := by have := apply_len S_c.out S_a.out; have := N_a.out; have := N_c.out; omega
  generalize hE : applyP l_c l_a = l_z at *
  have E_z := Lib.hid hE
  clear hE
  obtain ⟨n_z, hn⟩ : ∃ n, n = l_z.length := ⟨_, rfl⟩
  rw [← hn] at q_z k_z ⊢
  have N_z := Lib.hid hn
  clear hn
  have R_z : riseA l_z = true := by rw [← E_z.out]; exact apply_rise S_c.out S_a.out
  have S_z := Lib.hid R_z
  clear R_z
  have T_1 : decide (l_y1 = l_z) = true := decide_eq_true (by rw [← E_y1.out, ← E_x.out, ← E_z.out, ← E_c.out]; exact law_compose S_a.out S_p.out S_q.out)
  have Q_1 := Lib.hid T_1
  clear T_1
  go_wp2_with (go_at_call 12; refine Hid.out ?_)
  refine Lib.hid ?_
  refine (sameA_any _ _ _ _ _ _ l_y1 l_z _ N_y1.out N_z.out r_y1 r_z (by omega) (by omega)).mono ?_
  rintro e w12 ⟨rfl, d, rfl⟩
  rw [Q_1.out]
  have y := ext_drew w11 d
  replace r_a := r_a.ext y
  replace r_p := r_p.ext y
  replace r_q := r_q.ext y
  replace r_r := r_r.ext y
  replace r_x := r_x.ext y
  replace r_y1 := r_y1.ext y
  replace r_c := r_c.ext y
  replace r_z := r_z.ext y
  replace hx := ext_trans hx y
  clear y
  generalize World.drewN w11 d = w12 at *
  clear r_y1
  clear r_z
  clear r_x
  clear r_c
  go_wp2_with (go_at_call 13; refine Hid.out ?_)
  refine Lib.hid ?_
  refine (apply_any _ none _ 0 _ 0 l_a [] _ N_a.out rfl r_a Rd.nil (by omega) (by omega) k_a.1 (by unfold maxLen; exact k_a.2)).mono ?_
  rintro e w13 ⟨A_u, c_u, rfl, ho, y⟩
  have r_new := ho.rd At.enc_len
  have k_new := ho.cap
  replace r_a := r_a.ext y
  replace r_p := r_p.ext y
  replace r_q := r_q.ext y
  replace r_r := r_r.ext y
  replace hx := ext_trans hx y
  clear y ho
  have r_u := r_new
  have k_u := k_new
  clear r_new k_new
  unfold maxLen at k_u
  have q_u : (applyP [] l_a).length ≤ 1048576 := by have := N_a.out; show l_a.length ≤ _; omega
  generalize hE : applyP [] l_a = l_u at *
  have E_u := Lib.hid hE
  clear hE
  obtain ⟨n_u, hn⟩ : ∃ n, n = l_u.length := ⟨_, rfl⟩
  rw [← hn] at q_u k_u ⊢
  have N_u := Lib.hid hn
  clear hn
  have T_2 : decide (l_u = l_a) = true := decide_eq_true (by rw [← E_u.out]; rfl)
  have Q_2 := Lib.hid T_2
  clear T_2
  go_wp2_with (go_at_call 12; refine Hid.out ?_)
  refine Lib.hid ?_
  refine (sameA_any _ _ _ _ _ _ l_u l_a _ N_u.out N_a.out r_u r_a (by omega) (by omega)).mono ?_
  rintro e w14 ⟨rfl, d, rfl⟩
  rw [Q_2.out]
  have y := ext_drew w13 d
  replace r_a := r_a.ext y
  replace r_p := r_p.ext y
  replace r_q := r_q.ext y
  replace r_r := r_r.ext y
  replace r_u := r_u.ext y
  replace hx := ext_trans hx y
  clear y
  generalize World.drewN w13 d = w14 at *
  clear r_u
  clear r_a
  go_wp2_with (go_at_call 17; refine Hid.out ?_)
  refine Lib.hid ?_
  refine (compose_any _ _ _ _ _ _ l_p l_q _ N_p.out N_q.out r_p r_q (by omega) (by omega) k_p.1 (by unfold maxLen; exact k_p.2)).mono ?_
  rintro e w15 ⟨A_d, c_d, rfl, ho, y⟩
  have r_new := ho.rd Ch.enc_len
  have k_new := ho.cap
  replace r_p := r_p.ext y
  replace r_q := r_q.ext y
  replace r_r := r_r.ext y
  replace hx := ext_trans hx y
  clear y ho
  have r_d := r_new
  have k_d := k_new
  clear r_new k_new
  unfold maxLen at k_d
  have q_d : (composeP l_p l_q).length ≤ 2097152 := by have := compose_len S_p.out S_q.out; have := N_p.out; have := N_q.out; omega
  generalize hE : composeP l_p l_q = l_d at *
  have E_d := Lib.hid hE
  clear hE
  obtain ⟨n_d, hn⟩ : ∃ n, n = l_d.length := ⟨_, rfl⟩
  rw [← hn] at q_d k_d ⊢
  have N_d := Lib.hid hn
  clear hn
  have R_d : riseC l_d = true := by rw [← E_d.out]; exact compose_rise S_p.out S_q.out
  have S_d := Lib.hid R_d
  clear R_d
  go_wp2_with (go_at_call 17; refine Hid.out ?_)
  refine Lib.hid ?_
  refine (compose_any _ _ _ _ _ _ l_d l_r _ N_d.out N_r.out r_d r_r (by omega) (by omega) k_d.1 (by unfold maxLen; exact k_d.2)).mono ?_
  rintro e w16 ⟨A_f, c_f, rfl, ho, y⟩
  have r_new := ho.rd Ch.enc_len
  have k_new := ho.cap
  replace r_p := r_p.ext y
  replace r_q := r_q.ext y
  replace r_r := r_r.ext y
  replace r_d := r_d.ext y
  replace hx := ext_trans hx y
  clear y ho
  have r_f := r_new
  have k_f := k_new
  clear r_new k_new
  unfold maxLen at k_f
  have q_f : (composeP l_d l_r).length ≤ 3145728 := by have := compose_len S_d.out S_r.out; have := N_d.out; have := N_r.out; omega
  generalize hE : composeP l_d l_r = l_f at *
  have E_f := Lib.hid hE
  clear hE
  obtain ⟨n_f, hn⟩ : ∃ n, n = l_f.length := ⟨_, rfl⟩
  rw [← hn] at q_f k_f ⊢
  have N_f := Lib.hid hn
  clear hn
  have R_f : riseC l_f = true := by rw [← E_f.out]; exact compose_rise S_d.out S_r.out
  have S_f := Lib.hid R_f
  clear R_f
  go_wp2_with (go_at_call 17; refine Hid.out ?_)
  refine Lib.hid ?_
  refine (compose_any _ _ _ _ _ _ l_q l_r _ N_q.out N_r.out r_q r_r (by omega) (by omega) k_q.1 (by unfold maxLen; exact k_q.2)).mono ?_
  rintro e w17 ⟨A_g, c_g, rfl, ho, y⟩
  have r_new := ho.rd Ch.enc_len
  have k_new := ho.cap
  replace r_p := r_p.ext y
  replace r_q := r_q.ext y
  replace r_r := r_r.ext y
  replace r_d := r_d.ext y
  replace r_f := r_f.ext y
  replace hx := ext_trans hx y
  clear y ho
  have r_g := r_new
  have k_g := k_new
  clear r_new k_new
  unfold maxLen at k_g
  have q_g : (composeP l_q l_r).length ≤ 2097152 := by have := compose_len S_q.out S_r.out; have := N_q.out; have := N_r.out; omega
  generalize hE : composeP l_q l_r = l_g at *
  have E_g := Lib.hid hE
  clear hE
  obtain ⟨n_g, hn⟩ : ∃ n, n = l_g.length := ⟨_, rfl⟩
  rw [← hn] at q_g k_g ⊢
  have N_g := Lib.hid hn
  clear hn
  have R_g : riseC l_g = true := by rw [← E_g.out]; exact compose_rise S_q.out S_r.out
  have S_g := Lib.hid R_g
  clear R_g
  go_wp2_with (go_at_call 17; refine Hid.out ?_)
  refine Lib.hid ?_
  refine (compose_any _ _ _ _ _ _ l_p l_g _ N_p.out N_g.out r_p r_g (by omega) (by omega) k_p.1 (by unfold maxLen; exact k_p.2)).mono ?_
  rintro e w18 ⟨A_h, c_h, rfl, ho, y⟩
  have r_new := ho.rd Ch.enc_len
  have k_new := ho.cap
  replace r_p := r_p.ext y
  replace r_q := r_q.ext y
  replace r_r := r_r.ext y
  replace r_d := r_d.ext y
  replace r_f := r_f.ext y
  replace r_g := r_g.ext y
  replace hx := ext_trans hx y
  clear y ho
  have r_h := r_new
  have k_h := k_new
  clear r_new k_new
  unfold maxLen at k_h
  have q_h : (composeP l_p l_g).length ≤ 3145728 := by have := compose_len S_p.out S_g.out; have := N_p.out; have := N_g.out; omega
  generalize hE : composeP l_p l_g = l_h at *
  have E_h := Lib.hid hE
  clear hE
  obtain ⟨n_h, hn⟩ : ∃ n, n = l_h.length := ⟨_, rfl⟩
  rw [← hn] at q_h k_h ⊢
  have N_h := Lib.hid hn
  clear hn
  have R_h : riseC l_h = true := by rw [← E_h.out]; exact compose_rise S_p.out S_g.out
  have S_h := Lib.hid R_h
  clear R_h
  have T_3 : decide (l_f = l_h) = true := decide_eq_true (by rw [← E_f.out, ← E_d.out, ← E_h.out, ← E_g.out]; exact law_assoc S_p.out S_q.out S_r.out)
  have Q_3 := Lib.hid T_3
  clear T_3
  go_wp2_with (go_at_call 16; refine Hid.out ?_)
  refine Lib.hid ?_
  refine (sameC_any _ _ _ _ _ _ l_f l_h _ N_f.out N_h.out r_f r_h (by omega) (by omega)).mono ?_
  rintro e w19 ⟨rfl, d, rfl⟩
  rw [Q_3.out]
  have y := ext_drew w18 d
  replace r_p := r_p.ext y
  replace r_q := r_q.ext y
  replace r_r := r_r.ext y
  replace r_d := r_d.ext y
  replace r_f := r_f.ext y
  replace r_g := r_g.ext y
  replace r_h := r_h.ext y
  replace hx := ext_trans hx y
  clear y
  generalize World.drewN w18 d = w19 at *
  clear r_f
  clear r_h
  clear r_g
  clear r_d
  clear r_q
  clear r_r
  go_wp2_with (go_at_call 17; refine Hid.out ?_)
  refine Lib.hid ?_
  refine (compose_any _ none _ 0 _ 0 l_p [] _ N_p.out rfl r_p Rd.nil (by omega) (by omega) k_p.1 (by unfold maxLen; exact k_p.2)).mono ?_
  rintro e w20 ⟨A_i, c_i, rfl, ho, y⟩
  have r_new := ho.rd Ch.enc_len
  have k_new := ho.cap
  replace r_p := r_p.ext y
  replace hx := ext_trans hx y
  clear y ho
  have r_i := r_new
  have k_i := k_new
  clear r_new k_new
  unfold maxLen at k_i
  have q_i : (composeP l_p []).length ≤ 1048576 := by rw [composeP_nil]; have := N_p.out; omega
  generalize hE : composeP l_p [] = l_i at *
  have E_i := Lib.hid hE
  clear hE
  obtain ⟨n_i, hn⟩ : ∃ n, n = l_i.length := ⟨_, rfl⟩
  rw [← hn] at q_i k_i ⊢
  have N_i := Lib.hid hn
  clear hn
  have T_4 : decide (l_i = l_p) = true := decide_eq_true (by rw [← E_i.out]; exact composeP_nil _)
  have Q_4 := Lib.hid T_4
  clear T_4
  go_wp2_with (go_at_call 16; refine Hid.out ?_)
  refine Lib.hid ?_
  refine (sameC_any _ _ _ _ _ _ l_i l_p _ N_i.out N_p.out r_i r_p (by omega) (by omega)).mono ?_
  rintro e w21 ⟨rfl, d, rfl⟩
  rw [Q_4.out]
  have y := ext_drew w20 d
  replace r_p := r_p.ext y
  replace r_i := r_i.ext y
  replace hx := ext_trans hx y
  clear y
  generalize World.drewN w20 d = w21 at *
  clear r_i
  go_wp2_with (go_at_call 17; refine Hid.out ?_)
  refine Lib.hid ?_
  refine (compose_any none _ 0 _ 0 _ [] l_p _ rfl N_p.out Rd.nil r_p (by omega) (by omega) (by omega) (by simp [maxLen])).mono ?_
  rintro e w22 ⟨A_j, c_j, rfl, ho, y⟩
  have r_new := ho.rd Ch.enc_len
  have k_new := ho.cap
  replace r_p := r_p.ext y
  replace hx := ext_trans hx y
  clear y ho
  have r_j := r_new
  have k_j := k_new
  clear r_new k_new
  unfold maxLen at k_j
  have q_j : (composeP [] l_p).length ≤ 1048576 := by rw [law_nil_left S_p.out]; have := N_p.out; omega
  generalize hE : composeP [] l_p = l_j at *
  have E_j := Lib.hid hE
  clear hE
  obtain ⟨n_j, hn⟩ : ∃ n, n = l_j.length := ⟨_, rfl⟩
  rw [← hn] at q_j k_j ⊢
  have N_j := Lib.hid hn
  clear hn
  have T_5 : decide (l_j = l_p) = true := decide_eq_true (by rw [← E_j.out]; exact law_nil_left S_p.out)
  have Q_5 := Lib.hid T_5
  clear T_5
  go_wp2_with (go_at_call 16; refine Hid.out ?_)
  refine Lib.hid ?_
  refine (sameC_any _ _ _ _ _ _ l_j l_p _ N_j.out N_p.out r_j r_p (by omega) (by omega)).mono ?_
  rintro e w23 ⟨rfl, d, rfl⟩
  rw [Q_5.out]
  have y := ext_drew w22 d
  replace r_p := r_p.ext y
  replace r_j := r_j.ext y
  replace hx := ext_trans hx y
  clear y
  generalize World.drewN w22 d = w23 at *
  go_wp2_with (go_at_call 11; refine Hid.out ?_)
  refine Lib.hid ?_
  refine (known_any _).mono ?_
  rintro e w24 ⟨rfl, y⟩
  replace hx := ext_trans hx y
  go_wp2_with (fail)
  go_ret
  exact ⟨rfl, hx⟩
end Go.Proofs.Ytclfplpggmefjaa
