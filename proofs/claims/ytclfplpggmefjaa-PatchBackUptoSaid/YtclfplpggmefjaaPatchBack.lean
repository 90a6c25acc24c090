/- The walk of PatchBack: whatever is handed in, within the bound of the second form, it answers true and changes nothing that was there. -/
import Derived.Test.YtclfplpggmefjaaKnown06
import Derived.Test.YtclfplpggmefjaaGreat
import Derived.Test.YtclfplpggmefjaaPatchLaw
import Derived.Test.YtclfplpggmefjaaCompose
namespace Go.Proofs.Ytclfplpggmefjaa
open Go.RowKit
set_option linter.unusedVariables false
set_option linter.unusedSimpArgs false

set_option maxRecDepth 100000 in
set_option maxHeartbeats 4000000 in
theorem patchBack_any (A_a A_b A_p : Option Addr) (n_a n_b n_p c_a c_b c_p : Nat) (l_a l_b : List At) (l_p : List Ch) (w : World)
    (hna : n_a = l_a.length) (hnb : n_b = l_b.length) (hnp : n_p = l_p.length) (r_a : RdAt w w.heap.size A_a l_a) (r_b : RdAt w w.heap.size A_b l_b) (r_p : RdCh w w.heap.size A_p l_p)
    (q_a : n_a ≤ 1048576) (q_b : n_b ≤ 1048576) (q_p : n_p ≤ 1048576) (k_a : n_a ≤ c_a ∧ c_a ≤ maxLen) (k_b : n_b ≤ c_b ∧ c_b ≤ maxLen) :
    Calls Try.prog 3 #[.slice A_a n_a c_a, .slice A_b n_b c_b, .slice A_p n_p c_p] w fun e w' => e = .returned (.bool true) ∧ Below w.heap.size w w' := by
  unfold maxLen at k_a k_b
  have N_a := Lib.hid hna
  have N_b := Lib.hid hnb
  have N_p := Lib.hid hnp
  clear hna hnb hnp
  have hx := Below.refl w.heap.size w
  go_enter Try.func3, Try.ntmps3
  go_wp2_with (go_at_call 8; refine Hid.out ?_)
  refine Lib.hid ?_
  have rss : Rd SA.enc 1 _ _ _ ([SA.mk A_a c_a l_a, SA.mk A_b c_b l_b] : List SA) := Rd.new (enc := SA.enc) (size := 1) (fun _ => rfl) w 22 [SA.mk A_a c_a l_a, SA.mk A_b c_b l_b] (cs := #[.slice A_a n_a c_a, .slice A_b n_b c_b]) (by rw [N_a.out, N_b.out]; rfl) rfl
  have y := ext_alloc w (.cells #[.slice A_a n_a c_a, .slice A_b n_b c_b] 22)
  replace r_a := r_a.ext y
  replace r_b := r_b.ext y
  replace r_p := r_p.ext y
  replace hx := ext_trans hx y
  clear y
  refine (great_any _ _ n_p 2 _ _ l_p _ _ N_p.out rfl r_p rss ?hs ?hsb (by omega) (by omega)).mono ?_
  case hs =>
    intro s hs; simp at hs; rcases hs with rfl | rfl
    · exact r_a
    · exact r_b
  case hsb =>
    have e1 := N_a.out
    have e2 := N_b.out
    intro s hs; simp at hs; rcases hs with rfl | rfl <;> simp only <;> omega
  rintro e w1 ⟨g, rfl, rfl⟩
  clear rss
  generalize World.alloc w _ = w1 at *
  cases g
  case true =>
    go_wp2_with (go_at_call 11; refine Hid.out ?_)
    refine Lib.hid ?_
    refine (known_any _).mono ?_
    rintro e w2 ⟨rfl, y⟩
    replace hx := ext_trans hx y
    go_wp2_with (fail)
    go_ret
    exact ⟨rfl, hx⟩
  go_wp2_with (go_at_call 9; refine Hid.out ?_)
  refine Lib.hid ?_
  refine (risingA_any _ _ _ l_a _ N_a.out r_a (by omega)).mono ?_
  rintro e w2 ⟨rfl, d, rfl⟩
  have y := ext_drew w1 d
  replace r_a := r_a.ext y
  replace r_b := r_b.ext y
  replace r_p := r_p.ext y
  replace hx := ext_trans hx y
  clear y
  generalize World.drewN w1 d = w2 at *
  cases s_a : riseA l_a
  case false =>
    clear s_a
    go_wp2_with (go_at_call 11; refine Hid.out ?_)
    refine Lib.hid ?_
    refine (known_any _).mono ?_
    rintro e w3 ⟨rfl, y⟩
    replace hx := ext_trans hx y
    go_wp2_with (fail)
    go_ret
    exact ⟨rfl, hx⟩
  have S_a := Lib.hid s_a
  clear s_a
  go_wp2_with (go_at_call 9; refine Hid.out ?_)
  refine Lib.hid ?_
  refine (risingA_any _ _ _ l_b _ N_b.out r_b (by omega)).mono ?_
  rintro e w3 ⟨rfl, d, rfl⟩
  have y := ext_drew w2 d
  replace r_a := r_a.ext y
  replace r_b := r_b.ext y
  replace r_p := r_p.ext y
  replace hx := ext_trans hx y
  clear y
  generalize World.drewN w2 d = w3 at *
  cases s_b : riseA l_b
  case false =>
    clear s_b
    go_wp2_with (go_at_call 11; refine Hid.out ?_)
    refine Lib.hid ?_
    refine (known_any _).mono ?_
    rintro e w4 ⟨rfl, y⟩
    replace hx := ext_trans hx y
    go_wp2_with (fail)
    go_ret
    exact ⟨rfl, hx⟩
  have S_b := Lib.hid s_b
  clear s_b
  go_wp2_with (go_at_call 10; refine Hid.out ?_)
  refine Lib.hid ?_
  refine (risingC_any _ _ _ l_p _ N_p.out r_p (by omega)).mono ?_
  rintro e w4 ⟨rfl, d, rfl⟩
  have y := ext_drew w3 d
  replace r_a := r_a.ext y
  replace r_b := r_b.ext y
  replace r_p := r_p.ext y
  replace hx := ext_trans hx y
  clear y
  generalize World.drewN w3 d = w4 at *
  cases s_p : riseC l_p
  case false =>
    clear s_p
    go_wp2_with (go_at_call 11; refine Hid.out ?_)
    refine Lib.hid ?_
    refine (known_any _).mono ?_
    rintro e w5 ⟨rfl, y⟩
    replace hx := ext_trans hx y
    go_wp2_with (fail)
    go_ret
    exact ⟨rfl, hx⟩
  have S_p := Lib.hid s_p
  clear s_p
  go_wp2_with (go_at_call 13; refine Hid.out ?_)
  refine Lib.hid ?_
  refine (apply_any _ _ _ _ _ _ l_a l_p _ N_a.out N_p.out r_a r_p (by omega) (by omega) k_a.1 (by unfold maxLen; exact k_a.2)).mono ?_
  rintro e w5 ⟨A_x, c_x, rfl, ho, y⟩
  have r_new := ho.rd At.enc_len
  have k_new := ho.cap
  replace r_a := r_a.ext y
  replace r_b := r_b.ext y
  replace r_p := r_p.ext y
  replace hx := ext_trans hx y
  clear y ho
  have r_x := r_new
  have k_x := k_new
  clear r_new k_new
  unfold maxLen at k_x
  have q_x : (applyP l_p l_a).length ≤ 2097152 := by have := apply_len S_p.out S_a.out; have := N_a.out; have := N_p.out; omega
  generalize hE : applyP l_p l_a = l_x at *
  have E_x := Lib.hid hE
  clear hE
  obtain ⟨n_x, hn⟩ : ∃ n, n = l_x.length := ⟨_, rfl⟩
  rw [← hn] at q_x k_x ⊢
  have N_x := Lib.hid hn
  clear hn
  go_wp2_with (go_at_call 14; refine Hid.out ?_)
  refine Lib.hid ?_
  refine (invert_any _ _ _ _ _ _ l_a l_p _ S_a.out N_a.out N_p.out r_a r_p (by omega) (by omega)).mono ?_
  rintro e w6 ⟨A_i, c_i, rfl, ho, y⟩
  have r_new := ho.rd Ch.enc_len
  have k_new := ho.cap
  replace r_a := r_a.ext y
  replace r_b := r_b.ext y
  replace r_p := r_p.ext y
  replace r_x := r_x.ext y
  replace hx := ext_trans hx y
  clear y ho
  have r_i := r_new
  have k_i := k_new
  clear r_new k_new
  unfold maxLen at k_i
  have q_i : (invertP l_a l_p).length ≤ 1048576 := by have := invert_len (a := l_a) S_p.out; have := N_p.out; omega
  generalize hE : invertP l_a l_p = l_i at *
  have E_i := Lib.hid hE
  clear hE
  obtain ⟨n_i, hn⟩ : ∃ n, n = l_i.length := ⟨_, rfl⟩
  rw [← hn] at q_i k_i ⊢
  have N_i := Lib.hid hn
  clear hn
  have R_x : riseA l_x = true := by rw [← E_x.out]; exact apply_rise S_p.out S_a.out
  have R_i : riseC l_i = true := by rw [← E_i.out]; exact invert_rise S_p.out
  have S_x := Lib.hid R_x
  have S_i := Lib.hid R_i
  clear R_x R_i
  go_wp2_with (go_at_call 13; refine Hid.out ?_)
  refine Lib.hid ?_
  refine (apply_any _ _ _ _ _ _ l_x l_i _ N_x.out N_i.out r_x r_i (by omega) (by omega) k_x.1 (by unfold maxLen; exact k_x.2)).mono ?_
  rintro e w7 ⟨A_y1, c_y1, rfl, ho, y⟩
  have r_new := ho.rd At.enc_len
  have k_new := ho.cap
  replace r_a := r_a.ext y
  replace r_b := r_b.ext y
  replace r_p := r_p.ext y
  replace r_x := r_x.ext y
  replace r_i := r_i.ext y
  replace hx := ext_trans hx y
  clear y ho
  have r_y1 := r_new
  have k_y1 := k_new
  clear r_new k_new
  unfold maxLen at k_y1
  have q_y1 : (applyP l_i l_x).length ≤ 4194304 := by have := apply_len S_i.out S_x.out; have := N_x.out; have := N_i.out; omega
  generalize hE : applyP l_i l_x = l_y1 at *
  have E_y1 := Lib.hid hE
  clear hE
  obtain ⟨n_y1, hn⟩ : ∃ n, n = l_y1.length := ⟨_, rfl⟩
  rw [← hn] at q_y1 k_y1 ⊢
  have N_y1 := Lib.hid hn
  clear hn
  have T1 : decide (l_y1 = l_a) = true := decide_eq_true (by rw [← E_y1.out, ← E_i.out, ← E_x.out]; exact law_back S_a.out S_p.out)
  have Q1 := Lib.hid T1
  clear T1
  go_wp2_with (go_at_call 12; refine Hid.out ?_)
  refine Lib.hid ?_
  refine (sameA_any _ _ _ _ _ _ l_y1 l_a _ N_y1.out N_a.out r_y1 r_a (by omega) (by omega)).mono ?_
  rintro e w8 ⟨rfl, d, rfl⟩
  rw [Q1.out]
  have y := ext_drew w7 d
  replace r_a := r_a.ext y
  replace r_b := r_b.ext y
  replace r_p := r_p.ext y
  replace r_x := r_x.ext y
  replace r_i := r_i.ext y
  replace r_y1 := r_y1.ext y
  replace hx := ext_trans hx y
  clear y
  generalize World.drewN w7 d = w8 at *
  clear r_y1
  clear r_x
  clear r_i
  clear r_p
  go_wp2_with (go_at_call 15; refine Hid.out ?_)
  refine Lib.hid ?_
  refine (diff_any _ _ _ _ _ _ l_a l_b _ N_a.out N_b.out r_a r_b (by omega) (by omega) k_a.1 (by unfold maxLen; exact k_a.2)).mono ?_
  rintro e w9 ⟨A_d, c_d, rfl, ho, y⟩
  have r_new := ho.rd Ch.enc_len
  have k_new := ho.cap
  replace r_a := r_a.ext y
  replace r_b := r_b.ext y
  replace hx := ext_trans hx y
  clear y ho
  have r_d := r_new
  have k_d := k_new
  clear r_new k_new
  unfold maxLen at k_d
  have q_d : (diffP l_a l_b).length ≤ 2097152 := by have := diff_len S_a.out S_b.out; have := N_a.out; have := N_b.out; omega
  generalize hE : diffP l_a l_b = l_d at *
  have E_d := Lib.hid hE
  clear hE
  obtain ⟨n_d, hn⟩ : ∃ n, n = l_d.length := ⟨_, rfl⟩
  rw [← hn] at q_d k_d ⊢
  have N_d := Lib.hid hn
  clear hn
  have R_d : riseC l_d = true := by rw [← E_d.out]; exact diff_rise S_a.out S_b.out
  have S_d := Lib.hid R_d
  clear R_d
  go_wp2_with (go_at_call 13; refine Hid.out ?_)
  refine Lib.hid ?_
  refine (apply_any _ _ _ _ _ _ l_a l_d _ N_a.out N_d.out r_a r_d (by omega) (by omega) k_a.1 (by unfold maxLen; exact k_a.2)).mono ?_
  rintro e w10 ⟨A_z, c_z, rfl, ho, y⟩
  have r_new := ho.rd At.enc_len
  have k_new := ho.cap
  replace r_a := r_a.ext y
  replace r_b := r_b.ext y
  replace r_d := r_d.ext y
  replace hx := ext_trans hx y
  clear y ho
  have r_z := r_new
  have k_z := k_new
  clear r_new k_new
  unfold maxLen at k_z
  have q_z : (applyP l_d l_a).length ≤ 4194304 := by have := apply_len S_d.out S_a.out; have := N_a.out; have := N_d.out; omega
  generalize hE : applyP l_d l_a = l_z at *
  have E_z := Lib.hid hE
  clear hE
  obtain ⟨n_z, hn⟩ : ∃ n, n = l_z.length := ⟨_, rfl⟩
  rw [← hn] at q_z k_z ⊢
  have N_z := Lib.hid hn
  clear hn
  have T2 : decide (l_z = l_b) = true := decide_eq_true (by rw [← E_z.out, ← E_d.out]; exact law_diff S_a.out S_b.out)
  have Q2 := Lib.hid T2
  clear T2
  go_wp2_with (go_at_call 12; refine Hid.out ?_)
  refine Lib.hid ?_
  refine (sameA_any _ _ _ _ _ _ l_z l_b _ N_z.out N_b.out r_z r_b (by omega) (by omega)).mono ?_
  rintro e w11 ⟨rfl, d, rfl⟩
  rw [Q2.out]
  have y := ext_drew w10 d
  replace r_a := r_a.ext y
  replace r_b := r_b.ext y
  replace r_d := r_d.ext y
  replace r_z := r_z.ext y
  replace hx := ext_trans hx y
  clear y
  generalize World.drewN w10 d = w11 at *
  clear r_z
  clear r_d
  go_wp2_with (go_at_call 15; refine Hid.out ?_)
  refine Lib.hid ?_
  refine (diff_any _ _ _ _ _ _ l_a l_a _ N_a.out N_a.out r_a r_a (by omega) (by omega) k_a.1 (by unfold maxLen; exact k_a.2)).mono ?_
  rintro e w12 ⟨A_u, c_u, rfl, ho, y⟩
  have r_new := ho.rd Ch.enc_len
  have k_new := ho.cap
  replace r_a := r_a.ext y
  replace r_b := r_b.ext y
  replace hx := ext_trans hx y
  clear y ho
  have r_u := r_new
  have k_u := k_new
  clear r_new k_new
  unfold maxLen at k_u
  have q_u : (diffP l_a l_a).length ≤ 2097152 := by have := diff_len S_a.out S_a.out; have := N_a.out; have := N_a.out; omega
  generalize hE : diffP l_a l_a = l_u at *
  have E_u := Lib.hid hE
  clear hE
  obtain ⟨n_u, hn⟩ : ∃ n, n = l_u.length := ⟨_, rfl⟩
  rw [← hn] at q_u k_u ⊢
  have N_u := Lib.hid hn
  clear hn
  have hu0 : ((n_u : Int) != 0) = false := by
    have h1 := law_same S_a.out
    rw [E_u.out] at h1
    have h2 := N_u.out
    rw [h1] at h2
    simp at h2
    simp [h2]
  clear r_u
  go_wp2_with (go_at_call 15; refine Hid.out ?_)
  refine Lib.hid ?_
  refine (diff_any _ _ _ _ _ _ l_a l_b _ N_a.out N_b.out r_a r_b (by omega) (by omega) k_a.1 (by unfold maxLen; exact k_a.2)).mono ?_
  rintro e w13 ⟨A_f, c_f, rfl, ho, y⟩
  have r_new := ho.rd Ch.enc_len
  have k_new := ho.cap
  replace r_a := r_a.ext y
  replace r_b := r_b.ext y
  replace hx := ext_trans hx y
  clear y ho
  have r_f := r_new
  have k_f := k_new
  clear r_new k_new
  unfold maxLen at k_f
  have q_f : (diffP l_a l_b).length ≤ 2097152 := by have := diff_len S_a.out S_b.out; have := N_a.out; have := N_b.out; omega
  generalize hE : diffP l_a l_b = l_f at *
  have E_f := Lib.hid hE
  clear hE
  obtain ⟨n_f, hn⟩ : ∃ n, n = l_f.length := ⟨_, rfl⟩
  rw [← hn] at q_f k_f ⊢
  have N_f := Lib.hid hn
  clear hn
  have R_f : riseC l_f = true := by rw [← E_f.out]; exact diff_rise S_a.out S_b.out
  have S_f := Lib.hid R_f
  clear R_f
  go_wp2_with (go_at_call 14; refine Hid.out ?_)
  refine Lib.hid ?_
  refine (invert_any _ _ _ _ _ _ l_a l_f _ S_a.out N_a.out N_f.out r_a r_f (by omega) (by omega)).mono ?_
  rintro e w14 ⟨A_g, c_g, rfl, ho, y⟩
  have r_new := ho.rd Ch.enc_len
  have k_new := ho.cap
  replace r_a := r_a.ext y
  replace r_b := r_b.ext y
  replace r_f := r_f.ext y
  replace hx := ext_trans hx y
  clear y ho
  have r_g := r_new
  have k_g := k_new
  clear r_new k_new
  unfold maxLen at k_g
  have q_g : (invertP l_a l_f).length ≤ 2097152 := by have := invert_len (a := l_a) S_f.out; have := N_f.out; omega
  generalize hE : invertP l_a l_f = l_g at *
  have E_g := Lib.hid hE
  clear hE
  obtain ⟨n_g, hn⟩ : ∃ n, n = l_g.length := ⟨_, rfl⟩
  rw [← hn] at q_g k_g ⊢
  have N_g := Lib.hid hn
  clear hn
  go_wp2_with (go_at_call 15; refine Hid.out ?_)
  refine Lib.hid ?_
  refine (diff_any _ _ _ _ _ _ l_b l_a _ N_b.out N_a.out r_b r_a (by omega) (by omega) k_b.1 (by unfold maxLen; exact k_b.2)).mono ?_
  rintro e w15 ⟨A_h, c_h, rfl, ho, y⟩
  have r_new := ho.rd Ch.enc_len
  have k_new := ho.cap
  replace r_a := r_a.ext y
  replace r_b := r_b.ext y
  replace r_f := r_f.ext y
  replace r_g := r_g.ext y
  replace hx := ext_trans hx y
  clear y ho
  have r_h := r_new
  have k_h := k_new
  clear r_new k_new
  unfold maxLen at k_h
  have q_h : (diffP l_b l_a).length ≤ 2097152 := by have := diff_len S_b.out S_a.out; have := N_b.out; have := N_a.out; omega
  generalize hE : diffP l_b l_a = l_h at *
  have E_h := Lib.hid hE
  clear hE
  obtain ⟨n_h, hn⟩ : ∃ n, n = l_h.length := ⟨_, rfl⟩
  rw [← hn] at q_h k_h ⊢
  have N_h := Lib.hid hn
  clear hn
  have T3 : decide (l_g = l_h) = true := decide_eq_true (by rw [← E_g.out, ← E_h.out, ← E_f.out]; exact law_invdiff S_a.out S_b.out)
  have Q3 := Lib.hid T3
  clear T3
  go_wp2_with (go_at_call 16; refine Hid.out ?_)
  refine Lib.hid ?_
  refine (sameC_any _ _ _ _ _ _ l_g l_h _ N_g.out N_h.out r_g r_h (by omega) (by omega)).mono ?_
  rintro e w16 ⟨rfl, d, rfl⟩
  rw [Q3.out]
  have y := ext_drew w15 d
  replace r_a := r_a.ext y
  replace r_b := r_b.ext y
  replace r_f := r_f.ext y
  replace r_g := r_g.ext y
  replace r_h := r_h.ext y
  replace hx := ext_trans hx y
  clear y
  generalize World.drewN w15 d = w16 at *
  go_wp2_with (go_at_call 11; refine Hid.out ?_)
  refine Lib.hid ?_
  refine (known_any _).mono ?_
  rintro e w17 ⟨rfl, y⟩
  replace hx := ext_trans hx y
  go_wp2_with (fail)
  go_ret
  exact ⟨rfl, hx⟩
end Go.Proofs.Ytclfplpggmefjaa
