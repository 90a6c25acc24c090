/- The walk of rubriclaw06.PatchParts: whatever is handed in, within the bound of the second form, it answers true and changes nothing that was there. -/
import Derived.Test.YtclfplpggmefjaaDoorPk11
import Derived.Test.YtclfplpggmefjaaDoorPartsLawPd
import Derived.Test.YtclfplpggmefjaaDoorGet05Pd
import Derived.Test.YtclfplpggmefjaaDoorLessPd
import Derived.Test.YtclfplpggmefjaaDoorPk12
import Derived.Test.YtclfplpggmefjaaDoorPk13
namespace Go.Proofs.YtclfplpggmefjaaDoor
open Go.RowKit
set_option linter.unusedVariables false
set_option linter.unusedSimpArgs false

theorem hasKey_none {p : List Ch} {k : Int} (h : hasKey p k = false) : ∀ c ∈ p, c.key ≠ k := by
  intro c hc e
  unfold hasKey at h
  rw [List.any_eq_false] at h
  exact h c hc (by simp [e])

set_option maxRecDepth 100000 in
set_option maxHeartbeats 4000000 in
theorem patchParts_any (A_k A_s A_p : Option Addr) (n_k n_s n_p c_k c_s c_p : Nat) (l_k : List Ky) (l_s : List At) (l_p : List Ch) (w : World)
    (hnk : n_k = l_k.length) (hns : n_s = l_s.length) (hnp : n_p = l_p.length) (r_k : RdKy w w.heap.size A_k l_k) (r_s : RdAt w w.heap.size A_s l_s) (r_p : RdCh w w.heap.size A_p l_p)
    (q_k : n_k ≤ 1048576) (q_s : n_s ≤ 1048576) (q_p : n_p ≤ 1048576) (k_s : n_s ≤ c_s ∧ c_s ≤ maxLen) (hv : okVs l_p) (hT : Lib.Utf8Tabs 1 2 w) :
    Calls Tryd.prog 7 #[.slice A_k n_k c_k, .slice A_s n_s c_s, .slice A_p n_p c_p] w fun e w' => e = .returned (.bool true) ∧ Below w.heap.size w w' := by
  have N_k := Lib.hid hnk
  have N_s := Lib.hid hns
  have N_p := Lib.hid hnp
  have K_s := Lib.hid k_s
  have hx := Below.refl w.heap.size w
  clear hnk hns hnp k_s
  by_cases h64 : (64 : Int) < (n_k : Int)
  · go_enter Tryd.func7, Tryd.ntmps7
    go_wp2_with (go_at_call 26; refine Hid.out ?_)
    refine Lib.hid ?_
    refine (known_any _).mono ?_
    rintro e w2 ⟨rfl, y⟩
    replace hx := ext_trans hx y
    go_wp2_with (fail)
    go_ret
    exact ⟨rfl, hx⟩
  go_enter Tryd.func7, Tryd.ntmps7
  go_wp2_with (go_at_call 24; refine Hid.out ?_)
  refine Lib.hid ?_
  have rss : Rd SA.enc 1 _ _ _ ([SA.mk A_s c_s l_s] : List SA) := Rd.new (enc := SA.enc) (size := 1) (fun _ => rfl) w 46 [SA.mk A_s c_s l_s] (cs := #[.slice A_s n_s c_s]) (by rw [N_s.out]; rfl) rfl
  have y := ext_alloc w (.cells #[.slice A_s n_s c_s] 46)
  replace hx := ext_trans hx y
  refine (great_any _ _ n_p 1 _ _ l_p _ _ N_p.out rfl (r_p.ext y) rss ?hs ?hsb (by omega) (by omega)).mono ?_
  case hs =>
    intro s hs; simp at hs; rcases hs with rfl
    exact r_s.ext y
  case hsb =>
    have e1 := N_s.out
    intro s hs; simp at hs; rcases hs with rfl; simp only; omega
  rintro e w1 ⟨g, rfl, rfl⟩
  clear rss y
  generalize World.alloc w _ = w1 at *
  cases g
  case true =>
    go_wp2_with (go_at_call 26; refine Hid.out ?_)
    refine Lib.hid ?_
    refine (known_any _).mono ?_
    rintro e w2 ⟨rfl, y⟩
    replace hx := ext_trans hx y
    go_wp2_with (fail)
    go_ret
    exact ⟨rfl, hx⟩
  go_wp2_with (go_at_call 25; refine Hid.out ?_)
  refine Lib.hid ?_
  refine (risingA_any _ _ _ l_s _ N_s.out (r_s.ext hx) (by omega)).mono ?_
  rintro e v2 ⟨rfl, d, hd⟩
  have y := (by rw [hd]; exact ext_drew _ _ : Below _ _ v2)
  clear hd
  replace hx := ext_trans hx y
  clear y
  cases hrs : riseA l_s
  case false =>
    clear hrs
    go_wp2_with (go_at_call 26; refine Hid.out ?_)
    refine Lib.hid ?_
    refine (known_any _).mono ?_
    rintro e w2 ⟨rfl, y⟩
    replace hx := ext_trans hx y
    go_wp2_with (fail)
    go_ret
    exact ⟨rfl, hx⟩
  have S_s := Lib.hid hrs
  clear hrs
  go_wp2_with (go_at_call 27; refine Hid.out ?_)
  refine Lib.hid ?_
  refine (new_any A_k n_k c_k l_k _ N_k.out (r_k.ext hx) (by omega)).mono ?_
  rintro e v1 ⟨y, ⟨hm, s, rfl, hS⟩ | ⟨hm, rfl⟩⟩
  all_goals
    replace hx := ext_trans hx y
    clear y hm
  rotate_left
  · skip
    go_wp2_with (go_at_call 26; refine Hid.out ?_)
    refine Lib.hid ?_
    refine (known_any _).mono ?_
    rintro e w2 ⟨rfl, y⟩
    replace hx := ext_trans hx y
    go_wp2_with (fail)
    go_ret
    exact ⟨rfl, hx⟩
  have HS := Lib.hid hS
  clear hS
  go_wp2_with (go_at_call 28; refine Hid.out ?_)
  refine Lib.hid ?_
  refine (mayP_any s l_k A_p n_p c_p l_p _ N_p.out (r_p.ext hx) (by omega) HS.out hv (Utf8Tabs_below hT hx)).mono ?_
  rintro e v2 ⟨rfl, y⟩
  have HS := Lib.hid (HS.out.ext y)
  replace hx := ext_trans hx y
  clear y
  obtain ⟨E, hE⟩ : ∃ X, mayP l_k l_p = X := ⟨_, rfl⟩
  rw [hE]
  by_cases hE0 : E = 0
  rotate_left
  · have hne : (E == 0) = false := beq_eq_false_iff_ne.2 hE0
    clear hE
    go_wp2_with (go_at_call 26; refine Hid.out ?_)
    refine Lib.hid ?_
    refine (known_any _).mono ?_
    rintro e w2 ⟨rfl, y⟩
    replace hx := ext_trans hx y
    go_wp2_with (fail)
    go_ret
    exact ⟨rfl, hx⟩
  subst hE0
  obtain ⟨hl64, hri, hok, hth⟩ := mayP_zero hE
  have S_p := Lib.hid hri
  have TH := Lib.hid hth
  have LEN := Lib.hid (part_len hth)
  clear hE hri hok hth hl64
  obtain ⟨l_a, hla⟩ : ∃ X, partP l_k false l_p = X := ⟨_, rfl⟩
  obtain ⟨l_b, hlb⟩ : ∃ X, partP l_k true l_p = X := ⟨_, rfl⟩
  have E_a := Lib.hid hla
  have E_b := Lib.hid hlb
  clear hla hlb
  go_wp2_with (go_at_call 29; refine Hid.out ?_)
  refine Lib.hid ?_
  refine (part_any s l_k false A_p n_p c_p l_p _ N_p.out (r_p.ext hx) (by omega) HS.out).mono ?_
  rintro e v2 ⟨A_a, c_a, rfl, ho, y⟩
  have HS := Lib.hid (HS.out.ext y)
  replace hx := ext_trans hx y
  clear y
  rw [E_a.out] at ho ⊢
  have R_a := Lib.hid (ho.rd Ch.enc_len)
  have hl : l_a.length ≤ 1048576 := by
    have h1 : (partP l_k false l_p).length ≤ l_p.length := List.length_filter_le _ _
    rw [E_a.out] at h1
    have := N_p.out
    omega
  obtain ⟨n_a, hn⟩ : ∃ X, l_a.length = X := ⟨_, rfl⟩
  rw [hn] at hl ⊢
  have N_a := Lib.hid hn.symm
  have Q_a := Lib.hid hl
  clear ho hn hl
  go_wp2_with (go_at_call 29; refine Hid.out ?_)
  refine Lib.hid ?_
  refine (part_any s l_k true A_p n_p c_p l_p _ N_p.out (r_p.ext hx) (by omega) HS.out).mono ?_
  rintro e v2 ⟨A_b, c_b, rfl, ho, y⟩
  have HS := Lib.hid (HS.out.ext y)
  have R_a := Lib.hid (R_a.out.ext y)
  replace hx := ext_trans hx y
  clear y
  rw [E_b.out] at ho ⊢
  have R_b := Lib.hid (ho.rd Ch.enc_len)
  have hl : l_b.length ≤ 1048576 := by
    have h1 : (partP l_k true l_p).length ≤ l_p.length := List.length_filter_le _ _
    rw [E_b.out] at h1
    have := N_p.out
    omega
  obtain ⟨n_b, hn⟩ : ∃ X, l_b.length = X := ⟨_, rfl⟩
  rw [hn] at hl ⊢
  have N_b := Lib.hid hn.symm
  have Q_b := Lib.hid hl
  clear ho hn hl
  have S_a : Hid (riseC l_a = true) := Lib.hid (by rw [← E_a.out]; exact riseC_srt.2 (part_srt (riseC_srt.1 S_p.out)))
  have S_b : Hid (riseC l_b = true) := Lib.hid (by rw [← E_b.out]; exact riseC_srt.2 (part_srt (riseC_srt.1 S_p.out)))
  go_wp2_with (go_at_call 30; refine Hid.out ?_)
  refine Lib.hid ?_
  refine (apply_any A_s A_p n_s n_p c_s c_p l_s l_p _ N_s.out N_p.out (r_s.ext hx) (r_p.ext hx) (by have := q_s; omega) (by have := q_p; omega) K_s.out.1 K_s.out.2).mono ?_
  rintro e v2 ⟨A_o, c_o, rfl, ho, y⟩
  have HS := Lib.hid (HS.out.ext y)
  have R_a := Lib.hid (R_a.out.ext y)
  have R_b := Lib.hid (R_b.out.ext y)
  replace hx := ext_trans hx y
  clear y
  have hl : (applyP l_p l_s).length ≤ 2097152 := by
    have h1 := (apply_all (p := l_p) (riseC_srt.1 S_p.out) (s := l_s) (riseA_srt.1 S_s.out)).2.2.2
    have h2 := N_s.out
    have h3 := N_p.out
    have h4 := q_s
    have h5 := q_p
    omega
  have hr : riseA (applyP l_p l_s) = true := riseA_srt.2 (apply_all (p := l_p) (riseC_srt.1 S_p.out) (s := l_s) (riseA_srt.1 S_s.out)).1
  obtain ⟨l_o, hl2⟩ : ∃ X, applyP l_p l_s = X := ⟨_, rfl⟩
  rw [hl2] at ho hl hr ⊢
  have E_o := Lib.hid hl2
  have S_o := Lib.hid hr
  have R_o := Lib.hid (ho.rd At.enc_len)
  have K_o := Lib.hid ho.cap
  obtain ⟨n_o, hn⟩ : ∃ X, l_o.length = X := ⟨_, rfl⟩
  have K_o := Lib.hid (by have h := K_o.out; rw [hn] at h; exact h)
  rw [hn] at hl ⊢
  have N_o := Lib.hid hn.symm
  have Q_o := Lib.hid hl
  clear ho hn hl hl2 hr
  go_wp2_with (go_at_call 30; refine Hid.out ?_)
  refine Lib.hid ?_
  refine (apply_any A_s A_a n_s n_a c_s c_a l_s l_a _ N_s.out N_a.out (r_s.ext hx) (R_a.out) (by have := q_s; omega) (by have := Q_a.out; omega) K_s.out.1 K_s.out.2).mono ?_
  rintro e v2 ⟨A_x, c_x, rfl, ho, y⟩
  have HS := Lib.hid (HS.out.ext y)
  have R_a := Lib.hid (R_a.out.ext y)
  have R_b := Lib.hid (R_b.out.ext y)
  have R_o := Lib.hid (R_o.out.ext y)
  replace hx := ext_trans hx y
  clear y
  have hl : (applyP l_a l_s).length ≤ 2097152 := by
    have h1 := (apply_all (p := l_a) (riseC_srt.1 S_a.out) (s := l_s) (riseA_srt.1 S_s.out)).2.2.2
    have h2 := N_s.out
    have h3 := N_a.out
    have h4 := q_s
    have h5 := Q_a.out
    omega
  have hr : riseA (applyP l_a l_s) = true := riseA_srt.2 (apply_all (p := l_a) (riseC_srt.1 S_a.out) (s := l_s) (riseA_srt.1 S_s.out)).1
  obtain ⟨l_x, hl2⟩ : ∃ X, applyP l_a l_s = X := ⟨_, rfl⟩
  rw [hl2] at ho hl hr ⊢
  have E_x := Lib.hid hl2
  have S_x := Lib.hid hr
  have R_x := Lib.hid (ho.rd At.enc_len)
  have K_x := Lib.hid ho.cap
  obtain ⟨n_x, hn⟩ : ∃ X, l_x.length = X := ⟨_, rfl⟩
  have K_x := Lib.hid (by have h := K_x.out; rw [hn] at h; exact h)
  rw [hn] at hl ⊢
  have N_x := Lib.hid hn.symm
  have Q_x := Lib.hid hl
  clear ho hn hl hl2 hr
  go_wp2_with (go_at_call 30; refine Hid.out ?_)
  refine Lib.hid ?_
  refine (apply_any A_x A_b n_x n_b c_x c_b l_x l_b _ N_x.out N_b.out (R_x.out) (R_b.out) (by have := Q_x.out; omega) (by have := Q_b.out; omega) K_x.out.1 K_x.out.2).mono ?_
  rintro e v2 ⟨A_z, c_z, rfl, ho, y⟩
  have HS := Lib.hid (HS.out.ext y)
  have R_a := Lib.hid (R_a.out.ext y)
  have R_b := Lib.hid (R_b.out.ext y)
  have R_o := Lib.hid (R_o.out.ext y)
  have R_x := Lib.hid (R_x.out.ext y)
  replace hx := ext_trans hx y
  clear y
  have hl : (applyP l_b l_x).length ≤ 3145728 := by
    have h1 := (apply_all (p := l_b) (riseC_srt.1 S_b.out) (s := l_x) (riseA_srt.1 S_x.out)).2.2.2
    have h2 := N_x.out
    have h3 := N_b.out
    have h4 := Q_x.out
    have h5 := Q_b.out
    omega
  have hr : riseA (applyP l_b l_x) = true := riseA_srt.2 (apply_all (p := l_b) (riseC_srt.1 S_b.out) (s := l_x) (riseA_srt.1 S_x.out)).1
  obtain ⟨l_z, hl2⟩ : ∃ X, applyP l_b l_x = X := ⟨_, rfl⟩
  rw [hl2] at ho hl hr ⊢
  have E_z := Lib.hid hl2
  have S_z := Lib.hid hr
  have R_z := Lib.hid (ho.rd At.enc_len)
  have K_z := Lib.hid ho.cap
  obtain ⟨n_z, hn⟩ : ∃ X, l_z.length = X := ⟨_, rfl⟩
  have K_z := Lib.hid (by have h := K_z.out; rw [hn] at h; exact h)
  rw [hn] at hl ⊢
  have N_z := Lib.hid hn.symm
  have Q_z := Lib.hid hl
  clear ho hn hl hl2 hr
  have hd : decide (l_z = l_o) = true := decide_eq_true (by rw [← E_z.out, ← E_x.out, ← E_o.out, ← E_a.out, ← E_b.out]; exact apply_part false S_p.out TH.out S_s.out)
  have HD := Lib.hid hd
  clear hd
  go_wp2_with (go_at_call 31; refine Hid.out ?_)
  refine Lib.hid ?_
  refine (sameA_any A_z A_o n_z n_o c_z c_o l_z l_o _ N_z.out N_o.out R_z.out R_o.out (by have := Q_z.out; omega) (by have := Q_o.out; omega)).mono ?_
  rintro e v2 ⟨rfl, d, hd⟩
  have y := (by rw [hd]; exact ext_drew _ _ : Below _ _ v2)
  clear hd
  rw [HD.out]
  have HS := Lib.hid (HS.out.ext y)
  have R_a := Lib.hid (R_a.out.ext y)
  have R_b := Lib.hid (R_b.out.ext y)
  have R_o := Lib.hid (R_o.out.ext y)
  have R_x := Lib.hid (R_x.out.ext y)
  have R_z := Lib.hid (R_z.out.ext y)
  replace hx := ext_trans hx y
  clear y
  go_wp2_with (go_at_call 30; refine Hid.out ?_)
  refine Lib.hid ?_
  refine (apply_any A_s A_b n_s n_b c_s c_b l_s l_b _ N_s.out N_b.out (r_s.ext hx) (R_b.out) (by have := q_s; omega) (by have := Q_b.out; omega) K_s.out.1 K_s.out.2).mono ?_
  rintro e v2 ⟨A_f, c_f, rfl, ho, y⟩
  have HS := Lib.hid (HS.out.ext y)
  have R_a := Lib.hid (R_a.out.ext y)
  have R_b := Lib.hid (R_b.out.ext y)
  have R_o := Lib.hid (R_o.out.ext y)
  have R_x := Lib.hid (R_x.out.ext y)
  have R_z := Lib.hid (R_z.out.ext y)
  replace hx := ext_trans hx y
  clear y
  have hl : (applyP l_b l_s).length ≤ 2097152 := by
    have h1 := (apply_all (p := l_b) (riseC_srt.1 S_b.out) (s := l_s) (riseA_srt.1 S_s.out)).2.2.2
    have h2 := N_s.out
    have h3 := N_b.out
    have h4 := q_s
    have h5 := Q_b.out
    omega
  have hr : riseA (applyP l_b l_s) = true := riseA_srt.2 (apply_all (p := l_b) (riseC_srt.1 S_b.out) (s := l_s) (riseA_srt.1 S_s.out)).1
  obtain ⟨l_f, hl2⟩ : ∃ X, applyP l_b l_s = X := ⟨_, rfl⟩
  rw [hl2] at ho hl hr ⊢
  have E_f := Lib.hid hl2
  have S_f := Lib.hid hr
  have R_f := Lib.hid (ho.rd At.enc_len)
  have K_f := Lib.hid ho.cap
  obtain ⟨n_f, hn⟩ : ∃ X, l_f.length = X := ⟨_, rfl⟩
  have K_f := Lib.hid (by have h := K_f.out; rw [hn] at h; exact h)
  rw [hn] at hl ⊢
  have N_f := Lib.hid hn.symm
  have Q_f := Lib.hid hl
  clear ho hn hl hl2 hr
  go_wp2_with (go_at_call 30; refine Hid.out ?_)
  refine Lib.hid ?_
  refine (apply_any A_f A_a n_f n_a c_f c_a l_f l_a _ N_f.out N_a.out (R_f.out) (R_a.out) (by have := Q_f.out; omega) (by have := Q_a.out; omega) K_f.out.1 K_f.out.2).mono ?_
  rintro e v2 ⟨A_g, c_g, rfl, ho, y⟩
  have HS := Lib.hid (HS.out.ext y)
  have R_a := Lib.hid (R_a.out.ext y)
  have R_b := Lib.hid (R_b.out.ext y)
  have R_o := Lib.hid (R_o.out.ext y)
  have R_x := Lib.hid (R_x.out.ext y)
  have R_z := Lib.hid (R_z.out.ext y)
  have R_f := Lib.hid (R_f.out.ext y)
  replace hx := ext_trans hx y
  clear y
  have hl : (applyP l_a l_f).length ≤ 3145728 := by
    have h1 := (apply_all (p := l_a) (riseC_srt.1 S_a.out) (s := l_f) (riseA_srt.1 S_f.out)).2.2.2
    have h2 := N_f.out
    have h3 := N_a.out
    have h4 := Q_f.out
    have h5 := Q_a.out
    omega
  have hr : riseA (applyP l_a l_f) = true := riseA_srt.2 (apply_all (p := l_a) (riseC_srt.1 S_a.out) (s := l_f) (riseA_srt.1 S_f.out)).1
  obtain ⟨l_g, hl2⟩ : ∃ X, applyP l_a l_f = X := ⟨_, rfl⟩
  rw [hl2] at ho hl hr ⊢
  have E_g := Lib.hid hl2
  have S_g := Lib.hid hr
  have R_g := Lib.hid (ho.rd At.enc_len)
  have K_g := Lib.hid ho.cap
  obtain ⟨n_g, hn⟩ : ∃ X, l_g.length = X := ⟨_, rfl⟩
  have K_g := Lib.hid (by have h := K_g.out; rw [hn] at h; exact h)
  rw [hn] at hl ⊢
  have N_g := Lib.hid hn.symm
  have Q_g := Lib.hid hl
  clear ho hn hl hl2 hr
  have hd : decide (l_g = l_o) = true := decide_eq_true (by rw [← E_g.out, ← E_f.out, ← E_o.out, ← E_a.out, ← E_b.out]; exact apply_part true S_p.out TH.out S_s.out)
  have HD := Lib.hid hd
  clear hd
  go_wp2_with (go_at_call 31; refine Hid.out ?_)
  refine Lib.hid ?_
  refine (sameA_any A_g A_o n_g n_o c_g c_o l_g l_o _ N_g.out N_o.out R_g.out R_o.out (by have := Q_g.out; omega) (by have := Q_o.out; omega)).mono ?_
  rintro e v2 ⟨rfl, d, hd⟩
  have y := (by rw [hd]; exact ext_drew _ _ : Below _ _ v2)
  clear hd
  rw [HD.out]
  have HS := Lib.hid (HS.out.ext y)
  have R_a := Lib.hid (R_a.out.ext y)
  have R_b := Lib.hid (R_b.out.ext y)
  have R_o := Lib.hid (R_o.out.ext y)
  have R_x := Lib.hid (R_x.out.ext y)
  have R_z := Lib.hid (R_z.out.ext y)
  have R_f := Lib.hid (R_f.out.ext y)
  have R_g := Lib.hid (R_g.out.ext y)
  replace hx := ext_trans hx y
  clear y
  go_wp2_with (go_at_call 30; refine Hid.out ?_)
  refine Lib.hid ?_
  refine (apply_any A_o A_p n_o n_p c_o c_p l_o l_p _ N_o.out N_p.out (R_o.out) (r_p.ext hx) (by have := Q_o.out; omega) (by have := q_p; omega) K_o.out.1 K_o.out.2).mono ?_
  rintro e v2 ⟨A_h, c_h, rfl, ho, y⟩
  have HS := Lib.hid (HS.out.ext y)
  have R_a := Lib.hid (R_a.out.ext y)
  have R_b := Lib.hid (R_b.out.ext y)
  have R_o := Lib.hid (R_o.out.ext y)
  have R_x := Lib.hid (R_x.out.ext y)
  have R_z := Lib.hid (R_z.out.ext y)
  have R_f := Lib.hid (R_f.out.ext y)
  have R_g := Lib.hid (R_g.out.ext y)
  replace hx := ext_trans hx y
  clear y
  have hl : (applyP l_p l_o).length ≤ 3145728 := by
    have h1 := (apply_all (p := l_p) (riseC_srt.1 S_p.out) (s := l_o) (riseA_srt.1 S_o.out)).2.2.2
    have h2 := N_o.out
    have h3 := N_p.out
    have h4 := Q_o.out
    have h5 := q_p
    omega
  have hr : riseA (applyP l_p l_o) = true := riseA_srt.2 (apply_all (p := l_p) (riseC_srt.1 S_p.out) (s := l_o) (riseA_srt.1 S_o.out)).1
  obtain ⟨l_h, hl2⟩ : ∃ X, applyP l_p l_o = X := ⟨_, rfl⟩
  rw [hl2] at ho hl hr ⊢
  have E_h := Lib.hid hl2
  have S_h := Lib.hid hr
  have R_h := Lib.hid (ho.rd At.enc_len)
  have K_h := Lib.hid ho.cap
  obtain ⟨n_h, hn⟩ : ∃ X, l_h.length = X := ⟨_, rfl⟩
  have K_h := Lib.hid (by have h := K_h.out; rw [hn] at h; exact h)
  rw [hn] at hl ⊢
  have N_h := Lib.hid hn.symm
  have Q_h := Lib.hid hl
  clear ho hn hl hl2 hr
  have hd : decide (l_h = l_o) = true := decide_eq_true (by rw [← E_h.out, ← E_o.out]; exact apply_twice S_p.out S_s.out)
  have HD := Lib.hid hd
  clear hd
  go_wp2_with (go_at_call 31; refine Hid.out ?_)
  refine Lib.hid ?_
  refine (sameA_any A_h A_o n_h n_o c_h c_o l_h l_o _ N_h.out N_o.out R_h.out R_o.out (by have := Q_h.out; omega) (by have := Q_o.out; omega)).mono ?_
  rintro e v2 ⟨rfl, d, hd⟩
  have y := (by rw [hd]; exact ext_drew _ _ : Below _ _ v2)
  clear hd
  rw [HD.out]
  have HS := Lib.hid (HS.out.ext y)
  have R_a := Lib.hid (R_a.out.ext y)
  have R_b := Lib.hid (R_b.out.ext y)
  have R_o := Lib.hid (R_o.out.ext y)
  have R_x := Lib.hid (R_x.out.ext y)
  have R_z := Lib.hid (R_z.out.ext y)
  have R_f := Lib.hid (R_f.out.ext y)
  have R_g := Lib.hid (R_g.out.ext y)
  have R_h := Lib.hid (R_h.out.ext y)
  replace hx := ext_trans hx y
  clear y
  have hsum : n_a + n_b = n_p := by
    have h1 := LEN.out
    rw [E_a.out, E_b.out] at h1
    have := N_a.out
    have := N_b.out
    have := N_p.out
    omega
  have hq : (n_a : Int) + (n_b : Int) = n_p := by omega
  have hwr : IntKind.i64.wrap ((n_p : Int)) = n_p := IntWalk.i64_in _ (by omega)
  clear hsum
  have WH : Hid (∀ a ∈ l_s, hasKey l_p a.key = false → getA l_o a.key = some a.v) := Lib.hid (fun a ha hn => by
    rw [getA_lk, ← E_o.out, apply_keeps S_p.out S_s.out ha (hasKey_none hn)]; rfl)
  clear HS R_a R_b R_x R_z R_f R_g R_h
  go_wp2_with (fail)
  go_loopg [93] n_s (fun g iv wr => ∃ m : Nat, m ≤ n_s ∧ g = n_s - m ∧ iv = .int .i64 (m : Int) ∧ Below v2.heap.size v2 wr)
  case atStart => exact ⟨0, by omega, rfl, rfl, Below.refl _ _⟩
  case round =>
    obtain ⟨m, hm, hg, rfl, yr⟩ := hrel
    have HG := Lib.hid hg
    clear hg
    by_cases hlt : m < n_s
    · have hl1 : m < l_s.length := by have := N_s.out; omega
      have hxr := ext_trans hx yr
      obtain ⟨ad, x, rfl, had, hd1, hx1, hc0⟩ := (r_s.below hxr (Nat.le_refl _)).el hl1
      have hgx := WH.out x (List.mem_of_getElem? hx1)
      obtain ⟨x1, x2, x3, x4, x5⟩ := x
      have HGX := Lib.hid hgx
      obtain ⟨r0, r1, r2, r3, r4⟩ := at_cells hc0
      have HC0 := Lib.hid hc0
      clear hd1 hx1 hc0 hgx
      have hw2 : IntKind.i64.wrap ((m:Int) + 1) = (m : Int) + 1 := IntWalk.i64_in _ (by omega)
      go_wp2_with (go_at_call 32; refine Hid.out ?_)
      refine Lib.hid ?_
      refine (find06_any A_p n_p c_p l_p x1 wr N_p.out (r_p.ext hxr) (by omega)).mono ?_
      rintro e v3 ⟨⟨u1, u6, u2, u3, u4, u5⟩, rfl, y3⟩
      generalize hhk : hasKey l_p x1 = HKb
      have HHK := Lib.hid hhk
      clear hhk
      have y4 := ext_alloc v3 (.cells #[.int .i64 u1, .bool u6, .int .u8 u2, .int .i64 u3, .int .u64 u4, .string u5] 58)
      have yy4 := ext_trans yr (ext_trans y3 y4)
      have hc1 := HC0.out.keep (w' := v3.alloc (.cells #[.int .i64 u1, .bool u6, .int .u8 u2, .int .i64 u3, .int .u64 u4, .string u5] 58)) (fun q hq => (ext_trans y3 y4).cell (by rw [hq, add_block]; exact Nat.lt_of_lt_of_le had hxr.size))
      clear r0 r1 r2 r3 r4
      obtain ⟨r0, r1, r2, r3, r4⟩ := at_cells hc1
      have HC1 := Lib.hid hc1
      clear hc1
      cases HKb with
      | true =>
        go_wp2_with (fail)
        go_roundg (n_s - (m + 1))
        case measure => have := HG.out; omega
        case rel => exact ⟨m + 1, by omega, rfl, by go_num, yy4⟩
      | false =>
        have HGV := Lib.hid (HGX.out HHK.out)
        go_wp2_with (go_at_call 33; refine Hid.out ?_)
        refine Lib.hid ?_
        refine (get05_any A_o n_o c_o l_o x1 _ N_o.out (R_o.out.ext yy4) (by have := Q_o.out; omega)).mono ?_
        rintro e v5 ⟨k1, k2, k3, k4, q, rfl, hq1, hq2, y5⟩
        rw [HGV.out] at hq1 hq2
        simp only [Option.getD_some, V.mk.injEq] at hq1
        simp only [Option.isSome_some] at hq2
        obtain ⟨rfl, rfl, rfl, rfl⟩ := hq1
        subst hq2
        have y6 := ext_alloc v5 (.cells #[.int .u8 x2, .int .i64 x3, .int .u64 x4, .string x5] 24)
        have hbx := heap_alloc_new v5 (.cells #[.int .u8 x2, .int .i64 x3, .int .u64 x4, .string x5] 24)
        have yy6 := ext_trans yy4 (ext_trans y5 y6)
        have hc2 := HC1.out.keep (w' := v5.alloc (.cells #[.int .u8 x2, .int .i64 x3, .int .u64 x4, .string x5] 24)) (fun q hq => (ext_trans y5 y6).cell (by rw [hq, add_block]; exact Nat.lt_of_lt_of_le had (ext_trans hx yy4).size))
        clear r0 r1 r2 r3 r4
        obtain ⟨r0, r1, r2, r3, r4⟩ := at_cells hc2
        obtain ⟨b0, b1, b2, b3⟩ := box_v hbx
        have hbq : beqV ⟨x2, x3, x4, x5⟩ ⟨x2, x3, x4, x5⟩ = true := beqV_eq rfl
        clear hc2 hbx
        go_wp2_with (fail)
        go_quiet (fail)
        go_wp2_with (fail)
        go_roundg (n_s - (m + 1))
        case measure => have := HG.out; omega
        case rel => exact ⟨m + 1, by omega, rfl, by go_num, yy6.trans ((ext_drew _ _).mono yy6.size)⟩
    · replace hx := ext_trans hx yr
      clear yr
      go_wp2_with (go_at_call 26; refine Hid.out ?_)
      refine Lib.hid ?_
      refine (known_any _).mono ?_
      rintro e w2 ⟨rfl, y⟩
      replace hx := ext_trans hx y
      go_wp2_with (fail)
      go_ret
      exact ⟨rfl, hx⟩
end Go.Proofs.YtclfplpggmefjaaDoor
