/- The walk of rubriclaw05.AttrsParts: whatever is handed in, it answers true and changes nothing that was there. -/
import Derived.Test.YtnhmbocgopjbjaaDoorPk10
import Derived.Test.YtnhmbocgopjbjaaDoorPk13
namespace Go.Proofs.YtnhmbocgopjbjaaDoor
open Go.RowKit
set_option linter.unusedVariables false
set_option linter.unusedSimpArgs false

set_option maxRecDepth 100000 in
set_option maxHeartbeats 4000000 in
theorem attrsParts_any (A_k A_s : Option Addr) (n_k n_s c_k c_s : Nat) (l_k : List Ky) (l_s : List At) (w : World)
    (hnk : n_k = l_k.length) (hns : n_s = l_s.length) (r_k : RdKy w w.heap.size A_k l_k) (r_s : RdAt w w.heap.size A_s l_s)
    (q_k : n_k ≤ 9223372036854775807) (b_s : n_s ≤ 9223372036854775807) (vs : okVr l_s) (hT : Lib.Utf8Tabs 1 2 w) :
    Calls Tryd.prog 8 #[.slice A_k n_k c_k, .slice A_s n_s c_s] w fun e w' => e = .returned (.bool true) ∧ Below w.heap.size w w' := by
  have N_k := Lib.hid hnk
  have N_s := Lib.hid hns
  have hx := Below.refl w.heap.size w
  clear hnk hns
  by_cases h64 : (64 : Int) < (n_k : Int)
  · go_enter Tryd.func8, Tryd.ntmps8
    go_wp2_with (go_at_call 19; refine Hid.out ?_)
    refine Lib.hid ?_
    refine (known05_any _).mono ?_
    rintro e w2 ⟨rfl, y⟩
    replace hx := ext_trans hx y
    go_wp2_with (fail)
    go_ret
    exact ⟨rfl, hx⟩
  go_enter Tryd.func8, Tryd.ntmps8
  go_wp2_with (go_at_call 18; refine Hid.out ?_)
  refine Lib.hid ?_
  refine (great05_any A_s n_s c_s l_s _ N_s.out (r_s.ext hx) (by omega)).mono ?_
  rintro e v ⟨g, rfl, hgr, rfl⟩
  cases g
  case true =>
    go_wp2_with (go_at_call 19; refine Hid.out ?_)
    refine Lib.hid ?_
    refine (known05_any _).mono ?_
    rintro e w2 ⟨rfl, y⟩
    replace hx := ext_trans hx y
    go_wp2_with (fail)
    go_ret
    exact ⟨rfl, hx⟩
  have q_s : n_s ≤ 100 := hgr rfl
  clear hgr
  go_wp2_with (go_at_call 12; refine Hid.out ?_)
  refine Lib.hid ?_
  refine (new_any A_k n_k c_k l_k _ N_k.out (r_k.ext hx) (by omega)).mono ?_
  rintro e v1 ⟨y, ⟨hm, s, rfl, hS⟩ | ⟨hm, rfl⟩⟩
  all_goals
    replace hx := ext_trans hx y
    clear y
  rotate_left
  · skip
    go_wp2_with (go_at_call 19; refine Hid.out ?_)
    refine Lib.hid ?_
    refine (known05_any _).mono ?_
    rintro e w2 ⟨rfl, y⟩
    replace hx := ext_trans hx y
    go_wp2_with (fail)
    go_ret
    exact ⟨rfl, hx⟩
  have HS := Lib.hid hS
  clear hS hm
  go_wp2_with (go_at_call 20; refine Hid.out ?_)
  refine Lib.hid ?_
  refine (mayS_any s l_k A_s n_s c_s l_s _ N_s.out (r_s.ext hx) (by omega) HS.out vs (Utf8Tabs_below hT hx)).mono ?_
  rintro e v2 ⟨rfl, y⟩
  have HS := Lib.hid (HS.out.ext y)
  replace hx := ext_trans hx y
  clear y
  obtain ⟨E, hE⟩ : ∃ X, mayS l_k l_s = X := ⟨_, rfl⟩
  rw [hE]
  by_cases hE0 : E = 0
  rotate_left
  · have hne : (E == 0) = false := beq_eq_false_iff_ne.2 hE0
    clear hE
    go_wp2_with (go_at_call 19; refine Hid.out ?_)
    refine Lib.hid ?_
    refine (known05_any _).mono ?_
    rintro e w2 ⟨rfl, y⟩
    replace hx := ext_trans hx y
    go_wp2_with (fail)
    go_ret
    exact ⟨rfl, hx⟩
  subst hE0
  have M_s := Lib.hid hE
  have S_s := Lib.hid (mayS_zero hE).2.1
  clear hE
  have TH := Lib.hid (mayS_zero M_s.out).2.2.2
  have LEN := Lib.hid (partS_len TH.out)
  have BOTH := Lib.hid (both_parts S_s.out TH.out)
  have E0a := Lib.hid (partS_part (l := l_k) (p := l_s) false)
  have E0b := Lib.hid (partS_part (l := l_k) (p := l_s) true)
  obtain ⟨l_a, hla⟩ : ∃ X, partS l_k false l_s = X := ⟨_, rfl⟩
  obtain ⟨l_b, hlb⟩ : ∃ X, partS l_k true l_s = X := ⟨_, rfl⟩
  have E_a := Lib.hid hla
  have E_b := Lib.hid hlb
  clear hla hlb
  go_wp2_with (go_at_call 24; refine Hid.out ?_)
  refine Lib.hid ?_
  refine (partA_any s l_k false A_s n_s c_s l_s _ N_s.out (r_s.ext hx) (by omega) HS.out).mono ?_
  rintro e v2 ⟨A_a, c_a, rfl, ho, y⟩
  have HS := Lib.hid (HS.out.ext y)
  replace hx := ext_trans hx y
  clear y
  rw [E_a.out] at ho ⊢
  have R_a := Lib.hid (ho.rd At.enc_len)
  have hl : l_a.length ≤ 100 := by
    have h1 : (partS l_k false l_s).length ≤ l_s.length := List.length_filter_le _ _
    rw [E_a.out] at h1
    have := N_s.out
    omega
  obtain ⟨n_a, hn⟩ : ∃ X, l_a.length = X := ⟨_, rfl⟩
  rw [hn] at hl ⊢
  have N_a := Lib.hid hn.symm
  have Q_a := Lib.hid hl
  clear ho hn hl
  go_wp2_with (go_at_call 24; refine Hid.out ?_)
  refine Lib.hid ?_
  refine (partA_any s l_k true A_s n_s c_s l_s _ N_s.out (r_s.ext hx) (by omega) HS.out).mono ?_
  rintro e v2 ⟨A_b, c_b, rfl, ho, y⟩
  have HS := Lib.hid (HS.out.ext y)
  have R_a := Lib.hid (R_a.out.ext y)
  replace hx := ext_trans hx y
  clear y
  rw [E_b.out] at ho ⊢
  have R_b := Lib.hid (ho.rd At.enc_len)
  have hl : l_b.length ≤ 100 := by
    have h1 : (partS l_k true l_s).length ≤ l_s.length := List.length_filter_le _ _
    rw [E_b.out] at h1
    have := N_s.out
    omega
  obtain ⟨n_b, hn⟩ : ∃ X, l_b.length = X := ⟨_, rfl⟩
  rw [hn] at hl ⊢
  have N_b := Lib.hid hn.symm
  have Q_b := Lib.hid hl
  clear ho hn hl
  go_wp2_with (go_at_call 29; refine Hid.out ?_)
  refine Lib.hid ?_
  refine (copy_any A_a n_a c_a l_a _ N_a.out R_a.out (by have := Q_a.out; omega)).mono ?_
  rintro e v2 ⟨A_o, c_o, rfl, ho, y⟩
  have HS := Lib.hid (HS.out.ext y)
  have R_a := Lib.hid (R_a.out.ext y)
  have R_b := Lib.hid (R_b.out.ext y)
  replace hx := ext_trans hx y
  clear y
  have R_o := Lib.hid (ho.rd At.enc_len)
  have S_a : Hid (riseA l_a = true) := Lib.hid (by rw [← E_a.out]; exact riseA_srt.2 ((riseA_srt.1 S_s.out).filter At.key _))
  rw [show l_a.length = n_a from N_a.out.symm]
  clear ho
  go_wp2_with (fail)
  go_loopg [9, 43] n_b (fun g ov iv wr => ∃ (m : Nat) (A : Option Addr) (n c : Nat) (o : List At), m ≤ n_b ∧ g = n_b - m ∧ iv = .int .i64 (m : Int) ∧ ov = .slice A n c ∧ n = o.length ∧ n ≤ n_a + m ∧ RdAt wr wr.heap.size A o ∧ riseA o = true ∧ Below v2.heap.size v2 wr ∧ Hid ((l_b.drop m).foldl withP o = l_s))
  case atStart => exact ⟨0, A_o, n_a, c_o, l_a, by omega, rfl, rfl, rfl, N_a.out, by omega, R_o.out, S_a.out, Below.refl _ _, Lib.hid (by rw [List.drop_zero, ← E_a.out, ← E_b.out]; exact BOTH.out)⟩
  case round =>
    obtain ⟨m, A, n, c, o, hm, hg, rfl, rfl, hno, hnm, hr, hri, yr, HI⟩ := hrel
    have HG := Lib.hid hg
    have HNO := Lib.hid hno
    have HRI := Lib.hid hri
    have qa := Q_a.out
    have qb := Q_b.out
    clear hg hno hri
    by_cases hlt : m < n_b
    · have hl1 : m < l_b.length := by have := N_b.out; omega
      obtain ⟨ad, x, rfl, had, hd1, hx1, hc0⟩ := (R_b.out.ext yr).el hl1
      obtain ⟨x1, x2, x3, x4, x5⟩ := x
      obtain ⟨r0, r1, r2, r3, r4⟩ := at_cells hc0
      have HI2 : Hid ((l_b.drop (m + 1)).foldl withP (withP o ⟨x1, x2, x3, x4, x5⟩) = l_s) := Lib.hid (by rw [← HI.out, hd1]; rfl)
      clear hc0 hd1 hx1 HI
      have hw2 : IntKind.i64.wrap ((m:Int) + 1) = (m : Int) + 1 := IntWalk.i64_in _ (by omega)
      go_wp2_with (go_at_call 22; refine Hid.out ?_)
      refine Lib.hid ?_
      refine (with_any A n c o x1 x2 x3 x4 x5 _ HNO.out hr (by omega)).mono ?_
      rintro e v3 ⟨r, hrw, hrl, A3, c3, rfl, ho3, y3⟩
      have hrw2 := hrw HRI.out
      have HW := Lib.hid hrw2
      have R3 := Lib.hid (ho3.rd At.enc_len)
      have hrl2 : r.length ≤ n_a + (m + 1) := by have := HNO.out; omega
      clear hrw hrw2 ho3
      go_wp2_with (fail)
      go_roundg (n_b - (m + 1))
      case measure => have := HG.out; omega
      case rel => exact ⟨m + 1, A3, r.length, c3, r, by omega, rfl, by go_num, rfl, rfl, hrl2, R3.out, by rw [HW.out]; exact (with_all HRI.out _).1, ext_trans yr y3, Lib.hid (by rw [HW.out]; exact HI2.out)⟩
    · have hos : o = l_s := by rw [← HI.out, List.drop_eq_nil_of_le (by have := N_b.out; omega)]; rfl
      subst hos
      replace hx := ext_trans hx yr
      have HS := Lib.hid (HS.out.ext yr)
      have R_a := Lib.hid (R_a.out.ext yr)
      have R_b := Lib.hid (R_b.out.ext yr)
      have hsum : n_a + n_b = n_s := by
        have h1 := LEN.out
        rw [E_a.out, E_b.out] at h1
        have := N_a.out
        have := N_b.out
        have := N_s.out
        omega
      have hq : (n_a : Int) + (n_b : Int) = n_s := by omega
      have hwr : IntKind.i64.wrap ((n_s : Int)) = n_s := IntWalk.i64_in _ (by omega)
      clear hsum yr HI
      go_wp2_with (go_at_call 27; refine Hid.out ?_)
      refine Lib.hid ?_
      refine (attrsSame_any A A_s n n_s c c_s o o _ HNO.out N_s.out hr (r_s.ext hx) (by omega) (by omega)).mono ?_
      rintro e v4 ⟨rfl, d, hd⟩
      have y := (by rw [hd]; exact ext_drew _ _ : Below _ _ v4)
      clear hd
      have ht : decide (o = o) = true := decide_eq_true rfl
      rw [ht]
      have HS := Lib.hid (HS.out.ext y)
      have R_a := Lib.hid (R_a.out.ext y)
      have R_b := Lib.hid (R_b.out.ext y)
      replace hx := ext_trans hx y
      clear y
      go_wp2_with (go_at_call 24; refine Hid.out ?_)
      refine Lib.hid ?_
      refine (partA_any s l_k true A_a n_a c_a l_a _ N_a.out R_a.out (by omega) HS.out).mono ?_
      rintro e v5 ⟨A5, c5, rfl, ho, y⟩
      rw [show partS l_k true l_a = [] by rw [← E_a.out]; exact E0a.out]
      have HS := Lib.hid (HS.out.ext y)
      have R_b := Lib.hid (R_b.out.ext y)
      replace hx := ext_trans hx y
      clear y ho
      go_wp2_with (go_at_call 24; refine Hid.out ?_)
      refine Lib.hid ?_
      refine (partA_any s l_k false A_b n_b c_b l_b _ N_b.out R_b.out (by omega) HS.out).mono ?_
      rintro e v6 ⟨A6, c6, rfl, ho, y⟩
      rw [show partS l_k false l_b = [] by rw [← E_b.out]; exact E0b.out]
      replace hx := ext_trans hx y
      clear y ho
      go_wp2_with (go_at_call 19; refine Hid.out ?_)
      refine Lib.hid ?_
      refine (known05_any _).mono ?_
      rintro e w2 ⟨rfl, y⟩
      replace hx := ext_trans hx y
      go_wp2_with (fail)
      go_ret
      exact ⟨rfl, hx⟩
end Go.Proofs.YtnhmbocgopjbjaaDoor
