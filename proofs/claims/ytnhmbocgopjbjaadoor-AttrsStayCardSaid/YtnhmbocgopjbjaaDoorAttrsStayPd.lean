/- The walk of rubriclaw05.AttrsStay: whatever is handed in, it answers true and changes nothing that was there. -/
import Derived.Test.YtnhmbocgopjbjaaDoorPk10
import Derived.Test.YtnhmbocgopjbjaaDoorPk13
namespace Go.Proofs.YtnhmbocgopjbjaaDoor
open Go.RowKit
set_option linter.unusedVariables false
set_option linter.unusedSimpArgs false

set_option maxRecDepth 100000 in
set_option maxHeartbeats 4000000 in
theorem attrsStay_any (A_k A_s : Option Addr) (n_k n_s c_k c_s : Nat) (l_k : List Ky) (l_s : List At) (x1 x2 x3 x4 : Int) (x5 : ByteArray) (w : World)
    (hnk : n_k = l_k.length) (hns : n_s = l_s.length) (r_k : RdKy w w.heap.size A_k l_k) (r_s : RdAt w w.heap.size A_s l_s)
    (q_k : n_k ≤ 9223372036854775807) (b_s : n_s ≤ 9223372036854775807) (vs : okVr l_s) (va : okV ⟨x2, x3, x4, x5⟩) (hT : Lib.Utf8Tabs 1 2 w) :
    Calls Tryd.prog 6 #[.slice A_k n_k c_k, .slice A_s n_s c_s, .agg #[.int .i64 x1, .int .u8 x2, .int .i64 x3, .int .u64 x4, .string x5]] w fun e w' => e = .returned (.bool true) ∧ Below w.heap.size w w' := by
  have N_k := Lib.hid hnk
  have N_s := Lib.hid hns
  obtain ⟨f0, f1⟩ : 0 ≤ x4 ∧ x4 < 18446744073709551616 := ⟨va.f0, va.f1⟩
  have y0 := ext_alloc w (.cells #[.int .i64 x1, .int .u8 x2, .int .i64 x3, .int .u64 x4, .string x5] 45)
  have hb0 := heap_alloc_new w (.cells #[.int .i64 x1, .int .u8 x2, .int .i64 x3, .int .u64 x4, .string x5] 45)
  have hx := y0
  have HBX := Lib.hid hb0
  clear hnk hns hb0
  by_cases h64 : (64 : Int) < (n_k : Int)
  · go_enter Tryd.func6, Tryd.ntmps6
    go_wp2_with (go_at_call 19; refine Hid.out ?_)
    refine Lib.hid ?_
    refine (known05_any _).mono ?_
    rintro e w2 ⟨rfl, y⟩
    replace hx := ext_trans hx y
    go_wp2_with (fail)
    go_ret
    exact ⟨rfl, hx⟩
  go_enter Tryd.func6, Tryd.ntmps6
  go_wp2_with (go_at_call 18; refine Hid.out ?_)
  refine Lib.hid ?_
  refine (great05_any A_s n_s c_s l_s _ N_s.out (r_s.ext hx) (by omega)).mono ?_
  rintro e v ⟨g, rfl, hgr, rfl⟩
  cases g
  case true =>
    go_wp2_with (go_at_call 19; refine Hid.out ?_)
    refine Lib.hid ?_
    refine (known05_any _).mono ?_
    rintro e w2 ⟨rfl, y⟩
    replace hx := ext_trans hx y
    go_wp2_with (fail)
    go_ret
    exact ⟨rfl, hx⟩
  have q_s : n_s ≤ 100 := hgr rfl
  clear hgr
  obtain ⟨b0, b1, b2, b3, b4⟩ := box_at HBX.out
  by_cases h200 : (200 : Int) < (x5.size : Int)
  · skip
    go_wp2_with (go_at_call 19; refine Hid.out ?_)
    refine Lib.hid ?_
    refine (known05_any _).mono ?_
    rintro e w2 ⟨rfl, y⟩
    replace hx := ext_trans hx y
    go_wp2_with (fail)
    go_ret
    exact ⟨rfl, hx⟩
  go_wp2_with (go_at_call 12; refine Hid.out ?_)
  refine Lib.hid ?_
  refine (new_any A_k n_k c_k l_k _ N_k.out (r_k.ext hx) (by omega)).mono ?_
  rintro e v1 ⟨y, ⟨hm, s, rfl, hS⟩ | ⟨hm, rfl⟩⟩
  all_goals
    have hbx := (y.block _ (lt_of_some HBX.out)).trans HBX.out
    replace hx := ext_trans hx y
    clear y b0 b1 b2 b3 b4
  rotate_left
  · skip
    go_wp2_with (go_at_call 19; refine Hid.out ?_)
    refine Lib.hid ?_
    refine (known05_any _).mono ?_
    rintro e w2 ⟨rfl, y⟩
    replace hx := ext_trans hx y
    go_wp2_with (fail)
    go_ret
    exact ⟨rfl, hx⟩
  have HS := Lib.hid hS
  have HL := Lib.hid (mayKs_len hm)
  have HBX := Lib.hid hbx
  clear hS hm hbx
  go_wp2_with (go_at_call 20; refine Hid.out ?_)
  refine Lib.hid ?_
  refine (mayS_any s l_k A_s n_s c_s l_s _ N_s.out (r_s.ext hx) (by omega) HS.out vs (Utf8Tabs_below hT hx)).mono ?_
  rintro e v2 ⟨rfl, y⟩
  have HBX := Lib.hid ((y.block _ (lt_of_some HBX.out)).trans HBX.out)
  have HS := Lib.hid (HS.out.ext y)
  replace hx := ext_trans hx y
  clear y
  obtain ⟨E, hE⟩ : ∃ X, mayS l_k l_s = X := ⟨_, rfl⟩
  rw [hE]
  by_cases hE0 : E = 0
  rotate_left
  · have hne : (E == 0) = false := beq_eq_false_iff_ne.2 hE0
    clear hE
    go_wp2_with (go_at_call 19; refine Hid.out ?_)
    refine Lib.hid ?_
    refine (known05_any _).mono ?_
    rintro e w2 ⟨rfl, y⟩
    replace hx := ext_trans hx y
    go_wp2_with (fail)
    go_ret
    exact ⟨rfl, hx⟩
  subst hE0
  have M_s := Lib.hid hE
  have S_s := Lib.hid (mayS_zero hE).2.1
  clear hE
  obtain ⟨b0, b1, b2, b3, b4⟩ := box_at HBX.out
  go_wp2_with (go_at_call 21; refine Hid.out ?_)
  refine Lib.hid ?_
  refine (fitsS_any s l_k x1 x2 x3 x4 x5 _ HS.out f0 f1 (Utf8Tabs_below hT hx)).mono ?_
  rintro e v2 ⟨rfl, y⟩
  clear b0 b1 b2 b3 b4
  have HBX := Lib.hid ((y.block _ (lt_of_some HBX.out)).trans HBX.out)
  have HS := Lib.hid (HS.out.ext y)
  replace hx := ext_trans hx y
  clear y
  obtain ⟨FI, hFI⟩ : ∃ X, fitsK l_k x1 ⟨x2, x3, x4, x5⟩ = X := ⟨_, rfl⟩
  rw [hFI]
  have WM : Hid ((mayS l_k (withP l_s ⟨x1, x2, x3, x4, x5⟩) = 0) ↔ FI = true) := Lib.hid (by rw [← hFI]; exact with_may HL.out M_s.out)
  clear hFI
  obtain ⟨b0, b1, b2, b3, b4⟩ := box_at HBX.out
  go_wp2_with (go_at_call 22; refine Hid.out ?_)
  refine Lib.hid ?_
  refine (with_any A_s n_s c_s l_s x1 x2 x3 x4 x5 _ N_s.out (r_s.ext hx) (by omega)).mono ?_
  rintro e v2 ⟨r, hrw, hrl, A_r, c_r, rfl, ho, y⟩
  clear b0 b1 b2 b3 b4
  have HBX := Lib.hid ((y.block _ (lt_of_some HBX.out)).trans HBX.out)
  have HS := Lib.hid (HS.out.ext y)
  replace hx := ext_trans hx y
  clear y
  have hr2 := hrw S_s.out
  have R_r := Lib.hid (ho.rd At.enc_len)
  have vr : okVr r := fun c hc => by
    rw [hr2] at hc
    rcases mem_with S_s.out hc with rfl | hm
    · exact va
    · exact vs c hm
  rw [← hr2] at WM
  have hrl2 : r.length ≤ 101 := by have := N_s.out; omega
  clear hrw hr2 ho hrl
  go_wp2_with (go_at_call 20; refine Hid.out ?_)
  refine Lib.hid ?_
  refine (mayS_any s l_k A_r r.length c_r r _ rfl R_r.out (by omega) HS.out vr (Utf8Tabs_below hT hx)).mono ?_
  rintro e v2 ⟨rfl, y⟩
  have HBX := Lib.hid ((y.block _ (lt_of_some HBX.out)).trans HBX.out)
  have HS := Lib.hid (HS.out.ext y)
  replace hx := ext_trans hx y
  clear y
  obtain ⟨E, hE⟩ : ∃ X, mayS l_k r = X := ⟨_, rfl⟩
  rw [hE]
  rw [hE] at WM
  have hEq : (E == 0) = FI := by
    have h := WM.out
    by_cases h0 : E = 0
    · rw [beq_iff_eq.2 h0, (h.1 h0)]
    · rw [beq_eq_false_iff_ne.2 h0]
      cases FI with
      | false => rfl
      | true => exact absurd (h.2 rfl) h0
  clear hE WM R_r vr hrl2
  obtain ⟨b0, b1, b2, b3, b4⟩ := box_at HBX.out
  go_wp2_with (go_at_call 23; refine Hid.out ?_)
  refine Lib.hid ?_
  refine (without_any A_s n_s c_s l_s x1 _ N_s.out (r_s.ext hx) (by omega)).mono ?_
  rintro e v2 ⟨A_o, c_o, rfl, ho, y⟩
  clear b0 b1 b2 b3 b4
  have HBX := Lib.hid ((y.block _ (lt_of_some HBX.out)).trans HBX.out)
  have HS := Lib.hid (HS.out.ext y)
  replace hx := ext_trans hx y
  clear y
  have hm2 : mayS l_k (withoutP l_s x1) = 0 := without_may M_s.out
  have vo : okVr (withoutP l_s x1) := fun c hc => vs c (List.mem_filter.1 hc).1
  have hl : (withoutP l_s x1).length ≤ 64 := (mayS_zero hm2).1
  have R_o := Lib.hid (ho.rd At.enc_len)
  generalize withoutP l_s x1 = l_o at *
  have M_o := Lib.hid hm2
  clear ho hm2
  go_wp2_with (go_at_call 20; refine Hid.out ?_)
  refine Lib.hid ?_
  refine (mayS_any s l_k A_o l_o.length c_o l_o _ rfl R_o.out (by omega) HS.out vo (Utf8Tabs_below hT hx)).mono ?_
  rintro e v2 ⟨rfl, y⟩
  have HBX := Lib.hid ((y.block _ (lt_of_some HBX.out)).trans HBX.out)
  have HS := Lib.hid (HS.out.ext y)
  replace hx := ext_trans hx y
  clear y
  rw [M_o.out]
  clear M_o R_o vo hl
  go_wp2_with (go_at_call 24; refine Hid.out ?_)
  refine Lib.hid ?_
  refine (partA_any s l_k true A_s n_s c_s l_s _ N_s.out (r_s.ext hx) (by omega) HS.out).mono ?_
  rintro e v2 ⟨A_o, c_o, rfl, ho, y⟩
  have HBX := Lib.hid ((y.block _ (lt_of_some HBX.out)).trans HBX.out)
  have HS := Lib.hid (HS.out.ext y)
  replace hx := ext_trans hx y
  clear y
  have hm2 : mayS l_k (partS l_k true l_s) = 0 := partS_may M_s.out
  have vo : okVr (partS l_k true l_s) := fun c hc => vs c (List.mem_filter.1 hc).1
  have hl : (partS l_k true l_s).length ≤ 64 := (mayS_zero hm2).1
  have R_o := Lib.hid (ho.rd At.enc_len)
  generalize partS l_k true l_s = l_o at *
  have M_o := Lib.hid hm2
  clear ho hm2
  go_wp2_with (go_at_call 20; refine Hid.out ?_)
  refine Lib.hid ?_
  refine (mayS_any s l_k A_o l_o.length c_o l_o _ rfl R_o.out (by omega) HS.out vo (Utf8Tabs_below hT hx)).mono ?_
  rintro e v2 ⟨rfl, y⟩
  have HBX := Lib.hid ((y.block _ (lt_of_some HBX.out)).trans HBX.out)
  have HS := Lib.hid (HS.out.ext y)
  replace hx := ext_trans hx y
  clear y
  rw [M_o.out]
  clear M_o R_o vo hl
  go_wp2_with (go_at_call 24; refine Hid.out ?_)
  refine Lib.hid ?_
  refine (partA_any s l_k false A_s n_s c_s l_s _ N_s.out (r_s.ext hx) (by omega) HS.out).mono ?_
  rintro e v2 ⟨A_o, c_o, rfl, ho, y⟩
  have HBX := Lib.hid ((y.block _ (lt_of_some HBX.out)).trans HBX.out)
  have HS := Lib.hid (HS.out.ext y)
  replace hx := ext_trans hx y
  clear y
  have hm2 : mayS l_k (partS l_k false l_s) = 0 := partS_may M_s.out
  have vo : okVr (partS l_k false l_s) := fun c hc => vs c (List.mem_filter.1 hc).1
  have hl : (partS l_k false l_s).length ≤ 64 := (mayS_zero hm2).1
  have R_o := Lib.hid (ho.rd At.enc_len)
  generalize partS l_k false l_s = l_o at *
  have M_o := Lib.hid hm2
  clear ho hm2
  go_wp2_with (go_at_call 20; refine Hid.out ?_)
  refine Lib.hid ?_
  refine (mayS_any s l_k A_o l_o.length c_o l_o _ rfl R_o.out (by omega) HS.out vo (Utf8Tabs_below hT hx)).mono ?_
  rintro e v2 ⟨rfl, y⟩
  have HBX := Lib.hid ((y.block _ (lt_of_some HBX.out)).trans HBX.out)
  have HS := Lib.hid (HS.out.ext y)
  replace hx := ext_trans hx y
  clear y
  rw [M_o.out]
  clear M_o R_o vo hl
  go_wp2_with (go_at_call 19; refine Hid.out ?_)
  refine Lib.hid ?_
  refine (known05_any _).mono ?_
  rintro e w2 ⟨rfl, y⟩
  replace hx := ext_trans hx y
  go_wp2_with (fail)
  go_ret
  exact ⟨rfl, hx⟩
end Go.Proofs.YtnhmbocgopjbjaaDoor
