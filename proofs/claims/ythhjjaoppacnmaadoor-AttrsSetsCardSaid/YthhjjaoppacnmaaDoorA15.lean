/- Merged texts: AttrsSets. -/
import Derived.Deep.RegionHeld3
import Derived.Test.YthhjjaoppacnmaaDoorA10
import Derived.Test.YthhjjaoppacnmaaDoorA12
import Derived.Test.YthhjjaoppacnmaaDoorA13
import Derived.Test.YthhjjaoppacnmaaDoorA9
import Derived.Test.YthhjjaoppacnmaaDoorA14
namespace Go.Proofs.YthhjjaoppacnmaaDoor
open Go.RowKit
set_option linter.unusedVariables false
set_option linter.unusedSimpArgs false

set_option maxRecDepth 100000 in
set_option maxHeartbeats 4000000 in
theorem attrsSets_any (A_k A_s A_o : Option Addr) (n_k n_s n_o c_k c_s c_o : Nat) (l_k : List Ky) (l_s l_o : List At) (x1 x2 x3 x4 : Int) (x5 : ByteArray) (w : World)
    (hnk : n_k = l_k.length) (hns : n_s = l_s.length) (hno : n_o = l_o.length) (r_k : RdKy w w.heap.size A_k l_k) (r_s : RdAt w w.heap.size A_s l_s) (r_o : RdAt w w.heap.size A_o l_o)
    (q_k : n_k ≤ 9223372036854775807) (b_s : n_s ≤ 9223372036854775807) (b_o : n_o ≤ 9223372036854775807) (vs : okVr l_s) (hT : Lib.Utf8Tabs 1 2 w) :
    Calls Tryd.prog 3 #[.slice A_k n_k c_k, .slice A_s n_s c_s, .slice A_o n_o c_o, .agg #[.int .i64 x1, .int .u8 x2, .int .i64 x3, .int .u64 x4, .string x5]] w fun e w' => e = .returned (.bool true) ∧ Below w.heap.size w w' := by
  have N_k := Lib.hid hnk
  have N_s := Lib.hid hns
  have N_o := Lib.hid hno
  have y0 := ext_alloc w (.cells #[.int .i64 x1, .int .u8 x2, .int .i64 x3, .int .u64 x4, .string x5] 28)
  have hb0 := heap_alloc_new w (.cells #[.int .i64 x1, .int .u8 x2, .int .i64 x3, .int .u64 x4, .string x5] 28)
  have hx := y0
  have HBX := Lib.hid hb0
  have VS := Lib.hid vs
  clear hnk hns hno hb0 vs
  obtain ⟨L2, hL2⟩ : ∃ X, withoutP l_s x1 = X := ⟨_, rfl⟩
  have E2 := Lib.hid hL2
  clear hL2
  obtain ⟨L3, hL3⟩ : ∃ X, partS l_k true l_s = X := ⟨_, rfl⟩
  have E3 := Lib.hid hL3
  clear hL3
  obtain ⟨L4, hL4⟩ : ∃ X, partS l_k false l_s = X := ⟨_, rfl⟩
  have E4 := Lib.hid hL4
  clear hL4
  by_cases h64 : (64 : Int) < (n_k : Int)
  · skip
    go_enter Tryd.func3, Tryd.ntmps3
    go_wp2_with (go_at_call 6; refine Hid.out ?_)
    refine Lib.hid ?_
    refine (known05_any _).mono ?_
    rintro e w2 ⟨rfl, y⟩
    replace hx := ext_trans hx y
    go_wp2_with (fail)
    go_ret
    exact ⟨rfl, hx⟩
  go_enter Tryd.func3, Tryd.ntmps3
  go_wp2_with (go_at_call 5; refine Hid.out ?_)
  refine Lib.hid ?_
  refine (great05s_any A_s n_s c_s l_s _ N_s.out (r_s.ext hx) (by omega)).mono ?_
  rintro e v ⟨g, rfl, hgr, rfl⟩
  cases g
  case true =>
    go_wp2_with (go_at_call 6; refine Hid.out ?_)
    refine Lib.hid ?_
    refine (known05_any _).mono ?_
    rintro e w2 ⟨rfl, y⟩
    replace hx := ext_trans hx y
    go_wp2_with (fail)
    go_ret
    exact ⟨rfl, hx⟩
  have q_s : n_s ≤ 100 := (hgr rfl).1
  have VA : Hid (okVa l_s) := Lib.hid (fun c hc => ⟨VS.out c hc, Nat.le_trans ((hgr rfl).2 c hc) (by decide)⟩)
  clear hgr
  go_wp2_with (go_at_call 5; refine Hid.out ?_)
  refine Lib.hid ?_
  refine (great05s_any A_o n_o c_o l_o _ N_o.out (r_o.ext hx) (by omega)).mono ?_
  rintro e v ⟨g, rfl, hgr, rfl⟩
  cases g
  case true =>
    go_wp2_with (go_at_call 6; refine Hid.out ?_)
    refine Lib.hid ?_
    refine (known05_any _).mono ?_
    rintro e w2 ⟨rfl, y⟩
    replace hx := ext_trans hx y
    go_wp2_with (fail)
    go_ret
    exact ⟨rfl, hx⟩
  have q_o : n_o ≤ 100 := (hgr rfl).1
  clear hgr
  obtain ⟨b0, b1, b2, b3, b4⟩ := box_at HBX.out
  by_cases h200 : (200 : Int) < (x5.size : Int)
  · skip
    go_wp2_with (go_at_call 6; refine Hid.out ?_)
    refine Lib.hid ?_
    refine (known05_any _).mono ?_
    rintro e w2 ⟨rfl, y⟩
    replace hx := ext_trans hx y
    go_wp2_with (fail)
    go_ret
    exact ⟨rfl, hx⟩
  go_wp2_with (go_at_call 7; refine Hid.out ?_)
  refine Lib.hid ?_
  refine (new_any A_k n_k c_k l_k _ N_k.out (r_k.ext hx) (by omega)).mono ?_
  rintro e wn ⟨y, ⟨hm, s, rfl, hS⟩ | ⟨hm, rfl⟩⟩
  all_goals
    have hbx := (y.block _ (lt_of_some HBX.out)).trans HBX.out
    replace hx := ext_trans hx y
    clear y b0 b1 b2 b3 b4
  rotate_left
  · skip
    have HM := Lib.hid hm
    clear hm hbx
    go_wp2_with (go_at_call 8; refine Hid.out ?_)
    refine Lib.hid ?_
    refine (mayR4_any A_k n_k c_k l_k _ N_k.out (r_k.ext hx) (by omega)).mono ?_
    rintro e wn ⟨rfl, y⟩
    replace hx := ext_trans hx y
    rw [HM.out]
    clear y
    go_wp2_with (go_at_call 6; refine Hid.out ?_)
    refine Lib.hid ?_
    refine (known05_any _).mono ?_
    rintro e w2 ⟨rfl, y⟩
    replace hx := ext_trans hx y
    go_wp2_with (fail)
    go_ret
    exact ⟨rfl, hx⟩
  have HS := Lib.hid hS
  have HBX := Lib.hid hbx
  clear hS hm hbx
  have hne0 : (mayS l_k l_s != mayS l_k l_s) = false := bne_self_eq_false _
  obtain ⟨E, hE⟩ : ∃ X, mayS l_k l_s = X := ⟨_, rfl⟩
  have HE := Lib.hid hE
  rw [hE] at hne0
  clear hE
  go_wp2_with (go_at_call 9; refine Hid.out ?_)
  refine Lib.hid ?_
  refine (mayS_any s l_k A_s n_s c_s l_s _ N_s.out (r_s.ext hx) (by omega) HS.out VS.out (Utf8Tabs_below hT hx)).mono ?_
  rintro e wn ⟨rfl, y⟩
  replace HS := Lib.hid (HS.out.ext y)
  replace HBX := Lib.hid ((y.block _ (lt_of_some HBX.out)).trans HBX.out)
  replace hx := ext_trans hx y
  rw [HE.out]
  clear y
  go_wp2_with (go_at_call 10; refine Hid.out ?_)
  refine Lib.hid ?_
  refine (mayR5_any A_k A_s n_k c_k n_s c_s l_k l_s _ N_k.out (r_k.ext hx) (by omega) N_s.out (r_s.ext hx) (by omega) VA.out (Utf8Tabs_below hT hx)).mono ?_
  rintro e wn ⟨rfl, y⟩
  replace HS := Lib.hid (HS.out.ext y)
  replace HBX := Lib.hid ((y.block _ (lt_of_some HBX.out)).trans HBX.out)
  replace hx := ext_trans hx y
  rw [HE.out]
  clear y
  obtain ⟨D, hD⟩ : ∃ X, decide (l_s = l_o) = X := ⟨_, rfl⟩
  have HD := Lib.hid hD
  have hne1 : (D != D) = false := bne_self_eq_false _
  clear hD
  go_wp2_with (go_at_call 11; refine Hid.out ?_)
  refine Lib.hid ?_
  refine (attrsSame_any A_s A_o n_s n_o c_s c_o l_s l_o _ N_s.out N_o.out (r_s.ext hx) (r_o.ext hx) (by omega) (by omega)).mono ?_
  rintro e wn ⟨rfl, d, hd⟩
  have y := drew_ext hd
  clear hd
  replace HS := Lib.hid (HS.out.ext y)
  replace HBX := Lib.hid ((y.block _ (lt_of_some HBX.out)).trans HBX.out)
  replace hx := ext_trans hx y
  rw [HD.out]
  clear y
  go_wp2_with (go_at_call 12; refine Hid.out ?_)
  refine Lib.hid ?_
  refine (sameA_any A_s A_o n_s n_o c_s c_o l_s l_o _ N_s.out N_o.out (r_s.ext hx) (r_o.ext hx) (by omega) (by omega)).mono ?_
  rintro e wn ⟨rfl, d, hd⟩
  have y := drew_ext hd
  clear hd
  replace HS := Lib.hid (HS.out.ext y)
  replace HBX := Lib.hid ((y.block _ (lt_of_some HBX.out)).trans HBX.out)
  replace hx := ext_trans hx y
  rw [HD.out]
  clear y
  go_wp2_with (go_at_call 13; refine Hid.out ?_)
  refine Lib.hid ?_
  refine (copy_any A_s n_s c_s l_s _ N_s.out (r_s.ext hx) (by omega)).mono ?_
  rintro e wn ⟨A_0, c_0, rfl, ho, y⟩
  replace HS := Lib.hid (HS.out.ext y)
  replace HBX := Lib.hid ((y.block _ (lt_of_some HBX.out)).trans HBX.out)
  replace hx := ext_trans hx y
  have R_0 := Lib.hid (ho.rd At.enc_len)
  clear ho
  rw [← N_s.out]
  clear y
  go_wp2_with (go_at_call 11; refine Hid.out ?_)
  refine Lib.hid ?_
  refine (attrsSame_any A_0 A_s n_s n_s c_0 c_s l_s l_s _ N_s.out N_s.out R_0.out (r_s.ext hx) (by omega) (by omega)).mono ?_
  rintro e wn ⟨rfl, d, hd⟩
  have y := drew_ext hd
  clear hd
  replace HS := Lib.hid (HS.out.ext y)
  replace HBX := Lib.hid ((y.block _ (lt_of_some HBX.out)).trans HBX.out)
  replace R_0 := Lib.hid (R_0.out.ext y)
  replace hx := ext_trans hx y
  rw [decide_eq_true rfl]
  clear y
  clear R_0
  go_wp2_with (go_at_call 14; refine Hid.out ?_)
  refine Lib.hid ?_
  refine (risingA_any A_s n_s c_s l_s _ N_s.out (r_s.ext hx) (by omega)).mono ?_
  rintro e wn ⟨rfl, d, hd⟩
  have y := drew_ext hd
  clear hd
  replace HS := Lib.hid (HS.out.ext y)
  replace HBX := Lib.hid ((y.block _ (lt_of_some HBX.out)).trans HBX.out)
  replace hx := ext_trans hx y
  clear y
  obtain ⟨bs, hbs⟩ : ∃ X, riseA l_s = X := ⟨_, rfl⟩
  rw [hbs]
  have S_s := Lib.hid hbs
  clear hbs hne0 hne1
  cases bs
  case false =>
    obtain ⟨b0, b1, b2, b3, b4⟩ := box_at HBX.out
    go_wp2_with (go_at_call 15; refine Hid.out ?_)
    refine Lib.hid ?_
    refine (get_any A_s n_s c_s l_s x1 _ N_s.out (r_s.ext hx) (by omega)).mono ?_
    rintro e wn ⟨v, h, rfl, -, y⟩
    replace HS := Lib.hid (HS.out.ext y)
    replace HBX := Lib.hid ((y.block _ (lt_of_some HBX.out)).trans HBX.out)
    replace hx := ext_trans hx y
    clear y
    clear b0 b1 b2 b3 b4
    obtain ⟨b0, b1, b2, b3, b4⟩ := box_at HBX.out
    go_wp2_with (fail)
    go_region_held3 (fun w' => w'.cell? ⟨w.heap.size, 0, none⟩ = some (.int .i64 x1) ∧ w'.cell? ⟨w.heap.size, 1, none⟩ = some (.int .u8 x2) ∧ w'.cell? ⟨w.heap.size, 2, none⟩ = some (.int .i64 x3) ∧ w'.cell? ⟨w.heap.size, 3, none⟩ = some (.int .u64 x4) ∧ w'.cell? ⟨w.heap.size, 4, none⟩ = some (.string x5)) (go_keep) (first
      | (go_at_call 13
         with_reducible refine (copy_any A_s n_s c_s l_s wn.drew N_s.out (r_s.ext (ext_trans hx (up_drew (Below.refl _ _)))) (by omega)).mono ?_
         rintro e wa ⟨A_0, c_0, rfl, ho, ya⟩
         rw [← N_s.out] at ho ⊢
         have YA := Lib.hid (ext_trans (up_drew (Below.refl _ _)) ya)
         obtain ⟨p0, p1, p2, p3, p4⟩ := box_at ((YA.out.block _ (lt_of_some HBX.out)).trans HBX.out)
         have R_0 := Lib.hid (ho.rd At.enc_len)
         clear ho ya)
      | (go_at_call 16
         with_reducible refine (with_any A_0 n_s c_0 l_s x1 x2 x3 x4 x5 wa N_s.out R_0.out (by omega)).mono ?_
         rintro e wb ⟨r, -, -, A_1, c_1, rfl, -, yb⟩
         have YB := Lib.hid (ext_trans YA.out yb)
         obtain ⟨t0, t1, t2, t3, t4⟩ := box_at ((YB.out.block _ (lt_of_some HBX.out)).trans HBX.out)
         clear yb))
    have y := YB.out
    replace HS := Lib.hid (HS.out.ext y)
    replace HBX := Lib.hid ((y.block _ (lt_of_some HBX.out)).trans HBX.out)
    replace hx := ext_trans hx y
    clear y YA YB R_0
    obtain ⟨wn, hwn⟩ : ∃ X, X = wb := ⟨_, rfl⟩
    subst hwn
    clear p0 p1 p2 p3 p4 t0 t1 t2 t3 t4
    clear b0 b1 b2 b3 b4
    obtain ⟨b0, b1, b2, b3, b4⟩ := box_at HBX.out
    go_wp2_with (fail)
    go_region_held3 (fun w' => w'.cell? ⟨w.heap.size, 0, none⟩ = some (.int .i64 x1) ∧ w'.cell? ⟨w.heap.size, 1, none⟩ = some (.int .u8 x2) ∧ w'.cell? ⟨w.heap.size, 2, none⟩ = some (.int .i64 x3) ∧ w'.cell? ⟨w.heap.size, 3, none⟩ = some (.int .u64 x4) ∧ w'.cell? ⟨w.heap.size, 4, none⟩ = some (.string x5)) (go_keep) (first
      | (go_at_call 13
         with_reducible refine (copy_any A_s n_s c_s l_s wn.drew N_s.out (r_s.ext (ext_trans hx (up_drew (Below.refl _ _)))) (by omega)).mono ?_
         rintro e wa ⟨A_0, c_0, rfl, ho, ya⟩
         rw [← N_s.out] at ho ⊢
         have YA := Lib.hid (ext_trans (up_drew (Below.refl _ _)) ya)
         obtain ⟨p0, p1, p2, p3, p4⟩ := box_at ((YA.out.block _ (lt_of_some HBX.out)).trans HBX.out)
         have R_0 := Lib.hid (ho.rd At.enc_len)
         clear ho ya)
      | (go_at_call 17
         with_reducible refine (without_any A_0 n_s c_0 l_s x1 wa N_s.out R_0.out (by omega)).mono ?_
         rintro e wb ⟨A_1, c_1, rfl, -, yb⟩
         have YB := Lib.hid (ext_trans YA.out yb)
         obtain ⟨t0, t1, t2, t3, t4⟩ := box_at ((YB.out.block _ (lt_of_some HBX.out)).trans HBX.out)
         clear yb))
    have y := YB.out
    replace HS := Lib.hid (HS.out.ext y)
    replace HBX := Lib.hid ((y.block _ (lt_of_some HBX.out)).trans HBX.out)
    replace hx := ext_trans hx y
    clear y YA YB R_0
    obtain ⟨wn, hwn⟩ : ∃ X, X = wb := ⟨_, rfl⟩
    subst hwn
    clear p0 p1 p2 p3 p4 t0 t1 t2 t3 t4
    go_wp2_with (go_at_call 18; refine Hid.out ?_)
    refine Lib.hid ?_
    refine (partA_any s l_k true A_s n_s c_s l_s _ N_s.out (r_s.ext hx) (by omega) HS.out).mono ?_
    rintro e wn ⟨A_1, c_1, rfl, -, y⟩
    replace HS := Lib.hid (HS.out.ext y)
    replace HBX := Lib.hid ((y.block _ (lt_of_some HBX.out)).trans HBX.out)
    replace hx := ext_trans hx y
    clear y
    go_wp2_with (go_at_call 6; refine Hid.out ?_)
    refine Lib.hid ?_
    refine (known05_any _).mono ?_
    rintro e w2 ⟨rfl, y⟩
    replace hx := ext_trans hx y
    go_wp2_with (fail)
    go_ret
    exact ⟨rfl, hx⟩
  go_wp2_with (first
      | (at_builtin; refine app_at (l := []) (m := l_s) rfl (.tmp 95) (.tmp 96) rfl rfl (by exact Ow.empty _ wn.heap.size _) _ _ _ _ rfl N_s.out (by exact (r_s.ext (ext_trans hx (ext_alloc wn _)))) (by have := N_s.out; simp only [List.length_nil]; omega) (by simp) ?_; intro vq wq hoq gq hvq; have yq : Hid (Below wn.heap.size wn wq) := Lib.hid ((ext_alloc wn _).grown gq (by simp) (fun k hk => by cases hk)); replace hoq := Lib.hid hoq; clear gq hvq; have bq := (yq.out.block _ (lt_of_some HBX.out)).trans HBX.out; obtain ⟨b0, b1, b2, b3, b4⟩ := box_at bq; clear bq; obtain ⟨A_q, c_q, rfl, -, -⟩ := hoq.out.form)
      | (go_at_call 15; refine Hid.out ?_))
  refine Lib.hid ?_
  have y := yq.out
  clear b0 b1 b2 b3 b4
  replace HS := Lib.hid (HS.out.ext y)
  replace HBX := Lib.hid ((y.block _ (lt_of_some HBX.out)).trans HBX.out)
  replace hx := ext_trans hx y
  have h1 := hoq.out
  simp only [List.nil_append] at h1 ⊢
  rw [← N_s.out] at h1 ⊢
  have R_q := Lib.hid (h1.rd At.enc_len)
  clear h1 hoq y yq
  obtain ⟨wn, hwn⟩ : ∃ X, X = wq := ⟨_, rfl⟩
  subst hwn
  refine (get_any A_q n_s c_q l_s x1 _ N_s.out R_q.out (by omega)).mono ?_
  rintro e wn ⟨⟨v1, v2, v3, v4⟩, h, rfl, hgo, y⟩
  replace HS := Lib.hid (HS.out.ext y)
  replace HBX := Lib.hid ((y.block _ (lt_of_some HBX.out)).trans HBX.out)
  replace R_q := Lib.hid (R_q.out.ext y)
  replace hx := ext_trans hx y
  have G1 : Hid (getA l_s x1 = if h = true then some ⟨v1, v2, v3, v4⟩ else none) := Lib.hid (hgo.2.2 S_s.out)
  have G2 : Hid (h = false → (⟨v1, v2, v3, v4⟩ : V) = V.zero) := Lib.hid hgo.2.1
  clear hgo y
  have y := ext_alloc wn (.cells #[.int .u8 v1, .int .i64 v2, .int .u64 v3, .string v4] 26)
  have hb := heap_alloc_new wn (.cells #[.int .u8 v1, .int .i64 v2, .int .u64 v3, .string v4] 26)
  replace HS := Lib.hid (HS.out.ext y)
  replace HBX := Lib.hid ((y.block _ (lt_of_some HBX.out)).trans HBX.out)
  replace R_q := Lib.hid (R_q.out.ext y)
  replace hx := ext_trans hx y
  have BV := Lib.hid hb
  clear y hb
  obtain ⟨b0, b1, b2, b3, b4⟩ := box_at HBX.out
  go_wp2_with (go_at_call 19; refine Hid.out ?_)
  refine Lib.hid ?_
  refine (get05_any A_s n_s c_s l_s x1 _ N_s.out (r_s.ext hx) (by omega)).mono ?_
  rintro e wn ⟨u1, u2, u3, u4, h2, rfl, hu1, hu2, y⟩
  replace HS := Lib.hid (HS.out.ext y)
  replace HBX := Lib.hid ((y.block _ (lt_of_some HBX.out)).trans HBX.out)
  replace R_q := Lib.hid (R_q.out.ext y)
  replace BV := Lib.hid ((y.block _ (lt_of_some BV.out)).trans BV.out)
  replace hx := ext_trans hx y
  obtain ⟨e1, e2⟩ : (⟨u1, u2, u3, u4⟩ : V) = ⟨v1, v2, v3, v4⟩ ∧ h2 = h := by
    have g1 := G1.out
    cases h with
    | false => rw [g1] at hu1 hu2; simp only [Bool.false_eq_true, if_false, Option.getD_none, Option.isSome_none] at hu1 hu2; exact ⟨hu1.symm.trans (G2.out rfl).symm, hu2.symm⟩
    | true => rw [g1] at hu1 hu2; simp only [if_true, Option.getD_some, Option.isSome_some] at hu1 hu2; exact ⟨hu1.symm, hu2.symm⟩
  injection e1 with e3 e4 e5 e6
  subst e2 e3 e4 e5 e6
  clear hu1 hu2 G1 G2
  clear y
  clear b0 b1 b2 b3 b4
  have y := ext_alloc wn (.cells #[.int .u8 u1, .int .i64 u2, .int .u64 u3, .string u4] 26)
  have hb := heap_alloc_new wn (.cells #[.int .u8 u1, .int .i64 u2, .int .u64 u3, .string u4] 26)
  replace HS := Lib.hid (HS.out.ext y)
  replace HBX := Lib.hid ((y.block _ (lt_of_some HBX.out)).trans HBX.out)
  replace R_q := Lib.hid (R_q.out.ext y)
  replace BV := Lib.hid ((y.block _ (lt_of_some BV.out)).trans BV.out)
  replace hx := ext_trans hx y
  have BU := Lib.hid hb
  clear y hb
  obtain ⟨b0, b1, b2, b3, b4⟩ := box_at HBX.out
  go_wp2_with (fail)
  obtain ⟨wl, hwl⟩ : ∃ X, X = wn.alloc (.cells #[.int .u8 u1, .int .i64 u2, .int .u64 u3, .string u4] 26) := ⟨_, rfl⟩
  rw [← hwl] at HBX BV BU HS R_q hx b0 b1 b2 b3 b4 ⊢
  clear hwl
  go_region_held3 (fun w' => w'.cell? ⟨w.heap.size, 0, none⟩ = some (.int .i64 x1) ∧ w'.cell? ⟨w.heap.size, 1, none⟩ = some (.int .u8 x2) ∧ w'.cell? ⟨w.heap.size, 2, none⟩ = some (.int .i64 x3) ∧ w'.cell? ⟨w.heap.size, 3, none⟩ = some (.int .u64 x4) ∧ w'.cell? ⟨w.heap.size, 4, none⟩ = some (.string x5)) (go_keep) (first
    | (go_at_call 16
       with_reducible refine (with_any A_q n_s c_q l_s x1 x2 x3 x4 x5 wl.drew N_s.out (R_q.out.ext (up_drew (Below.refl _ _))) (by omega)).mono ?_
       rintro e w1 ⟨L1, hr1, hl1, A1, c1, rfl, ho1, y1⟩
       have E1 := Lib.hid (hr1 S_s.out)
       have Q1 : Hid (L1.length ≤ 101) := Lib.hid (by have := N_s.out; omega)
       clear hr1 hl1
       have O1 := Lib.hid ho1
       have Z1 := Lib.hid y1
       have Y1 : Hid (Below wl.heap.size wl w1) := Lib.hid (ext_trans (up_drew (Below.refl _ _)) y1)
       obtain ⟨t10, t11, t12, t13, t14⟩ := box_at ((Y1.out.block _ (lt_of_some HBX.out)).trans HBX.out)
       clear ho1 y1)
    | (go_at_call 17
       with_reducible refine (without_any A_q n_s c_q l_s x1 w1 N_s.out (R_q.out.ext Y1.out) (by omega)).mono ?_
       rintro e w2 ⟨A2, c2, rfl, ho2, y2⟩
       rw [E2.out] at ho2 ⊢
       have O2 := Lib.hid ho2
       have Z2 := Lib.hid y2
       have Y2 : Hid (Below wl.heap.size wl w2) := Lib.hid (ext_trans Y1.out y2)
       obtain ⟨t20, t21, t22, t23, t24⟩ := box_at ((Y2.out.block _ (lt_of_some HBX.out)).trans HBX.out)
       clear ho2 y2)
    | (go_at_call 18
       with_reducible refine (partA_any s l_k true A_q n_s c_q l_s w2 N_s.out (R_q.out.ext Y2.out) (by omega) (HS.out.ext Y2.out)).mono ?_
       rintro e w3 ⟨A3, c3, rfl, ho3, y3⟩
       rw [E3.out] at ho3 ⊢
       have O3 := Lib.hid ho3
       have Z3 := Lib.hid y3
       have Y3 : Hid (Below wl.heap.size wl w3) := Lib.hid (ext_trans Y2.out y3)
       obtain ⟨t30, t31, t32, t33, t34⟩ := box_at ((Y3.out.block _ (lt_of_some HBX.out)).trans HBX.out)
       clear ho3 y3)
    | (go_at_call 18
       with_reducible refine (partA_any s l_k false A_q n_s c_q l_s w3 N_s.out (R_q.out.ext Y3.out) (by omega) (HS.out.ext Y3.out)).mono ?_
       rintro e w4 ⟨A4, c4, rfl, ho4, y4⟩
       rw [E4.out] at ho4 ⊢
       have O4 := Lib.hid ho4
       have Z4 := Lib.hid y4
       have Y4 : Hid (Below wl.heap.size wl w4) := Lib.hid (ext_trans Y3.out y4)
       obtain ⟨t40, t41, t42, t43, t44⟩ := box_at ((Y4.out.block _ (lt_of_some HBX.out)).trans HBX.out)
       clear ho4 y4)
    | (go_at_call 13
       with_reducible refine (copy_any A_q n_s c_q l_s w4 N_s.out (R_q.out.ext Y4.out) (by omega)).mono ?_
       rintro e w5 ⟨A5, c5, rfl, ho5, y5⟩
       have O5 := Lib.hid ho5
       have Z5 := Lib.hid y5
       have Y5 : Hid (Below wl.heap.size wl w5) := Lib.hid (ext_trans Y4.out y5)
       obtain ⟨t50, t51, t52, t53, t54⟩ := box_at ((Y5.out.block _ (lt_of_some HBX.out)).trans HBX.out)
       clear ho5 y5))
  clear t10 t11 t12 t13 t14
  clear t20 t21 t22 t23 t24
  clear t30 t31 t32 t33 t34
  clear t40 t41 t42 t43 t44
  clear t50 t51 t52 t53 t54
  clear b0 b1 b2 b3 b4
  have y6 := ext_alloc w5 (.cells #[.slice A1 L1.length c1, .slice A2 L2.length c2, .slice A3 L3.length c3, .slice A4 L4.length c4, .slice A5 l_s.length c5] 23)
  have hl0 := heap_alloc_new w5 (.cells #[.slice A1 L1.length c1, .slice A2 L2.length c2, .slice A3 L3.length c3, .slice A4 L4.length c4, .slice A5 l_s.length c5] 23)
  obtain ⟨wz, hwz⟩ : ∃ X, X = w5.alloc (.cells #[.slice A1 L1.length c1, .slice A2 L2.length c2, .slice A3 L3.length c3, .slice A4 L4.length c4, .slice A5 l_s.length c5] 23) := ⟨_, rfl⟩
  have rxl : Rd SlN.enc 1 _ _ (some ⟨w5.heap.size, 0, none⟩) [⟨A1, L1.length, c1⟩, ⟨A2, L2.length, c2⟩, ⟨A3, L3.length, c3⟩, ⟨A4, L4.length, c4⟩, ⟨A5, l_s.length, c5⟩] := Rd.new SlN.enc_len w5 23 [⟨A1, L1.length, c1⟩, ⟨A2, L2.length, c2⟩, ⟨A3, L3.length, c3⟩, ⟨A4, L4.length, c4⟩, ⟨A5, l_s.length, c5⟩] (cs := #[.slice A1 L1.length c1, .slice A2 L2.length c2, .slice A3 L3.length c3, .slice A4 L4.length c4, .slice A5 l_s.length c5]) rfl rfl
  rw [← hwz] at y6 hl0 rxl
  have RXL := Lib.hid rxl
  clear rxl
  have YZ : Hid (Below wl.heap.size wl wz) := Lib.hid (ext_trans Y5.out y6)
  have Z6 := Lib.hid y6
  obtain ⟨b0, b1, b2, b3, b4⟩ := box_at ((YZ.out.block _ (lt_of_some HBX.out)).trans HBX.out)
  clear y6 hl0
  skip
  go_wp2_with (fail)
  try rw [← hwz]
  clear hwz
  have HBZ := Lib.hid ((YZ.out.block _ (lt_of_some HBX.out)).trans HBX.out)
  have hxz := ext_trans hx YZ.out
  have HXZ := Lib.hid hxz
  clear hxz
  go_region_held3 (fun w' => w'.cell? ⟨w.heap.size, 0, none⟩ = some (.int .i64 x1) ∧ w'.cell? ⟨w.heap.size, 1, none⟩ = some (.int .u8 x2) ∧ w'.cell? ⟨w.heap.size, 2, none⟩ = some (.int .i64 x3) ∧ w'.cell? ⟨w.heap.size, 3, none⟩ = some (.int .u64 x4) ∧ w'.cell? ⟨w.heap.size, 4, none⟩ = some (.string x5)) (go_keep) (first
    | (go_at_call 20
       with_reducible refine (with05_any A_s n_s c_s l_s x1 x2 x3 x4 x5 wz.drew N_s.out (r_s.ext (ext_trans HXZ.out (up_drew (Below.refl _ _)))) (by omega)).mono ?_
       rintro e v1 ⟨B1, d1, rfl, ho1, y1⟩
       rw [with05_is S_s.out, ← E1.out] at ho1 ⊢
       have P1 := Lib.hid ho1
       have X1 := Lib.hid y1
       have V1 : Hid (Below wz.heap.size wz v1) := Lib.hid (ext_trans (up_drew (Below.refl _ _)) y1)
       obtain ⟨t10, t11, t12, t13, t14⟩ := box_at ((V1.out.block _ (lt_of_some HBZ.out)).trans HBZ.out)
       clear ho1 y1)
    | (go_at_call 21
       with_reducible refine (without05_any x1 A_s n_s c_s l_s v1 N_s.out (r_s.ext (ext_trans HXZ.out V1.out)) (by omega)).mono ?_
       rintro e v2 ⟨B2, d2, rfl, ho2, y2⟩
       have e2 : l_s.filter (fun a => !(a.key == x1)) = L2 := E2.out
       rw [e2] at ho2 ⊢
       clear e2
       have P2 := Lib.hid ho2
       have X2 := Lib.hid y2
       have V2 : Hid (Below wz.heap.size wz v2) := Lib.hid (ext_trans V1.out y2)
       obtain ⟨t20, t21, t22, t23, t24⟩ := box_at ((V2.out.block _ (lt_of_some HBZ.out)).trans HBZ.out)
       clear ho2 y2)
    | (go_at_call 22
       with_reducible refine (partR5_any A_k A_s n_k c_k n_s c_s l_k true l_s v2 N_k.out (r_k.ext (ext_trans HXZ.out V2.out)) (by omega) N_s.out (r_s.ext (ext_trans HXZ.out V2.out)) (by omega)).mono ?_
       rintro e v3 ⟨B3, d3, rfl, ho3, y3⟩
       rw [E3.out] at ho3 ⊢
       have P3 := Lib.hid ho3
       have X3 := Lib.hid y3
       have V3 : Hid (Below wz.heap.size wz v3) := Lib.hid (ext_trans V2.out y3)
       obtain ⟨t30, t31, t32, t33, t34⟩ := box_at ((V3.out.block _ (lt_of_some HBZ.out)).trans HBZ.out)
       clear ho3 y3)
    | (go_at_call 22
       with_reducible refine (partR5_any A_k A_s n_k c_k n_s c_s l_k false l_s v3 N_k.out (r_k.ext (ext_trans HXZ.out V3.out)) (by omega) N_s.out (r_s.ext (ext_trans HXZ.out V3.out)) (by omega)).mono ?_
       rintro e v4 ⟨B4, d4, rfl, ho4, y4⟩
       rw [E4.out] at ho4 ⊢
       have P4 := Lib.hid ho4
       have X4 := Lib.hid y4
       have V4 : Hid (Below wz.heap.size wz v4) := Lib.hid (ext_trans V3.out y4)
       obtain ⟨t40, t41, t42, t43, t44⟩ := box_at ((V4.out.block _ (lt_of_some HBZ.out)).trans HBZ.out)
       clear ho4 y4))
  clear t10 t11 t12 t13 t14
  clear t20 t21 t22 t23 t24
  clear t30 t31 t32 t33 t34
  clear t40 t41 t42 t43 t44
  clear b0 b1 b2 b3 b4
  have y6 := ext_alloc v4 (.cells #[.slice B1 L1.length d1, .slice B2 L2.length d2, .slice B3 L3.length d3, .slice B4 L4.length d4, .slice A_s n_s c_s] 23)
  have hl0 := heap_alloc_new v4 (.cells #[.slice B1 L1.length d1, .slice B2 L2.length d2, .slice B3 L3.length d3, .slice B4 L4.length d4, .slice A_s n_s c_s] 23)
  obtain ⟨vz, hvz⟩ : ∃ X, X = v4.alloc (.cells #[.slice B1 L1.length d1, .slice B2 L2.length d2, .slice B3 L3.length d3, .slice B4 L4.length d4, .slice A_s n_s c_s] 23) := ⟨_, rfl⟩
  have ryl : Rd SlN.enc 1 _ _ (some ⟨v4.heap.size, 0, none⟩) [⟨B1, L1.length, d1⟩, ⟨B2, L2.length, d2⟩, ⟨B3, L3.length, d3⟩, ⟨B4, L4.length, d4⟩, ⟨A_s, n_s, c_s⟩] := Rd.new SlN.enc_len v4 23 [⟨B1, L1.length, d1⟩, ⟨B2, L2.length, d2⟩, ⟨B3, L3.length, d3⟩, ⟨B4, L4.length, d4⟩, ⟨A_s, n_s, c_s⟩] (cs := #[.slice B1 L1.length d1, .slice B2 L2.length d2, .slice B3 L3.length d3, .slice B4 L4.length d4, .slice A_s n_s c_s]) rfl rfl
  rw [← hvz] at y6 hl0 ryl
  have RYL := Lib.hid ryl
  clear ryl
  have VZ : Hid (Below wz.heap.size wz vz) := Lib.hid (ext_trans V4.out y6)
  have X6 := Lib.hid y6
  clear y6 hl0
  go_wp2_with (fail)
  try rw [← hvz]
  clear hvz
  obtain ⟨b, hb⟩ : ∃ X, X = b6 wl.heap.size w1.heap.size w2.heap.size w3.heap.size w4.heap.size w5.heap.size := ⟨_, rfl⟩
  have HBM : Hid (∀ i j, i ≤ j → j ≤ 5 → b i ≤ b j) := Lib.hid (by rw [hb]; exact b6_mono Y1.out.size Z2.out.size Z3.out.size Z4.out.size Z5.out.size)
  have HB0 : Hid (b 0 = wl.heap.size) := Lib.hid (by rw [hb]; rfl)
  have HB5 : Hid (b 5 = w5.heap.size) := Lib.hid (by rw [hb]; rfl)
  have Q2 : Hid (L2.length ≤ 100) := Lib.hid (by rw [← E2.out]; unfold withoutP; exact Nat.le_trans (List.length_filter_le _ _) (by have := N_s.out; omega))
  have Q3 : Hid (L3.length ≤ 100) := Lib.hid (by rw [← E3.out]; unfold partS; exact Nat.le_trans (List.length_filter_le _ _) (by have := N_s.out; omega))
  have Q4 : Hid (L4.length ≤ 100) := Lib.hid (by rw [← E4.out]; unfold partS; exact Nat.le_trans (List.length_filter_le _ _) (by have := N_s.out; omega))
  obtain ⟨xs, hxs⟩ : ∃ X : List SlN, X = [⟨A1, L1.length, c1⟩, ⟨A2, L2.length, c2⟩, ⟨A3, L3.length, c3⟩, ⟨A4, L4.length, c4⟩, ⟨A5, l_s.length, c5⟩] := ⟨_, rfl⟩
  obtain ⟨ys, hys⟩ : ∃ X : List SlN, X = [⟨B1, L1.length, d1⟩, ⟨B2, L2.length, d2⟩, ⟨B3, L3.length, d3⟩, ⟨B4, L4.length, d4⟩, ⟨A_s, n_s, c_s⟩] := ⟨_, rfl⟩
  have q5 : Below w5.heap.size w5 vz := ext_trans Z6.out VZ.out
  have q4 := ext_trans Z5.out q5
  have q3 := ext_trans Z4.out q4
  have q2 := ext_trans Z3.out q3
  have q1 := ext_trans Z2.out q2
  have s4 : Below v4.heap.size v4 vz := X6.out
  have s3 := ext_trans X4.out s4
  have s2 := ext_trans X3.out s3
  have s1 := ext_trans X2.out s2
  have h56 : w5.heap.size ≤ wz.heap.size := Z6.out.size
  have hwl : w.heap.size ≤ wl.heap.size := hx.size
  have HR : Hid (Rows5 vz b 0 xs ys) := Lib.hid (by
    rw [hb, hxs, hys]
    intro j _ hj
    rcases j with _ | _ | _ | _ | _ | j
    · exact ⟨_, _, L1, rfl, rfl, rfl, rfl, by have := Q1.out; omega, O1.out.below q1 (Nat.le_refl _), fun k hk => (O1.out.wb_lt k hk).2, (P1.out.rd At.enc_len).ext s1, fun ad hA hn => .inr (Nat.le_trans h56 (Nat.le_trans (Nat.le_refl _) (own_high P1.out ad hA hn)))⟩
    · exact ⟨_, _, L2, rfl, rfl, rfl, rfl, by have := Q2.out; omega, O2.out.below q2 (Nat.le_refl _), fun k hk => (O2.out.wb_lt k hk).2, (P2.out.rd At.enc_len).ext s2, fun ad hA hn => .inr (Nat.le_trans h56 (Nat.le_trans V1.out.size (own_high P2.out ad hA hn)))⟩
    · exact ⟨_, _, L3, rfl, rfl, rfl, rfl, by have := Q3.out; omega, O3.out.below q3 (Nat.le_refl _), fun k hk => (O3.out.wb_lt k hk).2, (P3.out.rd At.enc_len).ext s3, fun ad hA hn => .inr (Nat.le_trans h56 (Nat.le_trans V2.out.size (own_high P3.out ad hA hn)))⟩
    · exact ⟨_, _, L4, rfl, rfl, rfl, rfl, by have := Q4.out; omega, O4.out.below q4 (Nat.le_refl _), fun k hk => (O4.out.wb_lt k hk).2, (P4.out.rd At.enc_len).ext s4, fun ad hA hn => .inr (Nat.le_trans h56 (Nat.le_trans V3.out.size (own_high P4.out ad hA hn)))⟩
    · exact ⟨_, _, l_s, rfl, rfl, rfl, N_s.out, by have := N_s.out; omega, O5.out.below q5 (Nat.le_refl _), fun k hk => (O5.out.wb_lt k hk).2, r_s.ext (ext_trans hx (ext_trans YZ.out VZ.out)), fun ad hA hn => .inl (by obtain ⟨ad2, e, hlt, _⟩ := r_s hn; have hA2 : A_s = some ad := hA; rw [hA2] at e; injection e with e; subst e; exact Nat.lt_of_lt_of_le hlt hwl)⟩
    · omega)
  have RX : Hid (Rd SlN.enc 1 vz vz.heap.size (some ⟨w5.heap.size, 0, none⟩) xs) := Lib.hid (by rw [hxs]; exact RXL.out.ext VZ.out)
  have RY : Hid (Rd SlN.enc 1 vz vz.heap.size (some ⟨v4.heap.size, 0, none⟩) ys) := Lib.hid (by rw [hys]; exact RYL.out)
  have lx : Hid (xs.length = 5) := Lib.hid (by rw [hxs]; rfl)
  have ly : Hid (ys.length = 5) := Lib.hid (by rw [hys]; rfl)
  have H54 : Hid (b 5 ≤ v4.heap.size) := Lib.hid (by rw [HB5.out]; exact Nat.le_trans h56 V4.out.size)
  have YV : Hid (Below wl.heap.size wl vz) := Lib.hid (ext_trans YZ.out VZ.out)
  clear q1 q2 q3 q4 q5 s1 s2 s3 s4 h56 hwl hb hxs hys O1 O2 O3 O4 O5 P1 P2 P3 P4 Q1 Q2 Q3 Q4 Y1 Y2 Y3 Y4 Y5 Z1 Z2 Z3 Z4 Z5 Z6 X1 X2 X3 X4 X6 V1 V2 V3 V4 E1 E2 E3 E4 RXL RYL HBZ HXZ YZ VZ
  go_loopg [145] 5 (fun g iv wr => ∃ m : Nat, m ≤ 5 ∧ g = 5 - m ∧ iv = .int .i64 (m : Int) ∧ Hid (Rows5 wr b m xs ys) ∧ Hid (Below (b 0) vz wr) ∧ Hid (∀ k, b 5 ≤ k → wr.heap[k]? = vz.heap[k]?))
  case atStart => exact ⟨0, by omega, rfl, rfl, HR, Lib.hid (Below.refl _ _), Lib.hid (fun _ _ => rfl)⟩
  case round =>
    clear HR
    obtain ⟨wo, hwo⟩ : ∃ X, X = wr := ⟨_, rfl⟩
    subst hwo
    obtain ⟨m, hm, hg, rfl, HR, HV, HH⟩ := hrel
    have HG := Lib.hid hg
    clear hg
    by_cases hlt : m < 5
    · skip
      obtain ⟨x, y, L, e1, e2, e3, e4, e5, e6, e7, e8, e9⟩ := HR.out m (Nat.le_refl _) hlt
      obtain ⟨xA, xn, xc⟩ := x
      obtain ⟨yA, yn, yc⟩ := y
      simp only at e3 e4 e6 e7 e8
      have hcx : vz.cell? ⟨w5.heap.size, m, none⟩ = some (.slice xA xn xc) := by
        obtain ⟨ad, x, hA, -, -, hx1, hc⟩ := RX.out.el (i := m) (by have := lx.out; omega)
        injection hA with hA; subst hA
        rw [e1] at hx1; injection hx1 with hx1; subst hx1
        have h0 := hc 0 _ rfl
        simp [Addr.add] at h0
        by_cases hm0 : m = 0
        · subst hm0; simpa using h0
        · simpa [hm0] using h0
      have hcy : vz.cell? ⟨v4.heap.size, m, none⟩ = some (.slice yA yn yc) := by
        obtain ⟨ad, x, hA, -, -, hx1, hc⟩ := RY.out.el (i := m) (by have := ly.out; omega)
        injection hA with hA; subst hA
        rw [e2] at hx1; injection hx1 with hx1; subst hx1
        have h0 := hc 0 _ rfl
        simp [Addr.add] at h0
        by_cases hm0 : m = 0
        · subst hm0; simpa using h0
        · simpa [hm0] using h0
      have h5 : b 5 ≤ w5.heap.size := by rw [HB5.out]; exact Nat.le_refl _
      have cx : wo.cell? ⟨w5.heap.size, m, none⟩ = some (.slice xA xn xc) := by rw [← hcx]; simp only [World.cell?, HH.out _ h5]
      have cy : wo.cell? ⟨v4.heap.size, m, none⟩ = some (.slice yA yn yc) := by rw [← hcy]; simp only [World.cell?, HH.out _ H54.out]
      have HCX := Lib.hid cx
      have H5 := Lib.hid h5
      have E3' := Lib.hid e3
      have E4' := Lib.hid e4
      have LB := Lib.hid e5
      have RXm := Lib.hid (e6.rd At.enc_len)
      have RYm := Lib.hid e8
      have KX := Lib.hid (KeyRow.of At.enc_len at_head e6 e3)
      have HX1 := Lib.hid e1
      have lxn : xn ≤ 200 := by omega
      have hw2 : IntKind.i64.wrap ((m:Int) + 1) = (m : Int) + 1 := IntWalk.i64_in _ (by omega)
      have hmi : (m : Int) < 5 := by omega
      clear e1 e2 e3 e4 e5 e6 e7 e8 e9 hcx hcy h5
      go_wp2_with (fail)
      go_quiet ((go_at_call 12; exact Calls.quiet_of (sameA_true xA yA xn yn xc yc L _ E3'.out E4'.out (RXm.out.ext (ext_drew _ _)) (RYm.out.ext (ext_drew _ _)) LB.out)))
      go_wp2_with (fail)
      clear cy cx
      go_loopg [163] xn (fun g iv wi => ∃ j : Nat, j ≤ xn ∧ g = xn - j ∧ iv = .int .i64 (j : Int) ∧ Hid (KeyRow .i64 5 28 wi (b m) xA xn) ∧ Hid (OnlyG xA xn wo wi))
      case atStart => exact ⟨0, by omega, rfl, rfl, KX, Lib.hid (by first | exact OnlyG.drew _ _ _ _ | exact OnlyG.refl _ _ _)⟩
      case round =>
        clear KX
        obtain ⟨j, hj, hg2, rfl, KX, HO⟩ := hrel
        have HG2 := Lib.hid hg2
        clear hg2
        by_cases hlj : j < xn
        · skip
          have cx : wr.cell? ⟨w5.heap.size, m, none⟩ = some (.slice xA xn xc) := by rw [← HCX.out]; simp only [World.cell?, HR.out.high hlt HX1.out HO.out HBM.out _ H5.out]
          obtain ⟨g, cur, k, rfl, hgb, hgc, hck⟩ := KX.out.at_ hlj
          have hth := box_thaw hgc (j * 5)
          have K2 := Lib.hid (KX.out.set hgc j (-5))
          have O2 := Lib.hid (HO.out.set rfl (by omega) (j * 5) (.int .i64 (-5)))
          have hw3 : IntKind.i64.wrap ((j:Int) + 1) = (j : Int) + 1 := IntWalk.i64_in _ (by omega)
          go_wp2_with (fail)
          go_roundg (xn - (j + 1))
          case measure => have := HG2.out; omega
          case rel => exact ⟨j + 1, by omega, rfl, by go_num, K2, O2⟩
        · skip
          go_wp2_with (fail)
          go_roundg (5 - (m + 1))
          case measure => have := HG.out; omega
          case rel => exact ⟨m + 1, by omega, rfl, by go_num, Lib.hid (HR.out.next hlt HX1.out HO.out HBM.out), Lib.hid (HR.out.below hlt HX1.out HO.out HBM.out HV.out), Lib.hid (fun k hk => (HR.out.high hlt HX1.out HO.out HBM.out k hk).trans (HH.out k hk))⟩
    · skip
      have hv := HV.out
      rw [HB0.out] at hv
      have yv : Below wl.heap.size wl wo := YV.out.trans hv
      have BV2 := (yv.block _ (lt_of_some BV.out)).trans BV.out
      have BU2 := (yv.block _ (lt_of_some BU.out)).trans BU.out
      obtain ⟨m0, m1, m2, m3⟩ := box_v BV2
      obtain ⟨o0, o1, o2, o3⟩ := box_v BU2
      have hbq : beqV ⟨u1, u2, u3, u4⟩ ⟨u1, u2, u3, u4⟩ = true := beqV_eq rfl
      have hbh : (h2 == h2) = true := beq_self_eq_true h2
      have R_q := Lib.hid (R_q.out.ext yv)
      replace hx := ext_trans hx yv
      clear BV BU BV2 BU2 hv yv HR HV HH HG RX RY lx ly H54 YV HBX HS
      obtain ⟨wn, hwn⟩ : ∃ X, X = wo := ⟨_, rfl⟩
      subst hwn
      go_wp2_with (go_at_call 12; refine Hid.out ?_)
      refine Lib.hid ?_
      refine (sameA_true A_q A_s n_s n_s c_q c_s l_s _ N_s.out N_s.out R_q.out (r_s.ext hx) (by have := N_s.out; omega)).mono ?_
      rintro e wn ⟨rfl, d, hd⟩
      have y := drew_ext hd
      clear hd
      replace R_q := Lib.hid (R_q.out.ext y)
      replace hx := ext_trans hx y
      clear y
      go_wp2_with (go_at_call 6; refine Hid.out ?_)
      refine Lib.hid ?_
      refine (known05_any _).mono ?_
      rintro e w2 ⟨rfl, y⟩
      replace hx := ext_trans hx y
      go_wp2_with (fail)
      go_ret
      exact ⟨rfl, hx⟩
end Go.Proofs.YthhjjaoppacnmaaDoor
