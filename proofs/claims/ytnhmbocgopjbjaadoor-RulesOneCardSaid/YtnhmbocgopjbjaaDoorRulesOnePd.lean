/- The walk of rubriclaw14.RulesOne. -/
import Derived.Test.YtnhmbocgopjbjaaDoorKnown14Pd
import Derived.Test.YtnhmbocgopjbjaaDoorRulesOneLawPd
import Derived.Test.YtnhmbocgopjbjaaDoorLawKitPd
import Derived.Test.YtnhmbocgopjbjaaDoorSame06Pd
namespace Go.Proofs.YtnhmbocgopjbjaaDoor
open Go.RowKit
set_option linter.unusedVariables false
set_option linter.unusedSimpArgs false

set_option maxRecDepth 100000 in
set_option maxHeartbeats 4000000 in
theorem rulesOne_any (A_k A_p A_a : Option Addr) (n_k n_p n_a c_k c_p c_a : Nat) (l_k : List Ky) (l_p : List Ch) (l_a : List At) (w : World)
    (hnk : n_k = l_k.length) (hnp : n_p = l_p.length) (hna : n_a = l_a.length) (r_k : RdKy w w.heap.size A_k l_k) (r_p : RdCh w w.heap.size A_p l_p) (r_a : RdAt w w.heap.size A_a l_a)
    (q_k : n_k ≤ 9223372036854775807) (q_p : n_p ≤ 9223372036854775807) (q_a : n_a ≤ 9223372036854775807) (hca : n_a ≤ c_a) (hcm : c_a ≤ maxLen) (vp : okVc l_p) (hT : Lib.Utf8Tabs 1 2 w) :
    Calls Tryd.prog 9 #[.slice A_k n_k c_k, .slice A_p n_p c_p, .slice A_a n_a c_a] w fun e w' => e = .returned (.bool true) ∧ Below w.heap.size w w' := by
  have N_k := Lib.hid hnk
  have N_p := Lib.hid hnp
  have N_a := Lib.hid hna
  have C1 := Lib.hid hca
  have C2 := Lib.hid hcm
  have VP := Lib.hid vp
  have hx := ext_alloc w (.cells #[.slice A_a n_a c_a] 38)
  have rx : Rd SlN.enc 1 _ _ _ [⟨A_a, n_a, c_a⟩] := Rd.new SlN.enc_len w 38 [⟨A_a, n_a, c_a⟩] (cs := #[.slice A_a n_a c_a]) rfl rfl
  clear hnk hnp hna hca hcm vp
  go_enter Tryd.func9, Tryd.ntmps9
  go_wp2_with (go_at_call 36; refine Hid.out ?_)
  refine Lib.hid ?_
  refine (great14_any A_k A_p _ n_k c_k n_p c_p 1 1 [⟨A_a, n_a, c_a⟩] _ rfl q_k q_p (by simp [q_a]) rx (by omega)).mono ?_
  rintro e v ⟨g, rfl, hgr, rfl⟩
  clear rx
  cases g
  case true =>
    go_wp2_with (go_at_call 37; refine Hid.out ?_)
    refine Lib.hid ?_
    refine (known14_any _).mono ?_
    rintro e w2 ⟨rfl, y⟩
    replace hx := ext_trans hx y
    go_wp2_with (fail)
    go_ret
    exact ⟨rfl, hx⟩
  obtain ⟨g1, g5, g2⟩ := hgr rfl
  have g3 : n_a ≤ 100 := g2 ⟨A_a, n_a, c_a⟩ (by simp)
  clear g2 hgr
  go_wp2_with (go_at_call 12; refine Hid.out ?_)
  refine Lib.hid ?_
  refine (new_any A_k n_k c_k l_k _ N_k.out (r_k.ext hx) (by omega)).mono ?_
  rintro e wn ⟨y, ⟨hm, s, rfl, hS⟩ | ⟨hm, rfl⟩⟩
  all_goals replace hx := ext_trans hx y
  rotate_left
  · skip
    go_wp2_with (go_at_call 37; refine Hid.out ?_)
    refine Lib.hid ?_
    refine (known14_any _).mono ?_
    rintro e w2 ⟨rfl, y⟩
    replace hx := ext_trans hx y
    go_wp2_with (fail)
    go_ret
    exact ⟨rfl, hx⟩
  have HS := Lib.hid hS
  have HL : Hid (l_k.length ≤ 64) := Lib.hid (by have := N_k.out; omega)
  clear hS hm y
  go_wp2_with (go_at_call 38; refine Hid.out ?_)
  refine Lib.hid ?_
  refine (mayPc_any s l_k A_p n_p c_p l_p _ N_p.out (r_p.ext hx) (by omega) HS.out VP.out (Utf8Tabs_below hT hx)).mono ?_
  rintro e wn ⟨rfl, y⟩
  have HS := Lib.hid (HS.out.ext y)
  replace hx := ext_trans hx y
  clear y
  obtain ⟨E, hE⟩ : ∃ X, mayP l_k l_p = X := ⟨_, rfl⟩
  rw [hE]
  by_cases hE0 : E = 0
  rotate_left
  · skip
    have hne : (E == 0) = false := beq_eq_false_iff_ne.2 hE0
    have hne2 : (E != 0) = true := by rw [bne_iff_ne]; exact hE0
    clear hE
    go_wp2_with (go_at_call 37; refine Hid.out ?_)
    refine Lib.hid ?_
    refine (known14_any _).mono ?_
    rintro e w2 ⟨rfl, y⟩
    replace hx := ext_trans hx y
    go_wp2_with (fail)
    go_ret
    exact ⟨rfl, hx⟩
  subst hE0
  have M_p := Lib.hid hE
  have S_p := Lib.hid (mayP0 hE).2.1
  clear hE
  go_wp2_with (go_at_call 30; refine Hid.out ?_)
  refine Lib.hid ?_
  refine (risingA_any A_a n_a c_a l_a _ N_a.out (r_a.ext hx) (by omega)).mono ?_
  rintro e wn ⟨rfl, d, hd⟩
  have y := drew_ext hd
  clear hd
  have HS := Lib.hid (HS.out.ext y)
  replace hx := ext_trans hx y
  clear y
  obtain ⟨ba, hba⟩ : ∃ X, riseA l_a = X := ⟨_, rfl⟩
  rw [hba]
  have S_a := Lib.hid hba
  clear hba
  cases ba
  case false =>
    go_wp2_with (go_at_call 37; refine Hid.out ?_)
    refine Lib.hid ?_
    refine (known14_any _).mono ?_
    rintro e w2 ⟨rfl, y⟩
    replace hx := ext_trans hx y
    go_wp2_with (fail)
    go_ret
    exact ⟨rfl, hx⟩
  go_wp2_with (go_at_call 39; refine Hid.out ?_)
  refine Lib.hid ?_
  refine (complete_any s l_k A_p n_p c_p l_p _ N_p.out (r_p.ext hx) (by omega) HS.out HL.out).mono ?_
  rintro e wn ⟨x, f, A_x, c_x, rfl, hcx, hlx, ho, y⟩
  have HS := Lib.hid (HS.out.ext y)
  replace hx := ext_trans hx y
  clear y
  rcases hcx S_p.out with ⟨hcf, rfl, rfl⟩ | ⟨hcf, rfl, hxe⟩
  · skip
    clear ho hlx hcx
    go_wp2_with (go_at_call 37; refine Hid.out ?_)
    refine Lib.hid ?_
    refine (known14_any _).mono ?_
    rintro e w2 ⟨rfl, y⟩
    replace hx := ext_trans hx y
    go_wp2_with (fail)
    go_ret
    exact ⟨rfl, hx⟩
  have NC := Lib.hid hcf
  have R_x := Lib.hid (ho.rd Ch.enc_len)
  have XE := Lib.hid hxe
  have S_x : Hid (riseC x = true) := Lib.hid (by rw [XE.out]; exact completeP_rise S_p.out)
  obtain ⟨n_x, hn⟩ : ∃ n, n = x.length := ⟨_, rfl⟩
  rw [← hn] at hlx ⊢
  have N_x := Lib.hid hn
  have hlx2 : n_x ≤ 64 := by have := compl_len M_p.out; rw [← XE.out, ← N_x.out] at this; have := HL.out; omega
  clear hcx hcf ho hn hxe hlx
  go_wp2_with (go_at_call 39; refine Hid.out ?_)
  refine Lib.hid ?_
  refine (complete_any s l_k A_x n_x c_x x _ N_x.out R_x.out (by omega) HS.out HL.out).mono ?_
  rintro e wn ⟨z, f, A_z, c_z, rfl, hcz, hlz, ho, y⟩
  have HS := Lib.hid (HS.out.ext y)
  have R_x := Lib.hid (R_x.out.ext y)
  replace hx := ext_trans hx y
  clear y
  obtain ⟨rfl, rfl⟩ : f = 0 ∧ z = x := by
    rcases hcz S_x.out with ⟨h1, _⟩ | ⟨_, h1, h2⟩
    · rw [XE.out, compl_noconf S_p.out NC.out] at h1; cases h1
    · exact ⟨h1, by rw [h2, XE.out]; exact compl_twice S_p.out⟩
  have R_z := Lib.hid (ho.rd Ch.enc_len)
  rw [← N_x.out]
  clear hcz ho hlz
  go_wp2_with (go_at_call 40; refine Hid.out ?_)
  refine Lib.hid ?_
  refine (sameR6_any A_x A_z n_x n_x c_x c_z z z _ N_x.out N_x.out R_x.out R_z.out (by omega) (by omega)).mono ?_
  rintro e wn ⟨rfl, d, hd⟩
  have y := drew_ext hd
  clear hd
  have HS := Lib.hid (HS.out.ext y)
  have R_x := Lib.hid (R_x.out.ext y)
  have R_z := Lib.hid (R_z.out.ext y)
  replace hx := ext_trans hx y
  rw [decide_eq_true rfl]
  clear y
  go_wp2_with (go_at_call 38; refine Hid.out ?_)
  refine Lib.hid ?_
  refine (mayPc_any s l_k A_x n_x c_x z _ N_x.out R_x.out (by omega) HS.out (by rw [XE.out]; exact compl_vc S_p.out VP.out) (Utf8Tabs_below hT hx)).mono ?_
  rintro e wn ⟨rfl, y⟩
  have HS := Lib.hid (HS.out.ext y)
  have R_x := Lib.hid (R_x.out.ext y)
  have R_z := Lib.hid (R_z.out.ext y)
  replace hx := ext_trans hx y
  clear y
  have hmx : mayP l_k z = 0 := by rw [XE.out]; exact compl_may M_p.out HL.out
  rw [hmx]
  clear hmx
  go_wp2_with (go_at_call 41; refine Hid.out ?_)
  refine Lib.hid ?_
  refine (apply_any A_a A_x n_a n_x c_a c_x l_a z _ N_a.out N_x.out (r_a.ext hx) R_x.out (by omega) (by omega) C1.out C2.out).mono ?_
  rintro e wn ⟨A_s, c_s, rfl, ho, y⟩
  have HS := Lib.hid (HS.out.ext y)
  have R_x := Lib.hid (R_x.out.ext y)
  have R_z := Lib.hid (R_z.out.ext y)
  replace hx := ext_trans hx y
  have R_s := Lib.hid (ho.rd At.enc_len)
  have hsl : (applyP z l_a).length ≤ 7000 := by have := apply_len_any z l_a; have := N_x.out; have := N_a.out; omega
  have hgt : Hid (∀ c ∈ l_p, c.gone = false → getA (applyP z l_a) c.key = some c.v ∧ ∀ k ∈ groupL l_k c.key, getA (applyP z l_a) k = none) := Lib.hid (fun c hc hg => by rw [XE.out]; exact compl_get S_p.out S_a.out NC.out hc hg)
  obtain ⟨S, hS⟩ : ∃ X, applyP z l_a = X := ⟨_, rfl⟩
  rw [hS] at R_s hsl hgt ⊢
  obtain ⟨n_s, hn⟩ : ∃ n, n = S.length := ⟨_, rfl⟩
  rw [← hn] at hsl ⊢
  have N_s := Lib.hid hn
  clear ho hn hS y
  go_wp2_with (fail)
  go_loopg [94] n_p (fun g iv wr => ∃ m : Nat, m ≤ n_p ∧ g = n_p - m ∧ iv = .int .i64 (m : Int) ∧ Below wn.heap.size wn wr)
  case atStart => exact ⟨0, by omega, rfl, rfl, Below.refl _ _⟩
  case round =>
    obtain ⟨m, hm, hg, rfl, y⟩ := hrel
    have HG := Lib.hid hg
    have yr := y
    clear hg
    have HS := Lib.hid (HS.out.ext y)
    have R_x := Lib.hid (R_x.out.ext y)
    have R_z := Lib.hid (R_z.out.ext y)
    have R_s := Lib.hid (R_s.out.ext y)
    replace hx := ext_trans hx y
    by_cases hlt : m < n_p
    · skip
      obtain ⟨ad, x, hA, -, hx1, hc0⟩ := (r_p.ext hx).elIn (i := m) (by have := N_p.out; omega)
      subst hA
      have HM := Lib.hid (List.mem_of_getElem? hx1)
      obtain ⟨x1, x6, x2, x3, x4, x5⟩ := x
      have CX := Lib.hid hc0
      have hw2 : IntKind.i64.wrap ((m:Int) + 1) = (m : Int) + 1 := IntWalk.i64_in _ (by omega)
      obtain ⟨r0, r1, r2, r3, r4, r5⟩ := ch_cells CX.out.2
      clear hx1 hc0
      cases x6 with
      | true =>
        go_wp2_with (fail)
        go_roundg (n_p - (m + 1))
        case measure => have := HG.out; omega
        case rel => exact ⟨m + 1, by omega, rfl, by go_num, yr⟩
      | false =>
        have hgs := hgt.out _ HM.out rfl
        have GA := Lib.hid hgs.1
        have GO := Lib.hid hgs.2
        clear hgs
        go_wp2_with (go_at_call 32; refine Hid.out ?_)
        refine Lib.hid ?_
        clear r0 r1 r2 r3 r4 r5
        refine (get05_some A_s n_s c_s S x1 _ N_s.out R_s.out (by omega) GA.out).mono ?_
        rintro e wn ⟨rfl, y⟩
        have HS := Lib.hid (HS.out.ext y)
        have R_x := Lib.hid (R_x.out.ext y)
        have R_z := Lib.hid (R_z.out.ext y)
        have R_s := Lib.hid (R_s.out.ext y)
        have CX := Lib.hid (CX.out.ext y)
        replace hx := ext_trans hx y
        replace yr := ext_trans yr y
        clear y
        have y := ext_alloc wn (.cells #[.int .u8 x2, .int .i64 x3, .int .u64 x4, .string x5] 43)
        have hb := heap_alloc_new wn (.cells #[.int .u8 x2, .int .i64 x3, .int .u64 x4, .string x5] 43)
        have HS := Lib.hid (HS.out.ext y)
        have R_x := Lib.hid (R_x.out.ext y)
        have R_z := Lib.hid (R_z.out.ext y)
        have R_s := Lib.hid (R_s.out.ext y)
        have CX := Lib.hid (CX.out.ext y)
        replace hx := ext_trans hx y
        have BA := Lib.hid hb
        replace yr := ext_trans yr y
        clear y hb
        obtain ⟨r0, r1, r2, r3, r4, r5⟩ := ch_cells CX.out.2
        obtain ⟨p0, p1, p2, p3⟩ := box_v BA.out
        have hbq : beqV ⟨x2, x3, x4, x5⟩ ⟨x2, x3, x4, x5⟩ = true := beqV_eq rfl
        go_wp2_with (fail)
        go_quiet (fail)
        go_wp2_with (go_at_call 42; refine Hid.out ?_)
        refine Lib.hid ?_
        clear r0 r1 r2 r3 r4 r5 p0 p1 p2 p3 hbq
        refine (groupS_any s l_k x1 _ (HS.out.ext (ext_drew _ _)) (by have := HL.out; omega)).mono ?_
        rintro e wg ⟨g, Ag, cg, rfl, hgp, hgl, hgo, y3⟩
        have y := ext_trans (ext_drew _ _) y3
        have HS := Lib.hid (HS.out.ext y)
        have R_x := Lib.hid (R_x.out.ext y)
        have R_z := Lib.hid (R_z.out.ext y)
        have R_s := Lib.hid (R_s.out.ext y)
        have CX := Lib.hid (CX.out.ext y)
        replace hx := ext_trans hx y
        replace yr := ext_trans yr y
        have R_g := Lib.hid (hgo.rd encInt_len)
        have GP := Lib.hid hgp
        obtain ⟨ng, hng⟩ : ∃ ng, ng = g.length := ⟨_, rfl⟩
        rw [← hng] at hgl ⊢
        have NG := Lib.hid hng
        have hgl2 : ng ≤ 64 := by have := HL.out; omega
        clear hgp hgo hng y y3
        go_wp2_with (fail)
        go_loopg [132] ng (fun g2 iv wi => ∃ j : Nat, j ≤ ng ∧ g2 = ng - j ∧ iv = .int .i64 (j : Int) ∧ Below wg.heap.size wg wi)
        case atStart => exact ⟨0, by omega, rfl, rfl, Below.refl _ _⟩
        case round =>
          obtain ⟨j, hj, hg2, rfl, y⟩ := hrel
          have HG2 := Lib.hid hg2
          have yi := y
          clear hg2
          have HS := Lib.hid (HS.out.ext y)
          have R_x := Lib.hid (R_x.out.ext y)
          have R_z := Lib.hid (R_z.out.ext y)
          have R_s := Lib.hid (R_s.out.ext y)
          have R_g := Lib.hid (R_g.out.ext y)
          replace hx := ext_trans hx y
          replace yr := ext_trans yr y
          by_cases hlj : j < ng
          · skip
            obtain ⟨ad2, o, hA, -, ho1, hoc⟩ := R_g.out.elIn (i := j) (by have := NG.out; omega)
            subst hA
            have GN := Lib.hid (GO.out o (GP.out.mem_iff.1 (List.mem_of_getElem? ho1)))
            have q0 : _ = some (Value.int .i64 o) := hoc.2 0 _ rfl
            rw [add_zero', Nat.mul_one] at q0
            have hw3 : IntKind.i64.wrap ((j:Int) + 1) = (j : Int) + 1 := IntWalk.i64_in _ (by omega)
            clear ho1 hoc
            go_wp2_with (go_at_call 32; refine Hid.out ?_)
            refine Lib.hid ?_
            clear q0
            refine (get05_none A_s n_s c_s S o _ N_s.out R_s.out (by omega) GN.out).mono ?_
            rintro e wn ⟨rfl, y⟩
            replace yi := ext_trans yi y
            go_wp2_with (fail)
            go_roundg (ng - (j + 1))
            case measure => have := HG2.out; omega
            case rel => exact ⟨j + 1, by omega, rfl, by go_num, ext_trans yi (ext_alloc _ _)⟩
          · skip
            go_wp2_with (fail)
            go_roundg (n_p - (m + 1))
            case measure => have := HG.out; omega
            case rel => exact ⟨m + 1, by omega, rfl, by go_num, yr⟩
    · skip
      go_wp2_with (go_at_call 37; refine Hid.out ?_)
      refine Lib.hid ?_
      refine (known14_any _).mono ?_
      rintro e w2 ⟨rfl, y⟩
      replace hx := ext_trans hx y
      go_wp2_with (fail)
      go_ret
      exact ⟨rfl, hx⟩
end Go.Proofs.YtnhmbocgopjbjaaDoor
