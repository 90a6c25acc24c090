/- Merged texts: Pos22, OpCV, MkBox, TrSt. -/
import Derived.Test.YtfnkjcodcoehcaaGreatDoorV24
import Derived.Test.YtfnkjcodcoehcaaGreatDoorV20
import Derived.Test.YtfnkjcodcoehcaaGreatDoorV18
import Derived.Test.YtfnkjcodcoehcaaGreatDoorV15
import Derived.Test.YtfnkjcodcoehcaaGreatDoorV14
import Derived.Test.YtfnkjcodcoehcaaGreatDoorV11
import Derived.Test.YtfnkjcodcoehcaaGreatDoorV4
namespace Go.Proofs.YtfnkjcodcoehcaaGreatDoor
open Go.RowKit
set_option linter.unusedVariables false
set_option linter.unusedSimpArgs false

theorem takes_le_lenP : ∀ us : List Un, takesU us ≤ us.length
  | [] => Nat.le_refl _
  | .ins r s :: us => by have := takes_le_lenP us; show takesU us ≤ us.length + 1; omega
  | .del :: us => by have := takes_le_lenP us; show takesU us + 1 ≤ us.length + 1; omega
  | .ret p :: us => by have := takes_le_lenP us; show takesU us + 1 ≤ us.length + 1; omega
def PosR (a : Bool) (us : List Un) (p R : Nat) (t n : Int) : Prop := (t ≤ p ∧ (R : Int) = n - ((p : Int) - t) + (posU a us ((p : Int) - t).toNat : Nat)) ∨ ((p : Int) < t ∧ (R : Int) = n)
theorem PosR.ins {a : Bool} {us : List Un} {p R : Nat} {t n : Int} {r : List Int} {s : List At} (h : PosR a (r.map (fun r => Un.ins r s) ++ us) p R t n) (hc : t < p ∨ t = p ∧ a = true) : PosR a us p R t (n + r.length) := by
  rcases h with ⟨h1, h2⟩ | ⟨h1, _⟩
  · refine .inl ⟨h1, ?_⟩
    rw [pos_ins a us s _ (by rcases hc with h | ⟨_, h⟩; exact .inl (by omega); exact .inr h) r] at h2
    omega
  · omega
theorem PosR.pass {a : Bool} {us : List Un} {p R : Nat} {t n : Int} {r : List Int} {s : List At} (h : PosR a (r.map (fun r => Un.ins r s) ++ us) p R t n) (hc : ¬ (t < p ∨ t = p ∧ a = true)) (hr : r ≠ []) : PosR a us p R t n := by
  rcases h with ⟨h1, h2⟩ | h
  · have ht : t = p := by omega
    have ha : a = false := by cases a; rfl; exact absurd (.inr ⟨ht, rfl⟩) hc
    subst ha
    refine .inl ⟨h1, ?_⟩
    have e : ((p : Int) - t).toNat = 0 := by omega
    rw [e] at h2 ⊢
    rw [pos_stop false us (.inl rfl)]
    rw [pos_stop false _ (.inl rfl)] at h2
    exact h2
  · exact .inr h
theorem PosR.del {a : Bool} {us : List Un} {p R : Nat} {t n : Int} {k : Nat} (h : PosR a (List.replicate k .del ++ us) p R t n) (hk : t + k ≤ p) : PosR a us p R (t + k) (n - k) := by
  rcases h with ⟨h1, h2⟩ | ⟨h1, _⟩
  · refine .inl ⟨hk, ?_⟩
    rw [pos_dels a us k _ (by omega)] at h2
    rw [show ((p : Int) - (t + k)).toNat = ((p : Int) - t).toNat - k by omega]
    omega
  · omega
theorem PosR.del2 {a : Bool} {us : List Un} {p R : Nat} {t n : Int} {k : Nat} (h : PosR a (List.replicate k .del ++ us) p R t n) (h0 : t ≤ p) (hk : (p : Int) < t + k) : PosR a us p R (t + k) (n - ((p : Int) - t)) := by
  rcases h with ⟨h1, h2⟩ | ⟨h1, _⟩
  · refine .inr ⟨hk, ?_⟩
    rw [pos_dels2 a us k _ (by omega)] at h2
    omega
  · omega
theorem PosR.ret {a : Bool} {us : List Un} {p R : Nat} {t n : Int} {k : Nat} {q : List Ch} (h : PosR a (List.replicate k (.ret q) ++ us) p R t n) : PosR a us p R (t + k) n := by
  rcases h with ⟨h1, h2⟩ | ⟨h1, h2⟩
  · by_cases hk : t + k ≤ p
    · refine .inl ⟨hk, ?_⟩
      rw [pos_rets a q us k _ (by omega)] at h2
      rw [show ((p : Int) - (t + k)).toNat = ((p : Int) - t).toNat - k by omega]
      omega
    · refine .inr ⟨by omega, ?_⟩
      rw [pos_rets2 a q us k _ (by omega)] at h2
      omega
  · exact .inr ⟨by omega, h2⟩
theorem PosR.del3 {a : Bool} {us : List Un} {p R : Nat} {t n : Int} {k : Nat} (h : PosR a (List.replicate k .del ++ us) p R t n) (h0 : (p : Int) < t) : PosR a us p R (t + k) n := by
  rcases h with ⟨h1, h2⟩ | ⟨h1, h2⟩
  · omega
  · exact .inr ⟨by omega, h2⟩
set_option maxRecDepth 100000 in
set_option maxHeartbeats 4000000 in
theorem pos22_any {w : World} {A : Option Addr} {n c : Nat} {l : List Ky} {x : List OpS} (a : Bool) (p : Nat) (h : OpsC w A n c x) (hm : mayO l x = 0) (hz : szN x ≤ 200000) (hp : p ≤ 536870912) :
    Calls Tryz.prog 50 #[.slice A n c, .int .i64 (p : Int), .bool a] w fun e w' => e = .returned (.int .i64 (posU a (nf (units (osOf x))) p : Nat)) ∧ Below w.heap.size w w' := by
  have HX := Lib.hid h
  have HM := Lib.hid hm
  have HZ := Lib.hid hz
  have TK : Hid ((nf (units (osOf x))).length ≤ 1300000000) := Lib.hid (by
    obtain ⟨gx, _, _⟩ := mayO_zero hm
    obtain ⟨s1, s2⟩ := sums_units x (good_isOp gx)
    have t1 := takes_sum gx (by have := h.at_.b; have := h.at_.len; omega)
    have t2 := makes_sum gx (by have := h.at_.b; have := h.at_.len; omega)
    have t5 := units_length (us := units (osOf x))
    have t7 := nf_len (units (osOf x))
    omega)
  obtain ⟨R, hR⟩ : ∃ X, posU a (nf (units (osOf x))) p = X := ⟨_, rfl⟩
  rw [hR]
  have HR0 := Lib.hid hR
  clear h hm hz hR
  go_enter Tryz.func50, Tryz.ntmps50
  go_wp2_with (go_at_call 79; refine Hid.out ?_)
  refine Lib.hid ?_
  refine (of16D HX.out HM.out HZ.out).mono ?_
  rintro e w1 ⟨Ay, cy, y, rfl, hy, oy, y1⟩
  have OY := Lib.hid oy
  have UY : Hid (units (osOf y) = nf (units (osOf x))) := Lib.hid (mkU_units hy)
  have IY := Lib.hid (mkU_isOp hy)
  rw [← UY.out] at TK HR0
  have P0 : Hid (PosR a (units (osOf y)) p R 0 p) := Lib.hid (.inl ⟨by omega, by rw [← HR0.out]; simp⟩)
  obtain ⟨ny, hny⟩ : ∃ X, X = y.length := ⟨_, rfl⟩
  rw [← hny]
  have NY := Lib.hid hny
  have NB : Hid (ny ≤ 1000000) := Lib.hid (by rw [hny]; exact oy.at_.b)
  have LU : Hid ((units (osOf y)).length ≤ 1300000000) := TK
  clear hy oy hny
  go_wp2_with (fail)
  go_loopg [8, 9, 10] ny (fun g tv nv iv wr => ∃ (m : Nat) (t n : Int), m ≤ ny ∧ g = ny - m ∧ tv = .int .i64 t ∧ nv = .int .i64 n ∧ iv = .int .i64 (m : Int) ∧ Hid (PosR a (units (osOf (y.drop m))) p R t n) ∧ 0 ≤ t ∧ -4000000000 ≤ n ∧ n ≤ 4000000000 ∧ Hid (t + (units (osOf (y.drop m))).length ≤ 1300000000 ∧ n + (units (osOf (y.drop m))).length ≤ 2000000000 ∧ -2000000000 + ((units (osOf (y.drop m))).length : Int) ≤ n) ∧ Below w1.heap.size w1 wr)
  case atStart => exact ⟨0, 0, p, Nat.zero_le _, rfl, rfl, rfl, rfl, by rw [List.drop_zero]; exact P0, by omega, by omega, by omega, Lib.hid (by rw [List.drop_zero]; have := LU.out; omega), Below.refl _ _⟩
  case round =>
    clear P0
    obtain ⟨m, t, n, hm, hg, rfl, rfl, rfl, PI, ht0, hn0, hn1, BB, yr⟩ := hrel
    have HG := Lib.hid hg
    clear hg
    by_cases hlt : (m : Int) < (ny : Int)
    · obtain ⟨ad, z, rfl, hd, hzm, hc⟩ := (OY.out.at_.rd.1.ext yr).elIn (i := m) (by have := NY.out; omega)
      have IZ := Lib.hid (IY.out z (List.mem_of_getElem? hzm))
      have hu : units (osOf (y.drop m)) = unitsO z.o ++ units (osOf (y.drop (m + 1))) := by rw [hd]; rfl
      rw [hu] at PI BB
      rw [List.length_append] at BB
      clear hu hd hzm
      obtain ⟨⟨k, nn, r, s, pp⟩, Ar, cr, As, cs, Ap, cp⟩ := z
      obtain ⟨r0, r1, r2, r3, r4⟩ := op_cells hc.2
      clear hc
      have yb := ext_alloc wr (.cells #[.int .u8 k, .int .i64 nn, .slice Ar r.length cr, .slice As s.length cs, .slice Ap pp.length cp] 50)
      have Y2 := Lib.hid (ext_trans yr yb)
      have hw2 : IntKind.i64.wrap ((m:Int) + 1) = (m : Int) + 1 := IntWalk.i64_in _ (by have := NB.out; omega)
      obtain ⟨us, hus⟩ : ∃ X, X = units (osOf (y.drop (m + 1))) := ⟨_, rfl⟩
      rw [← hus] at PI BB
      have HU := Lib.hid hus
      clear hus yb
      have fin : ∀ (t' n' : Int), PosR a us p R t' n' → 0 ≤ t' → t' + us.length ≤ 1300000000 → n' + us.length ≤ 2000000000 → -2000000000 + (us.length : Int) ≤ n' → ∃ (m' : Nat) (t n : Int), m' ≤ ny ∧ ny - (m + 1) = ny - m' ∧ (Value.int .i64 t' = .int .i64 t) ∧ (Value.int .i64 n' = .int .i64 n) ∧ (Value.int .i64 ((m : Int) + 1) = .int .i64 (m' : Int)) ∧ Hid (PosR a (units (osOf (y.drop m'))) p R t n) ∧ 0 ≤ t ∧ -4000000000 ≤ n ∧ n ≤ 4000000000 ∧ Hid (t + (units (osOf (y.drop m'))).length ≤ 1300000000 ∧ n + (units (osOf (y.drop m'))).length ≤ 2000000000 ∧ -2000000000 + ((units (osOf (y.drop m'))).length : Int) ≤ n) ∧ Below w1.heap.size w1 (wr.alloc (.cells #[.int .u8 k, .int .i64 nn, .slice Ar r.length cr, .slice As s.length cs, .slice Ap pp.length cp] 50)) := fun t' n' g1 g2 g3 g4 g5 =>
        ⟨m + 1, t', n', by omega, rfl, rfl, rfl, by simp, Lib.hid (by rw [← HU.out]; exact g1), g2, by omega, by omega, Lib.hid (by rw [← HU.out]; exact ⟨g3, g4, g5⟩), Y2.out⟩
      have FIN := Lib.hid fin
      clear fin
      rcases IZ.out with ⟨hk, -, hr, -⟩ | ⟨hk, hn, -⟩ | ⟨hk, hn, -⟩
      · obtain rfl : k = 2 := hk
        have eu : unitsO (⟨2, nn, r, s, pp⟩ : Opd) = r.map (fun r => Un.ins r s) := by unfold unitsO; rw [if_pos rfl]
        rw [show unitsO (⟨⟨2, nn, r, s, pp⟩, Ar, cr, As, cs, Ap, cp⟩ : OpS).o = r.map (fun r => Un.ins r s) from eu] at PI BB
        rw [List.length_map] at BB
        have hb := BB.out
        have hw3 : IntKind.i64.wrap (n + (r.length : Int)) = n + (r.length : Int) := IntWalk.i64_in _ (by omega)
        by_cases h1 : t < (p : Int)
        · have F := Lib.hid (FIN.out t _ (PI.out.ins (.inl h1)) ht0 (by omega) (by omega) (by omega))
          clear eu hr hb
          go_wp2_with (fail)
          go_roundg (ny - (m + 1))
          case measure => have := HG.out; omega
          case rel => exact F.out
        · by_cases h2 : t = (p : Int)
          · subst h2
            cases a with
            | true =>
              have F := Lib.hid (FIN.out _ _ (PI.out.ins (.inr ⟨rfl, rfl⟩)) ht0 (by omega) (by omega) (by omega))
              clear eu hr hb
              go_wp2_with (fail)
              go_roundg (ny - (m + 1))
              case measure => have := HG.out; omega
              case rel => exact F.out
            | false =>
              have F := Lib.hid (FIN.out _ _ (PI.out.pass (by simp) hr) ht0 (by omega) (by omega) (by omega))
              clear eu hr hb
              go_wp2_with (fail)
              go_roundg (ny - (m + 1))
              case measure => have := HG.out; omega
              case rel => exact F.out
          · have h3 : (t == (p : Int)) = false := beq_eq_false_iff_ne.2 h2
            have F := Lib.hid (FIN.out _ _ (PI.out.pass (fun h => by rcases h with h | h; exact h1 h; exact h2 h.1) hr) ht0 (by omega) (by omega) (by omega))
            clear eu hr hb h2
            go_wp2_with (fail)
            go_roundg (ny - (m + 1))
            case measure => have := HG.out; omega
            case rel => exact F.out
      · obtain rfl : k = 3 := hk
        simp only at hn
        obtain ⟨q, rfl⟩ : ∃ q : Nat, nn = (q : Int) := ⟨nn.toNat, by omega⟩
        have eu : unitsO (⟨3, (q : Int), r, s, pp⟩ : Opd) = List.replicate q .del := by unfold unitsO; rw [if_neg (show ¬ ((3 : Int) = 2) by decide), if_neg (show ¬ ((3 : Int) = 1) by decide)]; simp
        rw [show unitsO (⟨⟨3, (q : Int), r, s, pp⟩, Ar, cr, As, cs, Ap, cp⟩ : OpS).o = List.replicate q .del from eu] at PI BB
        rw [List.length_replicate] at BB
        have hb := BB.out
        have hw3 : IntKind.i64.wrap ((p : Int) - t) = (p : Int) - t := IntWalk.i64_in _ (by omega)
        have hw4 : IntKind.i64.wrap (t + (q : Int)) = t + (q : Int) := IntWalk.i64_in _ (by omega)
        have hw5 : IntKind.i64.wrap (n - (q : Int)) = n - (q : Int) := IntWalk.i64_in _ (by omega)
        have hw6 : IntKind.i64.wrap (n - ((p : Int) - t)) = n - ((p : Int) - t) ∨ ¬ ((0:Int) < (p : Int) - t ∧ (p : Int) - t ≤ (q : Int)) := by
          by_cases hh : (0:Int) < (p : Int) - t ∧ (p : Int) - t ≤ (q : Int)
          · exact .inl (IntWalk.i64_in _ (by omega))
          · exact .inr hh
        by_cases h1 : (q : Int) < (p : Int) - t
        · have h2 : (0 : Int) < (q : Int) := by omega
          have F := Lib.hid (FIN.out _ _ (PI.out.del (by omega)) (by omega) (by omega) (by omega) (by omega))
          clear eu hb hw6
          go_wp2_with (fail)
          go_roundg (ny - (m + 1))
          case measure => have := HG.out; omega
          case rel => exact F.out
        · by_cases h2 : (0 : Int) < (p : Int) - t
          · have hw7 : IntKind.i64.wrap (n - ((p : Int) - t)) = n - ((p : Int) - t) := by rcases hw6 with h | h; exact h; exact absurd ⟨h2, by omega⟩ h
            have F : Hid (PosR a us p R (t + q) (n - ((p : Int) - t))) := Lib.hid (by
              by_cases h3 : t + q ≤ p
              · have e : (p : Int) - t = q := by omega
                rw [e]; exact PI.out.del h3
              · exact PI.out.del2 (by omega) (by omega))
            have F := Lib.hid (FIN.out _ _ F.out (by omega) (by omega) (by omega) (by omega))
            clear eu hb hw6
            go_wp2_with (fail)
            go_roundg (ny - (m + 1))
            case measure => have := HG.out; omega
            case rel => exact F.out
          · have F : Hid (PosR a us p R (t + q) n) := Lib.hid (by
              by_cases h3 : t = p
              · have := PI.out.del2 (by omega) (by omega)
                rw [show n - ((p : Int) - t) = n by omega] at this
                exact this
              · exact PI.out.del3 (by omega))
            have F := Lib.hid (FIN.out _ _ F.out (by omega) (by omega) (by omega) (by omega))
            clear eu hb hw6
            go_wp2_with (fail)
            go_roundg (ny - (m + 1))
            case measure => have := HG.out; omega
            case rel => exact F.out
      · obtain rfl : k = 1 := hk
        simp only at hn
        obtain ⟨q, rfl⟩ : ∃ q : Nat, nn = (q : Int) := ⟨nn.toNat, by omega⟩
        have eu : unitsO (⟨1, (q : Int), r, s, pp⟩ : Opd) = List.replicate q (.ret pp) := by unfold unitsO; rw [if_neg (show ¬ ((1 : Int) = 2) by decide), if_pos rfl]; simp
        rw [show unitsO (⟨⟨1, (q : Int), r, s, pp⟩, Ar, cr, As, cs, Ap, cp⟩ : OpS).o = List.replicate q (.ret pp) from eu] at PI BB
        rw [List.length_replicate] at BB
        have hb := BB.out
        have hw4 : IntKind.i64.wrap (t + (q : Int)) = t + (q : Int) := IntWalk.i64_in _ (by omega)
        have F := Lib.hid (FIN.out _ _ PI.out.ret (by omega) (by omega) (by omega) (by omega))
        clear eu hb
        go_wp2_with (fail)
        go_roundg (ny - (m + 1))
        case measure => have := HG.out; omega
        case rel => exact F.out
    · have hR : n = (R : Int) := by
        have h := PI.out
        rw [List.drop_eq_nil_of_le (by have := NY.out; omega)] at h
        rcases h with ⟨h1, h2⟩ | ⟨_, h2⟩
        · have e : posU a (units (osOf ([] : List OpS))) ((p : Int) - t).toNat = ((p : Int) - t).toNat := by show posU a [] _ = _; unfold posU; rfl
          rw [e] at h2; omega
        · exact h2.symm
      subst hR
      go_wp2_with (fail)
      go_ret
      exact ⟨rfl, ext_trans y1 yr⟩
set_option maxRecDepth 100000 in
set_option maxHeartbeats 1600000 in
theorem small22_any {w : World} {A B : Option Addr} {n c k d : Nat} {l : List Ky} {x y : List OpS} (most : Nat) (h1 : OpsC w A n c x) (h2 : OpsC w B k d y) (m1 : mayO l x = 0) (m2 : mayO l y = 0) (hm : most ≤ 1000000) :
    Calls Tryz.prog 51 #[.slice A n c, .slice B k d, .int .i64 (most : Int)] w fun e w' => ∃ b : Bool, e = .returned (.bool b) ∧ (b = true → (units (osOf x)).length ≤ most ∧ (units (osOf y)).length ≤ most) ∧ Below w.heap.size w w' := by
  have H1 := Lib.hid h1
  have H2 := Lib.hid h2
  have I1 := Lib.hid (good_isOp (mayO_zero m1).1)
  have I2 := Lib.hid (good_isOp (mayO_zero m2).1)
  have T1 := Lib.hid (sums_units x (good_isOp (mayO_zero m1).1)).1
  have T2 := Lib.hid (sums_units y (good_isOp (mayO_zero m2).1)).1
  have G1 := Lib.hid (takes_sum (mayO_zero m1).1 (by have := h1.at_.b; have := h1.at_.len; omega))
  have G2 := Lib.hid (takes_sum (mayO_zero m2).1 (by have := h2.at_.b; have := h2.at_.len; omega))
  clear h1 h2 m1 m2
  go_enter Tryz.func51, Tryz.ntmps51
  go_wp2_with (go_at_call 44; refine Hid.out ?_)
  refine Lib.hid ?_
  refine (small20_any A n c x most _ H1.out.at_.len H1.out.at_.rd.1 I1.out (by have := H1.out.at_.b; omega) hm).mono ?_
  rintro e w1 ⟨rfl, y1⟩
  have H2 := Lib.hid (H2.out.ext y1)
  have H1 := Lib.hid (H1.out.ext y1)
  by_cases q1 : (units (osOf x)).length ≤ most
  · rw [decide_eq_true q1]
    go_wp2_with (go_at_call 44; refine Hid.out ?_)
    refine Lib.hid ?_
    refine (small20_any B k d y most _ H2.out.at_.len H2.out.at_.rd.1 I2.out (by have := H2.out.at_.b; omega) hm).mono ?_
    rintro e w2 ⟨rfl, y2⟩
    have H2 := Lib.hid (H2.out.ext y2)
    have H1 := Lib.hid (H1.out.ext y2)
    by_cases q2 : (units (osOf y)).length ≤ most
    · rw [decide_eq_true q2]
      have b1 := takes_le_lenP (units (osOf x))
      have b2 := takes_le_lenP (units (osOf y))
      have c1 := G1.out.trans T1.out.symm
      have c2 := G2.out.trans T2.out.symm
      obtain ⟨tx, htx⟩ : ∃ t, takesP x = t := ⟨_, rfl⟩
      obtain ⟨ty, hty⟩ : ∃ t, takesP y = t := ⟨_, rfl⟩
      rw [htx] at c1
      rw [hty] at c2
      have HTX := Lib.hid htx
      have HTY := Lib.hid hty
      have hle : tx + ty ≤ 2 * (most : Int) := by omega
      have hv1 : IntKind.i64.wrap (tx + ty) = tx + ty := IntWalk.i64_in _ (by omega)
      have hv2 : IntKind.i64.wrap (2 * (most : Int)) = 2 * (most : Int) := IntWalk.i64_in _ (by omega)
      clear b1 b2 c1 c2 htx hty
      go_wp2_with (go_at_call 109; refine Hid.out ?_)
      refine Lib.hid ?_
      refine (takes15_any A n c x _ H1.out.at_.len H1.out.at_.rd.1 (by have := H1.out.at_.b; omega)).mono ?_
      rintro e w3 ⟨rfl, d3, hd3⟩
      have y3 := drew_ext hd3
      clear hd3
      rw [HTX.out]
      have H2 := Lib.hid (H2.out.ext y3)
      go_wp2_with (go_at_call 109; refine Hid.out ?_)
      refine Lib.hid ?_
      refine (takes15_any B k d y _ H2.out.at_.len H2.out.at_.rd.1 (by have := H2.out.at_.b; omega)).mono ?_
      rintro e w4 ⟨rfl, d4, hd4⟩
      have y4 := drew_ext hd4
      clear hd4
      rw [HTY.out]
      go_wp2_with (fail)
      go_ret
      exact ⟨true, by simp [hle], fun _ => ⟨q1, q2⟩, ext_trans y1 (ext_trans y2 (ext_trans y3 y4))⟩
    · rw [decide_eq_false q2]
      go_wp2_with (fail)
      go_ret
      exact ⟨false, rfl, (fun h => by cases h), ext_trans y1 y2⟩
  · rw [decide_eq_false q1]
    go_wp2_with (fail)
    go_ret
    exact ⟨false, rfl, fun h => (by cases h), y1⟩
theorem NewOps.opCV {m : Mk} {us : List Un} {K S : Nat} {w0 w w' : World} {e : Ending} (h : NewOps (mkOps m) w e w') (ht : Told m us) (hu : ∀ u ∈ us, okUn u) (hB : MkB m K S) (hK : K ≤ 900000) (hS : S ≤ 100000000) (hw : w0.heap.size ≤ w.heap.size) :
    ∃ A c x, e = .returned (.slice A x.length c) ∧ osOf x = mkU us ∧ OpsC w' A x.length c x ∧ WrO w' w0.heap.size A x.length c x ∧ Below w.heap.size w w' := by
  obtain ⟨A, c, x, he, hx, ho, hp, y⟩ := h
  obtain ⟨h1, h2⟩ := ok_made hx ht hu hB (by omega) hS
  obtain ⟨c1, c2⟩ := cap_own ho
  exact ⟨A, c, x, he, hx.trans (told_mkU ht), ⟨⟨rd_made ho hp, rfl, h1, by omega⟩, c1, c2, fun z hz => by obtain ⟨g, hg⟩ := hp z hz; exact cap_part hg⟩, WrO.of (ho.base_le hw) (fun z hz => (hp z hz).imp fun g p => p.base_le hw), y⟩

theorem offF_one {α : Type} {enc : α → List Value} {size B b : Nat} {w : World} {A : Option Addr} {l : List α} {cs : Array Value} {t : TypeId} (h : Rd enc size w B A l) (hb : w.heap[b]? = some (.cells cs t (0, 0)))
    (hbad : ∀ (a : α) (o : Nat), (∀ (j : Nat) (u : Value), (enc a)[j]? = some u → cs[o + j]? = some u) → False) : OffF (fun k => k = b) A l.length := fun ad e hl hk => by
  obtain ⟨ad', e', _, hc⟩ := h hl
  rw [e] at e'; injection e' with e'; subst e'
  refine hbad l[0] ad.off (fun j u hu => ?_)
  have h1 := hc 0 hl j u hu
  rw [Nat.zero_mul, add_zero'] at h1
  unfold World.cell? at h1
  rw [add_block, hk, hb] at h1
  simp only at h1
  have e2 : (ad.add j).off = ad.off + j := by unfold Addr.add; split <;> simp_all
  rw [e2] at h1
  split at h1
  · cases h1
  · exact h1
structure NoPart (cs : Array Value) : Prop where
  i : ∀ (r : Int) (o : Nat), cs[o]? ≠ some (.int .i32 r)
  s : cs.size < 3
theorem NoPart.one (A : Option Addr) (n c : Nat) : NoPart #[.slice A n c] := ⟨fun r o h => by
  match o with
  | 0 => simp at h
  | o + 1 => simp at h, by simp⟩
theorem NoPart.i32 {cs : Array Value} (h : NoPart cs) (a : Int) (o : Nat) (hh : ∀ (j : Nat) (u : Value), (encI32 a)[j]? = some u → cs[o + j]? = some u) : False := h.i a o (hh 0 _ rfl)
theorem NoPart.big {cs : Array Value} (h : NoPart cs) {l : List Value} (hl : 3 ≤ l.length) (o : Nat) (hh : ∀ (j : Nat) (u : Value), l[j]? = some u → cs[o + j]? = some u) : False := by
  have h1 := hh 2 l[2] (List.getElem?_eq_getElem (by omega))
  have h2 : o + 2 < cs.size := by
    rcases Nat.lt_or_ge (o + 2) cs.size with h3 | h3
    · exact h3
    · rw [Array.getElem?_eq_none h3] at h1; cases h1
  have := h.s
  omega
theorem Mkr.beside {w w' : World} {F : Nat → Prop} {b br : Nat} {m : Mk} {cs : Array Value} {t : TypeId} (h : Mkr w F b m) (hb : w.heap[br]? = some (.cells cs t (0, 0))) (hn : NoPart cs) (hF : ¬ F br)
    (g : Grow w (fun k => k = br) w' (fun k => k = br)) : Mkr w' F b m := by
  obtain ⟨vd, vi, D, I, h1, h2, h3, h4, h5, h6, h7, h8, h9, h10, h11, h12⟩ := h
  have oI : ∀ {A : Option Addr} {l : List Int}, RdI32 w w.heap.size A l → OffF (fun k => k = br) A l.length := fun h => offF_one h hb (fun a o hh => hn.i32 a o hh)
  have oA : ∀ {A : Option Addr} {l : List At}, RdAt w w.heap.size A l → OffF (fun k => k = br) A l.length := fun h => offF_one h hb (fun a o hh => hn.big (l := At.enc a) (by simp [At.enc]) o hh)
  have oC : ∀ {A : Option Addr} {l : List Ch}, RdCh w w.heap.size A l → OffF (fun k => k = br) A l.length := fun h => offF_one h hb (fun a o hh => hn.big (l := Ch.enc a) (by simp [Ch.enc]) o hh)
  have hne : ∀ k, F k → k ≠ br := fun k hk e => hF (e ▸ hk)
  have part : ∀ x, PartF w F x → PartF w' F x := fun x hx => ⟨⟨hx.1.1.grow g (oI hx.1.1), hx.1.2⟩, ⟨hx.2.1.1.grow g (oA hx.2.1.1), hx.2.1.2⟩, ⟨hx.2.2.1.grow g (oC hx.2.2.1), hx.2.2.2⟩⟩
  refine ⟨vd, vi, D, I, (g.block b (h6 b h7) (hne b h7)).trans h1, h2.grow g (fun k hk => hne k (h8 k hk).1), h3.grow g (fun k hk => hne k (h9 k hk).1), h4, h5, fun k hk => Nat.lt_of_lt_of_le (h6 k hk) g.size, h7, h8, h9, fun x hx => part x (h10 x hx), fun x hx => part x (h11 x hx), fun x hx => ?_⟩
  obtain ⟨e1, e2, e3, e4⟩ := h12 x hx
  exact ⟨e1.grow g (fun k hk => hne k (e2 k hk).1), e2, ⟨e3.1.grow g (oA e3.1), e3.2⟩, ⟨e4.1.grow g (oC e4.1), e4.2⟩⟩

theorem Grow.wide {w w' : World} {F F' G : Nat → Prop} (g : Grow w F w' F') (h : ∀ k, F k → G k) (h' : ∀ k, F' k → G k ∨ w.heap.size ≤ k) : Grow w G w' G :=
  ⟨g.os, g.tape, g.output, g.size, fun j hj hn => g.block j hj (fun hf => hn (h j hf)), fun k hk => .inl hk⟩
structure RdX (w : World) (G : Nat → Prop) (b : Nat) (X : List OpS) : Prop where
  box : ∃ A n c, w.heap[b]? = some (.cells #[.slice A n c] 154 (0, 0)) ∧ n = X.length ∧ n ≤ c ∧ c ≤ maxLen ∧ RdOs w w.heap.size A X ∧ OffF G A X.length
  parts : ∀ x ∈ X, PartF w G x
  b : X.length ≤ 1000000
theorem RdX.lt {w : World} {G : Nat → Prop} {b : Nat} {X : List OpS} (h : RdX w G b X) : b < w.heap.size := by
  obtain ⟨A, n, c, hb, _⟩ := h.box; exact lt_of_some hb
theorem RdX.keep {w w' : World} {F G F' G' : Nat → Prop} {b : Nat} {X : List OpS} (h : RdX w G b X) (g : Grow w F w' F') (hF : ∀ k, F k → G k) (hG : ∀ k, G' k → G k ∨ w.heap.size ≤ k) (hb : w'.heap[b]? = w.heap[b]?) : RdX w' G' b X := by
  have gw : Grow w G w' G' := ⟨g.os, g.tape, g.output, g.size, fun j hj hn => g.block j hj (fun hf => hn (hF j hf)), hG⟩
  obtain ⟨A, n, c, h1, h2, h3, h4, h5, h6⟩ := h.box
  exact ⟨⟨A, n, c, hb.trans h1, h2, h3, h4, h5.grow gw h6, h6.grow h5 gw⟩, fun x hx => (h.parts x hx).grow gw, h.b⟩
theorem RdX.ext {w w' : World} {G : Nat → Prop} {b : Nat} {X : List OpS} (h : RdX w G b X) (y : Below w.heap.size w w') : RdX w' G b X :=
  h.keep (Grow.of (F := G) y) (fun k hk => hk) (fun k hk => .inl hk) (y.block b h.lt)
def FB (F : Nat → Prop) (bu bv : Nat) : Nat → Prop := fun k => F k ∨ k = bu ∨ k = bv
structure TSt (w wr : World) (F : Nat → Prop) (b bu bv : Nat) (X Y : List OpS) (m : Mk) : Prop where
  m : Mkr wr F b m
  low : ∀ k, F k → w.heap.size ≤ k
  nu : ¬ F bu
  nv : ¬ F bv
  x : RdX wr (FB F bu bv) bu X
  y : RdX wr (FB F bu bv) bv Y
  ne : bu ≠ bv
  lu : w.heap.size ≤ bu
  lv : w.heap.size ≤ bv
  below : Below w.heap.size w wr
theorem TSt.more {w wr w2 : World} {F : Nat → Prop} {b bu bv : Nat} {X Y : List OpS} {m : Mk} (h : TSt w wr F b bu bv X Y m) (y : Below wr.heap.size wr w2) : TSt w w2 F b bu bv X Y m :=
  ⟨h.m.below y, h.low, h.nu, h.nv, h.x.ext y, h.y.ext y, h.ne, h.lu, h.lv, h.below.trans (y.mono h.below.size)⟩
theorem TSt.lt {w wr : World} {F : Nat → Prop} {b bu bv : Nat} {X Y : List OpS} {m : Mk} (h : TSt w wr F b bu bv X Y m) : ∀ k, FB F bu bv k → k < wr.heap.size := fun k hk => by
  rcases hk with hk | rfl | rfl
  · exact h.m.lt k hk
  · exact h.x.lt
  · exact h.y.lt
theorem TSt.tookX {w wr w2 : World} {F : Nat → Prop} {b bu bv : Nat} {X Y X' : List OpS} {m : Mk} (h : TSt w wr F b bu bv X Y m) (hr : RdX w2 (FB F bu bv) bu X') (g : Grow wr (fun k => k = bu) w2 (fun k => k = bu)) : TSt w w2 F b bu bv X' Y m := by
  obtain ⟨A, n, c, hb, _⟩ := h.x.box
  exact ⟨h.m.beside hb (NoPart.one _ _ _) h.nu g, h.low, h.nu, h.nv, hr, h.y.keep g (fun k hk => .inr (.inl hk)) (fun k hk => .inl hk) (g.block bv h.y.lt (fun e => h.ne e.symm)), h.ne, h.lu, h.lv, h.below.trans (g.below (fun k hk => by have := h.lu; omega) h.below.size)⟩
theorem TSt.tookY {w wr w2 : World} {F : Nat → Prop} {b bu bv : Nat} {X Y Y' : List OpS} {m : Mk} (h : TSt w wr F b bu bv X Y m) (hr : RdX w2 (FB F bu bv) bv Y') (g : Grow wr (fun k => k = bv) w2 (fun k => k = bv)) : TSt w w2 F b bu bv X Y' m := by
  obtain ⟨A, n, c, hb, _⟩ := h.y.box
  exact ⟨h.m.beside hb (NoPart.one _ _ _) h.nv g, h.low, h.nu, h.nv, h.x.keep g (fun k hk => .inr (.inr hk)) (fun k hk => .inl hk) (g.block bu h.x.lt (fun e => h.ne e)), hr, h.ne, h.lu, h.lv, h.below.trans (g.below (fun k hk => by have := h.lv; omega) h.below.size)⟩
theorem RdX.told {w w2 : World} {F F2 : Nat → Prop} {b bu bv : Nat} {X : List OpS} (h : RdX w (FB F bu bv) b X) (g : Grow w F w2 F2) (nb : ¬ F b) : RdX w2 (FB F2 bu bv) b X :=
  h.keep g (fun k hk => .inl hk) (fun k hk => by
    rcases hk with hk | hk
    · rcases g.foot k hk with h1 | h1
      · exact .inl (.inl h1)
      · exact .inr h1
    · exact .inl (.inr hk)) (g.block b h.lt nb)
theorem TSt.told {w wr w2 : World} {F F2 : Nat → Prop} {b bu bv : Nat} {X Y : List OpS} {m m2 : Mk} (h : TSt w wr F b bu bv X Y m) (hm : Mkr w2 F2 b m2) (g : Grow wr F w2 F2) : TSt w w2 F2 b bu bv X Y m2 :=
  ⟨hm, g.low h.low h.below.size, g.out h.x.lt h.nu, g.out h.y.lt h.nv, h.x.told g h.nu, h.y.told g h.nv, h.ne, h.lu, h.lv, h.below.trans (g.below h.low h.below.size)⟩
theorem PartF.took {w w2 : World} {F : Nat → Prop} {bu bv b : Nat} {o : OpS} (h : PartF w (FB F bu bv) o) (hb : b = bu ∨ b = bv) (g : Grow w (fun k => k = b) w2 (fun k => k = b)) : PartF w2 (FB F bu bv) o :=
  h.grow (g.wide (fun k hk => .inr (by subst hk; exact hb)) (fun k hk => .inl (.inr (by subst hk; exact hb))))
def TookX (b : Nat) (X : List OpS) (R : OpS → List OpS → Prop) (w : World) (e : Ending) (w' : World) : Prop :=
  ∃ (o : OpS) (X' : List OpS), e = .returned o.val ∧ R o X' ∧ Grow w (fun k => k = b) w' (fun k => k = b) ∧
    ∀ G : Nat → Prop, G b → (∀ k, G k → k < w.heap.size) → RdX w G b X → RdX w' G b X' ∧ PartF w' G o
end Go.Proofs.YtfnkjcodcoehcaaGreatDoor
