/- Merged texts: TrOk, TrPos, Known22. -/
import Derived.Test.YtbdkbfoplpociaaGreatDoorF7
import Derived.Test.YtbdkbfoplpociaaGreatDoorF6
import Derived.Test.YtbdkbfoplpociaaGreatDoorF5
import Derived.Test.YtbdkbfoplpociaaGreatDoorK31
import Derived.Test.YtbdkbfoplpociaaGreatDoorK15
import Derived.Test.YtbdkbfoplpociaaGreatDoorK33
import Derived.Test.YtbdkbfoplpociaaGreatDoorK30
import Derived.Test.YtbdkbfoplpociaaGreatDoorK35
namespace Go.Proofs.YtbdkbfoplpociaaGreatDoor
open Go.RowKit
set_option linter.unusedVariables false
set_option linter.unusedSimpArgs false

theorem transformOk_any (s : Nat) (l : List Ky) (Ax Ay : Option Addr) (nx cx ny cy : Nat) (x y : List OpS) (f : Bool) (w : World) (hX : OpsC w Ax nx cx x) (hY : OpsC w Ay ny cy y) (hS : Sch w s l) (hl : l.length ≤ 64) (hT : Lib.Utf8Tabs 1 2 w)
    (mx : mayO l x = 0) (my : mayO l y = 0) (zx : szN x ≤ 50000) (zy : szN y ≤ 50000) (ht : takesU (traU f (nf (units (osOf x))) (nf (units (osOf y)))) ≤ 536870912) (hm : makesU (traU f (nf (units (osOf x))) (nf (units (osOf y)))) ≤ 536870912) :
    Calls Tryz.prog 62 #[.pointer (some ⟨s, 0, none⟩), .slice Ax nx cx, .slice Ay ny cy, .bool f] w (NewOpOk (mkU (traU f (nf (units (osOf x))) (nf (units (osOf y))))) w) := by
  obtain ⟨gx, _, _⟩ := mayO_zero mx
  obtain ⟨gy, _, _⟩ := mayO_zero my
  have hmu := tra_mU f (nf_all (P := mU l) trivial (good_mU gx)) (nf_all (P := mU l) trivial (good_mU gy))
  refine (transformAll_any s l Ax Ay nx cx ny cy x y f w hX hY hS hl hT mx my zx zy).mono ?_
  rintro e w' ⟨z, hz, yy, hzb, ⟨_, A, c, rfl, oz⟩ | ⟨hbad, rfl⟩⟩
  · exact ⟨A, c, z, rfl, hz, oz, yy⟩
  · exfalso
    obtain ⟨h1, h2, _⟩ := made_sums hz hmu ht hm (by omega)
    omega
end Go.Proofs.YtbdkbfoplpociaaGreatDoor
namespace Go.Proofs.YtbdkbfoplpociaaGreatDoor
open Go.RowKit
set_option linter.unusedVariables false
set_option linter.unusedSimpArgs false

/-- what holds from op to op -/
def PosI (a : Bool) (P : Int) (R : List Un) (p at_ : Nat) (n : Int) : Prop :=
  (at_ ≤ p ∧ n + (posU a R (p - at_) : Int) = P + ((p - at_ : Nat) : Int)) ∨ (p < at_ ∧ n = P)
theorem PosI.stop {a : Bool} {P : Int} {R : List Un} {p at_ : Nat} {n : Int} (h : PosI a P R p at_ n) (hs : p < at_ ∨ (at_ = p ∧ a = false)) : n = P := by
  rcases h with ⟨h1, h2⟩ | ⟨_, h2⟩
  · rcases hs with h3 | ⟨h3, h4⟩
    · omega
    · subst h3
      rw [Nat.sub_self, pos_stop a R (.inl h4)] at h2
      omega
  · exact h2
theorem PosI.end_ {a : Bool} {P : Int} {p at_ : Nat} {n : Int} (h : PosI a P [] p at_ n) : n = P := by
  rcases h with ⟨h1, h2⟩ | ⟨_, h2⟩
  · have e : posU a [] (p - at_) = p - at_ := rfl
    rw [e] at h2; omega
  · exact h2
theorem PosI.ins {a : Bool} {P : Int} {o : Opd} {R : List Un} {p at_ : Nat} {n : Int} (h : PosI a P (unitsO o ++ R) p at_ n) (ho : isOp o) (hk : o.k = 2) (h1 : ¬ (p < at_)) (h2 : ¬ (at_ = p ∧ a = false)) : PosI a P R p at_ (n + o.r.length) := by
  rcases h with ⟨g1, g2⟩ | ⟨g1, _⟩
  · rw [unitsO_two hk, pos_ins a R o.s (p - at_) (by
      by_cases h : p - at_ = 0
      · right; cases a with
        | true => rfl
        | false => exact absurd ⟨by omega, rfl⟩ h2
      · left; omega)] at g2
    exact .inl ⟨g1, by omega⟩
  · exact absurd g1 h1
theorem PosI.del {a : Bool} {P : Int} {o : Opd} {R : List Un} {p at_ : Nat} {n : Int} (h : PosI a P (unitsO o ++ R) p at_ n) (ho : isOp o) (hk : o.k = 3) (h1 : ¬ (p < at_)) : PosI a P R p (at_ + o.n.toNat) (n - min o.n ((p : Int) - (at_ : Int))) := by
  obtain ⟨e, hn⟩ := opD_of ho hk
  have e1 : unitsO o = List.replicate o.n.toNat .del := by unfold unitsO; rw [if_neg (by rw [hk]; decide), if_neg (by rw [hk]; decide)]
  rcases h with ⟨g1, g2⟩ | ⟨g1, _⟩
  · by_cases hc : o.n.toNat ≤ p - at_
    · rw [e1, pos_dels a R _ _ hc, show p - at_ - o.n.toNat = p - (at_ + o.n.toNat) by omega] at g2
      refine .inl ⟨by omega, ?_⟩
      rw [Int.min_eq_left (by omega)]; omega
    · rw [e1, pos_dels2 a R _ _ (by omega)] at g2
      refine .inr ⟨by omega, ?_⟩
      rw [Int.min_eq_right (by omega)]; omega
  · exact absurd g1 h1
theorem PosI.ret {a : Bool} {P : Int} {o : Opd} {R : List Un} {p at_ : Nat} {n : Int} (h : PosI a P (unitsO o ++ R) p at_ n) (ho : isOp o) (hk : o.k = 1) (h1 : ¬ (p < at_)) : PosI a P R p (at_ + o.n.toNat) n := by
  obtain ⟨e, hn⟩ := opR_of ho hk
  have e1 : unitsO o = List.replicate o.n.toNat (.ret o.p) := by unfold unitsO; rw [if_neg (by rw [hk]; decide), if_pos hk]
  rcases h with ⟨g1, g2⟩ | ⟨g1, _⟩
  · by_cases hc : o.n.toNat ≤ p - at_
    · rw [e1, pos_rets a o.p R _ _ hc, show p - at_ - o.n.toNat = p - (at_ + o.n.toNat) by omega] at g2
      exact .inl ⟨by omega, by omega⟩
    · rw [e1, pos_rets2 a o.p R _ _ (by omega)] at g2
      exact .inr ⟨by omega, by omega⟩
  · exact absurd g1 h1
set_option maxRecDepth 100000 in
set_option maxHeartbeats 6400000 in
theorem position_any (s : Nat) (l : List Ky) (A : Option Addr) (n c : Nat) (x : List OpS) (p : Nat) (a : Bool) (w : World) (hX : OpsC w A n c x) (hS : Sch w s l) (hT : Lib.Utf8Tabs 1 2 w) (hr : mayO l x = 0) (zx : szN x ≤ 200000) (hp : p ≤ 536870912) :
    Calls Tryz.prog 63 #[.pointer (some ⟨s, 0, none⟩), .slice A n c, .int .i64 (p : Int), .bool a] w fun e w' => e = .returned (.tuple #[.int .i64 (posU a (nf (units (osOf x))) p : Int), .int .i64 0]) ∧ Below w.heap.size w w' := by
  have XX := Lib.hid hX
  have HR := Lib.hid hr
  obtain ⟨gx, tx1, tx2⟩ := mayO_zero hr
  have IX := Lib.hid (good_isOp gx)
  have SX : Hid (∀ o ∈ x, o.o.s.length ≤ 1000000 ∧ o.o.p.length ≤ 1000000) := Lib.hid (fun o ho => by have h := one_facts (gx o ho); have := (mayS_zero h.2.2.2.1).1; have := (mayP_zero h.2.2.2.2).1; omega)
  have UX : Hid ((units (osOf x)).length ≤ 1200000000 ∧ takesU (units (osOf x)) ≤ 536870912 ∧ makesU (units (osOf x)) ≤ 536870912) := Lib.hid (by
    obtain ⟨s1, s2⟩ := sums_units x (good_isOp gx)
    have h1 := takes_sum gx (by have := hX.at_.b; have := hX.at_.len; omega)
    have h2 := makes_sum gx (by have := hX.at_.b; have := hX.at_.len; omega)
    have h5 := units_length (us := units (osOf x))
    omega)
  obtain ⟨P, hP⟩ : ∃ P, posU a (nf (units (osOf x))) p = P := ⟨_, rfl⟩
  have HP := Lib.hid hP
  have ZX := Lib.hid zx
  rw [hP]
  obtain ⟨p', hp'⟩ : ∃ q : Int, (p : Int) = q := ⟨_, rfl⟩
  have HPQ := Lib.hid hp'
  rw [hp']
  clear hX hr gx tx1 tx2 hP zx hp'
  go_enter Tryz.func63, Tryz.ntmps63
  go_wp2_with (fail)
  go_step3
  go_wp2_with (go_at_call 110; refine Hid.out ?_)
  refine Lib.hid ?_
  refine (mayO_any s l A n c x w XX.out.at_.len XX.out.at_.rd (by have := XX.out.at_.b; omega) hS XX.out.at_.ok hT).mono ?_
  rw [HR.out]
  rintro e w1 ⟨rfl, y1⟩
  have Y1 := Lib.hid y1
  clear y1
  have hp0 : ¬ (p' < 0) := by have := HPQ.out; omega
  have hp1 : ¬ ((536870912 : Int) < p') := by have := HPQ.out; omega
  go_wp2_with (fail)
  go_step3
  go_wp2_with (go_at_call 67; refine Hid.out ?_)
  refine Lib.hid ?_
  refine (normOfN_any A n c x w1 XX.out.at_.len (XX.out.at_.rd.ext Y1.out) (by have := ZX.out; omega) SX.out).mono ?_
  rintro e w2 ⟨A2, c2, Z, rfl, hz, oz, pz, y2⟩
  have HZ : Hid (osOf Z = mkU (units (osOf x))) := Lib.hid (hz.trans (of_is (by unfold osOf; intro o ho; obtain ⟨z, hz, rfl⟩ := List.mem_map.1 ho; exact IX.out z hz) (by have := UX.out; omega)))
  have RZ := Lib.hid (oz.rd OpS.enc_len)
  have Y2 := Lib.hid (ext_trans Y1.out y2)
  have IZ : Hid (∀ o ∈ Z, isOp o.o) := Lib.hid (mkU_isOp HZ.out)
  have UZ : Hid (units (osOf Z) = nf (units (osOf x))) := Lib.hid (mkU_units HZ.out)
  have LZ : Hid (Z.length ≤ 1000000 ∧ ∀ o ∈ Z, sizeO o.o ≤ 1073741824) := Lib.hid (by
    refine ⟨?_, fun o ho => ?_⟩
    · have h1 := (ofM_bndN x SX.out).ops.1
      rw [← hz] at h1
      have h2 : (osOf Z).length = Z.length := by unfold osOf; simp
      have := ZX.out
      omega
    · have h1 := size_le IZ.out ho
      rw [UZ.out] at h1
      have h2 := nf_takes (units (osOf x))
      have h3 := nf_makes (units (osOf x))
      have := UX.out
      omega)
  clear hz oz pz y2
  go_wp2_with (fail)
  have RL : Hid (∀ i, (units (osOf (Z.drop i))).length ≤ 1200000000) := Lib.hid (fun i => by
    have e : units (osOf Z) = units (osOf (Z.take i)) ++ units (osOf (Z.drop i)) := by
      rw [← units_append]; unfold osOf; rw [← List.map_append, List.take_append_drop]
    have h := congrArg List.length e
    rw [List.length_append, UZ.out] at h
    have h2 := nf_len (units (osOf x))
    have := UX.out
    omega)
  have PB : Hid (P ≤ 2000000000) := Lib.hid (by rw [← HP.out]; have h := pos_le a (nf (units (osOf x))) p; have h2 := nf_len (units (osOf x)); have := UX.out; omega)
  go_loopg [11, 12, 31, 35, 48, 57] Z.length (fun g av nv iv f1 f2 f3 wr => ∃ (i at_ : Nat) (m : Int), i ≤ Z.length ∧ g = Z.length - i ∧ iv = .int .i64 (i : Int) ∧ av = .int .i64 (at_ : Int) ∧ nv = .int .i64 m ∧ Hid (PosI a (P : Int) (units (osOf (Z.drop i))) p at_ m) ∧ Hid (at_ ≤ 3000000000) ∧ Below w2.heap.size w2 wr)
  case atStart => exact ⟨0, 0, p', by omega, rfl, rfl, rfl, rfl, Lib.hid (.inl ⟨by omega, by rw [List.drop_zero, UZ.out, Nat.sub_zero, HP.out]; have := HPQ.out; omega⟩), Lib.hid (by omega), Below.refl _ _⟩
  case round =>
    obtain ⟨i, at_, m, hi, hg, rfl, rfl, rfl, HI, HA, y⟩ := hrel
    have HG := Lib.hid hg
    have Y := Lib.hid y
    clear hg y
    have MB : Hid (-3000000000 ≤ m ∧ m ≤ 5000000000) := Lib.hid (by
      rcases HI.out with ⟨h1, h2⟩ | ⟨_, h2⟩
      · have h3 := pos_le a (units (osOf (Z.drop i))) (p - at_)
        have h4 := RL.out i
        have := PB.out
        omega
      · have := PB.out; omega)
    by_cases hlt : i < Z.length
    · have hlt' : (i : Int) < (Z.length : Int) := by omega
      obtain ⟨ad, o, rfl, had, hd1, hx1, hc1⟩ := (RZ.out.ext Y.out).el hlt
      have hom := List.mem_of_getElem? hx1
      have IOq := Lib.hid (IZ.out o hom)
      have SO := Lib.hid (LZ.out.2 o hom)
      have HU : Hid (PosI a (P : Int) (unitsO o.o ++ units (osOf (Z.drop (i + 1)))) p at_ m) := Lib.hid (by have h := HI.out; rw [hd1] at h; exact h)
      obtain ⟨⟨k, nn, r, s1, q⟩, Ar, cr, As, cs, Ap, cp⟩ := o
      obtain ⟨z0, z1, z2, z3, z4⟩ := op_cells hc1
      have yb := ext_alloc wr (.cells #[.int .u8 k, .int .i64 nn, .slice Ar r.length cr, .slice As s1.length cs, .slice Ap q.length cp] 40)
      have hbx := heap_alloc_new wr (.cells #[.int .u8 k, .int .i64 nn, .slice Ar r.length cr, .slice As s1.length cs, .slice Ap q.length cp] 40)
      obtain ⟨q0, q1, q2, q3, q4⟩ := box_at hbx
      have YB := Lib.hid (ext_trans Y.out yb)
      have hw2 : IntKind.i64.wrap ((i:Int) + 1) = (i : Int) + 1 := IntWalk.i64_in _ (by have := LZ.out.1; omega)
      clear hc1 hd1 hx1 hom had yb hbx HI
      by_cases h1 : p < at_
      · have hm := HU.out.stop (.inl h1)
        subst hm
        have hgt : p' < (at_ : Int) := by have := HPQ.out; omega
        go_wp2_with (fail)
        try rw [Exit.noGoto_ret]
        refine bodyPost_ret (v := .tuple #[.int .i64 (P : Int), .int .i64 0]) (by simp [results, Tryz.results63, go_sem]) rfl ?_
        exact ⟨rfl, ext_trans Y2.out YB.out⟩
      have hgt : ¬ (p' < (at_ : Int)) := by have := HPQ.out; omega
      by_cases h2 : at_ = p ∧ a = false
      · have hm := HU.out.stop (.inr h2)
        obtain ⟨h3, h4⟩ := h2
        have heq : (at_ : Int) = p' := by have := HPQ.out; omega
        clear h3
        subst hm h4 heq
        go_wp2_with (fail)
        try rw [Exit.noGoto_ret]
        refine bodyPost_ret (v := .tuple #[.int .i64 (P : Int), .int .i64 0]) (by simp [results, Tryz.results63, go_sem]) rfl ?_
        exact ⟨rfl, ext_trans Y2.out YB.out⟩
      by_cases he : (at_ : Int) = p'
      · have ha : a = true := by
          cases a with
          | true => rfl
          | false => exact absurd ⟨by have := HPQ.out; omega, rfl⟩ h2
        have he' : ((at_ : Int) == p') = true := beq_iff_eq.2 he
        clear he
        subst ha
        by_cases hk2 : k = 2
        · have HI2 := Lib.hid (HU.out.ins IOq.out hk2 h1 h2)
          have SR : Hid (r.length ≤ 1073741824) := Lib.hid (by have h := SO.out; unfold sizeO at h; rw [if_pos hk2] at h; have h' : (r.length : Int) ≤ 1073741824 := h; omega)
          obtain ⟨m2, hm2⟩ : ∃ X, m + (r.length : Int) = X := ⟨_, rfl⟩
          have HM2 := Lib.hid hm2
          have hwm : IntKind.i64.wrap (m + (r.length : Int)) = m2 := by rw [IntWalk.i64_in _ (by have := MB.out; have := SR.out; omega)]; exact hm2
          have hwm2 : wrap64 (m + (r.length : Int)) = m2 := by rw [w64_in _ (by have := MB.out; have := SR.out; omega)]; exact hm2
          subst hk2
          clear hm2
          go_wp2_with (fail)
          go_roundg (Z.length - (i + 1))
          case measure => have h9 := HG.out; omega
          case rel => exact ⟨i + 1, at_, m2, by clear hw2 hwm hwm2; omega, rfl, rfl, rfl, rfl, Lib.hid (by have h := HI2.out; rw [show m + ((⟨2, nn, r, s1, q⟩ : Opd).r.length : Int) = m2 from HM2.out] at h; exact h), HA, YB.out⟩
        by_cases hk3 : k = 3
        · have HI2 := Lib.hid (HU.out.del IOq.out hk3 h1)
          have SN : Hid (1 ≤ nn ∧ nn ≤ 1073741824) := Lib.hid (by have h := SO.out; unfold sizeO at h; rw [if_neg hk2] at h; have h' : nn ≤ 1073741824 := h; have h4 : 1 ≤ nn := (opD_of IOq.out hk3).2; exact ⟨h4, h'⟩)
          have AP : Hid (at_ ≤ p) := Lib.hid (by omega)
          obtain ⟨D, hD⟩ : ∃ X, p' - (at_ : Int) = X := ⟨_, rfl⟩
          have HD := Lib.hid hD
          have hwd : IntKind.i64.wrap (p' - (at_ : Int)) = D := by rw [IntWalk.i64_in _ (by have := HPQ.out; have := AP.out; omega)]; exact hD
          have hwd2 : wrap64 (p' - (at_ : Int)) = D := by rw [w64_in _ (by have := HPQ.out; have := AP.out; omega)]; exact hD
          obtain ⟨M, hM⟩ : ∃ X, min nn D = X := ⟨_, rfl⟩
          have HM := Lib.hid hM
          have MM : Hid (0 ≤ M ∧ M ≤ 1073741824) := Lib.hid (by have := SN.out; have := HD.out; have := HPQ.out; have := AP.out; clear hwd hwd2; omega)
          obtain ⟨m2, hm2⟩ : ∃ X, m - M = X := ⟨_, rfl⟩
          have HM2 := Lib.hid hm2
          have hwm : IntKind.i64.wrap (m - M) = m2 := by rw [IntWalk.i64_in _ (by clear hwd hwd2; have := MB.out; have := MM.out; omega)]; exact hm2
          have hwm2 : wrap64 (m - M) = m2 := by rw [w64_in _ (by clear hwd hwd2 hwm; have := MB.out; have := MM.out; omega)]; exact hm2
          obtain ⟨at2, hat2⟩ : ∃ X : Nat, at_ + nn.toNat = X := ⟨_, rfl⟩
          have HAT := Lib.hid hat2
          have AI : Hid ((at_ : Int) + nn = (at2 : Int) ∧ at2 ≤ 3000000000) := Lib.hid (by clear hwd hwd2 hwm hwm2; have := SN.out; have := AP.out; have := HPQ.out; omega)
          have hwa : IntKind.i64.wrap ((at_ : Int) + nn) = (at2 : Int) := by rw [AI.out.1]; exact IntWalk.i64_in _ (by clear hwd hwd2 hwm hwm2; have := AI.out.2; omega)
          have hwa2 : wrap64 ((at_ : Int) + nn) = (at2 : Int) := by rw [AI.out.1]; exact w64_in _ (by clear hwd hwd2 hwm hwm2 hwa; have := AI.out.2; omega)
          have hk2' : (k == 2) = false := beq_eq_false_iff_ne.2 hk2
          subst hk3
          clear hD hm2 hat2
          go_wp2_with (fail)
          go_roundg (Z.length - (i + 1))
          case measure => have h9 := HG.out; omega
          case rel => exact ⟨i + 1, at2, m2, by clear hw2 hwm hwm2 hwd hwd2 hwa hwa2; omega, rfl, rfl, rfl, rfl, Lib.hid (by have h := HI2.out; rw [show ((p : Nat) : Int) - (at_ : Int) = D by rw [HPQ.out]; exact HD.out] at h; rw [show m - min (⟨3, nn, r, s1, q⟩ : Opd).n D = m2 by show m - min nn D = m2; rw [HM.out]; exact HM2.out] at h; rw [show at_ + (⟨3, nn, r, s1, q⟩ : Opd).n.toNat = at2 from HAT.out] at h; exact h), Lib.hid AI.out.2, YB.out⟩
        have hk1 : k = 1 := by rcases isOp_kind IOq.out with h | h | h; exact absurd h hk2; exact absurd h hk3; exact h
        have HI2 := Lib.hid (HU.out.ret IOq.out hk1 h1)
        have SN : Hid (1 ≤ nn ∧ nn ≤ 1073741824) := Lib.hid (by have h := SO.out; unfold sizeO at h; rw [if_neg hk2] at h; have h' : nn ≤ 1073741824 := h; have h4 : 1 ≤ nn := (opR_of IOq.out hk1).2; exact ⟨h4, h'⟩)
        have AP : Hid (at_ ≤ p) := Lib.hid (by omega)
        obtain ⟨at2, hat2⟩ : ∃ X : Nat, at_ + nn.toNat = X := ⟨_, rfl⟩
        have HAT := Lib.hid hat2
        have AI : Hid ((at_ : Int) + nn = (at2 : Int) ∧ at2 ≤ 3000000000) := Lib.hid (by have := SN.out; have := AP.out; omega)
        have hwa : IntKind.i64.wrap ((at_ : Int) + nn) = (at2 : Int) := by rw [AI.out.1]; exact IntWalk.i64_in _ (by have := AI.out.2; omega)
        have hwa2 : wrap64 ((at_ : Int) + nn) = (at2 : Int) := by rw [AI.out.1]; exact w64_in _ (by clear hwa; have := AI.out.2; omega)
        subst hk1
        clear hat2
        go_wp2_with (fail)
        go_roundg (Z.length - (i + 1))
        case measure => have h9 := HG.out; omega
        case rel => exact ⟨i + 1, at2, m, by clear hw2 hwa hwa2; omega, rfl, rfl, rfl, rfl, Lib.hid (by have h := HI2.out; rw [show at_ + (⟨1, nn, r, s1, q⟩ : Opd).n.toNat = at2 from HAT.out] at h; exact h), Lib.hid AI.out.2, YB.out⟩
      have he' : ((at_ : Int) == p') = false := beq_eq_false_iff_ne.2 he
      clear he
      by_cases hk2 : k = 2
      · have HI2 := Lib.hid (HU.out.ins IOq.out hk2 h1 h2)
        have SR : Hid (r.length ≤ 1073741824) := Lib.hid (by have h := SO.out; unfold sizeO at h; rw [if_pos hk2] at h; have h' : (r.length : Int) ≤ 1073741824 := h; omega)
        obtain ⟨m2, hm2⟩ : ∃ X, m + (r.length : Int) = X := ⟨_, rfl⟩
        have HM2 := Lib.hid hm2
        have hwm : IntKind.i64.wrap (m + (r.length : Int)) = m2 := by rw [IntWalk.i64_in _ (by have := MB.out; have := SR.out; omega)]; exact hm2
        have hwm2 : wrap64 (m + (r.length : Int)) = m2 := by rw [w64_in _ (by have := MB.out; have := SR.out; omega)]; exact hm2
        subst hk2
        clear hm2
        go_wp2_with (fail)
        go_roundg (Z.length - (i + 1))
        case measure => have h9 := HG.out; omega
        case rel => exact ⟨i + 1, at_, m2, by clear hw2 hwm hwm2; omega, rfl, rfl, rfl, rfl, Lib.hid (by have h := HI2.out; rw [show m + ((⟨2, nn, r, s1, q⟩ : Opd).r.length : Int) = m2 from HM2.out] at h; exact h), HA, YB.out⟩
      by_cases hk3 : k = 3
      · have HI2 := Lib.hid (HU.out.del IOq.out hk3 h1)
        have SN : Hid (1 ≤ nn ∧ nn ≤ 1073741824) := Lib.hid (by have h := SO.out; unfold sizeO at h; rw [if_neg hk2] at h; have h' : nn ≤ 1073741824 := h; have h4 : 1 ≤ nn := (opD_of IOq.out hk3).2; exact ⟨h4, h'⟩)
        have AP : Hid (at_ ≤ p) := Lib.hid (by omega)
        obtain ⟨D, hD⟩ : ∃ X, p' - (at_ : Int) = X := ⟨_, rfl⟩
        have HD := Lib.hid hD
        have hwd : IntKind.i64.wrap (p' - (at_ : Int)) = D := by rw [IntWalk.i64_in _ (by have := HPQ.out; have := AP.out; omega)]; exact hD
        have hwd2 : wrap64 (p' - (at_ : Int)) = D := by rw [w64_in _ (by have := HPQ.out; have := AP.out; omega)]; exact hD
        obtain ⟨M, hM⟩ : ∃ X, min nn D = X := ⟨_, rfl⟩
        have HM := Lib.hid hM
        have MM : Hid (0 ≤ M ∧ M ≤ 1073741824) := Lib.hid (by have := SN.out; have := HD.out; have := HPQ.out; have := AP.out; clear hwd hwd2; omega)
        obtain ⟨m2, hm2⟩ : ∃ X, m - M = X := ⟨_, rfl⟩
        have HM2 := Lib.hid hm2
        have hwm : IntKind.i64.wrap (m - M) = m2 := by rw [IntWalk.i64_in _ (by clear hwd hwd2; have := MB.out; have := MM.out; omega)]; exact hm2
        have hwm2 : wrap64 (m - M) = m2 := by rw [w64_in _ (by clear hwd hwd2 hwm; have := MB.out; have := MM.out; omega)]; exact hm2
        obtain ⟨at2, hat2⟩ : ∃ X : Nat, at_ + nn.toNat = X := ⟨_, rfl⟩
        have HAT := Lib.hid hat2
        have AI : Hid ((at_ : Int) + nn = (at2 : Int) ∧ at2 ≤ 3000000000) := Lib.hid (by clear hwd hwd2 hwm hwm2; have := SN.out; have := AP.out; have := HPQ.out; omega)
        have hwa : IntKind.i64.wrap ((at_ : Int) + nn) = (at2 : Int) := by rw [AI.out.1]; exact IntWalk.i64_in _ (by clear hwd hwd2 hwm hwm2; have := AI.out.2; omega)
        have hwa2 : wrap64 ((at_ : Int) + nn) = (at2 : Int) := by rw [AI.out.1]; exact w64_in _ (by clear hwd hwd2 hwm hwm2 hwa; have := AI.out.2; omega)
        have hk2' : (k == 2) = false := beq_eq_false_iff_ne.2 hk2
        subst hk3
        clear hD hm2 hat2
        go_wp2_with (fail)
        go_roundg (Z.length - (i + 1))
        case measure => have h9 := HG.out; omega
        case rel => exact ⟨i + 1, at2, m2, by clear hw2 hwm hwm2 hwd hwd2 hwa hwa2; omega, rfl, rfl, rfl, rfl, Lib.hid (by have h := HI2.out; rw [show ((p : Nat) : Int) - (at_ : Int) = D by rw [HPQ.out]; exact HD.out] at h; rw [show m - min (⟨3, nn, r, s1, q⟩ : Opd).n D = m2 by show m - min nn D = m2; rw [HM.out]; exact HM2.out] at h; rw [show at_ + (⟨3, nn, r, s1, q⟩ : Opd).n.toNat = at2 from HAT.out] at h; exact h), Lib.hid AI.out.2, YB.out⟩
      have hk1 : k = 1 := by rcases isOp_kind IOq.out with h | h | h; exact absurd h hk2; exact absurd h hk3; exact h
      have HI2 := Lib.hid (HU.out.ret IOq.out hk1 h1)
      have SN : Hid (1 ≤ nn ∧ nn ≤ 1073741824) := Lib.hid (by have h := SO.out; unfold sizeO at h; rw [if_neg hk2] at h; have h' : nn ≤ 1073741824 := h; have h4 : 1 ≤ nn := (opR_of IOq.out hk1).2; exact ⟨h4, h'⟩)
      have AP : Hid (at_ ≤ p) := Lib.hid (by omega)
      obtain ⟨at2, hat2⟩ : ∃ X : Nat, at_ + nn.toNat = X := ⟨_, rfl⟩
      have HAT := Lib.hid hat2
      have AI : Hid ((at_ : Int) + nn = (at2 : Int) ∧ at2 ≤ 3000000000) := Lib.hid (by have := SN.out; have := AP.out; omega)
      have hwa : IntKind.i64.wrap ((at_ : Int) + nn) = (at2 : Int) := by rw [AI.out.1]; exact IntWalk.i64_in _ (by have := AI.out.2; omega)
      have hwa2 : wrap64 ((at_ : Int) + nn) = (at2 : Int) := by rw [AI.out.1]; exact w64_in _ (by clear hwa; have := AI.out.2; omega)
      subst hk1
      clear hat2
      go_wp2_with (fail)
      go_roundg (Z.length - (i + 1))
      case measure => have h9 := HG.out; omega
      case rel => exact ⟨i + 1, at2, m, by clear hw2 hwa hwa2; omega, rfl, rfl, rfl, rfl, Lib.hid (by have h := HI2.out; rw [show at_ + (⟨1, nn, r, s1, q⟩ : Opd).n.toNat = at2 from HAT.out] at h; exact h), Lib.hid AI.out.2, YB.out⟩
    · have hlt' : ¬ ((i : Int) < (Z.length : Int)) := by omega
      have hR : Z.drop i = [] := List.drop_eq_nil_of_le (by omega)
      have hm : m = (P : Int) := by have h := HI.out; rw [hR] at h; exact h.end_
      subst hm
      go_wp2_with (fail)
      try rw [Exit.noGoto_ret]
      refine bodyPost_ret (v := .tuple #[.int .i64 (P : Int), .int .i64 0]) (by simp [results, Tryz.results63, go_sem]) rfl ?_
      exact ⟨rfl, ext_trans Y2.out Y.out⟩
end Go.Proofs.YtbdkbfoplpociaaGreatDoor
namespace Go.Proofs.YtbdkbfoplpociaaGreatDoor
open Go.RowKit
set_option linter.unusedVariables false
set_option linter.unusedSimpArgs false

def xA22 (b0 : Nat) : List OpS := [⟨opI [120] [], some ⟨b0, 0, none⟩, 1, none, 0, none, 0⟩]
def xB22 (b0 : Nat) : List OpS := [⟨opI [121] [], some ⟨b0, 0, none⟩, 1, none, 0, none, 0⟩]
theorem a22_may (b : Nat) : mayO kK19 (xA22 b) = 0 := by kernel_rfl
theorem b22_may (b : Nat) : mayO kK19 (xB22 b) = 0 := by kernel_rfl
theorem a22_tra (b c : Nat) : mkU (traU true (nf (units (osOf (xA22 b)))) (nf (units (osOf (xB22 c))))) = [opR 1 [], opI [121] []] := by kernel_rfl
theorem b22_tra (b c d : Nat) : mkU (traU false (nf (units (osOf (xB22 c)))) (nf (units (osOf (xA22 b))))) = osOf (xA22 d) := by kernel_rfl
theorem a22_size (b c : Nat) : takesU (traU true (nf (units (osOf (xA22 b)))) (nf (units (osOf (xB22 c))))) = 1 ∧ makesU (traU true (nf (units (osOf (xA22 b)))) (nf (units (osOf (xB22 c))))) = 2 := ⟨by kernel_rfl, by kernel_rfl⟩
theorem b22_size (b c : Nat) : takesU (traU false (nf (units (osOf (xB22 c)))) (nf (units (osOf (xA22 b))))) = 0 ∧ makesU (traU false (nf (units (osOf (xB22 c)))) (nf (units (osOf (xA22 b))))) = 1 := ⟨by kernel_rfl, by kernel_rfl⟩
theorem a22_pos (b : Nat) : posU true (nf (units (osOf (xA22 b)))) 0 = 1 := by kernel_rfl

set_option maxRecDepth 100000 in
set_option maxHeartbeats 3200000 in
theorem known22_any (w : World) (hT : Lib.Utf8Tabs 1 2 w) :
    Calls Tryz.prog 61 #[] w fun e w' => e = .returned (.bool true) ∧ Below w.heap.size w w' := by
  go_enter Tryz.func61, Tryz.ntmps61
  go_wp2_with (go_at_call 24; refine Hid.out ?_)
  refine Lib.hid ?_
  have y := ext_alloc w (.cells #[.int .i64 1, .bool false, .int .u8 1, .bool false, .bool false, .int .i64 0] 112)
  have rk : RdKy _ _ _ kK19 := Rd.new (enc := Ky.enc) (size := 6) Ky.enc_len w 112 kK19 (cs := #[.int .i64 1, .bool false, .int .u8 1, .bool false, .bool false, .int .i64 0]) rfl rfl
  refine (new_any (some ⟨w.heap.size, 0, none⟩) 1 1 kK19 _ rfl rk (by omega)).mono ?_
  rintro e v1 ⟨y1, ⟨hm, s, rfl, hS⟩ | ⟨hm, rfl⟩⟩
  rotate_left
  · have : mayKs kK19 = true := by decide +kernel
    rw [this] at hm; cases hm
  clear hm rk
  replace y := ext_trans y y1
  clear y1
  go_wp2_with (go_at_call 62; refine Hid.out ?_)
  refine Lib.hid ?_
  have yu1 := ext_alloc v1 (.cells #[.int .i32 120] 21)
  have riu1 : RdI32 _ _ _ [120] := Rd.new (enc := encI32) (size := 1) encI32_len v1 21 [120] (cs := #[.int .i32 120]) rfl rfl
  have zu1 : (v1.alloc (.cells #[.int .i32 120] 21)).heap.size = v1.heap.size + 1 := by simp
  generalize v1.alloc (.cells #[.int .i32 120] 21) = u1 at *
  have yu2 := ext_alloc u1 (.cells #[.int .u8 2, .int .i64 0, .slice (some ⟨v1.heap.size, 0, none⟩) 1 1, .slice none 0 0, .slice none 0 0] 40)
  have rdxA22 := rd_ops u1 (xA22 (v1.heap.size)) (fun z hz => by
    simp only [xA22, List.mem_cons, List.not_mem_nil, or_false] at hz
    subst hz
    exact ⟨riu1, Rd.nil, Rd.nil⟩) (cs := #[.int .u8 2, .int .i64 0, .slice (some ⟨v1.heap.size, 0, none⟩) 1 1, .slice none 0 0, .slice none 0 0]) rfl (b := v1.heap.size + 1) zu1.symm
  have zu2 : (u1.alloc (.cells #[.int .u8 2, .int .i64 0, .slice (some ⟨v1.heap.size, 0, none⟩) 1 1, .slice none 0 0, .slice none 0 0] 40)).heap.size = v1.heap.size + 2 := by rw [World.size_alloc, zu1]
  generalize u1.alloc (.cells #[.int .u8 2, .int .i64 0, .slice (some ⟨v1.heap.size, 0, none⟩) 1 1, .slice none 0 0, .slice none 0 0] 40) = u2 at *
  have atxA22 : OpsC u2 (some ⟨v1.heap.size + 1, 0, none⟩) 1 1 (xA22 (v1.heap.size)) := ⟨⟨rdxA22, rfl, (fun z hz => by
    simp only [xA22, List.mem_cons, List.not_mem_nil, or_false] at hz
    subst hz; exact ok_small _ rfl rfl (by simp [opR, opI, opD])), by omega⟩, Nat.le_refl _, by unfold maxLen; omega, (fun z hz => by
    simp only [xA22, List.mem_cons, List.not_mem_nil, or_false] at hz
    subst hz; (unfold capO maxLen; simp [opR, opI, opD]))⟩
  have yu3 := ext_alloc u2 (.cells #[.int .i32 121] 21)
  have riu3 : RdI32 _ _ _ [121] := Rd.new (enc := encI32) (size := 1) encI32_len u2 21 [121] (cs := #[.int .i32 121]) rfl (b := v1.heap.size + 2) zu2.symm
  have zu3 : (u2.alloc (.cells #[.int .i32 121] 21)).heap.size = v1.heap.size + 3 := by rw [World.size_alloc, zu2]
  generalize u2.alloc (.cells #[.int .i32 121] 21) = u3 at *
  have yu4 := ext_alloc u3 (.cells #[.int .u8 2, .int .i64 0, .slice (some ⟨v1.heap.size + 2, 0, none⟩) 1 1, .slice none 0 0, .slice none 0 0] 40)
  have rdxB22 := rd_ops u3 (xB22 (v1.heap.size + 2)) (fun z hz => by
    simp only [xB22, List.mem_cons, List.not_mem_nil, or_false] at hz
    subst hz
    exact ⟨riu3, Rd.nil, Rd.nil⟩) (cs := #[.int .u8 2, .int .i64 0, .slice (some ⟨v1.heap.size + 2, 0, none⟩) 1 1, .slice none 0 0, .slice none 0 0]) rfl (b := v1.heap.size + 3) zu3.symm
  have zu4 : (u3.alloc (.cells #[.int .u8 2, .int .i64 0, .slice (some ⟨v1.heap.size + 2, 0, none⟩) 1 1, .slice none 0 0, .slice none 0 0] 40)).heap.size = v1.heap.size + 4 := by rw [World.size_alloc, zu3]
  generalize u3.alloc (.cells #[.int .u8 2, .int .i64 0, .slice (some ⟨v1.heap.size + 2, 0, none⟩) 1 1, .slice none 0 0, .slice none 0 0] 40) = u4 at *
  have atxB22 : OpsC u4 (some ⟨v1.heap.size + 3, 0, none⟩) 1 1 (xB22 (v1.heap.size + 2)) := ⟨⟨rdxB22, rfl, (fun z hz => by
    simp only [xB22, List.mem_cons, List.not_mem_nil, or_false] at hz
    subst hz; exact ok_small _ rfl rfl (by simp [opR, opI, opD])), by omega⟩, Nat.le_refl _, by unfold maxLen; omega, (fun z hz => by
    simp only [xB22, List.mem_cons, List.not_mem_nil, or_false] at hz
    subst hz; (unfold capO maxLen; simp [opR, opI, opD]))⟩
  have yq := ext_trans y (ext_trans yu1 (ext_trans yu2 (ext_trans yu3 yu4)))
  have Y3 := Lib.hid yq
  have HS3 := Lib.hid (hS.ext (ext_trans yu1 (ext_trans yu2 (ext_trans yu3 yu4))))
  have AX := Lib.hid (atxA22.ext (ext_trans yu3 yu4))
  have AY := Lib.hid atxB22
  have HT := Lib.hid hT
  clear yq hS y yu1 yu2 yu3 yu4 atxA22 atxB22
  refine (transformOk_any s kK19 (some ⟨v1.heap.size + 1, 0, none⟩) (some ⟨v1.heap.size + 3, 0, none⟩) 1 1 1 1 (xA22 (v1.heap.size)) (xB22 (v1.heap.size + 2)) true _ AX.out AY.out HS3.out (by decide) (Utf8Tabs_below HT.out Y3.out) (a22_may _) (b22_may _) (by show 2 ≤ _; omega) (by show 2 ≤ _; omega) (by rw [(a22_size _ _).1]; omega) (by rw [(a22_size _ _).2]; omega)).mono ?_
  rintro e w5 ⟨A5, c5, x5, rfl, e5, o5, y5⟩
  have O_x5 := Lib.hid o5
  have E_x5 := Lib.hid (e5.trans (a22_tra _ _))
  have AX := Lib.hid (AX.out.ext y5)
  have AY := Lib.hid (AY.out.ext y5)
  have HS5 := Lib.hid (HS3.out.ext y5)
  have Y5 := Lib.hid (ext_trans Y3.out y5)
  clear y5 o5 e5
  go_wp2_with (go_at_call 62; refine Hid.out ?_)
  refine Lib.hid ?_
  refine (transformOk_any s kK19 _ _ 1 1 1 1 (xB22 (v1.heap.size + 2)) (xA22 (v1.heap.size)) false _ AY.out AX.out HS5.out (by decide) (Utf8Tabs_below HT.out Y5.out) (b22_may _) (a22_may _) (by show 2 ≤ _; omega) (by show 2 ≤ _; omega) (by rw [(b22_size _ _).1]; omega) (by rw [(b22_size _ _).2]; omega)).mono ?_
  rintro e w6 ⟨A6, c6, x6, rfl, e6, o6, y6⟩
  have O_x6 := Lib.hid o6
  have E_x6 := Lib.hid (e6.trans (b22_tra (v1.heap.size) _ (v1.heap.size)))
  have O_x5 := Lib.hid (O_x5.out.ext y6)
  have AX := Lib.hid (AX.out.ext y6)
  have HS6 := Lib.hid (HS5.out.ext y6)
  have Y6 := Lib.hid (ext_trans Y5.out y6)
  clear y6 o6 e6
  go_wp2_with (go_at_call 63; refine Hid.out ?_)
  refine Lib.hid ?_
  refine (position_any s kK19 _ 1 1 (xA22 (v1.heap.size)) 0 true _ AX.out HS6.out (Utf8Tabs_below HT.out Y6.out) (a22_may _) (by show 2 ≤ _; omega) (by omega)).mono ?_
  rw [a22_pos]
  rintro e w7 ⟨rfl, y7⟩
  have O_x5 := Lib.hid (O_x5.out.ext y7)
  have O_x6 := Lib.hid (O_x6.out.ext y7)
  have AX := Lib.hid (AX.out.ext y7)
  have Y7 := Lib.hid (ext_trans Y6.out y7)
  clear y7
  have L5 : x5.length = 2 := by have h := congrArg List.length E_x5.out; unfold osOf at h; simpa using h
  rw [L5] at O_x5 ⊢
  cases x5 with
  | nil => simp at L5
  | cons x0 xt =>
    have hx0 : x0.o = opR 1 [] := by have h := E_x5.out; unfold osOf at h; rw [List.map_cons] at h; exact (List.cons.inj h).1
    obtain ⟨ad, e0, _, hc0⟩ := O_x5.out.first
    subst e0
    obtain ⟨o0, Ar0, cr0, As0, cs0, Ap0, cp0⟩ := x0
    simp only at hx0
    subst hx0
    obtain ⟨z0, z1, z2, z3, z4⟩ := op_cells hc0
    clear hc0
    go_wp2_with (go_at_call 26; refine Hid.out ?_)
    refine Lib.hid ?_
    refine (same15D O_x6.out.at_ AX.out.at_ (decide_eq_true E_x6.out)).mono ?_
    rintro e w8 ⟨rfl, y8⟩
    have Y8 := Lib.hid (ext_trans Y7.out y8)
    clear y8 z0 z1 z2 z3 z4
    go_wp2_with (fail)
    go_ret
    exact ⟨rfl, Y8.out⟩
end Go.Proofs.YtbdkbfoplpociaaGreatDoor
