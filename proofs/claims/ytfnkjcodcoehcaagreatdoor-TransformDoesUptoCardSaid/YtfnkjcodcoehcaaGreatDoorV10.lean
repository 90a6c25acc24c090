/- Merged texts: OpForm, OpMay, Apply, Clone, With, AttrsOps, AttrsLaw, PartALaw, OpLaw, OpUnits. -/
import Derived.Test.YtfnkjcodcoehcaaGreatDoorV6
import Derived.Test.YtfnkjcodcoehcaaGreatDoorV9
import Derived.Test.YtfnkjcodcoehcaaGreatDoorV1
import Derived.Deep.LoopGhost
import Derived.Deep.DeepMust
import Derived.Test.YtfnkjcodcoehcaaGreatDoorV7
import Derived.Test.YtfnkjcodcoehcaaGreatDoorV8
import Derived.Deep.RegionHeld3
import Derived.Test.YtfnkjcodcoehcaaGreatDoorV2
namespace Go.Proofs.YtfnkjcodcoehcaaGreatDoor
open Go.RowKit
set_option linter.unusedVariables false
set_option linter.unusedSimpArgs false

set_option maxHeartbeats 400000 in
theorem formCl_any (r : Int) (w : World) : Calls Tryz.prog 231 #[.int .i32 r] w fun e w' => e = .returned (.bool (!mayR r)) ∧ w = w' := by
  go_enter Tryz.func231, Tryz.ntmps231
  go_wp2_with (go_at_call 130; refine Hid.out ?_)
  refine Lib.hid ?_
  refine (may_any r w).mono ?_
  rintro e w' ⟨rfl, rfl⟩
  go_wp2_with (fail)
  go_ret
  exact ⟨rfl, rfl⟩

set_option maxRecDepth 100000 in
set_option maxHeartbeats 400000 in
theorem indexR_any (A : Option Addr) (n c : Nat) (l : List Int) (w : World) (hn : n = l.length) (h : RdI32 w w.heap.size A l) (hb : n ≤ 140737488355328) :
    Calls Tryz.prog 240 #[.slice A n c, .func (.func 231) #[] #[]] w fun e w' => ∃ i : Int, e = .returned (.int .i64 i) ∧ IdxOut (fun r => !mayR r) l i ∧ w = w' := by
  have N := Lib.hid hn
  clear hn
  go_enter Tryz.func240, Tryz.ntmps240
  go_wp2_with (fail)
  go_loopg [8] n (fun g iv wr => ∃ i : Nat, i ≤ n ∧ g = n - i ∧ iv = .int .i64 i ∧ w = wr ∧ Hid (∀ x ∈ l.take i, (!mayR x) = false))
  case atStart => exact ⟨0, by omega, rfl, rfl, rfl, Lib.hid (by simp)⟩
  case round =>
    obtain ⟨i, hi, hg, rfl, rfl, HI⟩ := hrel
    have HG := Lib.hid hg
    clear hg
    by_cases hlt : i < n
    · have hil : i < l.length := by have := N.out; omega
      obtain ⟨ad, x, rfl, _, _, hx, hc1⟩ := h.el hil
      have HT : Hid (l.take (i + 1) = l.take i ++ [x]) := Lib.hid (by rw [List.take_add_one, hx]; rfl)
      have HX := Lib.hid hx
      have r0 := hc1 0 _ rfl
      rw [add_zero', Nat.mul_one] at r0
      clear hx hil hc1
      have hw2 : IntKind.i64.wrap ((i:Int) + 1) = (i : Int) + 1 := IntWalk.i64_in _ (by omega)
      cases hp : mayR x with
      | false =>
        have HP := Lib.hid hp
        clear hp
        go_wp2_with (go_at_call 231; refine Hid.out ?_)
        refine Lib.hid ?_
        refine (formCl_any x w).mono ?_
        rintro e w' ⟨rfl, rfl⟩
        rw [HP.out]
        go_wp2_with (fail)
        go_ret
        exact ⟨i, rfl, .inr ⟨i, rfl, by have := N.out; omega, HI.out, _, HX.out, by show (!mayR x) = true; rw [HP.out]; rfl⟩, rfl⟩
      | true =>
        have HP := Lib.hid hp
        clear hp
        go_wp2_with (go_at_call 231; refine Hid.out ?_)
        refine Lib.hid ?_
        refine (formCl_any x w).mono ?_
        rintro e w' ⟨rfl, rfl⟩
        rw [HP.out]
        go_wp2_with (fail)
        go_roundg (n - (i + 1))
        case measure => have := HG.out; omega
        case rel =>
          refine ⟨i + 1, by omega, rfl, by go_num, rfl, Lib.hid ?_⟩
          intro y hy
          rw [HT.out] at hy
          rcases List.mem_append.1 hy with hy | hy
          · exact HI.out y hy
          · simp at hy; rw [hy, HP.out]; rfl
    · go_wp2_with (fail)
      go_ret
      refine ⟨-1, rfl, .inl ⟨rfl, ?_⟩, rfl⟩
      have h1 := HI.out
      rw [List.take_of_length_le (by have := N.out; omega)] at h1
      exact h1

theorem idx_any {α : Type} {pr : α → Bool} {l : List α} {i : Int} (h : IdxOut pr l i) : decide (0 ≤ i) = l.any pr := by
  rcases h with ⟨rfl, h⟩ | ⟨j, rfl, hj, _, x, hx, hp⟩
  · have : l.any pr = false := List.any_eq_false.2 (fun x hx => by simp [h x hx])
    rw [this]; rfl
  · have : l.any pr = true := List.any_eq_true.2 ⟨x, List.mem_of_getElem? hx, hp⟩
    rw [this]
    simp
set_option maxHeartbeats 400000 in
theorem containsR_any (A : Option Addr) (n c : Nat) (l : List Int) (w : World) (hn : n = l.length) (h : RdI32 w w.heap.size A l) (hb : n ≤ 140737488355328) :
    Calls Tryz.prog 230 #[.slice A n c, .func (.func 231) #[] #[]] w fun e w' => e = .returned (.bool (l.any (fun r => !mayR r))) ∧ w = w' := by
  have N := Lib.hid hn
  clear hn
  generalize hr : l.any (fun r => !mayR r) = r
  have HR := Lib.hid hr
  clear hr
  go_enter Tryz.func230, Tryz.ntmps230
  go_wp2_with (go_at_call 240; refine Hid.out ?_)
  refine Lib.hid ?_
  refine (indexR_any A n c l w N.out h hb).mono ?_
  rintro e w1 ⟨i, rfl, hi, rfl⟩
  have hd := idx_any hi
  rw [HR.out] at hd
  clear hi
  go_wp2_with (fail)
  go_ret
  exact ⟨by first | rfl | exact ret_bool hd, rfl⟩

def formO (o : Opd) : Bool :=
  if o.k = 1 then decide (o.r.length = 0 ∧ o.s.length = 0)
  else if o.k = 3 then decide ((o.r.length = 0 ∧ o.s.length = 0) ∧ o.p.length = 0)
  else if o.k = 2 then decide (o.n = 0 ∧ o.p.length = 0) && !o.r.any (fun r => !mayR r)
  else false

set_option maxRecDepth 100000 in
set_option maxHeartbeats 1600000 in
theorem formO_any (k n : Int) (Ar As Ap : Option Addr) (r : List Int) (s : List At) (p : List Ch) (cr cs cp : Nat) (w : World) (h : RdI32 w w.heap.size Ar r) (hb : r.length ≤ 140737488355328) :
    Calls Tryz.prog 208 #[.agg #[.int .u8 k, .int .i64 n, .slice Ar r.length cr, .slice As s.length cs, .slice Ap p.length cp]] w fun e w' => e = .returned (.bool (formO ⟨k, n, r, s, p⟩)) ∧ Below w.heap.size w w' := by
  have y0 := ext_alloc w (.cells #[.int .u8 k, .int .i64 n, .slice Ar r.length cr, .slice As s.length cs, .slice Ap p.length cp] 50)
  have HH := Lib.hid (h.ext y0)
  obtain ⟨R, hR⟩ : ∃ X, formO ⟨k, n, r, s, p⟩ = X := ⟨_, rfl⟩
  rw [hR]
  unfold formO at hR
  have HR := Lib.hid hR
  obtain ⟨nr, hnr⟩ : ∃ X, r.length = X := ⟨_, rfl⟩
  obtain ⟨ns, hns⟩ : ∃ X, s.length = X := ⟨_, rfl⟩
  obtain ⟨np, hnp⟩ : ∃ X, p.length = X := ⟨_, rfl⟩
  have NR := Lib.hid hnr
  have NS := Lib.hid hns
  have NP := Lib.hid hnp
  rw [hnr, hns, hnp]
  rw [hnr, hns, hnp] at y0 HH
  rw [hnr] at hb
  clear hR hnr hns hnp h
  rcases Nat.eq_zero_or_pos nr with e1 | e1
  · subst e1
    rcases Nat.eq_zero_or_pos ns with e2 | e2
    · subst e2
      by_cases k1 : k = 1
      · subst k1
        go_enter Tryz.func208, Tryz.ntmps208
        go_wp2_with (fail)
        go_ret
        exact ⟨ret_bool (by rw [← HR.out]; simp only [NR.out, NS.out, NP.out]; first | (simp; done) | (simp <;> omega)), y0⟩
      have kb1 : (k == 1) = false := beq_eq_false_iff_ne.2 k1
      by_cases k3 : k = 3
      · subst k3
        by_cases hp : np = 0
        · subst hp
          go_enter Tryz.func208, Tryz.ntmps208
          go_wp2_with (fail)
          go_ret
          exact ⟨ret_bool (by rw [← HR.out]; simp only [NR.out, NS.out, NP.out]; first | (simp; done) | (simp <;> omega)), y0⟩
        · have hpb : ((np : Int) == 0) = false := beq_eq_false_iff_ne.2 (by omega)
          go_enter Tryz.func208, Tryz.ntmps208
          go_wp2_with (fail)
          go_ret
          exact ⟨ret_bool (by rw [← HR.out]; simp only [NR.out, NS.out, NP.out]; first | (simp [hp]; done) | (simp [hp] <;> omega)), y0⟩
      have kb3 : (k == 3) = false := beq_eq_false_iff_ne.2 k3
      by_cases k2 : k = 2
      · subst k2
        by_cases hn : n = 0
        · subst hn
          by_cases hp : np = 0
          · subst hp
            go_enter Tryz.func208, Tryz.ntmps208
            go_wp2_with (go_at_call 230; refine Hid.out ?_)
            refine Lib.hid ?_
            refine (containsR_any Ar _ cr r _ ?hn HH.out (by omega)).mono ?_
            case hn => first | exact NR.out.symm | (have := NR.out; omega)
            rintro e w' ⟨rfl, rfl⟩
            generalize hca : r.any (fun r => !mayR r) = C
            have HCA := Lib.hid hca
            clear hca
            go_wp2_with (fail)
            go_ret
            exact ⟨ret_bool (by rw [← HR.out]; simp [NP.out, HCA.out]), y0⟩
          · have hpb : ((np : Int) == 0) = false := beq_eq_false_iff_ne.2 (by omega)
            go_enter Tryz.func208, Tryz.ntmps208
            go_wp2_with (fail)
            go_ret
            exact ⟨ret_bool (by rw [← HR.out]; simp only [NR.out, NS.out, NP.out]; first | (simp [hp]; done) | (simp [hp] <;> omega)), y0⟩
        · have hnb : (n == 0) = false := beq_eq_false_iff_ne.2 hn
          go_enter Tryz.func208, Tryz.ntmps208
          go_wp2_with (fail)
          go_ret
          exact ⟨ret_bool (by rw [← HR.out]; simp only [NR.out, NS.out, NP.out]; first | (simp [hn]; done) | (simp [hn] <;> omega)), y0⟩
      have kb2 : (k == 2) = false := beq_eq_false_iff_ne.2 k2
      have HK1 := Lib.hid k1
      have HK2 := Lib.hid k2
      have HK3 := Lib.hid k3
      clear k1 k2 k3
      go_enter Tryz.func208, Tryz.ntmps208
      go_wp2_with (fail)
      go_ret
      exact ⟨ret_bool (by rw [← HR.out]; simp [HK1.out, HK2.out, HK3.out]), y0⟩
    · have hs0 : (0 : Int) < (ns : Int) := by omega
      by_cases k1 : k = 1
      · subst k1
        go_enter Tryz.func208, Tryz.ntmps208
        go_wp2_with (fail)
        go_ret
        exact ⟨ret_bool (by rw [← HR.out]; simp only [NR.out, NS.out, NP.out]; first | (simp; done) | (simp <;> omega)), y0⟩
      have kb1 : (k == 1) = false := beq_eq_false_iff_ne.2 k1
      by_cases k3 : k = 3
      · subst k3
        by_cases hp : np = 0
        · subst hp
          go_enter Tryz.func208, Tryz.ntmps208
          go_wp2_with (fail)
          go_ret
          exact ⟨ret_bool (by rw [← HR.out]; simp only [NR.out, NS.out, NP.out]; first | (simp; done) | (simp <;> omega)), y0⟩
        · have hpb : ((np : Int) == 0) = false := beq_eq_false_iff_ne.2 (by omega)
          go_enter Tryz.func208, Tryz.ntmps208
          go_wp2_with (fail)
          go_ret
          exact ⟨ret_bool (by rw [← HR.out]; simp only [NR.out, NS.out, NP.out]; first | (simp [hp]; done) | (simp [hp] <;> omega)), y0⟩
      have kb3 : (k == 3) = false := beq_eq_false_iff_ne.2 k3
      by_cases k2 : k = 2
      · subst k2
        by_cases hn : n = 0
        · subst hn
          by_cases hp : np = 0
          · subst hp
            go_enter Tryz.func208, Tryz.ntmps208
            go_wp2_with (go_at_call 230; refine Hid.out ?_)
            refine Lib.hid ?_
            refine (containsR_any Ar _ cr r _ ?hn HH.out (by omega)).mono ?_
            case hn => first | exact NR.out.symm | (have := NR.out; omega)
            rintro e w' ⟨rfl, rfl⟩
            generalize hca : r.any (fun r => !mayR r) = C
            have HCA := Lib.hid hca
            clear hca
            go_wp2_with (fail)
            go_ret
            exact ⟨ret_bool (by rw [← HR.out]; simp [NP.out, HCA.out]), y0⟩
          · have hpb : ((np : Int) == 0) = false := beq_eq_false_iff_ne.2 (by omega)
            go_enter Tryz.func208, Tryz.ntmps208
            go_wp2_with (fail)
            go_ret
            exact ⟨ret_bool (by rw [← HR.out]; simp only [NR.out, NS.out, NP.out]; first | (simp [hp]; done) | (simp [hp] <;> omega)), y0⟩
        · have hnb : (n == 0) = false := beq_eq_false_iff_ne.2 hn
          go_enter Tryz.func208, Tryz.ntmps208
          go_wp2_with (fail)
          go_ret
          exact ⟨ret_bool (by rw [← HR.out]; simp only [NR.out, NS.out, NP.out]; first | (simp [hn]; done) | (simp [hn] <;> omega)), y0⟩
      have kb2 : (k == 2) = false := beq_eq_false_iff_ne.2 k2
      have HK1 := Lib.hid k1
      have HK2 := Lib.hid k2
      have HK3 := Lib.hid k3
      clear k1 k2 k3
      go_enter Tryz.func208, Tryz.ntmps208
      go_wp2_with (fail)
      go_ret
      exact ⟨ret_bool (by rw [← HR.out]; simp [HK1.out, HK2.out, HK3.out]), y0⟩
  · have hr0 : (0 : Int) < (nr : Int) := by omega
    by_cases k1 : k = 1
    · subst k1
      go_enter Tryz.func208, Tryz.ntmps208
      go_wp2_with (fail)
      go_ret
      exact ⟨ret_bool (by rw [← HR.out]; simp only [NR.out, NS.out, NP.out]; first | (simp; done) | (simp <;> omega)), y0⟩
    have kb1 : (k == 1) = false := beq_eq_false_iff_ne.2 k1
    by_cases k3 : k = 3
    · subst k3
      by_cases hp : np = 0
      · subst hp
        go_enter Tryz.func208, Tryz.ntmps208
        go_wp2_with (fail)
        go_ret
        exact ⟨ret_bool (by rw [← HR.out]; simp only [NR.out, NS.out, NP.out]; first | (simp; done) | (simp <;> omega)), y0⟩
      · have hpb : ((np : Int) == 0) = false := beq_eq_false_iff_ne.2 (by omega)
        go_enter Tryz.func208, Tryz.ntmps208
        go_wp2_with (fail)
        go_ret
        exact ⟨ret_bool (by rw [← HR.out]; simp only [NR.out, NS.out, NP.out]; first | (simp [hp]; done) | (simp [hp] <;> omega)), y0⟩
    have kb3 : (k == 3) = false := beq_eq_false_iff_ne.2 k3
    by_cases k2 : k = 2
    · subst k2
      by_cases hn : n = 0
      · subst hn
        by_cases hp : np = 0
        · subst hp
          go_enter Tryz.func208, Tryz.ntmps208
          go_wp2_with (go_at_call 230; refine Hid.out ?_)
          refine Lib.hid ?_
          refine (containsR_any Ar _ cr r _ ?hn HH.out (by omega)).mono ?_
          case hn => first | exact NR.out.symm | (have := NR.out; omega)
          rintro e w' ⟨rfl, rfl⟩
          generalize hca : r.any (fun r => !mayR r) = C
          have HCA := Lib.hid hca
          clear hca
          go_wp2_with (fail)
          go_ret
          exact ⟨ret_bool (by rw [← HR.out]; simp [NP.out, HCA.out]), y0⟩
        · have hpb : ((np : Int) == 0) = false := beq_eq_false_iff_ne.2 (by omega)
          go_enter Tryz.func208, Tryz.ntmps208
          go_wp2_with (fail)
          go_ret
          exact ⟨ret_bool (by rw [← HR.out]; simp only [NR.out, NS.out, NP.out]; first | (simp [hp]; done) | (simp [hp] <;> omega)), y0⟩
      · have hnb : (n == 0) = false := beq_eq_false_iff_ne.2 hn
        go_enter Tryz.func208, Tryz.ntmps208
        go_wp2_with (fail)
        go_ret
        exact ⟨ret_bool (by rw [← HR.out]; simp only [NR.out, NS.out, NP.out]; first | (simp [hn]; done) | (simp [hn] <;> omega)), y0⟩
    have kb2 : (k == 2) = false := beq_eq_false_iff_ne.2 k2
    have HK1 := Lib.hid k1
    have HK2 := Lib.hid k2
    have HK3 := Lib.hid k3
    clear k1 k2 k3
    go_enter Tryz.func208, Tryz.ntmps208
    go_wp2_with (fail)
    go_ret
    exact ⟨ret_bool (by rw [← HR.out]; simp [HK1.out, HK2.out, HK3.out]), y0⟩

def oneP (l : List Ky) (o : Opd) : Int :=
  if formO o = true ∧ 1 ≤ sizeO o ∧ sizeO o ≤ 536870912 then (if mayS l o.s = 0 then mayP l o.p else mayS l o.s) else 3
def okOp (o : Opd) : Prop := okVr o.s ∧ okVs o.p ∧ o.r.length ≤ 100000000 ∧ o.s.length ≤ 100000000 ∧ o.p.length ≤ 100000000

set_option maxRecDepth 100000 in
set_option maxHeartbeats 1600000 in
theorem opOne_any (sc : Nat) (l : List Ky) (k n : Int) (Ar As Ap : Option Addr) (r : List Int) (s : List At) (p : List Ch) (cr cs cp : Nat) (w : World) (hS : Sch w sc l) (h1 : RdI32 w w.heap.size Ar r) (h2 : RdAt w w.heap.size As s) (h3 : RdCh w w.heap.size Ap p) (ho : okOp ⟨k, n, r, s, p⟩) (hT : Lib.Utf8Tabs 1 2 w) :
    Calls Tryz.prog 161 #[.pointer (some ⟨sc, 0, none⟩), .agg #[.int .u8 k, .int .i64 n, .slice Ar r.length cr, .slice As s.length cs, .slice Ap p.length cp]] w fun e w' => e = .returned (.int .i64 (oneP l ⟨k, n, r, s, p⟩)) ∧ Below w.heap.size w w' := by
  obtain ⟨v1, v2, b1, b2, b3⟩ := ho
  simp only at v1 v2 b1 b2 b3
  have y := ext_alloc w (.cells #[.int .u8 k, .int .i64 n, .slice Ar r.length cr, .slice As s.length cs, .slice Ap p.length cp] 50)
  have hbx := heap_alloc_new w (.cells #[.int .u8 k, .int .i64 n, .slice Ar r.length cr, .slice As s.length cs, .slice Ap p.length cp] 50)
  obtain ⟨R, hR⟩ : ∃ X, oneP l ⟨k, n, r, s, p⟩ = X := ⟨_, rfl⟩
  rw [hR]
  unfold oneP at hR
  have HR := Lib.hid hR
  have HBX := Lib.hid hbx
  clear hR hbx
  go_enter Tryz.func161, Tryz.ntmps161
  go_wp2_with (go_at_call 208; refine Hid.out ?_)
  refine Lib.hid ?_
  refine (formO_any k n Ar As Ap r s p cr cs cp _ (h1.ext y) (by omega)).mono ?_
  rintro e w1 ⟨rfl, y1⟩
  have HBX := Lib.hid ((y1.block _ (lt_of_some HBX.out)).trans HBX.out)
  replace y := ext_trans y y1
  clear y1
  generalize hF : formO ⟨k, n, r, s, p⟩ = F
  have HF := Lib.hid hF
  clear hF
  cases F with
  | false =>
    go_wp2_with (fail)
    go_ret
    exact ⟨ret_int (by rw [← HR.out, HF.out]; rfl), y⟩
  | true =>
    obtain ⟨c0, c1, c2, c3, c4⟩ := box_at HBX.out
    go_wp2_with (go_at_call 173; refine Hid.out ?_)
    refine Lib.hid ?_
    refine (sizeO_any k n Ar As Ap r.length s.length p.length cr cs cp _).mono ?_
    rintro e w2 ⟨rfl, y2⟩
    have HBX := Lib.hid ((y2.block _ (lt_of_some HBX.out)).trans HBX.out)
    replace y := ext_trans y y2
    clear y2 c0 c1 c2 c3 c4
    obtain ⟨Z, hZ⟩ : ∃ Z : Int, (if k = 2 then (r.length : Int) else n) = Z := ⟨_, rfl⟩
    rw [hZ]
    have HZ : Hid (sizeO ⟨k, n, r, s, p⟩ = Z) := Lib.hid hZ
    have HZ2 := Lib.hid hZ
    clear hZ
    by_cases z1 : Z < 1
    · go_wp2_with (fail)
      go_ret
      exact ⟨ret_int (by rw [← HR.out, HZ.out, if_neg (show ¬ (_ ∧ 1 ≤ Z ∧ _) by omega)]), y⟩
    · obtain ⟨c0, c1, c2, c3, c4⟩ := box_at HBX.out
      go_wp2_with (go_at_call 173; refine Hid.out ?_)
      refine Lib.hid ?_
      refine (sizeO_any k n Ar As Ap r.length s.length p.length cr cs cp _).mono ?_
      rintro e w2 ⟨rfl, y2⟩
      have HBX := Lib.hid ((y2.block _ (lt_of_some HBX.out)).trans HBX.out)
      replace y := ext_trans y y2
      clear y2 c0 c1 c2 c3 c4
      rw [HZ2.out]
      by_cases z2 : 536870912 < Z
      · go_wp2_with (fail)
        go_ret
        exact ⟨ret_int (by rw [← HR.out, HZ.out, if_neg (show ¬ (_ ∧ 1 ≤ Z ∧ Z ≤ 536870912) by omega)]), y⟩
      · have HR2 : Hid ((if mayS l s = 0 then mayP l p else mayS l s) = R) := Lib.hid (by rw [← HR.out, HZ.out, HF.out, if_pos (show true = true ∧ 1 ≤ Z ∧ Z ≤ 536870912 from ⟨rfl, by omega, by omega⟩)])
        obtain ⟨c0, c1, c2, c3, c4⟩ := box_at HBX.out
        go_wp2_with (go_at_call 131; refine Hid.out ?_)
        refine Lib.hid ?_
        refine (mayS_any sc l As s.length cs s _ rfl (h2.ext y) (by omega) (hS.ext y) v1 (Utf8Tabs_below hT y)).mono ?_
        rintro e w3 ⟨rfl, y3⟩
        have HBX := Lib.hid ((y3.block _ (lt_of_some HBX.out)).trans HBX.out)
        replace y := ext_trans y y3
        clear y3 c0 c1 c2 c3 c4
        generalize mayS l s = E at HR2 ⊢
        by_cases hE : E = 0
        · subst hE
          have HR3 : Hid (mayP l p = R) := Lib.hid (by rw [← HR2.out, if_pos rfl])
          obtain ⟨c0, c1, c2, c3, c4⟩ := box_at HBX.out
          go_wp2_with (go_at_call 135; refine Hid.out ?_)
          refine Lib.hid ?_
          refine (mayP_any sc l Ap p.length cp p _ rfl (h3.ext y) (by omega) (hS.ext y) v2 (Utf8Tabs_below hT y)).mono ?_
          rintro e w4 ⟨rfl, y4⟩
          rw [HR3.out]
          replace y := ext_trans y y4
          go_wp2_with (fail)
          go_ret
          exact ⟨rfl, y⟩
        · have hne : (E == 0) = false := beq_eq_false_iff_ne.2 hE
          have HE : Hid (E = R) := Lib.hid (by rw [← HR2.out, if_neg hE])
          clear hE
          go_wp2_with (fail)
          go_ret
          exact ⟨ret_int HE.out, y⟩

def mayStep (l : List Ky) (st : Bool × Int) (x : OpS) : Bool × Int :=
  if st.1 = true then st else if oneP l x.o = 3 then (true, 3) else (false, if oneP l x.o = 0 then st.2 else oneP l x.o)
def mayO (l : List Ky) (x : List OpS) : Int :=
  if (x.foldl (mayStep l) (false, 0)).1 = true then 3 else if takesP x ≤ 536870912 ∧ makesP x ≤ 536870912 then (x.foldl (mayStep l) (false, 0)).2 else 3
theorem mayStep_true (l : List Ky) (a : Int) : ∀ x : List OpS, x.foldl (mayStep l) (true, a) = (true, a)
  | [] => rfl
  | x :: r => by rw [List.foldl_cons]; unfold mayStep; simp only [if_true]; exact mayStep_true l a r
theorem mstep_drop {l : List Ky} {x : List OpS} {m : Nat} {o : OpS} {a : Int} {R : Bool × Int} (hd : x.drop m = o :: x.drop (m + 1)) (h : (x.drop m).foldl (mayStep l) (false, a) = R) : (x.drop (m + 1)).foldl (mayStep l) (mayStep l (false, a) o) = R := by
  rw [hd] at h; exact h
set_option maxRecDepth 100000 in
set_option maxHeartbeats 1600000 in
theorem mayO_any (sc : Nat) (l : List Ky) (A : Option Addr) (n c : Nat) (x : List OpS) (w : World) (hn : n = x.length) (h : RdOp w w.heap.size A x) (hb : n ≤ 140737488355328) (hS : Sch w sc l) (ho : ∀ o ∈ x, okOp o.o) (hT : Lib.Utf8Tabs 1 2 w) :
    Calls Tryz.prog 88 #[.pointer (some ⟨sc, 0, none⟩), .slice A n c] w fun e w' => e = .returned (.int .i64 (mayO l x)) ∧ Below w.heap.size w w' := by
  have N := Lib.hid hn
  obtain ⟨R, hR⟩ : ∃ X, mayO l x = X := ⟨_, rfl⟩
  rw [hR]
  unfold mayO at hR
  obtain ⟨ST, hST⟩ : ∃ X, x.foldl (mayStep l) (false, 0) = X := ⟨_, rfl⟩
  rw [hST] at hR
  have HR := Lib.hid hR
  have HST := Lib.hid hST
  clear hR hST hn
  go_enter Tryz.func88, Tryz.ntmps88
  go_wp2_with (fail)
  go_loopg [5, 11] n (fun g av iv wr => ∃ (m : Nat) (a : Int), m ≤ n ∧ g = n - m ∧ av = .int .i64 a ∧ iv = .int .i64 (m : Int) ∧ Below w.heap.size w wr ∧ Hid ((x.drop m).foldl (mayStep l) (false, a) = ST))
  case atStart => exact ⟨0, 0, by omega, rfl, rfl, rfl, Below.refl _ _, Lib.hid (by rw [List.drop_zero]; exact HST.out)⟩
  case round =>
    obtain ⟨m, a, hm, hg, rfl, rfl, y, HI⟩ := hrel
    have HG := Lib.hid hg
    clear hg
    by_cases hlt : m < n
    · have hl1 : m < x.length := by have := N.out; omega
      obtain ⟨ad, o, had0, had, hd1, hx1, hc0⟩ := (h.1.below y (Nat.le_refl _)).el hl1
      subst had0
      have hmem := List.mem_of_getElem? hx1
      have hok := ho o hmem
      obtain ⟨g1, g2, g3⟩ := h.2 o hmem
      have HI2 := Lib.hid (mstep_drop hd1 HI.out)
      obtain ⟨⟨k, nn, r, s, p⟩, Ar, cr, As, cs, Ap, cp⟩ := o
      obtain ⟨r0, r1, r2, r3, r4⟩ := op_cells hc0
      simp only at g1 g2 g3
      have y2 := ext_trans y (ext_alloc wr (.cells #[.int .u8 k, .int .i64 nn, .slice Ar r.length cr, .slice As s.length cs, .slice Ap p.length cp] 50))
      have hw2 : IntKind.i64.wrap ((m:Int) + 1) = (m : Int) + 1 := IntWalk.i64_in _ (by omega)
      clear hc0 hd1 hx1 hmem HI
      go_wp2_with (go_at_call 161; refine Hid.out ?_)
      refine Lib.hid ?_
      refine (opOne_any sc l k nn Ar As Ap r s p cr cs cp _ (hS.ext y2) (g1.ext y2) (g2.ext y2) (g3.ext y2) hok (Utf8Tabs_below hT y2)).mono ?_
      rintro e w3 ⟨rfl, y3⟩
      have yy := ext_trans y2 y3
      have HI3 : Hid ((x.drop (m + 1)).foldl (mayStep l) (if oneP l ⟨k, nn, r, s, p⟩ = 3 then (true, 3) else (false, if oneP l ⟨k, nn, r, s, p⟩ = 0 then a else oneP l ⟨k, nn, r, s, p⟩)) = ST) := Lib.hid HI2.out
      generalize oneP l ⟨k, nn, r, s, p⟩ = E at HI3 ⊢
      clear HI2
      by_cases e3 : E = 3
      · subst e3
        have HS3 : Hid (ST = (true, 3)) := Lib.hid (by rw [← HI3.out, if_pos rfl, mayStep_true])
        go_wp2_with (fail)
        go_ret
        exact ⟨ret_int (by rw [← HR.out, HS3.out]; rfl), yy⟩
      · have e3b : (E == 3) = false := beq_eq_false_iff_ne.2 e3
        by_cases e0 : E = 0
        · subst e0
          have HI4 : Hid ((x.drop (m + 1)).foldl (mayStep l) (false, a) = ST) := Lib.hid (by rw [← HI3.out, if_neg e3, if_pos rfl])
          clear e3 e3b
          go_wp2_with (fail)
          go_roundg (n - (m + 1))
          case measure => have := HG.out; omega
          case rel => exact ⟨m + 1, a, by omega, rfl, rfl, by go_num, yy, HI4⟩
        · have e0b : (E == 0) = false := beq_eq_false_iff_ne.2 e0
          have HI4 : Hid ((x.drop (m + 1)).foldl (mayStep l) (false, E) = ST) := Lib.hid (by rw [← HI3.out, if_neg e3, if_neg e0])
          clear e3 e0
          go_wp2_with (fail)
          go_roundg (n - (m + 1))
          case measure => have := HG.out; omega
          case rel => exact ⟨m + 1, E, by omega, rfl, rfl, by go_num, yy, HI4⟩
    · have HS4 : Hid (ST = (false, a)) := Lib.hid (by rw [← HI.out, List.drop_eq_nil_of_le (by have := N.out; omega)]; rfl)
      have HR2 : Hid ((if takesP x ≤ 536870912 ∧ makesP x ≤ 536870912 then a else 3) = R) := Lib.hid (by rw [← HR.out, HS4.out]; rfl)
      clear HI HG
      go_wp2_with (go_at_call 104; refine Hid.out ?_)
      refine Lib.hid ?_
      refine (takes_any A n c x _ N.out (h.ext y).1 hb).mono ?_
      rintro e w3 ⟨rfl, y3⟩
      replace y := ext_trans y y3
      generalize takesP x = T at HR2 ⊢
      by_cases t1 : 536870912 < T
      · go_wp2_with (fail)
        go_ret
        exact ⟨ret_int (by rw [← HR2.out, if_neg (by omega)]), y⟩
      · go_wp2_with (go_at_call 105; refine Hid.out ?_)
        refine Lib.hid ?_
        refine (makes_any A n c x _ N.out (h.ext y).1 hb).mono ?_
        rintro e w4 ⟨rfl, y4⟩
        replace y := ext_trans y y4
        generalize makesP x = U at HR2 ⊢
        by_cases u1 : 536870912 < U
        · go_wp2_with (fail)
          go_ret
          exact ⟨ret_int (by rw [← HR2.out, if_neg (by omega)]), y⟩
        · have HR3 : Hid (a = R) := Lib.hid (by rw [← HR2.out, if_pos ⟨by omega, by omega⟩])
          go_wp2_with (fail)
          go_ret
          exact ⟨ret_int HR3.out, y⟩

def NewAt (r : List At) (w : World) (e : Ending) (w' : World) : Prop :=
  ∃ A c, e = .returned (.slice A r.length c) ∧ OwAt w' w.heap.size (.slice A r.length c) r ∧ Below w.heap.size w w'
def NewCh (r : List Ch) (w : World) (e : Ending) (w' : World) : Prop :=
  ∃ A c, e = .returned (.slice A r.length c) ∧ OwCh w' w.heap.size (.slice A r.length c) r ∧ Below w.heap.size w w'

set_option maxRecDepth 100000 in
set_option maxHeartbeats 400000 in
theorem cloneAt_any (A : Option Addr) (n c : Nat) (l : List At) (w : World) (hn : n = l.length) (h : RdAt w w.heap.size A l) (hb : n ≤ 100000000) :
    Calls Tryz.prog 187 #[.slice A n c] w (NewAt l w) := by
  cases A with
  | none =>
    have hl : l = [] := by
      cases l with
      | nil => rfl
      | cons a l => obtain ⟨ad, e, _⟩ := h (by simp); cases e
    subst hl
    have hn0 : n = 0 := by simpa using hn
    subst hn0
    clear hn
    have hq := fun (w : World) => Lib.run_eql_slice_nil (P := Tryz.prog) w 36 43 none 0 c 0 0 Tryz.slAt
    go_enter Tryz.func187, Tryz.ntmps187
    go_wp2_with (fail)
    go_ret
    exact ⟨none, 0, rfl, Ow.nil _ _, Below.refl _ _⟩
  | some ad =>
    have N := Lib.hid hn
    clear hn
    have hq := fun (w : World) => Lib.run_eql_slice_nil (P := Tryz.prog) w 36 43 (some ad) n c 0 0 Tryz.slAt
    go_enter Tryz.func187, Tryz.ntmps187
    go_wp2_with (first
      | (at_builtin; refine app_at (m := l) rfl (.tmp 5) (.tmp 6) rfl rfl (by exact Ow.empty _ w.heap.size _) _ _ _ _ rfl N.out (by exact h.ext (ext_alloc w _)) (by have := N.out; simp only [List.length_nil]; omega) (by simp) ?_; intro v' w' hown' hgr hv'))
    rw [List.nil_append] at hown'
    obtain ⟨A', c', rfl, _, _⟩ := hown'.form
    go_ret
    exact ⟨A', c', rfl, hown', (ext_alloc w _).grown hgr (by simp) (fun k hk => by cases hk)⟩

set_option maxRecDepth 100000 in
set_option maxHeartbeats 400000 in
theorem cloneCh_any (A : Option Addr) (n c : Nat) (l : List Ch) (w : World) (hn : n = l.length) (h : RdCh w w.heap.size A l) (hb : n ≤ 100000000) :
    Calls Tryz.prog 168 #[.slice A n c] w (NewCh l w) := by
  cases A with
  | none =>
    have hl : l = [] := by
      cases l with
      | nil => rfl
      | cons a l => obtain ⟨ad, e, _⟩ := h (by simp); cases e
    subst hl
    have hn0 : n = 0 := by simpa using hn
    subst hn0
    clear hn
    have hq := fun (w : World) => Lib.run_eql_slice_nil (P := Tryz.prog) w 48 77 none 0 c 0 0 Tryz.slCh
    go_enter Tryz.func168, Tryz.ntmps168
    go_wp2_with (fail)
    go_ret
    exact ⟨none, 0, rfl, Ow.nil _ _, Below.refl _ _⟩
  | some ad =>
    have N := Lib.hid hn
    clear hn
    have hq := fun (w : World) => Lib.run_eql_slice_nil (P := Tryz.prog) w 48 77 (some ad) n c 0 0 Tryz.slCh
    go_enter Tryz.func168, Tryz.ntmps168
    go_wp2_with (first
      | (at_builtin; refine app_ch (m := l) rfl (.tmp 5) (.tmp 6) rfl rfl (by exact Ow.empty _ w.heap.size _) _ _ _ _ rfl N.out (by exact h.ext (ext_alloc w _)) (by have := N.out; simp only [List.length_nil]; omega) (by simp) ?_; intro v' w' hown' hgr hv'))
    rw [List.nil_append] at hown'
    obtain ⟨A', c', rfl, _, _⟩ := hown'.form
    go_ret
    exact ⟨A', c', rfl, hown', (ext_alloc w _).grown hgr (by simp) (fun k hk => by cases hk)⟩

def withP (l : List At) (a : At) : List At := applyP [⟨a.key, false, a.v⟩] l
theorem up_drew {B : Nat} {a b : World} (h : Below B a b) : Below B a b.drew := ⟨h.1, h.2, h.3, h.4, h.5⟩

set_option maxRecDepth 100000 in
set_option maxHeartbeats 400000 in
theorem equalA_any (A B : Option Addr) (n m c d : Nat) (l k : List At) (w : World) (hn : n = l.length) (hm : m = k.length) (h1 : RdAt w w.heap.size A l) (h2 : RdAt w w.heap.size B k) (hb : n ≤ 140737488355328) (hb2 : m ≤ 140737488355328) :
    Calls Tryz.prog 192 #[.slice A n c, .slice B m d] w (Quiet (.bool (decide (l = k))) w) := by
  have N := Lib.hid hn
  have M := Lib.hid hm
  generalize hR : decide (l = k) = R
  have HR := Lib.hid hR
  clear hn hR hm
  by_cases hnm : (n : Int) = m
  · have hnm' : n = m := by omega
    subst hnm'
    clear hnm
    go_enter Tryz.func192, Tryz.ntmps192
    go_wp2_with (fail)
    go_loopg [13] n (fun g iv wr => ∃ i : Nat, i ≤ n ∧ g = n - i ∧ iv = .int .i64 (i : Int) ∧ (∃ d, wr = w.drewN d) ∧ Hid (decide (l.drop i = k.drop i) = R))
    case atStart => exact ⟨0, by omega, rfl, rfl, ⟨0, rfl⟩, Lib.hid (by rw [List.drop_zero, List.drop_zero]; exact HR.out)⟩
    case round =>
      obtain ⟨i, hi, hg, rfl, ⟨q, rfl⟩, HI⟩ := hrel
      have HG := Lib.hid hg
      clear hg HR
      by_cases hlt : i < n
      · have hl1 : i < l.length := by have := N.out; omega
        have hl2 : i < k.length := by have := M.out; omega
        obtain ⟨ad, x, rfl, _, hd1, _, hc1⟩ := h1.el hl1
        obtain ⟨ad2, y, rfl, _, hd2, _, hc2⟩ := h2.el hl2
        have HI' : Hid (decide (x :: l.drop (i + 1) = y :: k.drop (i + 1)) = R) := Lib.hid (by rw [← HI.out, hd1, hd2])
        clear HI hd1 hd2
        obtain ⟨x1, x2, x3, x4, x5⟩ := x
        obtain ⟨y1, y2, y3, y4, y5⟩ := y
        obtain ⟨r0, r1, r2, r3, r4⟩ := at_cells hc1
        obtain ⟨s0, s1, s2, s3, s4⟩ := at_cells hc2
        by_cases hxy : (⟨x1, ⟨x2, x3, x4, x5⟩⟩ : At) = ⟨y1, ⟨y2, y3, y4, y5⟩⟩
        · have hq := beqAt_eq hxy
          have HXY := Lib.hid hxy
          clear hxy
          go_wp2_with (go_quiet (fail))
          go_roundg (n - (i + 1))
          case measure => have := HG.out; omega
          case rel => exact ⟨i + 1, by omega, rfl, by go_num, ⟨_, rfl⟩, Lib.hid (by rw [← HI'.out]; simp only [List.cons.injEq, HXY.out, true_and])⟩
        · have hq := beqAt_ne hxy
          have HXY := Lib.hid hxy
          clear hxy
          go_wp2_with (go_quiet (fail))
          go_ret
          exact ⟨ret_bool (by rw [← HI'.out]; exact (decide_eq_false fun e => HXY.out (List.cons.inj e).1).symm), _, World.drewN_drewN _ _ _⟩
      · go_wp2_with (fail)
        go_ret
        exact ⟨ret_bool (by rw [← HI.out, List.drop_eq_nil_of_le (by have := N.out; omega), List.drop_eq_nil_of_le (by have := M.out; omega)]; rfl), _, rfl⟩
  · have hne : ((n : Int) == m) = false := beq_eq_false_iff_ne.2 hnm
    go_enter Tryz.func192, Tryz.ntmps192
    go_wp2_with (fail)
    go_ret
    refine ⟨ret_bool ?_, 0, rfl⟩
    rw [← HR.out]
    refine (decide_eq_false fun e => ?_).symm
    have h3 := N.out
    have h4 := M.out
    rw [e] at h3
    omega

set_option maxHeartbeats 400000 in
theorem attrsSame_any (A B : Option Addr) (n m c d : Nat) (l k : List At) (w : World) (hn : n = l.length) (hm : m = k.length) (h1 : RdAt w w.heap.size A l) (h2 : RdAt w w.heap.size B k) (hb : n ≤ 140737488355328) (hb2 : m ≤ 140737488355328) :
    Calls Tryz.prog 141 #[.slice A n c, .slice B m d] w (Quiet (.bool (decide (l = k))) w) := by
  have N := Lib.hid hn
  have M := Lib.hid hm
  clear hn hm
  go_enter Tryz.func141, Tryz.ntmps141
  go_wp2_with (go_at_call 192; refine (equalA_any A B n m c d l k _ N.out M.out h1 h2 hb hb2).mono ?_; rintro e w' ⟨rfl, q, rfl⟩)
  go_ret
  exact ⟨rfl, _, rfl⟩

set_option maxHeartbeats 400000 in
theorem copy_any (A : Option Addr) (n c : Nat) (l : List At) (w : World) (hn : n = l.length) (h : RdAt w w.heap.size A l) (hb : n ≤ 100000000) :
    Calls Tryz.prog 143 #[.slice A n c] w (NewAt l w) := by
  have N := Lib.hid hn
  clear hn
  go_enter Tryz.func143, Tryz.ntmps143
  go_wp2_with (go_at_call 187; refine Hid.out ?_)
  refine Lib.hid ?_
  refine (cloneAt_any A n c l w N.out h hb).mono ?_
  rintro e w2 ⟨A2, c2, rfl, ho, hb2⟩
  generalize hq : l.length = q at *
  go_wp2_with (fail)
  go_ret
  exact ⟨A2, c2, by rw [hq]; rfl, by rw [hq]; exact ho, hb2⟩

def stepB (b : List At) (x : At) : List At := if (getA b x.key).isSome = true then b else withP b x
def bP (l : List At) : List At := l.foldl stepB []

theorem take_snoc {α : Type} {l : List α} {i : Nat} {a : α} (h : l[i]? = some a) : l.take (i + 1) = l.take i ++ [a] := by
  obtain ⟨hi, he⟩ := List.getElem?_eq_some_iff.1 h
  rw [List.take_succ_eq_append_getElem hi, he]

def partS (l : List Ky) (b : Bool) (p : List At) : List At := p.filter (fun c => keepK l b c.key)

def goodO (l : List Ky) (x : List OpS) : Prop := ∀ o ∈ x, oneP l o.o = 0
theorem goodO.tail {l : List Ky} {o : OpS} {x : List OpS} (h : goodO l (o :: x)) : goodO l x := fun z hz => h z (List.mem_cons_of_mem _ hz)
theorem fold_one {l : List Ky} : ∀ (x : List OpS) (a : Int), (x.foldl (mayStep l) (false, a)).1 = false → (x.foldl (mayStep l) (false, a)).2 = 0 → a = 0 ∧ goodO l x
  | [], a, _, h => ⟨h, fun z hz => by cases hz⟩
  | o :: x, a, h1, h2 => by
    rw [List.foldl_cons] at h1 h2
    unfold mayStep at h1 h2
    simp only [Bool.false_eq_true, if_false] at h1 h2
    by_cases h3 : oneP l o.o = 3
    · rw [if_pos h3] at h1
      have := mayStep_true l 3 x
      unfold mayStep at this
      rw [this] at h1; cases h1
    · rw [if_neg h3] at h1 h2
      obtain ⟨h4, h5⟩ := fold_one x _ h1 h2
      by_cases h0 : oneP l o.o = 0
      · rw [if_pos h0] at h4
        refine ⟨h4, fun z hz => ?_⟩
        rcases List.mem_cons.1 hz with rfl | hz
        · exact h0
        · exact h5 z hz
      · rw [if_neg h0] at h4; exact absurd h4 h0
theorem mayO_zero {l : List Ky} {x : List OpS} (h : mayO l x = 0) : goodO l x ∧ takesP x ≤ 536870912 ∧ makesP x ≤ 536870912 := by
  unfold mayO at h
  cases h1 : (x.foldl (mayStep l) (false, 0)).1 with
  | true => rw [h1] at h; simp at h
  | false =>
    rw [h1] at h
    simp only [Bool.false_eq_true, if_false] at h
    by_cases h2 : takesP x ≤ 536870912 ∧ makesP x ≤ 536870912
    · rw [if_pos h2] at h; exact ⟨(fold_one x 0 h1 h).2, h2⟩
    · rw [if_neg h2] at h; cases h
def tkI (o : Opd) : Int := if o.k = 2 then 0 else o.n
def mkI (o : Opd) : Int := if o.k = 3 then 0 else sizeO o
def sumT : List OpS → Int
  | [] => 0
  | o :: x => tkI o.o + sumT x
def sumM : List OpS → Int
  | [] => 0
  | o :: x => mkI o.o + sumM x
theorem one_facts {l : List Ky} {o : Opd} (h : oneP l o = 0) : formO o = true ∧ 1 ≤ sizeO o ∧ sizeO o ≤ 536870912 ∧ mayS l o.s = 0 ∧ mayP l o.p = 0 := by
  unfold oneP at h
  by_cases h1 : formO o = true ∧ 1 ≤ sizeO o ∧ sizeO o ≤ 536870912
  · rw [if_pos h1] at h
    by_cases h2 : mayS l o.s = 0
    · rw [if_pos h2] at h; exact ⟨h1.1, h1.2.1, h1.2.2, h2, h⟩
    · rw [if_neg h2] at h; exact absurd h h2
  · rw [if_neg h1] at h; cases h
theorem form_kinds {o : Opd} (h : formO o = true) : o.k = 1 ∨ o.k = 2 ∨ o.k = 3 := by
  unfold formO at h
  by_cases h1 : o.k = 1
  · exact .inl h1
  rw [if_neg h1] at h
  by_cases h3 : o.k = 3
  · exact .inr (.inr h3)
  rw [if_neg h3] at h
  by_cases h2 : o.k = 2
  · exact .inr (.inl h2)
  rw [if_neg h2] at h; cases h
theorem one_ks {l : List Ky} {o : Opd} (h : oneP l o = 0) : (o.k = 2 ∧ tkI o = 0 ∧ 1 ≤ mkI o ∧ mkI o ≤ 536870912) ∨ (o.k = 3 ∧ tkI o = o.n ∧ 1 ≤ o.n ∧ o.n ≤ 536870912 ∧ mkI o = 0) ∨ (o.k = 1 ∧ tkI o = o.n ∧ 1 ≤ o.n ∧ o.n ≤ 536870912 ∧ mkI o = o.n) := by
  obtain ⟨f, h1, h2, _, _⟩ := one_facts h
  unfold tkI mkI
  unfold sizeO at *
  rcases form_kinds f with hk | hk | hk <;> rw [hk] at h1 h2 ⊢ <;> simp at h1 h2 ⊢ <;> omega
theorem fold_t {l : List Ky} : ∀ (x : List OpS) (a : Int), goodO l x → 0 ≤ a → a + 536870912 * (x.length : Int) ≤ 4611686018427387904 → x.foldl takeStep a = a + sumT x
  | [], a, _, _, _ => by simp [sumT]
  | o :: x, a, h, h0, hb => by
    have hk := one_ks (h o (by simp))
    simp only [List.length_cons] at hb
    push_cast at hb
    have e : takeStep a o = a + tkI o.o := by
      unfold takeStep
      by_cases h2 : o.o.k = 2
      · rw [if_pos h2]; unfold tkI; rw [if_pos h2]; omega
      · rw [if_neg h2]; unfold tkI; rw [if_neg h2]; exact IntWalk.i64_in _ (by omega)
    rw [List.foldl_cons, e, fold_t x _ h.tail (by omega) (by omega)]
    simp only [sumT]; omega
theorem fold_m {l : List Ky} : ∀ (x : List OpS) (a : Int), goodO l x → 0 ≤ a → a + 536870912 * (x.length : Int) ≤ 4611686018427387904 → x.foldl makeStep a = a + sumM x
  | [], a, _, _, _ => by simp [sumM]
  | o :: x, a, h, h0, hb => by
    have hk := one_ks (h o (by simp))
    have hs := (one_facts (h o (by simp))).2
    simp only [List.length_cons] at hb
    push_cast at hb
    have e : makeStep a o = a + mkI o.o := by
      unfold makeStep
      by_cases h2 : o.o.k = 3
      · rw [if_pos h2]; unfold mkI; rw [if_pos h2]; omega
      · rw [if_neg h2]; unfold mkI; rw [if_neg h2]; exact IntWalk.i64_in _ (by omega)
    rw [List.foldl_cons, e, fold_m x _ h.tail (by omega) (by omega)]
    simp only [sumM]; omega
theorem takes_sum {l : List Ky} {x : List OpS} (h : goodO l x) (hb : x.length ≤ 1048576) : takesP x = sumT x := by
  unfold takesP; rw [fold_t x 0 h (by omega) (by omega)]; omega
theorem makes_sum {l : List Ky} {x : List OpS} (h : goodO l x) (hb : x.length ≤ 1048576) : makesP x = sumM x := by
  unfold makesP; rw [fold_m x 0 h (by omega) (by omega)]; omega

def okCl (l : List Ky) (c : Cl) : Prop := mayR c.r = true ∧ mayS l c.s = 0 ∧ partS l (!(c.r == 10)) c.s = []
def vU (l : List Ky) : Un → Prop
  | .ins r s => okCl l ⟨r, s⟩
  | .del => True
  | .ret p => mayP l p = 0
def mU (l : List Ky) : Un → Prop
  | .ins r s => mayR r = true ∧ mayS l s = 0
  | .del => True
  | .ret p => mayP l p = 0
theorem isOp_of {l : List Ky} {o : Opd} (h : oneP l o = 0) : isOp o := by
  obtain ⟨h1, h2, h3, h4, h5⟩ := one_facts h
  obtain ⟨k, n, r, s, p⟩ := o
  unfold formO at h1
  unfold sizeO at h2
  simp only at h1 h2
  by_cases k1 : k = 1
  · subst k1
    rw [if_pos rfl] at h1
    have := of_decide_eq_true h1
    rw [if_neg (by decide)] at h2
    exact .inr (.inr ⟨rfl, h2, List.eq_nil_of_length_eq_zero this.1, List.eq_nil_of_length_eq_zero this.2⟩)
  · rw [if_neg k1] at h1
    by_cases k3 : k = 3
    · subst k3
      rw [if_pos rfl] at h1
      have := of_decide_eq_true h1
      rw [if_neg (by decide)] at h2
      exact .inr (.inl ⟨rfl, h2, List.eq_nil_of_length_eq_zero this.1.1, List.eq_nil_of_length_eq_zero this.1.2, List.eq_nil_of_length_eq_zero this.2⟩)
    · rw [if_neg k3] at h1
      by_cases k2 : k = 2
      · subst k2
        rw [if_pos rfl] at h1 h2
        have := of_decide_eq_true (Bool.and_eq_true_iff.1 h1).1
        exact .inl ⟨rfl, this.1, by intro e; simp only at e; subst e; simp at h2, List.eq_nil_of_length_eq_zero this.2⟩
      · rw [if_neg k2] at h1; cases h1
theorem runes_of {l : List Ky} {o : Opd} (h : oneP l o = 0) (hk : o.k = 2) : ∀ r ∈ o.r, mayR r = true := by
  obtain ⟨h1, _⟩ := one_facts h
  unfold formO at h1
  rw [if_neg (by rw [hk]; decide), if_neg (by rw [hk]; decide), if_pos hk] at h1
  have := (Bool.and_eq_true_iff.1 h1).2
  intro r hr
  rw [Bool.not_eq_true', List.any_eq_false] at this
  simpa using this r hr
theorem one_iff {l : List Ky} {o : Opd} : oneP l o = 0 ↔ isOp o ∧ sizeO o ≤ 536870912 ∧ ∀ u ∈ unitsO o, mU l u := by
  constructor
  · intro h
    obtain ⟨h1, h2, h3, h4, h5⟩ := one_facts h
    refine ⟨isOp_of h, h3, fun u hu => ?_⟩
    rcases isOp_kind (isOp_of h) with hk | hk | hk
    · unfold unitsO at hu
      rw [if_pos hk] at hu
      obtain ⟨r, hr, rfl⟩ := List.mem_map.1 hu
      exact ⟨runes_of h hk r hr, h4⟩
    · unfold unitsO at hu
      rw [if_neg (by rw [hk]; decide), if_neg (by rw [hk]; decide)] at hu
      rw [(List.mem_replicate.1 hu).2]; trivial
    · unfold unitsO at hu
      rw [if_neg (by rw [hk]; decide), if_pos hk] at hu
      rw [(List.mem_replicate.1 hu).2]; exact h5
  · rintro ⟨h1, h2, h3⟩
    have m0 : mayS l [] = 0 := by simp [mayS, riseA, rise]
    have p0 : mayP l [] = 0 := by simp [mayP, riseC, rise]
    rcases isOp_kind h1 with hk | hk | hk
    · obtain ⟨e, hr⟩ := opI_of h1 hk
      obtain ⟨k, n, r, s, p⟩ := o
      rw [e] at h2 h3 ⊢
      simp only at hr
      have hu : ∀ x ∈ r, mayR x = true ∧ mayS l s = 0 := fun x hx => h3 (.ins x s) (by rw [unitsO_I]; exact List.mem_map.2 ⟨x, hx, rfl⟩)
      obtain ⟨x, hx⟩ := List.exists_mem_of_ne_nil r hr
      have hform : formO (opI r s) = true := by
        have hany : r.any (fun r => !mayR r) = false := List.any_eq_false.2 (fun y hy => by simp [(hu y hy).1])
        show (if (2 : Int) = 1 then _ else if (2 : Int) = 3 then _ else if (2 : Int) = 2 then (decide ((0 : Int) = 0 ∧ ([] : List Ch).length = 0) && !r.any (fun r => !mayR r)) else false) = true
        rw [if_neg (by decide), if_neg (by decide), if_pos rfl, hany]
        rfl
      have hsz : 1 ≤ sizeO (opI r s) := by
        show 1 ≤ (if (2 : Int) = 2 then (r.length : Int) else 0)
        rw [if_pos rfl]
        have : r.length ≠ 0 := fun h0 => hr (List.eq_nil_of_length_eq_zero h0)
        omega
      unfold oneP
      rw [if_pos ⟨hform, hsz, h2⟩, if_pos (show mayS l (opI r s).s = 0 from (hu x hx).2)]
      exact p0
    · obtain ⟨e, hn⟩ := opD_of h1 hk
      obtain ⟨k, n, r, s, p⟩ := o
      simp only at hn
      rw [e] at h2 ⊢
      unfold oneP
      rw [if_pos ⟨by simp [formO, opD], by unfold sizeO opD; simp only; rw [if_neg (by decide)]; exact hn, h2⟩, if_pos (show mayS l (opD n).s = 0 from m0)]
      exact p0
    · obtain ⟨e, hn⟩ := opR_of h1 hk
      obtain ⟨k, n, r, s, p⟩ := o
      simp only at hn
      rw [e] at h2 h3 ⊢
      have hp : mayP l p = 0 := h3 (.ret p) (by
        rw [unitsO_R]
        simp only at hn ⊢
        exact List.mem_replicate.2 ⟨by omega, rfl⟩)
      unfold oneP
      rw [if_pos ⟨by simp [formO, opR], by unfold sizeO opR; simp only; rw [if_neg (by decide)]; exact hn, h2⟩, if_pos (show mayS l (opR n p).s = 0 from m0)]
      exact hp
theorem takes_one {o : Opd} (h : isOp o) : (takesU (unitsO o) : Int) = tkI o ∧ (makesU (unitsO o) : Int) = mkI o := by
  have hi : ∀ (r : List Int) (s : List At), takesU (r.map (fun r => Un.ins r s)) = 0 ∧ makesU (r.map (fun r => Un.ins r s)) = r.length := by
    intro r s
    induction r with
    | nil => exact ⟨rfl, rfl⟩
    | cons a r ih => exact ⟨ih.1, by show makesU _ + 1 = _; rw [ih.2]; rfl⟩
  have hr : ∀ (k : Nat) (p : List Ch), takesU (List.replicate k (.ret p)) = k ∧ makesU (List.replicate k (.ret p)) = k := by
    intro k p
    induction k with
    | zero => exact ⟨rfl, rfl⟩
    | succ k ih => rw [List.replicate_succ]; exact ⟨by rw [takesU_r, ih.1], by rw [makesU_r, ih.2]⟩
  rcases isOp_kind h with hk | hk | hk
  · obtain ⟨e, hr⟩ := opI_of h hk
    rw [e, unitsO_I]
    exact ⟨by rw [(hi _ _).1]; rfl, by rw [(hi _ _).2]; rfl⟩
  · obtain ⟨e, hn⟩ := opD_of h hk
    rw [e, unitsO_D, takesU_del, makesU_del]
    exact ⟨by show ((o.n.toNat : Nat) : Int) = o.n; omega, rfl⟩
  · obtain ⟨e, hn⟩ := opR_of h hk
    rw [e, unitsO_R, (hr _ _).1, (hr _ _).2]
    exact ⟨by show ((o.n.toNat : Nat) : Int) = o.n; omega, by show ((o.n.toNat : Nat) : Int) = o.n; omega⟩
theorem sums_units : ∀ (x : List OpS), (∀ o ∈ x, isOp o.o) → (takesU (units (osOf x)) : Int) = sumT x ∧ (makesU (units (osOf x)) : Int) = sumM x
  | [], _ => ⟨rfl, rfl⟩
  | o :: x, h => by
    obtain ⟨h1, h2⟩ := sums_units x (fun z hz => h z (List.mem_cons_of_mem _ hz))
    obtain ⟨g1, g2⟩ := takes_one (h o (by simp))
    show ((takesU (units (o.o :: osOf x)) : Nat) : Int) = tkI o.o + sumT x ∧ ((makesU (units (o.o :: osOf x)) : Nat) : Int) = mkI o.o + sumM x
    rw [units_cons, takesU_append, makesU_append]
    omega
theorem good_isOp {l : List Ky} {x : List OpS} (h : goodO l x) : ∀ o ∈ x, isOp o.o := fun o ho => isOp_of (h o ho)
theorem units_mem {x : List OpS} {u : Un} : u ∈ units (osOf x) ↔ ∃ o ∈ x, u ∈ unitsO o.o := by
  unfold units osOf
  rw [List.mem_flatMap]
  constructor
  · rintro ⟨a, ha, hu⟩; obtain ⟨o, ho, rfl⟩ := List.mem_map.1 ha; exact ⟨o, ho, hu⟩
  · rintro ⟨o, ho, hu⟩; exact ⟨o.o, List.mem_map.2 ⟨o, ho, rfl⟩, hu⟩
theorem good_mU {l : List Ky} {x : List OpS} (h : goodO l x) : ∀ u ∈ units (osOf x), mU l u := fun u hu => by
  obtain ⟨o, ho, hu⟩ := units_mem.1 hu
  exact (one_iff.1 (h o ho)).2.2 u hu
theorem size_le {x : List OpS} (h : ∀ o ∈ x, isOp o.o) {o : OpS} (ho : o ∈ x) : sizeO o.o ≤ takesU (units (osOf x)) + makesU (units (osOf x)) := by
  induction x with
  | nil => cases ho
  | cons a x ih =>
    have e : units (osOf (a :: x)) = unitsO a.o ++ units (osOf x) := rfl
    rw [e, takesU_append, makesU_append]
    rcases List.mem_cons.1 ho with rfl | hm
    · have hop := h o (by simp)
      obtain ⟨t1, t2⟩ := takes_one hop
      unfold tkI at t1
      unfold mkI at t2
      unfold sizeO at *
      rcases isOp_kind hop with hk | hk | hk
      · rw [if_pos hk] at t2 ⊢; rw [if_neg (by rw [hk]; decide)] at t2; omega
      · rw [if_neg (by rw [hk]; decide)] at t1 ⊢; omega
      · rw [if_neg (by rw [hk]; decide)] at t1 ⊢; omega
    · have := ih (fun z hz => h z (List.mem_cons_of_mem _ hz)) hm; omega
theorem op_le {x : List OpS} (h : ∀ o ∈ x, isOp o.o) {o : OpS} (ho : o ∈ x) (ht : takesU (units (osOf x)) ≤ 536870912) (hm : makesU (units (osOf x)) ≤ 536870912) : sizeO o.o ≤ 536870912 := by
  induction x with
  | nil => cases ho
  | cons a x ih =>
    have e : units (osOf (a :: x)) = unitsO a.o ++ units (osOf x) := rfl
    rw [e, takesU_append] at ht
    rw [e, makesU_append] at hm
    rcases List.mem_cons.1 ho with rfl | hmem
    · have hop := h o (by simp)
      obtain ⟨t1, t2⟩ := takes_one hop
      unfold tkI at t1
      unfold mkI at t2
      rcases isOp_kind hop with hk | hk | hk
      · rw [if_neg (by rw [hk]; decide)] at t2; omega
      · rw [if_neg (by rw [hk]; decide)] at t1
        have : sizeO o.o = o.o.n := by unfold sizeO; rw [if_neg (by rw [hk]; decide)]
        omega
      · rw [if_neg (by rw [hk]; decide)] at t1
        have : sizeO o.o = o.o.n := by unfold sizeO; rw [if_neg (by rw [hk]; decide)]
        omega
    · exact ih (fun z hz => h z (List.mem_cons_of_mem _ hz)) hmem (by omega) (by omega)
theorem units_good {l : List Ky} {x : List OpS} (h : ∀ o ∈ x, isOp o.o) (hu : ∀ u ∈ units (osOf x), mU l u) (ht : takesU (units (osOf x)) ≤ 536870912) (hm : makesU (units (osOf x)) ≤ 536870912) : goodO l x := fun o ho =>
  one_iff.2 ⟨h o ho, op_le h ho ht hm, fun u hu2 => hu u (units_mem.2 ⟨o, ho, hu2⟩)⟩
end Go.Proofs.YtfnkjcodcoehcaaGreatDoor
