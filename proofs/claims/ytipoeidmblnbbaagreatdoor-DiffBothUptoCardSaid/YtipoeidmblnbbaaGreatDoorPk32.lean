/- Merged texts: NormLaw, WholeLaw, NormOf. -/
import Derived.Test.YtipoeidmblnbbaaGreatDoorPk25
import Derived.Test.YtipoeidmblnbbaaGreatDoorPk30
import Derived.Test.YtipoeidmblnbbaaGreatDoorMkIns3Pd
import Derived.Test.YtipoeidmblnbbaaGreatDoorPk23
import Derived.Test.YtipoeidmblnbbaaGreatDoorMkOpsPd
/- A delta's normal form as a plain function. Plain mathematics. -/
namespace Go.Proofs.YtipoeidmblnbbaaGreatDoor
set_option linter.unusedVariables false
set_option linter.unusedSimpArgs false

def tellO (m : Mk) (o : Opd) : Mk := if o.k = 1 then mkRetain m o.n o.p else if o.k = 2 then mkInsert m o.r o.s else mkDelete m o.n
def ofM (x : List Opd) : Mk := x.foldl tellO Mk.new
theorem ofM_snoc (x : List Opd) (o : Opd) : ofM (x ++ [o]) = tellO (ofM x) o := by unfold ofM; rw [List.foldl_append]; rfl
theorem MkB.tellO {m : Mk} {K S : Nat} (h : MkB m K S) {o : Opd} (hs : o.s.length ≤ S) (hp : o.p.length ≤ S) : MkB (tellO m o) (K + 2 * (1 + o.r.length)) S := by
  unfold Go.Proofs.YtipoeidmblnbbaaGreatDoor.tellO
  split
  · exact (h.retain o.n hp).mono (by omega) (Nat.le_refl _)
  · split
    · exact (h.insert o.r hs).mono (by omega) (Nat.le_refl _)
    · exact (h.delete o.n).mono (by omega) (Nat.le_refl _)
/-- ops and their runes, counted -/
def szN (x : List OpS) : Nat := (x.map (fun o => 1 + o.o.r.length)).sum
theorem szN_cons (o : OpS) (x : List OpS) : szN (o :: x) = 1 + o.o.r.length + szN x := rfl
theorem szN_len (x : List OpS) : x.length ≤ szN x := by
  induction x with
  | nil => exact Nat.zero_le _
  | cons a x ih => rw [szN_cons, List.length_cons]; omega
theorem szN_mem {x : List OpS} {o : OpS} (h : o ∈ x) : o.o.r.length ≤ szN x := by
  induction x with
  | nil => cases h
  | cons a x ih =>
    rw [szN_cons]
    rcases List.mem_cons.1 h with rfl | h
    · omega
    · have := ih h; omega
theorem szN_take (x : List OpS) (i : Nat) : szN (x.take i) ≤ szN x := sum_take_le (fun o : OpS => 1 + o.o.r.length) x i
theorem szN_le (x : List OpS) : szN x ≤ szX x := by
  induction x with
  | nil => exact Nat.zero_le _
  | cons a x ih =>
    have e : szX (a :: x) = szO a.o + szX x := rfl
    rw [szN_cons, e]
    unfold szO; omega
theorem ofM_B {S : Nat} : ∀ (x : List OpS) {m : Mk} {K : Nat}, MkB m K S → (∀ o ∈ x, o.o.s.length ≤ S ∧ o.o.p.length ≤ S) → MkB ((osOf x).foldl tellO m) (K + 2 * szN x) S
  | [], m, K, h, _ => h
  | o :: x, m, K, h, hs => by
    have h1 := h.tellO (hs o (by simp)).1 (hs o (by simp)).2
    have h2 := ofM_B x h1 (fun z hz => hs z (List.mem_cons_of_mem _ hz))
    rw [szN_cons]
    exact h2.mono (by omega) (Nat.le_refl _)
theorem ofM_bndN {S : Nat} (x : List OpS) (hs : ∀ o ∈ x, o.o.s.length ≤ S ∧ o.o.p.length ≤ S) : MkB (ofM (osOf x)) (2 * szN x) S := by
  have := ofM_B x (MkB.new S) hs
  rwa [Nat.zero_add] at this
theorem ofM_bnd {S : Nat} (x : List OpS) (hs : ∀ o ∈ x, o.o.s.length ≤ S ∧ o.o.p.length ≤ S) : MkB (ofM (osOf x)) (2 * szX x) S :=
  (ofM_bndN x hs).mono (by have := szN_le x; omega) (Nat.le_refl _)
theorem tellO_told {m : Mk} {us : List Un} (h : Told m us) {o : Opd} (ho : isOp o) (hb : (us.length : Int) + o.n ≤ 4611686018427387904) (hb2 : us.length ≤ 4611686018427387904) : Told (tellO m o) (us ++ unitsO o) := by
  unfold tellO unitsO
  rcases isOp_kind ho with hk | hk | hk
  · rw [if_neg (by rw [hk]; decide), if_pos hk, if_pos hk]; exact h.insert _ _
  · rw [if_neg (by rw [hk]; decide), if_neg (by rw [hk]; decide), if_neg (by rw [hk]; decide), if_neg (by rw [hk]; decide)]; exact h.delete _ hb hb2
  · rw [if_pos hk, if_neg (by rw [hk]; decide), if_pos hk]; exact h.retain _ _ hb
theorem units_length {us : List Un} : us.length ≤ takesU us + makesU us := by
  induction us with
  | nil => exact Nat.zero_le _
  | cons u us ih =>
    cases u with
    | ins r s => rw [takesU_i, makesU_i, List.length_cons]; omega
    | del => rw [takesU_d, makesU_d, List.length_cons]; omega
    | ret p => rw [takesU_r, makesU_r, List.length_cons]; omega
theorem ofM_told' : ∀ (x : List Opd) {m : Mk} {us : List Un}, Told m us → (∀ o ∈ x, isOp o) → us.length + (units x).length ≤ 4000000000 → Told (x.foldl tellO m) (us ++ units x)
  | [], m, us, h, _, _ => by rw [units_nil, List.append_nil]; exact h
  | o :: x, m, us, h, hi, hb => by
    rw [units_cons, List.length_append] at hb
    have ho := hi o (by simp)
    have hn : o.n ≤ (unitsO o).length := by
      unfold unitsO
      rcases isOp_kind ho with hk | hk | hk
      · obtain ⟨e, hr⟩ := opI_of ho hk
        rw [if_pos hk, e]
        show (0 : Int) ≤ _
        omega
      · rw [if_neg (by rw [hk]; decide), if_neg (by rw [hk]; decide), List.length_replicate]; omega
      · rw [if_neg (by rw [hk]; decide), if_pos hk, List.length_replicate]; omega
    have h1 := tellO_told h ho (by omega) (by omega)
    have h2 := ofM_told' x h1 (fun z hz => hi z (List.mem_cons_of_mem _ hz)) (by rw [List.length_append]; omega)
    rw [List.append_assoc] at h2
    rw [units_cons]
    exact h2
theorem ofM_told (x : List Opd) (hi : ∀ o ∈ x, isOp o) (hb : (units x).length ≤ 4000000000) : Told (ofM x) (units x) := by
  have := ofM_told' x Told.new hi (by simpa using hb)
  rwa [List.nil_append] at this
end Go.Proofs.YtipoeidmblnbbaaGreatDoor
/- What fits within a great most fits within a small one that it does not pass; how much longer a document comes. Plain mathematics. -/
namespace Go.Proofs.YtipoeidmblnbbaaGreatDoor
set_option linter.unusedVariables false
set_option linter.unusedSimpArgs false

theorem fits_up {l : List Ky} {x : List OpS} {n a b : Int} (h : fitsO l x n a = 0) (hab : a ≤ b) : fitsO l x n b = 0 := by
  obtain ⟨h1, h2, h3, h4, h5, h6, h7⟩ := fits_zero h
  exact zero_fits h1 h2 (by omega) h4 h5 h6 (by omega)
theorem fits_down {l : List Ky} {x : List OpS} {n a b : Int} (h : fitsO l x n b = 0) (h2 : n ≤ a) (h3 : longO n x ≤ a) : fitsO l x n a = 0 := by
  obtain ⟨g1, g2, g3, g4, g5, g6, g7⟩ := fits_zero h
  exact zero_fits g1 g2 h2 g4 g5 g6 h3
theorem applyN_up {l : List Ky} {x : List OpS} {d : List Cl} {a b : Int} (h : applyN l x d a = 0) (hab : a ≤ b) : applyN l x d b = 0 := by
  obtain ⟨h1, h2⟩ := applyN_zero h
  exact zero_applyN h1 (fits_up h2 hab)
theorem makes_sz {x : List OpS} (hi : ∀ o ∈ x, isOp o.o) : makesU (units (osOf x)) ≤ szX x + takesU (units (osOf x)) := by
  induction x with
  | nil => exact Nat.zero_le _
  | cons o x ih =>
    have e : units (osOf (o :: x)) = unitsO o.o ++ units (osOf x) := rfl
    have e2 : szX (o :: x) = szO o.o + szX x := rfl
    rw [e, makesU_append, takesU_append, e2]
    have h1 := ih (fun z hz => hi z (List.mem_cons_of_mem _ hz))
    have h2 := makes_small (hi o (by simp))
    unfold szO
    omega
/-- a small most that does as well -/
theorem whole_most {l : List Ky} {x : List OpS} {d : List Cl} {most : Int} (hx : x.length ≤ 1048576) (hz : szX x ≤ 5000) (hd : d.length ≤ 400) (h : applyN l x d most = 0) : ∃ N : Nat, N ≤ 10000 ∧ (N : Int) ≤ most ∧ applyN l x d (N : Int) = 0 := by
  obtain ⟨h1, h2⟩ := applyN_zero h
  obtain ⟨g1, g2, g3, g4, g5, g6, g7⟩ := fits_zero h2
  obtain ⟨m1, m2, m3⟩ := mayO_zero g1
  obtain ⟨s1, s2⟩ := sums_units x (good_isOp m1)
  have ht := takes_sum m1 hx
  have hm := makes_sum m1 hx
  have hl := longO_is (n := (d.length : Int)) m1 hx (by omega) (by omega) m2 m3
  have hs := makes_sz (good_isOp m1)
  rw [hl] at g7
  refine ⟨max d.length (d.length + makesU (units (osOf x)) - takesU (units (osOf x))), by omega, by omega, zero_applyN h1 (fits_down h2 (by omega) (by rw [hl]; omega))⟩
/-- how much longer an op makes a document -/
def growO (o : Opd) : Int := if o.k = 2 then o.r.length else if o.k = 3 then -o.n else 0
def growX (x : List OpS) : Int := (x.map (fun o => growO o.o)).sum
theorem growX_nil : growX [] = 0 := rfl
theorem growX_cons (o : OpS) (x : List OpS) : growX (o :: x) = growO o.o + growX x := rfl
theorem growX_append (x y : List OpS) : growX (x ++ y) = growX x + growX y := by
  induction x with
  | nil => rw [List.nil_append, growX_nil]; omega
  | cons o x ih => rw [List.cons_append, growX_cons, growX_cons, ih]; omega
theorem growX_units {x : List OpS} (hi : ∀ o ∈ x, isOp o.o) : growX x = (makesU (units (osOf x)) : Int) - (takesU (units (osOf x)) : Int) := by
  induction x with
  | nil => rfl
  | cons o x ih =>
    have e : units (osOf (o :: x)) = unitsO o.o ++ units (osOf x) := rfl
    rw [e, makesU_append, takesU_append, growX_cons, ih (fun z hz => hi z (List.mem_cons_of_mem _ hz))]
    obtain ⟨t1, t2⟩ := takes_one (hi o (by simp))
    have hg : growO o.o = mkI o.o - tkI o.o := by
      unfold growO mkI tkI sizeO
      rcases isOp_kind (hi o (by simp)) with hk | hk | hk <;> rw [hk] <;> simp
    rw [hg, ← t1, ← t2]
    omega
/-- on the way it stays small -/
theorem growX_take {x : List OpS} (hi : ∀ o ∈ x, isOp o.o) (i : Nat) : -(takesU (units (osOf x)) : Int) ≤ growX (x.take i) ∧ growX (x.take i) ≤ (makesU (units (osOf x)) : Int) := by
  rw [growX_units (fun o ho => hi o (List.mem_of_mem_take ho))]
  have e : units (osOf x) = units (osOf (x.take i)) ++ units (osOf (x.drop i)) := by
    conv => lhs; rw [← List.take_append_drop i x]
    unfold osOf
    rw [List.map_append, units_append]
  rw [e, takesU_append, makesU_append]
  omega
end Go.Proofs.YtipoeidmblnbbaaGreatDoor
/- The walk of normal.Of. -/
namespace Go.Proofs.YtipoeidmblnbbaaGreatDoor
open Go.RowKit
set_option linter.unusedVariables false
set_option linter.unusedSimpArgs false

set_option maxRecDepth 100000 in
set_option maxHeartbeats 3200000 in
theorem normOfN_any (A : Option Addr) (n c : Nat) (x : List OpS) (w : World) (hn : n = x.length) (h : RdOp w w.heap.size A x) (hz : szN x ≤ 2000000) (hz2 : ∀ o ∈ x, o.o.s.length ≤ 1000000 ∧ o.o.p.length ≤ 1000000) :
    Calls Tryz.prog 31 #[.slice A n c] w (NewOps (mkOps (ofM (osOf x))) w) := by
  have N := Lib.hid hn
  have HR := Lib.hid h.1
  have HP := Lib.hid h.2
  have SZ : Hid (∀ o ∈ x, o.o.r.length ≤ 2000000 ∧ o.o.s.length ≤ 1000000 ∧ o.o.p.length ≤ 1000000) := Lib.hid (fun o ho => by
    have h1 := szN_mem ho
    have h2 := hz2 o ho
    omega)
  have NB : Hid (n ≤ 2000000) := Lib.hid (by
    have h1 := szN_len x
    omega)
  have HB : Hid (∀ i, MkB (ofM (osOf (x.take i))) 4000000 1000000) := Lib.hid (fun i => by
    have h1 := ofM_bndN (S := 1000000) (x.take i) (fun o ho => ⟨(SZ.out o (List.mem_of_mem_take ho)).2.1, (SZ.out o (List.mem_of_mem_take ho)).2.2⟩)
    have h2 := szN_take x i
    exact h1.mono (by omega) (Nat.le_refl _))
  clear hz2
  clear hn h hz
  go_enter Tryz.func31, Tryz.ntmps31
  go_wp2_with (fail)
  go_step3
  go_wp2_with (go_at_call 51; refine Hid.out ?_)
  refine Lib.hid ?_
  refine (mkNew_any w).mono ?_
  rintro e w1 ⟨rfl, hm, y1⟩
  have HM := Lib.hid hm
  have Y1 := Lib.hid y1
  clear hm y1
  have hF : ∀ k, k = w.heap.size → w.heap.size ≤ k := fun k hk => by omega
  have HR1 : Hid (Rd OpS.enc 5 w1 w1.heap.size A x ∧ OffF (fun k => k = w.heap.size) A x.length ∧ ∀ o ∈ x, (RdI32 w1 w1.heap.size o.Ar o.o.r ∧ OffF (fun k => k = w.heap.size) o.Ar o.o.r.length) ∧ (RdAt w1 w1.heap.size o.As o.o.s ∧ OffF (fun k => k = w.heap.size) o.As o.o.s.length) ∧ (RdCh w1 w1.heap.size o.Ap o.o.p ∧ OffF (fun k => k = w.heap.size) o.Ap o.o.p.length)) :=
    Lib.hid ⟨HR.out.ext Y1.out, HR.out.offF hF, fun o ho => ⟨⟨(HP.out o ho).1.ext Y1.out, (HP.out o ho).1.offF hF⟩, ⟨(HP.out o ho).2.1.ext Y1.out, (HP.out o ho).2.1.offF hF⟩, ⟨(HP.out o ho).2.2.ext Y1.out, (HP.out o ho).2.2.offF hF⟩⟩⟩
  go_wp2_with (fail)
  go_step3
  go_wp2_with (fail)
  go_loopg [9] n (fun g iv wr => ∃ (i : Nat) (F' : Nat → Prop), i ≤ n ∧ g = n - i ∧ iv = .int .i64 (i : Int) ∧ Mkr wr F' w.heap.size (ofM (osOf (x.take i))) ∧ Grow w1 (fun k => k = w.heap.size) wr F')
  case atStart => exact ⟨0, fun k => k = w.heap.size, by omega, rfl, rfl, HM.out, Grow.refl _ _⟩
  case round =>
    obtain ⟨i, F', hi, hg, rfl, hm, gr⟩ := hrel
    have HG := Lib.hid hg
    have HM := Lib.hid hm
    clear hg hm
    by_cases hlt : i < n
    · have hl1 : i < x.length := by have := N.out; omega
      have hlt' : (i : Int) < (n : Int) := by omega
      obtain ⟨ad, o, rfl, had, _, hx1, hc1⟩ := (HR1.out.1.grow gr HR1.out.2.1).el hl1
      have hom := List.mem_of_getElem? hx1
      have HT : Hid (ofM (osOf (x.take (i + 1))) = tellO (ofM (osOf (x.take i))) o.o) := Lib.hid (by
        have e : osOf (x.take (i + 1)) = osOf (x.take i) ++ [o.o] := by unfold osOf; rw [List.take_add_one, hx1]; simp
        rw [e, ofM_snoc])
      obtain ⟨⟨p1, f1⟩, ⟨p2, f2⟩, ⟨p3, f3⟩⟩ := HR1.out.2.2 o hom
      have PR := Lib.hid (p1.grow gr f1)
      have PS := Lib.hid (p2.grow gr f2)
      have PP := Lib.hid (p3.grow gr f3)
      have FP := Lib.hid (f3.grow p3 gr)
      have SO := Lib.hid (SZ.out o hom)
      have MB := Lib.hid (HB.out i)
      obtain ⟨⟨k, nn, r, s, q⟩, Ar, cr, As, cs, Ap, cp⟩ := o
      obtain ⟨z0, z1, z2, z3, z4⟩ := op_cells hc1
      have yb := ext_alloc wr (.cells #[.int .u8 k, .int .i64 nn, .slice Ar r.length cr, .slice As s.length cs, .slice Ap q.length cp] 46)
      have hbx := heap_alloc_new wr (.cells #[.int .u8 k, .int .i64 nn, .slice Ar r.length cr, .slice As s.length cs, .slice Ap q.length cp] 46)
      obtain ⟨q0, q1, q2, q3, q4⟩ := box_at hbx
      have Y := Lib.hid yb
      have hw2 : IntKind.i64.wrap ((i:Int) + 1) = (i : Int) + 1 := IntWalk.i64_in _ (by have := NB.out; omega)
      clear hx1 hom hl1 hc1 had yb hbx p1 f1 p2 f2 p3 f3
      by_cases hk : k = 1
      · subst hk
        have HT2 : Hid (ofM (osOf (x.take (i + 1))) = mkRetain (ofM (osOf (x.take i))) nn q) := Lib.hid HT.out
        go_wp2_with (go_at_call 52; refine Hid.out ?_)
        refine Lib.hid ?_
        refine (mkRetain_any w.heap.size Ap nn q.length cp q _ F' (ofM (osOf (x.take i))) (HM.out.below Y.out) rfl (PP.out.ext Y.out) FP.out (by have := SO.out.2.2; omega) (by have := MB.out.len; omega) (fun o ho => by have := (MB.out.gap.2 o ho).2.2; omega)).mono ?_
        rintro e w3 ⟨rfl, F3, hm3, g3⟩
        have gg := gr.trans ((Grow.of Y.out).trans g3)
        rw [← HT2.out] at hm3
        have HM3 := Lib.hid hm3
        clear hm3
        go_wp2_with (fail)
        go_roundg (n - (i + 1))
        case measure => have := HG.out; omega
        case rel => exact ⟨i + 1, F3, by omega, rfl, by go_num, HM3.out, gg⟩
      by_cases hk2 : k = 2
      · have hk := hk2
        clear hk2
        have hk1 : ¬ (2 : Int) = 1 := by decide
        subst hk
        have HT2 : Hid (ofM (osOf (x.take (i + 1))) = mkInsert (ofM (osOf (x.take i))) r s) := Lib.hid HT.out
        go_wp2_with (go_at_call 53; refine Hid.out ?_)
        refine Lib.hid ?_
        refine (mkInsert_any w.heap.size Ar As r.length cr s.length cs r s _ F' (ofM (osOf (x.take i))) (HM.out.below Y.out) rfl rfl (PR.out.ext Y.out) (PS.out.ext Y.out) (by have := SO.out.1; omega) (by have := SO.out.2.1; omega) (by have := MB.out.len; omega) (fun o ho => by obtain ⟨h1, h2, h3⟩ := MB.out.prt o (List.mem_append_right _ ho); exact ⟨by omega, by omega⟩)).mono ?_
        rintro e w3 ⟨rfl, F3, hm3, g3⟩
        have gg := gr.trans ((Grow.of Y.out).trans g3)
        rw [← HT2.out] at hm3
        have HM3 := Lib.hid hm3
        clear hm3
        go_wp2_with (fail)
        go_roundg (n - (i + 1))
        case measure => have := HG.out; omega
        case rel => exact ⟨i + 1, F3, by omega, rfl, by go_num, HM3.out, gg⟩
      · have HT2 : Hid (ofM (osOf (x.take (i + 1))) = mkDelete (ofM (osOf (x.take i))) nn) := Lib.hid (HT.out.trans (by unfold tellO; rw [if_neg hk, if_neg hk2]))
        have hk' : (k == 1) = false := beq_eq_false_iff_ne.2 hk
        have hk2' : (k == 2) = false := beq_eq_false_iff_ne.2 hk2
        go_wp2_with (go_at_call 62; refine Hid.out ?_)
        refine Lib.hid ?_
        refine (mkDelete_any w.heap.size nn _ F' (ofM (osOf (x.take i))) (HM.out.below Y.out)).mono ?_
        rintro e w3 ⟨rfl, F3, hm3, g3⟩
        have gg := gr.trans ((Grow.of Y.out).trans g3)
        rw [← HT2.out] at hm3
        have HM3 := Lib.hid hm3
        clear hm3
        go_wp2_with (fail)
        go_roundg (n - (i + 1))
        case measure => have := HG.out; omega
        case rel => exact ⟨i + 1, F3, by omega, rfl, by go_num, HM3.out, gg⟩
    · have hin : i = n := by omega
      subst hin
      have hlt' : ¬ (i : Int) < (i : Int) := by omega
      have hm := HM.out
      rw [List.take_of_length_le (by rw [← N.out]; exact Nat.le_refl _)] at hm
      have HMF : Hid (Mkr wr F' w.heap.size (ofM (osOf x))) := Lib.hid hm
      have BF := Lib.hid (HB.out i)
      have EX : Hid (x.take i = x) := Lib.hid (List.take_of_length_le (by rw [← N.out]; exact Nat.le_refl _))
      rw [EX.out] at BF
      have y34 := Lib.hid (Y1.out.trans (gr.below (B := w.heap.size) hF Y1.out.size))
      clear hm gr
      go_wp2_with (go_at_call 54; refine Hid.out ?_)
      refine Lib.hid ?_
      refine (mkOps_any _ wr F' (ofM (osOf x)) HMF.out (by have := BF.out.len; omega) (fun o ho => by obtain ⟨h1, h2, h3⟩ := BF.out.gap.2 o ho; exact ⟨by omega, by omega, by omega⟩)).mono ?_
      intro e w5 hN
      have hN2 := hN.late y34.out
      obtain ⟨A2, c2, l2, rfl, hM⟩ := hN2
      go_wp2_with (fail)
      go_ret
      exact ⟨A2, c2, l2, rfl, hM⟩
theorem normOf_any (A : Option Addr) (n c : Nat) (x : List OpS) (w : World) (hn : n = x.length) (h : RdOp w w.heap.size A x) (hz : szX x ≤ 500000) :
    Calls Tryz.prog 31 #[.slice A n c] w (NewOps (mkOps (ofM (osOf x))) w) :=
  normOfN_any A n c x w hn h (by have := szN_le x; omega) (fun o ho => by
    have h1 := szX_mem ho
    unfold szO at h1
    omega)
end Go.Proofs.YtipoeidmblnbbaaGreatDoor
