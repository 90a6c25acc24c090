/- Merged texts: OpFits, OpLaw, OpUnits. -/
import Derived.Test.YtfnkjcodcoehcaaGreatDoorY9
import Derived.Test.YtfnkjcodcoehcaaGreatDoorY7
namespace Go.Proofs.YtfnkjcodcoehcaaGreatDoor
open Go.RowKit
set_option linter.unusedVariables false
set_option linter.unusedSimpArgs false

def longO (n : Int) (x : List OpS) : Int := IntKind.i64.wrap (IntKind.i64.wrap (n - takesP x) + makesP x)
def fitsO (l : List Ky) (x : List OpS) (n most : Int) : Int :=
  if ¬ mayO l x = 0 then mayO l x
  else if n < 1 ∨ most < n ∨ n < takesP x then 5
  else if finalP n x = false then 6
  else if placeP l x = false then 7
  else if most < longO n x then 8 else 0

set_option maxRecDepth 100000 in
set_option maxHeartbeats 1600000 in
theorem fitsO_any (sc : Nat) (l : List Ky) (A : Option Addr) (n c : Nat) (x : List OpS) (lim most : Int) (w : World) (hn : n = x.length) (h : RdOp w w.heap.size A x) (hb : n ≤ 140737488355328) (hS : Sch w sc l) (ho : ∀ o ∈ x, okOp o.o) (hT : Lib.Utf8Tabs 1 2 w) :
    Calls Tryz.prog 89 #[.pointer (some ⟨sc, 0, none⟩), .slice A n c, .int .i64 lim, .int .i64 most] w fun e w' => e = .returned (.int .i64 (fitsO l x lim most)) ∧ Below w.heap.size w w' := by
  have N := Lib.hid hn
  obtain ⟨R, hR⟩ : ∃ X, fitsO l x lim most = X := ⟨_, rfl⟩
  rw [hR]
  unfold fitsO at hR
  have HR := Lib.hid hR
  clear hn hR
  have y := Below.refl w.heap.size w
  go_enter Tryz.func89, Tryz.ntmps89
  go_wp2_with (go_at_call 88; refine Hid.out ?_)
  refine Lib.hid ?_
  refine (mayO_any sc l A n c x w N.out h hb hS ho hT).mono ?_
  rintro e w1 ⟨rfl, y1⟩
  replace y := ext_trans y y1
  clear y1
  generalize mayO l x = E at HR ⊢
  by_cases hE : E = 0
  rotate_left
  · have hne : (E == 0) = false := beq_eq_false_iff_ne.2 hE
    have HE : Hid (E = R) := Lib.hid (by rw [← HR.out, if_pos hE])
    clear hE
    go_wp2_with (fail)
    go_ret
    exact ⟨ret_int HE.out, y⟩
  subst hE
  have HR2 : Hid ((if lim < 1 ∨ most < lim ∨ lim < takesP x then 5 else if finalP lim x = false then 6 else if placeP l x = false then 7 else if most < longO lim x then 8 else 0) = R) := Lib.hid (by rw [← HR.out, if_neg (show ¬ ¬ ((0 : Int) = 0) by simp)])
  clear HR
  by_cases h1 : lim < 1
  · go_wp2_with (fail)
    go_ret
    exact ⟨ret_int (by rw [← HR2.out, if_pos (.inl h1)]), y⟩
  by_cases h2 : most < lim
  · go_wp2_with (fail)
    go_ret
    exact ⟨ret_int (by rw [← HR2.out, if_pos (.inr (.inl h2))]), y⟩
  go_wp2_with (go_at_call 104; refine Hid.out ?_)
  refine Lib.hid ?_
  refine (takes_any A n c x _ N.out (h.ext y).1 hb).mono ?_
  rintro e w2 ⟨rfl, y1⟩
  replace y := ext_trans y y1
  clear y1
  obtain ⟨T, hT'⟩ : ∃ X, takesP x = X := ⟨_, rfl⟩
  rw [hT'] at HR2 ⊢
  have HTK := Lib.hid hT'
  clear hT'
  by_cases h3 : lim < T
  · go_wp2_with (fail)
    go_ret
    exact ⟨ret_int (by rw [← HR2.out, if_pos (.inr (.inr h3))]), y⟩
  have HR3 : Hid ((if finalP lim x = false then 6 else if placeP l x = false then 7 else if most < longO lim x then 8 else 0) = R) := Lib.hid (by rw [← HR2.out, if_neg (show ¬ (lim < 1 ∨ most < lim ∨ lim < T) by omega)])
  clear HR2
  go_wp2_with (go_at_call 162; refine Hid.out ?_)
  refine Lib.hid ?_
  refine (final_any A n c x lim _ N.out (h.ext y).1 hb).mono ?_
  rintro e w3 ⟨rfl, y1⟩
  replace y := ext_trans y y1
  clear y1
  generalize finalP lim x = F at HR3 ⊢
  cases F with
  | false =>
    go_wp2_with (fail)
    go_ret
    exact ⟨ret_int (by rw [← HR3.out]; simp), y⟩
  | true =>
    have HR4 : Hid ((if placeP l x = false then 7 else if most < longO lim x then 8 else 0) = R) := Lib.hid (by rw [← HR3.out, if_neg (show ¬ (true = false) by simp)])
    clear HR3
    go_wp2_with (go_at_call 163; refine Hid.out ?_)
    refine Lib.hid ?_
    refine (inPlace_any sc l A n c x _ N.out (h.ext y) hb (hS.ext y) ho).mono ?_
    rintro e w4 ⟨rfl, y1⟩
    replace y := ext_trans y y1
    clear y1
    generalize placeP l x = G at HR4 ⊢
    cases G with
    | false =>
      go_wp2_with (fail)
      go_ret
      exact ⟨ret_int (by rw [← HR4.out]; simp), y⟩
    | true =>
      have HR5 : Hid ((if most < longO lim x then 8 else 0) = R) := Lib.hid (by rw [← HR4.out, if_neg (show ¬ (true = false) by simp)])
      clear HR4
      go_wp2_with (go_at_call 104; refine Hid.out ?_)
      refine Lib.hid ?_
      refine (takes_any A n c x _ N.out (h.ext y).1 hb).mono ?_
      rintro e w5 ⟨rfl, y1⟩
      replace y := ext_trans y y1
      clear y1
      rw [HTK.out]
      obtain ⟨D, hD⟩ : ∃ D, IntKind.i64.wrap (lim - T) = D := ⟨_, rfl⟩
      go_wp2_with (go_at_call 105; refine Hid.out ?_)
      refine Lib.hid ?_
      refine (makes_any A n c x _ N.out (h.ext y).1 hb).mono ?_
      rintro e w6 ⟨rfl, y1⟩
      replace y := ext_trans y y1
      clear y1
      obtain ⟨U, hU⟩ : ∃ X, makesP x = X := ⟨_, rfl⟩
      rw [hU]
      obtain ⟨G, hG⟩ : ∃ G, IntKind.i64.wrap (D + U) = G := ⟨_, rfl⟩
      have HLO : Hid (longO lim x = G) := Lib.hid (by unfold longO; rw [HTK.out, hD, hU, hG])
      clear hU
      by_cases h5 : most < G
      · go_wp2_with (fail)
        go_ret
        exact ⟨ret_int (by rw [← HR5.out, HLO.out, if_pos h5]), y⟩
      · go_wp2_with (fail)
        go_ret
        exact ⟨ret_int (by rw [← HR5.out, HLO.out, if_neg (show ¬ most < G by omega)]), y⟩

def goodO (l : List Ky) (x : List OpS) : Prop := ∀ o ∈ x, oneP l o.o = 0
theorem goodO.tail {l : List Ky} {o : OpS} {x : List OpS} (h : goodO l (o :: x)) : goodO l x := fun z hz => h z (List.mem_cons_of_mem _ hz)
theorem fold_one {l : List Ky} : ∀ (x : List OpS) (a : Int), (x.foldl (mayStep l) (false, a)).1 = false → (x.foldl (mayStep l) (false, a)).2 = 0 → a = 0 ∧ goodO l x
  | [], a, _, h => ⟨h, fun z hz => by cases hz⟩
  | o :: x, a, h1, h2 => by
    rw [List.foldl_cons] at h1 h2
    unfold mayStep at h1 h2
    simp only [Bool.false_eq_true, if_false] at h1 h2
    by_cases h3 : oneP l o.o = 3
    · rw [if_pos h3] at h1
      have := mayStep_true l 3 x
      unfold mayStep at this
      rw [this] at h1; cases h1
    · rw [if_neg h3] at h1 h2
      obtain ⟨h4, h5⟩ := fold_one x _ h1 h2
      by_cases h0 : oneP l o.o = 0
      · rw [if_pos h0] at h4
        refine ⟨h4, fun z hz => ?_⟩
        rcases List.mem_cons.1 hz with rfl | hz
        · exact h0
        · exact h5 z hz
      · rw [if_neg h0] at h4; exact absurd h4 h0
theorem one_fold {l : List Ky} : ∀ (x : List OpS), goodO l x → x.foldl (mayStep l) (false, 0) = (false, 0)
  | [], _ => rfl
  | o :: x, h => by
    rw [List.foldl_cons]
    have h0 := h o (by simp)
    have : mayStep l (false, 0) o = (false, 0) := by unfold mayStep; simp [h0]
    rw [this]
    exact one_fold x h.tail
theorem mayO_zero {l : List Ky} {x : List OpS} (h : mayO l x = 0) : goodO l x ∧ takesP x ≤ 536870912 ∧ makesP x ≤ 536870912 := by
  unfold mayO at h
  cases h1 : (x.foldl (mayStep l) (false, 0)).1 with
  | true => rw [h1] at h; simp at h
  | false =>
    rw [h1] at h
    simp only [Bool.false_eq_true, if_false] at h
    by_cases h2 : takesP x ≤ 536870912 ∧ makesP x ≤ 536870912
    · rw [if_pos h2] at h; exact ⟨(fold_one x 0 h1 h).2, h2⟩
    · rw [if_neg h2] at h; cases h
theorem zero_mayO {l : List Ky} {x : List OpS} (h : goodO l x) (h1 : takesP x ≤ 536870912) (h2 : makesP x ≤ 536870912) : mayO l x = 0 := by
  unfold mayO
  rw [one_fold x h]
  simp [h1, h2]

def tkI (o : Opd) : Int := if o.k = 2 then 0 else o.n
def mkI (o : Opd) : Int := if o.k = 3 then 0 else sizeO o
def sumT : List OpS → Int
  | [] => 0
  | o :: x => tkI o.o + sumT x
def sumM : List OpS → Int
  | [] => 0
  | o :: x => mkI o.o + sumM x
theorem one_facts {l : List Ky} {o : Opd} (h : oneP l o = 0) : formO o = true ∧ 1 ≤ sizeO o ∧ sizeO o ≤ 536870912 ∧ mayS l o.s = 0 ∧ mayP l o.p = 0 := by
  unfold oneP at h
  by_cases h1 : formO o = true ∧ 1 ≤ sizeO o ∧ sizeO o ≤ 536870912
  · rw [if_pos h1] at h
    by_cases h2 : mayS l o.s = 0
    · rw [if_pos h2] at h; exact ⟨h1.1, h1.2.1, h1.2.2, h2, h⟩
    · rw [if_neg h2] at h; exact absurd h h2
  · rw [if_neg h1] at h; cases h
theorem form_kinds {o : Opd} (h : formO o = true) : o.k = 1 ∨ o.k = 2 ∨ o.k = 3 := by
  unfold formO at h
  by_cases h1 : o.k = 1
  · exact .inl h1
  rw [if_neg h1] at h
  by_cases h3 : o.k = 3
  · exact .inr (.inr h3)
  rw [if_neg h3] at h
  by_cases h2 : o.k = 2
  · exact .inr (.inl h2)
  rw [if_neg h2] at h; cases h
theorem one_ks {l : List Ky} {o : Opd} (h : oneP l o = 0) : (o.k = 2 ∧ tkI o = 0 ∧ 1 ≤ mkI o ∧ mkI o ≤ 536870912) ∨ (o.k = 3 ∧ tkI o = o.n ∧ 1 ≤ o.n ∧ o.n ≤ 536870912 ∧ mkI o = 0) ∨ (o.k = 1 ∧ tkI o = o.n ∧ 1 ≤ o.n ∧ o.n ≤ 536870912 ∧ mkI o = o.n) := by
  obtain ⟨f, h1, h2, _, _⟩ := one_facts h
  unfold tkI mkI
  unfold sizeO at *
  rcases form_kinds f with hk | hk | hk <;> rw [hk] at h1 h2 ⊢ <;> simp at h1 h2 ⊢ <;> omega
theorem sums {l : List Ky} : ∀ (x : List OpS), goodO l x → 0 ≤ sumT x ∧ sumT x ≤ 536870912 * (x.length : Int) ∧ 0 ≤ sumM x ∧ sumM x ≤ 536870912 * (x.length : Int)
  | [], _ => by simp [sumT, sumM]
  | o :: x, h => by
    obtain ⟨a, b, c, d⟩ := sums x h.tail
    have := one_ks (h o (by simp))
    simp only [sumT, sumM, List.length_cons]
    push_cast
    omega
theorem fold_t {l : List Ky} : ∀ (x : List OpS) (a : Int), goodO l x → 0 ≤ a → a + 536870912 * (x.length : Int) ≤ 4611686018427387904 → x.foldl takeStep a = a + sumT x
  | [], a, _, _, _ => by simp [sumT]
  | o :: x, a, h, h0, hb => by
    have hk := one_ks (h o (by simp))
    simp only [List.length_cons] at hb
    push_cast at hb
    have e : takeStep a o = a + tkI o.o := by
      unfold takeStep
      by_cases h2 : o.o.k = 2
      · rw [if_pos h2]; unfold tkI; rw [if_pos h2]; omega
      · rw [if_neg h2]; unfold tkI; rw [if_neg h2]; exact IntWalk.i64_in _ (by omega)
    rw [List.foldl_cons, e, fold_t x _ h.tail (by omega) (by omega)]
    simp only [sumT]; omega
theorem fold_m {l : List Ky} : ∀ (x : List OpS) (a : Int), goodO l x → 0 ≤ a → a + 536870912 * (x.length : Int) ≤ 4611686018427387904 → x.foldl makeStep a = a + sumM x
  | [], a, _, _, _ => by simp [sumM]
  | o :: x, a, h, h0, hb => by
    have hk := one_ks (h o (by simp))
    have hs := (one_facts (h o (by simp))).2
    simp only [List.length_cons] at hb
    push_cast at hb
    have e : makeStep a o = a + mkI o.o := by
      unfold makeStep
      by_cases h2 : o.o.k = 3
      · rw [if_pos h2]; unfold mkI; rw [if_pos h2]; omega
      · rw [if_neg h2]; unfold mkI; rw [if_neg h2]; exact IntWalk.i64_in _ (by omega)
    rw [List.foldl_cons, e, fold_m x _ h.tail (by omega) (by omega)]
    simp only [sumM]; omega
theorem takes_sum {l : List Ky} {x : List OpS} (h : goodO l x) (hb : x.length ≤ 1048576) : takesP x = sumT x := by
  unfold takesP; rw [fold_t x 0 h (by omega) (by omega)]; omega
theorem makes_sum {l : List Ky} {x : List OpS} (h : goodO l x) (hb : x.length ≤ 1048576) : makesP x = sumM x := by
  unfold makesP; rw [fold_m x 0 h (by omega) (by omega)]; omega

def finR (n : Int) : Int → List OpS → Bool
  | _, [] => true
  | a, o :: x => if o.o.k = 2 then (decide (¬ a = n) && finR n a x) else if o.o.k = 3 ∧ a + o.o.n = n then false else finR n (a + o.o.n) x
theorem fold_fin {l : List Ky} (n : Int) : ∀ (x : List OpS) (a : Int), goodO l x → 0 ≤ a → a + 536870912 * (x.length : Int) ≤ 4611686018427387904 → (x.foldl (finalStep n) (true, a)).1 = finR n a x
  | [], a, _, _, _ => rfl
  | o :: x, a, h, h0, hb => by
    have hk := one_ks (h o (by simp))
    simp only [List.length_cons] at hb
    push_cast at hb
    rw [List.foldl_cons]
    unfold finalStep finR
    simp only [Bool.true_eq_false, if_false]
    by_cases h2 : o.o.k = 2
    · rw [if_pos h2, if_pos h2]
      by_cases ha : a = n
      · have := final_false n a x
        unfold finalStep at this
        simp only [ha] at this ⊢
        simp only [not_true_eq_false, decide_false, Bool.false_and]
        rw [this]
      · simp only [ha, not_false_eq_true, decide_true, Bool.true_and]
        exact fold_fin n x a h.tail h0 (by omega)
    · have e : IntKind.i64.wrap (a + o.o.n) = a + o.o.n := IntWalk.i64_in _ (by omega)
      rw [if_neg h2, if_neg h2, e]
      by_cases h3 : o.o.k = 3 ∧ a + o.o.n = n
      · rw [if_pos h3, if_pos h3]
        have := final_false n a x
        unfold finalStep at this
        rw [this]
      · rw [if_neg h3, if_neg h3]
        exact fold_fin n x _ h.tail (by omega) (by omega)
theorem final_r {l : List Ky} {x : List OpS} (n : Int) (h : goodO l x) (hb : x.length ≤ 1048576) : finalP n x = finR n 0 x := by
  unfold finalP; exact fold_fin n x 0 h (by omega) (by omega)
theorem longO_is {l : List Ky} {x : List OpS} {n : Int} (h : goodO l x) (hb : x.length ≤ 1048576) (h0 : 0 ≤ n) (h1 : n ≤ 4294967296) (ht : takesP x ≤ 536870912) (hm : makesP x ≤ 536870912) : longO n x = n - sumT x + sumM x := by
  have hs := sums x h
  have et := takes_sum h hb
  have em := makes_sum h hb
  unfold longO
  rw [et] at ht ⊢
  rw [em] at hm ⊢
  rw [IntWalk.i64_in (n - sumT x) (by omega), IntWalk.i64_in _ (by omega)]

theorem fits_zero {l : List Ky} {x : List OpS} {n most : Int} (h : fitsO l x n most = 0) : mayO l x = 0 ∧ 1 ≤ n ∧ n ≤ most ∧ takesP x ≤ n ∧ finalP n x = true ∧ placeP l x = true ∧ longO n x ≤ most := by
  unfold fitsO at h
  by_cases h1 : ¬ mayO l x = 0
  · rw [if_pos h1] at h; exact absurd h h1
  rw [if_neg h1] at h
  by_cases h2 : n < 1 ∨ most < n ∨ n < takesP x
  · rw [if_pos h2] at h; cases h
  rw [if_neg h2] at h
  by_cases h3 : finalP n x = false
  · rw [if_pos h3] at h; cases h
  rw [if_neg h3] at h
  by_cases h4 : placeP l x = false
  · rw [if_pos h4] at h; cases h
  rw [if_neg h4] at h
  by_cases h5 : most < longO n x
  · rw [if_pos h5] at h; cases h
  exact ⟨by omega, by omega, by omega, by omega, by simpa using h3, by simpa using h4, by omega⟩
theorem zero_fits {l : List Ky} {x : List OpS} {n most : Int} (h1 : mayO l x = 0) (h2 : 1 ≤ n) (h3 : n ≤ most) (h4 : takesP x ≤ n) (h5 : finalP n x = true) (h6 : placeP l x = true) (h7 : longO n x ≤ most) : fitsO l x n most = 0 := by
  unfold fitsO
  rw [if_neg (by simp [h1]), if_neg (by omega), if_neg (by simp [h5]), if_neg (by simp [h6]), if_neg (by omega)]

def okCl (l : List Ky) (c : Cl) : Prop := mayR c.r = true ∧ mayS l c.s = 0 ∧ partS l (!(c.r == 10)) c.s = []
def vU (l : List Ky) : Un → Prop
  | .ins r s => okCl l ⟨r, s⟩
  | .del => True
  | .ret p => mayP l p = 0
def mU (l : List Ky) : Un → Prop
  | .ins r s => mayR r = true ∧ mayS l s = 0
  | .del => True
  | .ret p => mayP l p = 0
def finU (n : Nat) : Nat → List Un → Bool
  | _, [] => true
  | a, .ins _ _ :: us => decide (a ≠ n) && finU n a us
  | a, .del :: us => decide (a + 1 ≠ n) && finU n (a + 1) us
  | a, .ret _ :: us => finU n (a + 1) us
theorem finU_append (n : Nat) : ∀ (us vs : List Un) (a : Nat), finU n a (us ++ vs) = (finU n a us && finU n (a + takesU us) vs)
  | [], vs, a => by simp [finU, takesU]
  | .ins r s :: us, vs, a => by show (decide (a ≠ n) && finU n a (us ++ vs)) = _; rw [finU_append n us vs a, takesU_i, finU, Bool.and_assoc]
  | .del :: us, vs, a => by
    show (decide (a + 1 ≠ n) && finU n (a + 1) (us ++ vs)) = _
    rw [finU_append n us vs (a + 1), takesU_d, finU, Bool.and_assoc]
    congr 3; omega
  | .ret p :: us, vs, a => by
    show finU n (a + 1) (us ++ vs) = _
    rw [finU_append n us vs (a + 1), takesU_r, finU]
    congr 2; omega

theorem isOp_of {l : List Ky} {o : Opd} (h : oneP l o = 0) : isOp o := by
  obtain ⟨h1, h2, h3, h4, h5⟩ := one_facts h
  obtain ⟨k, n, r, s, p⟩ := o
  unfold formO at h1
  unfold sizeO at h2
  simp only at h1 h2
  by_cases k1 : k = 1
  · subst k1
    rw [if_pos rfl] at h1
    have := of_decide_eq_true h1
    rw [if_neg (by decide)] at h2
    exact .inr (.inr ⟨rfl, h2, List.eq_nil_of_length_eq_zero this.1, List.eq_nil_of_length_eq_zero this.2⟩)
  · rw [if_neg k1] at h1
    by_cases k3 : k = 3
    · subst k3
      rw [if_pos rfl] at h1
      have := of_decide_eq_true h1
      rw [if_neg (by decide)] at h2
      exact .inr (.inl ⟨rfl, h2, List.eq_nil_of_length_eq_zero this.1.1, List.eq_nil_of_length_eq_zero this.1.2, List.eq_nil_of_length_eq_zero this.2⟩)
    · rw [if_neg k3] at h1
      by_cases k2 : k = 2
      · subst k2
        rw [if_pos rfl] at h1 h2
        have := of_decide_eq_true (Bool.and_eq_true_iff.1 h1).1
        exact .inl ⟨rfl, this.1, by intro e; simp only at e; subst e; simp at h2, List.eq_nil_of_length_eq_zero this.2⟩
      · rw [if_neg k2] at h1; cases h1
theorem runes_of {l : List Ky} {o : Opd} (h : oneP l o = 0) (hk : o.k = 2) : ∀ r ∈ o.r, mayR r = true := by
  obtain ⟨h1, _⟩ := one_facts h
  unfold formO at h1
  rw [if_neg (by rw [hk]; decide), if_neg (by rw [hk]; decide), if_pos hk] at h1
  have := (Bool.and_eq_true_iff.1 h1).2
  intro r hr
  rw [Bool.not_eq_true', List.any_eq_false] at this
  simpa using this r hr
theorem one_iff {l : List Ky} {o : Opd} : oneP l o = 0 ↔ isOp o ∧ sizeO o ≤ 536870912 ∧ ∀ u ∈ unitsO o, mU l u := by
  constructor
  · intro h
    obtain ⟨h1, h2, h3, h4, h5⟩ := one_facts h
    refine ⟨isOp_of h, h3, fun u hu => ?_⟩
    rcases isOp_kind (isOp_of h) with hk | hk | hk
    · unfold unitsO at hu
      rw [if_pos hk] at hu
      obtain ⟨r, hr, rfl⟩ := List.mem_map.1 hu
      exact ⟨runes_of h hk r hr, h4⟩
    · unfold unitsO at hu
      rw [if_neg (by rw [hk]; decide), if_neg (by rw [hk]; decide)] at hu
      rw [(List.mem_replicate.1 hu).2]; trivial
    · unfold unitsO at hu
      rw [if_neg (by rw [hk]; decide), if_pos hk] at hu
      rw [(List.mem_replicate.1 hu).2]; exact h5
  · rintro ⟨h1, h2, h3⟩
    have m0 : mayS l [] = 0 := by simp [mayS, riseA, rise]
    have p0 : mayP l [] = 0 := by simp [mayP, riseC, rise]
    rcases isOp_kind h1 with hk | hk | hk
    · obtain ⟨e, hr⟩ := opI_of h1 hk
      obtain ⟨k, n, r, s, p⟩ := o
      rw [e] at h2 h3 ⊢
      simp only at hr
      have hu : ∀ x ∈ r, mayR x = true ∧ mayS l s = 0 := fun x hx => h3 (.ins x s) (by rw [unitsO_I]; exact List.mem_map.2 ⟨x, hx, rfl⟩)
      obtain ⟨x, hx⟩ := List.exists_mem_of_ne_nil r hr
      have hform : formO (opI r s) = true := by
        have hany : r.any (fun r => !mayR r) = false := List.any_eq_false.2 (fun y hy => by simp [(hu y hy).1])
        show (if (2 : Int) = 1 then _ else if (2 : Int) = 3 then _ else if (2 : Int) = 2 then (decide ((0 : Int) = 0 ∧ ([] : List Ch).length = 0) && !r.any (fun r => !mayR r)) else false) = true
        rw [if_neg (by decide), if_neg (by decide), if_pos rfl, hany]
        rfl
      have hsz : 1 ≤ sizeO (opI r s) := by
        show 1 ≤ (if (2 : Int) = 2 then (r.length : Int) else 0)
        rw [if_pos rfl]
        have : r.length ≠ 0 := fun h0 => hr (List.eq_nil_of_length_eq_zero h0)
        omega
      unfold oneP
      rw [if_pos ⟨hform, hsz, h2⟩, if_pos (show mayS l (opI r s).s = 0 from (hu x hx).2)]
      exact p0
    · obtain ⟨e, hn⟩ := opD_of h1 hk
      obtain ⟨k, n, r, s, p⟩ := o
      simp only at hn
      rw [e] at h2 ⊢
      unfold oneP
      rw [if_pos ⟨by simp [formO, opD], by unfold sizeO opD; simp only; rw [if_neg (by decide)]; exact hn, h2⟩, if_pos (show mayS l (opD n).s = 0 from m0)]
      exact p0
    · obtain ⟨e, hn⟩ := opR_of h1 hk
      obtain ⟨k, n, r, s, p⟩ := o
      simp only at hn
      rw [e] at h2 h3 ⊢
      have hp : mayP l p = 0 := h3 (.ret p) (by
        rw [unitsO_R]
        simp only at hn ⊢
        exact List.mem_replicate.2 ⟨by omega, rfl⟩)
      unfold oneP
      rw [if_pos ⟨by simp [formO, opR], by unfold sizeO opR; simp only; rw [if_neg (by decide)]; exact hn, h2⟩, if_pos (show mayS l (opR n p).s = 0 from m0)]
      exact hp
theorem takes_one {o : Opd} (h : isOp o) : (takesU (unitsO o) : Int) = tkI o ∧ (makesU (unitsO o) : Int) = mkI o := by
  have hi : ∀ (r : List Int) (s : List At), takesU (r.map (fun r => Un.ins r s)) = 0 ∧ makesU (r.map (fun r => Un.ins r s)) = r.length := by
    intro r s
    induction r with
    | nil => exact ⟨rfl, rfl⟩
    | cons a r ih => exact ⟨ih.1, by show makesU _ + 1 = _; rw [ih.2]; rfl⟩
  have hr : ∀ (k : Nat) (p : List Ch), takesU (List.replicate k (.ret p)) = k ∧ makesU (List.replicate k (.ret p)) = k := by
    intro k p
    induction k with
    | zero => exact ⟨rfl, rfl⟩
    | succ k ih => rw [List.replicate_succ]; exact ⟨by rw [takesU_r, ih.1], by rw [makesU_r, ih.2]⟩
  rcases isOp_kind h with hk | hk | hk
  · obtain ⟨e, hr⟩ := opI_of h hk
    rw [e, unitsO_I]
    exact ⟨by rw [(hi _ _).1]; rfl, by rw [(hi _ _).2]; rfl⟩
  · obtain ⟨e, hn⟩ := opD_of h hk
    rw [e, unitsO_D, takesU_del, makesU_del]
    exact ⟨by show ((o.n.toNat : Nat) : Int) = o.n; omega, rfl⟩
  · obtain ⟨e, hn⟩ := opR_of h hk
    rw [e, unitsO_R, (hr _ _).1, (hr _ _).2]
    exact ⟨by show ((o.n.toNat : Nat) : Int) = o.n; omega, by show ((o.n.toNat : Nat) : Int) = o.n; omega⟩
theorem sums_units : ∀ (x : List OpS), (∀ o ∈ x, isOp o.o) → (takesU (units (osOf x)) : Int) = sumT x ∧ (makesU (units (osOf x)) : Int) = sumM x
  | [], _ => ⟨rfl, rfl⟩
  | o :: x, h => by
    obtain ⟨h1, h2⟩ := sums_units x (fun z hz => h z (List.mem_cons_of_mem _ hz))
    obtain ⟨g1, g2⟩ := takes_one (h o (by simp))
    show ((takesU (units (o.o :: osOf x)) : Nat) : Int) = tkI o.o + sumT x ∧ ((makesU (units (o.o :: osOf x)) : Nat) : Int) = mkI o.o + sumM x
    rw [units_cons, takesU_append, makesU_append]
    omega
theorem good_isOp {l : List Ky} {x : List OpS} (h : goodO l x) : ∀ o ∈ x, isOp o.o := fun o ho => isOp_of (h o ho)
theorem units_mem {x : List OpS} {u : Un} : u ∈ units (osOf x) ↔ ∃ o ∈ x, u ∈ unitsO o.o := by
  unfold units osOf
  rw [List.mem_flatMap]
  constructor
  · rintro ⟨a, ha, hu⟩; obtain ⟨o, ho, rfl⟩ := List.mem_map.1 ha; exact ⟨o, ho, hu⟩
  · rintro ⟨o, ho, hu⟩; exact ⟨o.o, List.mem_map.2 ⟨o, ho, rfl⟩, hu⟩
theorem finU_reps (n k : Nat) (p : List Ch) : ∀ a, finU n a (List.replicate k (.ret p)) = true := by
  induction k with
  | zero => intro a; rfl
  | succ k ih => intro a; rw [List.replicate_succ, finU]; exact ih _
theorem finU_dels (n : Nat) : ∀ (k a : Nat), a + (k + 1) ≤ n → (finU n a (List.replicate (k + 1) .del) = decide (a + (k + 1) ≠ n)) := by
  intro k
  induction k with
  | zero => intro a _; simp [finU]
  | succ k ih =>
    intro a h
    rw [List.replicate_succ]
    show (decide (a + 1 ≠ n) && finU n (a + 1) (List.replicate (k + 1) .del)) = _
    rw [ih (a + 1) (by omega)]
    have h1 : decide (a + 1 ≠ n) = true := decide_eq_true (by omega)
    rw [h1, Bool.true_and, show a + 1 + (k + 1) = a + (k + 1 + 1) by omega]
theorem finU_inss (n : Nat) (r : List Int) (s : List At) : ∀ a, r ≠ [] → finU n a (r.map (fun r => Un.ins r s)) = decide (a ≠ n) := by
  intro a h
  induction r with
  | nil => exact absurd rfl h
  | cons b r ih =>
    show (decide (a ≠ n) && finU n a (r.map _)) = _
    cases r with
    | nil => simp [finU]
    | cons c r => rw [ih (by simp)]; simp
theorem finR_units {l : List Ky} (n : Nat) : ∀ (x : List OpS) (a : Nat), goodO l x → (a : Int) + sumT x ≤ n → finR n a x = finU n a (units (osOf x))
  | [], a, _, _ => rfl
  | o :: x, a, h, hb => by
    have ho := isOp_of (h o (by simp))
    have ht := h.tail
    obtain ⟨s1, _⟩ := sums_units x (good_isOp ht)
    obtain ⟨t1, t2⟩ := takes_one ho
    simp only [sumT] at hb
    have e : units (osOf (o :: x)) = unitsO o.o ++ units (osOf x) := rfl
    rw [e, finU_append]
    unfold finR
    rcases isOp_kind ho with hk | hk | hk
    · obtain ⟨eo, hr⟩ := opI_of ho hk
      have hz : tkI o.o = 0 := by unfold tkI; rw [if_pos hk]
      rw [if_pos hk]
      have hu : finU n a (unitsO o.o) = decide (a ≠ n) := by rw [eo, unitsO_I]; exact finU_inss n _ _ a hr
      have hta : takesU (unitsO o.o) = 0 := by omega
      rw [hu, hta, Nat.add_zero, finR_units n x a ht (by omega)]
      congr 2
      exact propext ⟨fun e h => e (by omega), fun e h => e (by omega)⟩
    · obtain ⟨eo, hn⟩ := opD_of ho hk
      have hz : tkI o.o = o.o.n := by unfold tkI; rw [if_neg (by rw [hk]; decide)]
      rw [if_neg (by rw [hk]; decide)]
      have hta : (takesU (unitsO o.o) : Int) = o.o.n := by rw [t1, hz]
      obtain ⟨k, hk2⟩ : ∃ k : Nat, o.o.n.toNat = k + 1 := ⟨o.o.n.toNat - 1, by omega⟩
      have hu : finU n a (unitsO o.o) = decide (a + (k + 1) ≠ n) := by rw [eo, unitsO_D, hk2]; exact finU_dels n k a (by omega)
      rw [hu]
      by_cases hl : o.o.k = 3 ∧ (a : Int) + o.o.n = n
      · rw [if_pos hl]
        have : decide (a + (k + 1) ≠ n) = false := decide_eq_false (by omega)
        rw [this]; rfl
      · rw [if_neg hl]
        have hne : ¬ (a : Int) + o.o.n = n := fun e => hl ⟨hk, e⟩
        have : decide (a + (k + 1) ≠ n) = true := decide_eq_true (by omega)
        rw [this, Bool.true_and]
        have e2 : (a : Int) + o.o.n = ((a + takesU (unitsO o.o) : Nat) : Int) := by omega
        rw [e2, finR_units n x _ ht (by omega)]
    · obtain ⟨eo, hn⟩ := opR_of ho hk
      have hz : tkI o.o = o.o.n := by unfold tkI; rw [if_neg (by rw [hk]; decide)]
      rw [if_neg (by rw [hk]; decide), if_neg (by rw [hk]; rintro ⟨h1, _⟩; exact absurd h1 (by decide))]
      have hta : (takesU (unitsO o.o) : Int) = o.o.n := by rw [t1, hz]
      have hu : finU n a (unitsO o.o) = true := by rw [eo, unitsO_R]; exact finU_reps n _ _ a
      rw [hu, Bool.true_and]
      have e2 : (a : Int) + o.o.n = ((a + takesU (unitsO o.o) : Nat) : Int) := by omega
      rw [e2, finR_units n x _ ht (by omega)]

theorem nlR_all {r : List Int} : nlR r = r.length ↔ ∀ x ∈ r, x = 10 := by
  unfold nlR
  rw [List.countP_eq_length]
  simp
theorem nlR_none {r : List Int} : nlR r = 0 ↔ ∀ x ∈ r, ¬ x = 10 := by
  unfold nlR
  rw [List.countP_eq_zero]
  simp
theorem place_iff {l : List Ky} {o : Opd} (h : oneP l o = 0) : placeO l o = true ↔ ∀ u ∈ unitsO o, vU l u := by
  obtain ⟨g1, g2, g3⟩ := one_iff.1 h
  have hop := isOp_of h
  rcases isOp_kind hop with hk | hk | hk
  · obtain ⟨e, hr⟩ := opI_of hop hk
    have hm : mayS l o.s = 0 := (one_facts h).2.2.2.1
    have hu : (∀ u ∈ unitsO o, vU l u) ↔ ∀ r ∈ o.r, partS l (!(r == 10)) o.s = [] := by
      unfold unitsO
      rw [if_pos hk]
      constructor
      · intro hh r hr; exact (hh _ (List.mem_map.2 ⟨r, hr, rfl⟩)).2.2
      · intro hh u hu
        obtain ⟨r, hr, rfl⟩ := List.mem_map.1 hu
        exact ⟨runes_of h hk r hr, hm, hh r hr⟩
    rw [hu]
    have hl := partS_len (mayS_zero hm).2.2.2
    unfold placeO
    by_cases hs : 0 < o.s.length
    · rw [if_pos ⟨hk, hs⟩]
      have hne : 0 < o.r.length := List.length_pos_iff.2 hr
      have hle : nlR o.r ≤ o.r.length := by unfold nlR; exact List.countP_le_length
      constructor
      · intro hh r hrm
        simp only [Bool.not_eq_true', Bool.and_eq_false_iff, Bool.or_eq_false_iff, decide_eq_false_iff_not] at hh
        rcases hh with ⟨h1, h2⟩ | ⟨h1, h2⟩
        · have h3 := nlR_none.1 (by omega : nlR o.r = 0) r hrm
          have hb : (r == 10) = false := beq_eq_false_iff_ne.2 h3
          rw [hb]
          exact List.eq_nil_of_length_eq_zero (by show (partS l true o.s).length = 0; omega)
        · have h3 := nlR_all.1 (by omega : nlR o.r = o.r.length) r hrm
          have hb : (r == 10) = true := beq_iff_eq.2 h3
          rw [hb]
          exact List.eq_nil_of_length_eq_zero (by show (partS l false o.s).length = 0; omega)
      · intro hh
        simp only [Bool.not_eq_true', Bool.and_eq_false_iff, Bool.or_eq_false_iff, decide_eq_false_iff_not]
        by_cases h0 : (partS l true o.s).length = 0
        · refine .inl ⟨by omega, ?_⟩
          have : nlR o.r = 0 := nlR_none.2 (fun r hr h10 => by
            have := hh r hr
            rw [beq_iff_eq.2 h10] at this
            have h5 : (partS l false o.s).length = 0 := by show (partS l (!true) o.s).length = 0; rw [this]; rfl
            omega)
          omega
        · refine .inr ?_
          have hall : ∀ r ∈ o.r, r = 10 := fun r hr => by
            rcases Decidable.em (r = 10) with h10 | h10
            · exact h10
            · exfalso
              have := hh r hr
              rw [beq_eq_false_iff_ne.2 h10] at this
              exact h0 (by show (partS l (!false) o.s).length = 0; rw [this]; rfl)
          have h7 := nlR_all.2 hall
          obtain ⟨r, hr2⟩ := List.exists_mem_of_ne_nil o.r hr
          have := hh r hr2
          rw [beq_iff_eq.2 (hall r hr2)] at this
          have h5 : (partS l false o.s).length = 0 := by show (partS l (!true) o.s).length = 0; rw [this]; rfl
          constructor <;> omega
    · rw [if_neg (by rintro ⟨_, h⟩; exact hs h)]
      have : o.s = [] := List.eq_nil_of_length_eq_zero (by omega)
      rw [this]
      simp [partS]
  · have : placeO l o = true := by unfold placeO; rw [if_neg (by rintro ⟨h, _⟩; rw [hk] at h; exact absurd h (by decide))]
    simp only [this, true_iff]
    intro u hu
    unfold unitsO at hu
    rw [if_neg (by rw [hk]; decide), if_neg (by rw [hk]; decide)] at hu
    rw [(List.mem_replicate.1 hu).2]; trivial
  · have : placeO l o = true := by unfold placeO; rw [if_neg (by rintro ⟨h, _⟩; rw [hk] at h; exact absurd h (by decide))]
    simp only [this, true_iff]
    intro u hu
    have := g3 u hu
    unfold unitsO at hu
    rw [if_neg (by rw [hk]; decide), if_pos hk] at hu
    rw [(List.mem_replicate.1 hu).2] at this ⊢; exact this
structure FitU (l : List Ky) (us : List Un) (n most : Nat) : Prop where
  v : ∀ u ∈ us, vU l u
  t : takesU us ≤ n
  n1 : 1 ≤ n
  nm : n ≤ most
  f : finU n 0 us = true
  m : n + makesU us ≤ most + takesU us
  tb : takesU us ≤ 536870912
  mb : makesU us ≤ 536870912
theorem vU_mU {l : List Ky} {u : Un} (h : vU l u) : mU l u := by
  cases u with
  | ins r s => exact ⟨h.1, h.2.1⟩
  | del => trivial
  | ret p => exact h
theorem fits_units {l : List Ky} {x : List OpS} {n most : Nat} (hb : x.length ≤ 1048576) (hm : most ≤ 4294967296) (h : fitsO l x n most = 0) : goodO l x ∧ FitU l (units (osOf x)) n most := by
  obtain ⟨h1, h2, h3, h4, h5, h6, h7⟩ := fits_zero h
  obtain ⟨g1, g2, g3⟩ := mayO_zero h1
  obtain ⟨s1, s2⟩ := sums_units x (good_isOp g1)
  have ht := takes_sum g1 hb
  have hmk := makes_sum g1 hb
  have hl := longO_is (n := n) g1 hb (by omega) (by omega) g2 g3
  rw [hl] at h7
  rw [final_r n g1 hb] at h5
  have hf := finR_units n x 0 g1 (by simp; omega)
  refine ⟨g1, fun u hu => ?_, by omega, by omega, by omega, by rw [← hf]; exact h5, by omega, by omega, by omega⟩
  obtain ⟨o, ho, hu⟩ := units_mem.1 hu
  unfold placeP at h6
  exact (place_iff (g1 o ho)).1 (List.all_eq_true.1 h6 o ho) u hu
theorem op_le {x : List OpS} (h : ∀ o ∈ x, isOp o.o) {o : OpS} (ho : o ∈ x) (ht : takesU (units (osOf x)) ≤ 536870912) (hm : makesU (units (osOf x)) ≤ 536870912) : sizeO o.o ≤ 536870912 := by
  induction x with
  | nil => cases ho
  | cons a x ih =>
    have e : units (osOf (a :: x)) = unitsO a.o ++ units (osOf x) := rfl
    rw [e, takesU_append] at ht
    rw [e, makesU_append] at hm
    rcases List.mem_cons.1 ho with rfl | hmem
    · have hop := h o (by simp)
      obtain ⟨t1, t2⟩ := takes_one hop
      unfold tkI at t1
      unfold mkI at t2
      rcases isOp_kind hop with hk | hk | hk
      · rw [if_neg (by rw [hk]; decide)] at t2; omega
      · rw [if_neg (by rw [hk]; decide)] at t1
        have : sizeO o.o = o.o.n := by unfold sizeO; rw [if_neg (by rw [hk]; decide)]
        omega
      · rw [if_neg (by rw [hk]; decide)] at t1
        have : sizeO o.o = o.o.n := by unfold sizeO; rw [if_neg (by rw [hk]; decide)]
        omega
    · exact ih (fun z hz => h z (List.mem_cons_of_mem _ hz)) hmem (by omega) (by omega)
theorem units_good {l : List Ky} {x : List OpS} (h : ∀ o ∈ x, isOp o.o) (hu : ∀ u ∈ units (osOf x), mU l u) (ht : takesU (units (osOf x)) ≤ 536870912) (hm : makesU (units (osOf x)) ≤ 536870912) : goodO l x := fun o ho =>
  one_iff.2 ⟨h o ho, op_le h ho ht hm, fun u hu2 => hu u (units_mem.2 ⟨o, ho, hu2⟩)⟩
theorem units_fits {l : List Ky} {x : List OpS} {n most : Nat} (hb : x.length ≤ 1048576) (hmo : most ≤ 4294967296) (h : ∀ o ∈ x, isOp o.o) (hf : FitU l (units (osOf x)) n most) : fitsO l x n most = 0 := by
  have g := units_good h (fun u hu => vU_mU (hf.v u hu)) hf.tb hf.mb
  obtain ⟨s1, s2⟩ := sums_units x h
  have h0 := hf.t; have h1 := hf.n1; have h2 := hf.nm; have h3 := hf.m; have h4 := hf.tb; have h5 := hf.mb
  have ht : takesP x = sumT x := takes_sum g hb
  have hm : makesP x = sumM x := makes_sum g hb
  refine zero_fits (zero_mayO g (by omega) (by omega)) (by omega) (by omega) (by omega) ?_ ?_ ?_
  · rw [final_r n g hb]
    have := finR_units n x 0 g (by simp; omega)
    rw [show ((0 : Nat) : Int) = 0 from rfl] at this
    rw [this]; exact hf.f
  · unfold placeP
    exact List.all_eq_true.2 (fun o ho => (place_iff (g o ho)).2 (fun u hu => hf.v u (units_mem.2 ⟨o, ho, hu⟩)))
  · rw [longO_is g hb (by omega) (by omega) (by omega) (by omega)]; omega
end Go.Proofs.YtfnkjcodcoehcaaGreatDoor
