/- Merged texts: VaLaw, VaKnown, At, Schema1. -/
import Derived.Test.YtclfplpggmefjaaDoorPk8
import Derived.Test.YtclfplpggmefjaaDoorPk7
import Derived.Test.YtclfplpggmefjaaDoorPk2
import Derived.Test.YtclfplpggmefjaaDoorPk3
/- Plain laws of values: the order is the document's, and is one. -/
namespace Go.Proofs.YtclfplpggmefjaaDoor
open Go.RowKit
set_option linter.unusedVariables false
set_option linter.unusedSimpArgs false

theorem keyF_eq {w : Nat} (h : w < 18446744073709551616) : keyF w = if 9223372036854775808 ≤ w then -((w : Int) - 9223372036854775808) else (w : Int) := by
  unfold keyF sgn
  by_cases c : 9223372036854775808 ≤ w
  · rw [if_pos c]
    have e1 : w / 9223372036854775808 % 2 = 1 := by omega
    rw [e1]
    simp
    omega
  · rw [if_neg c]
    have e1 : w / 9223372036854775808 % 2 = 0 := by omega
    rw [e1]
    simp
    omega
theorem order_ne {x y : Nat} (hx : isNanF x = false) (hy : isNanF y = false) : (Ieee.double.order x y != some .eq) = decide (keyF x ≠ keyF y) := by
  rw [order_num hx hy]
  rcases Int.lt_trichotomy (keyF x) (keyF y) with h | h | h
  · rw [Int.compare_eq_lt.2 h, decide_eq_true (by omega)]; rfl
  · rw [Int.compare_eq_eq.2 h, decide_eq_false (by omega)]; rfl
  · rw [Int.compare_eq_gt.2 h, decide_eq_true (by omega)]; rfl
theorem order_lt {x y : Nat} (hx : isNanF x = false) (hy : isNanF y = false) : (Ieee.double.order x y == some .lt) = decide (keyF x < keyF y) := by
  rw [order_num hx hy]
  rcases Int.lt_trichotomy (keyF x) (keyF y) with h | h | h
  · rw [Int.compare_eq_lt.2 h, decide_eq_true h]; rfl
  · rw [Int.compare_eq_eq.2 h, decide_eq_false (by omega)]; rfl
  · rw [Int.compare_eq_gt.2 h, decide_eq_false (by omega)]; rfl

/-- may bits be a float's value's? -/
def okF (f : Int) : Prop := 0 ≤ f ∧ f ≤ 18446744073709551615 ∧ (f = 9221120237041090560 ∨ f % 9223372036854775808 ≤ 9218868437227405312)
theorem isNan_iff {f : Int} (h : okF f) : isNanF f.toNat = decide (f = 9221120237041090560) := by
  obtain ⟨h0, h1, h2⟩ := h
  unfold isNanF
  by_cases c : f = 9221120237041090560
  · subst c; decide
  · rw [decide_eq_false c]
    apply decide_eq_false
    omega
theorem rank_less {f g : Int} (hf : okF f) (hg : okF g) : lessF f.toNat g.toNat = decide (rankF f < rankF g) := by
  have nf := isNan_iff hf
  have ng := isNan_iff hg
  obtain ⟨f0, f1, f2⟩ := hf
  obtain ⟨g0, g1, g2⟩ := hg
  unfold lessF
  by_cases cf : f = 9221120237041090560
  · rw [nf, decide_eq_true cf, if_pos rfl]
    symm
    apply decide_eq_false
    unfold rankF
    rw [if_pos cf]
    split
    · omega
    · split <;> omega
  · rw [nf, decide_eq_false cf, if_neg (by simp)]
    rw [decide_eq_false cf] at nf
    by_cases cg : g = 9221120237041090560
    · rw [ng, decide_eq_true cg, if_pos rfl]
      symm
      apply decide_eq_true
      unfold rankF
      rw [if_neg cf, if_pos cg]
      split <;> omega
    · rw [ng, decide_eq_false cg, if_neg (by simp)]
      rw [decide_eq_false cg] at ng
      rw [order_ne nf ng, order_lt nf ng]
      have kx := keyF_eq (w := f.toNat) (by omega)
      have ky := keyF_eq (w := g.toNat) (by omega)
      have rf : rankF f = if 9223372036854775808 ≤ f then 9223372036854775807 - f % 9223372036854775808 else 9223372036854775808 + f := by unfold rankF; rw [if_neg cf]
      have rg : rankF g = if 9223372036854775808 ≤ g then 9223372036854775807 - g % 9223372036854775808 else 9223372036854775808 + g := by unfold rankF; rw [if_neg cg]
      generalize keyF f.toNat = x at *
      generalize keyF g.toNat = y at *
      generalize rankF f = p at *
      generalize rankF g = q at *
      have key : (x < y ∨ (x = y ∧ 9223372036854775808 ≤ f ∧ g < 9223372036854775808)) ↔ p < q := by
        by_cases s : 9223372036854775808 ≤ f
        · rw [if_pos (by omega)] at kx
          rw [if_pos s] at rf
          by_cases t : 9223372036854775808 ≤ g
          · rw [if_pos (by omega)] at ky
            rw [if_pos t] at rg
            omega
          · rw [if_neg (by omega)] at ky
            rw [if_neg t] at rg
            omega
        · rw [if_neg (by omega)] at kx
          rw [if_neg s] at rf
          by_cases t : 9223372036854775808 ≤ g
          · rw [if_pos (by omega)] at ky
            rw [if_pos t] at rg
            omega
          · rw [if_neg (by omega)] at ky
            rw [if_neg t] at rg
            omega
      by_cases e : x = y
      · rw [if_neg (by simp [e])]
        rw [Bool.eq_iff_iff]
        simp only [signB, Bool.and_eq_true, Bool.not_eq_true', decide_eq_true_eq, decide_eq_false_iff_not]
        rw [← key]
        omega
      · rw [if_pos (decide_eq_true e)]
        congr 1
        apply propext
        rw [← key]
        omega
theorem rank_inj {f g : Int} (hf : okF f) (hg : okF g) (h : rankF f = rankF g) : f = g := by
  obtain ⟨f0, f1, f2⟩ := hf
  obtain ⟨g0, g1, g2⟩ := hg
  unfold rankF at h
  split at h <;> split at h <;> (try (split at h)) <;> (try (split at h)) <;> omega

/-- what a value that may be is made of -/
theorem may_cases {v : V} (hv : okV v) (h : mayV v = true) :
    (v.k = 1 ∧ v.f = 0 ∧ v.s = ⟨#[]⟩ ∧ (v.n = 0 ∨ v.n = 1)) ∨ (v.k = 2 ∧ v.f = 0 ∧ v.s = ⟨#[]⟩) ∨ (v.k = 3 ∧ v.n = 0 ∧ v.s = ⟨#[]⟩ ∧ okF v.f) ∨ (v.k = 4 ∧ v.n = 0 ∧ v.f = 0 ∧ v.s.size ≤ 64 ∧ textOk v.s = true) := by
  obtain ⟨k, n, f, s⟩ := v
  by_cases h1 : k = 1
  · subst h1
    rw [mayV_1] at h
    simp [beqV] at h
    exact .inl ⟨rfl, h.1.1, h.1.2, h.2⟩
  · by_cases h2 : k = 2
    · subst h2
      rw [show mayV ⟨2, n, f, s⟩ = beqV ⟨2, n, f, s⟩ ⟨2, n, 0, ⟨#[]⟩⟩ from rfl] at h
      simp [beqV] at h
      exact .inr (.inl ⟨rfl, h.1, h.2⟩)
    · by_cases h3 : k = 3
      · subst h3
        rw [mayV_3] at h
        simp [beqV, nanF] at h
        have h0 := hv.f0
        have h1 := hv.f1
        simp only at h0 h1
        exact .inr (.inr (.inl ⟨rfl, h.1.1, h.1.2, (show okF f from ⟨h0, by omega, by omega⟩)⟩))
      · by_cases h4 : k = 4
        · subst h4
          rw [show mayV ⟨4, n, f, s⟩ = (decide (s.size ≤ 64 ∧ textOk s = true) && beqV ⟨4, n, f, s⟩ ⟨4, 0, 0, s⟩) from rfl] at h
          simp [beqV] at h
          exact .inr (.inr (.inr ⟨rfl, h.2.1, h.2.2, h.1.1, h.1.2⟩))
        · unfold mayV at h
          simp only at h
          rw [if_neg h1, if_neg h2, if_neg h3, if_neg h4] at h
          cases h
theorem may_okF {v : V} (hv : okV v) (h : mayV v = true) (h3 : v.k = 3) : okF v.f := by
  rcases may_cases hv h with c | c | c | c
  · omega
  · omega
  · exact c.2.2.2
  · omega
/-- the order is the document's -/
theorem less_eq {a b : V} (ha : okV a) (hb : okV b) : lessV a b = lessR a b := by
  unfold lessV lessR
  by_cases hm : (mayV a && mayV b) = false
  · rw [if_pos hm, if_pos hm]
  · rw [if_neg hm, if_neg hm]
    have hm : mayV a = true ∧ mayV b = true := by simpa using hm
    by_cases hk : a.k ≠ b.k
    · rw [if_pos hk, if_pos hk]
    · rw [if_neg hk, if_neg hk]
      have hk : a.k = b.k := by simpa using hk
      by_cases h3 : a.k = 3
      · rw [if_neg (by omega), if_neg (by simpa using h3), if_pos h3]
        exact rank_less (may_okF ha hm.1 h3) (may_okF hb hm.2 (by omega))
      · rw [if_neg h3]
        by_cases h4 : a.k = 4
        · rw [if_pos h4, if_pos h4]
        · rw [if_neg h4, if_neg h4, if_pos h3]

/-! ### the order is one -/
theorem bl_irr : ∀ x : List UInt8, Op.bytesLess x x = false
  | [] => rfl
  | a :: x => by simp [Op.bytesLess, bl_irr x]
theorem bl_asym : ∀ x y : List UInt8, Op.bytesLess x y = true → Op.bytesLess y x = false
  | [], [], h => by simp [Op.bytesLess] at h
  | [], b :: y, _ => rfl
  | a :: x, [], h => by simp [Op.bytesLess] at h
  | a :: x, b :: y, h => by
    simp only [Op.bytesLess, Bool.or_eq_true, Bool.and_eq_true, decide_eq_true_eq, beq_iff_eq, UInt8.lt_iff_toNat_lt] at h
    simp only [Op.bytesLess, Bool.or_eq_false_iff, Bool.and_eq_false_iff, decide_eq_false_iff_not, beq_eq_false_iff_ne, UInt8.lt_iff_toNat_lt]
    rcases h with h | ⟨rfl, h⟩
    · exact ⟨by omega, .inl fun e => by rw [e] at h; omega⟩
    · exact ⟨by omega, .inr (bl_asym x y h)⟩
theorem bl_tri : ∀ x y : List UInt8, Op.bytesLess x y = false → Op.bytesLess y x = false → x = y
  | [], [], _, _ => rfl
  | [], b :: y, h, _ => by simp [Op.bytesLess] at h
  | a :: x, [], _, h => by simp [Op.bytesLess] at h
  | a :: x, b :: y, h, h' => by
    simp only [Op.bytesLess, Bool.or_eq_false_iff, Bool.and_eq_false_iff, decide_eq_false_iff_not, beq_eq_false_iff_ne, UInt8.lt_iff_toNat_lt] at h h'
    have e : a = b := UInt8.toNat_inj.1 (by omega)
    subst e
    have h1 : Op.bytesLess x y = false := by rcases h.2 with c | c; exact absurd rfl c; exact c
    have h2 : Op.bytesLess y x = false := by rcases h'.2 with c | c; exact absurd rfl c; exact c
    rw [bl_tri x y h1 h2]
theorem bl_trans : ∀ x y z : List UInt8, Op.bytesLess x y = true → Op.bytesLess y z = true → Op.bytesLess x z = true
  | _, [], _, h, _ => by
    rename_i x z
    cases x <;> simp [Op.bytesLess] at h
  | _, _ :: _, [], _, h => by simp [Op.bytesLess] at h
  | [], _ :: _, _ :: _, _, _ => rfl
  | a :: x, b :: y, c :: z, h, h' => by
    simp only [Op.bytesLess, Bool.or_eq_true, Bool.and_eq_true, decide_eq_true_eq, beq_iff_eq, UInt8.lt_iff_toNat_lt] at h h' ⊢
    rcases h with h | ⟨rfl, h⟩
    · rcases h' with h' | ⟨rfl, h'⟩
      · exact .inl (by omega)
      · exact .inl h
    · rcases h' with h' | ⟨rfl, h'⟩
      · exact .inl h'
      · exact .inr ⟨rfl, bl_trans x y z h h'⟩
theorem lessR_may {a b : V} (ha : mayV a = true) (hb : mayV b = true) : lessR a b = if a.k ≠ b.k then decide (a.k < b.k) else if a.k = 3 then decide (rankF a.f < rankF b.f) else if a.k = 4 then Op.bytesLess a.s.toList b.s.toList else decide (a.n < b.n) := by
  unfold lessR
  rw [if_neg (by rw [ha, hb]; simp)]
theorem less_asym {a b : V} (ha : mayV a = true) (hb : mayV b = true) (h : lessR a b = true) : lessR b a = false := by
  rw [lessR_may ha hb] at h
  rw [lessR_may hb ha]
  by_cases hk : a.k = b.k
  · rw [if_neg (by simpa using hk)] at h
    rw [if_neg (by simpa using hk.symm)]
    by_cases h3 : a.k = 3
    · rw [if_pos h3] at h
      rw [if_pos (by omega)]
      have := of_decide_eq_true h
      exact decide_eq_false (by omega)
    · rw [if_neg h3] at h
      rw [if_neg (by omega)]
      by_cases h4 : a.k = 4
      · rw [if_pos h4] at h
        rw [if_pos (by omega)]
        exact bl_asym _ _ h
      · rw [if_neg h4] at h
        rw [if_neg (by omega)]
        have := of_decide_eq_true h
        exact decide_eq_false (by omega)
  · rw [if_pos (by simpa using hk)] at h
    rw [if_pos (by simpa using fun e : b.k = a.k => hk e.symm)]
    have := of_decide_eq_true h
    exact decide_eq_false (by omega)
theorem less_tri {a b : V} (oa : okV a) (ob : okV b) (ha : mayV a = true) (hb : mayV b = true) (h : lessR a b = false) (h' : lessR b a = false) : a = b := by
  rw [lessR_may ha hb] at h
  rw [lessR_may hb ha] at h'
  have ca := may_cases oa ha
  have cb := may_cases ob hb
  have fa := may_okF oa ha
  have fb := may_okF ob hb
  obtain ⟨k, n, f, s⟩ := a
  obtain ⟨k', n', f', s'⟩ := b
  simp only at *
  by_cases hk : k = k'
  · subst hk
    rw [if_neg (by simp)] at h h'
    by_cases h3 : k = 3
    · rw [if_pos h3] at h h'
      have e1 := of_decide_eq_false h
      have e2 := of_decide_eq_false h'
      have e := rank_inj (fa h3) (fb h3) (by omega)
      have u1 : n = 0 ∧ s = ⟨#[]⟩ := by rcases ca with c | c | c | c <;> first | exact ⟨c.2.1, c.2.2.1⟩ | omega
      have u2 : n' = 0 ∧ s' = ⟨#[]⟩ := by rcases cb with c | c | c | c <;> first | exact ⟨c.2.1, c.2.2.1⟩ | omega
      rw [e, u1.1, u1.2, u2.1, u2.2]
    · rw [if_neg h3] at h h'
      by_cases h4 : k = 4
      · rw [if_pos h4] at h h'
        have e := (bytes_list s s').1 (bl_tri _ _ h h')
        have u1 : n = 0 ∧ f = 0 := by rcases ca with c | c | c | c <;> first | exact ⟨c.2.1, c.2.2.1⟩ | omega
        have u2 : n' = 0 ∧ f' = 0 := by rcases cb with c | c | c | c <;> first | exact ⟨c.2.1, c.2.2.1⟩ | omega
        rw [e, u1.1, u1.2, u2.1, u2.2]
      · rw [if_neg h4] at h h'
        have e1 := of_decide_eq_false h
        have e2 := of_decide_eq_false h'
        have u1 : f = 0 ∧ s = ⟨#[]⟩ := by rcases ca with c | c | c | c <;> first | exact ⟨c.2.1, c.2.2.1⟩ | exact ⟨c.2.1, c.2.2⟩ | omega
        have u2 : f' = 0 ∧ s' = ⟨#[]⟩ := by rcases cb with c | c | c | c <;> first | exact ⟨c.2.1, c.2.2.1⟩ | exact ⟨c.2.1, c.2.2⟩ | omega
        rw [show n = n' by omega, u1.1, u1.2, u2.1, u2.2]
  · rw [if_pos (by simpa using hk)] at h
    rw [if_pos (by simpa using fun e : k' = k => hk e.symm)] at h'
    have e1 := of_decide_eq_false h
    have e2 := of_decide_eq_false h'
    omega
theorem less_irr {a : V} (ha : mayV a = true) : lessR a a = false := by
  rw [lessR_may ha ha, if_neg (by simp)]
  by_cases h3 : a.k = 3
  · rw [if_pos h3]; exact decide_eq_false (by omega)
  · rw [if_neg h3]
    by_cases h4 : a.k = 4
    · rw [if_pos h4]; exact bl_irr _
    · rw [if_neg h4]; exact decide_eq_false (by omega)
theorem less_trans {a b c : V} (ha : mayV a = true) (hb : mayV b = true) (hc : mayV c = true) (h : lessR a b = true) (h' : lessR b c = true) : lessR a c = true := by
  rw [lessR_may ha hb] at h
  rw [lessR_may hb hc] at h'
  rw [lessR_may ha hc]
  by_cases e1 : a.k = b.k
  · rw [if_neg (by simpa using e1)] at h
    by_cases e2 : b.k = c.k
    · rw [if_neg (by simpa using e2)] at h'
      rw [if_neg (by simpa using e1.trans e2)]
      by_cases h3 : a.k = 3
      · rw [if_pos h3] at h ⊢
        rw [if_pos (by omega)] at h'
        have := of_decide_eq_true h
        have := of_decide_eq_true h'
        exact decide_eq_true (by omega)
      · rw [if_neg h3] at h ⊢
        rw [if_neg (by omega)] at h'
        by_cases h4 : a.k = 4
        · rw [if_pos h4] at h ⊢
          rw [if_pos (by omega)] at h'
          exact bl_trans _ _ _ h h'
        · rw [if_neg h4] at h ⊢
          rw [if_neg (by omega)] at h'
          have := of_decide_eq_true h
          have := of_decide_eq_true h'
          exact decide_eq_true (by omega)
    · rw [if_pos (by simpa using e2)] at h'
      have := of_decide_eq_true h'
      rw [if_pos (by omega)]
      exact decide_eq_true (by omega)
  · rw [if_pos (by simpa using e1)] at h
    have t1 := of_decide_eq_true h
    have t2 : b.k ≤ c.k := by
      by_cases e2 : b.k = c.k
      · omega
      · rw [if_pos (by simpa using e2)] at h'
        have := of_decide_eq_true h'
        omega
    rw [if_pos (by omega)]
    exact decide_eq_true (by omega)
/-- of two numbers of one kind the smaller one is ahead -/
theorem num_less {a b : V} (oa : okV a) (ob : okV b) {x y : Nat} (ha : numV a = some x) (hb : numV b = some y) (hk : a.k = b.k) (h : (Ieee.double.order x y == some .lt) = true) : lessV a b = true := by
  have ma : mayV a = true := by
    cases hm : mayV a with
    | true => rfl
    | false => unfold numV at ha; rw [if_neg (by rw [hm]; simp)] at ha; cases ha
  have mb : mayV b = true := by
    cases hm : mayV b with
    | true => rfl
    | false => unfold numV at hb; rw [if_neg (by rw [hm]; simp)] at hb; cases hb
  unfold numV at ha hb
  rw [if_pos ma] at ha
  rw [if_pos mb] at hb
  unfold lessV
  rw [if_neg (by rw [ma, mb]; simp), if_neg (by simpa using hk)]
  by_cases h3 : a.k = 3
  · rw [if_pos h3] at ha
    rw [if_pos (by omega)] at hb
    injection ha with ha
    injection hb with hb
    rw [if_neg (by omega), if_neg (by simpa using h3), ha, hb]
    have nx : isNanF x = false := by
      cases hn : isNanF x with
      | false => rfl
      | true => rw [order_nan (.inl hn)] at h; simp at h
    have ny : isNanF y = false := by
      cases hn : isNanF y with
      | false => rfl
      | true => rw [order_nan (.inr hn)] at h; simp at h
    unfold lessF
    rw [if_neg (by rw [nx]; simp), if_neg (by rw [ny]; simp), order_ne nx ny]
    rw [order_lt nx ny] at h ⊢
    have := of_decide_eq_true h
    rw [if_pos (decide_eq_true (by omega))]
    exact h
  · rw [if_neg h3] at ha
    rw [if_neg (by omega)] at hb
    by_cases h2 : a.k = 2
    · rw [if_pos h2] at ha
      rw [if_pos (by omega)] at hb
      injection ha with ha
      injection hb with hb
      rw [if_neg (by omega), if_pos (by simpa using h3)]
      subst ha; subst hb
      have ra : a.n.natAbs < 2 ^ 64 := by have := oa.2.2.1; have := oa.2.2.2.1; omega
      have rb : b.n.natAbs < 2 ^ 64 := by have := ob.2.2.1; have := ob.2.2.2.1; omega
      rw [order_lt (ofIntF_nan ra) (ofIntF_nan rb)] at h
      have hlt := of_decide_eq_true h
      apply decide_eq_true
      have : ¬ b.n ≤ a.n := fun hle => by have := key_mono rb ra hle; omega
      omega
    · rw [if_neg h2] at ha
      cases ha
end Go.Proofs.YtclfplpggmefjaaDoor
/- The walk of rubriclaw03.known; math.Copysign at the constants, math.NaN, rubricref03.Float. -/
namespace Go.Proofs.YtclfplpggmefjaaDoor
open Go.RowKit
set_option linter.unusedVariables false
set_option linter.unusedSimpArgs false

theorem nan_any (w : World) : Calls Tryd.prog 47 #[] w fun e w' => e = .returned (.float .f64 9221120237041090561) ∧ w = w' := by
  go_enter Tryd.func47, Tryd.ntmps47
  go_wp2_with (fail)
  go_ret
  exact ⟨rfl, rfl⟩
theorem copysign_any (w : World) : Calls Tryd.prog 46 #[.float .f64 0, .float .f64 13830554455654793216] w fun e w' => e = .returned (.float .f64 9223372036854775808) ∧ w = w' := by
  have h1 : bits .andNot .u64 0 9223372036854775808 = 0 := by decide
  have h2 : bits .and .u64 13830554455654793216 9223372036854775808 = 9223372036854775808 := by decide
  have h3 : bits .or .u64 0 9223372036854775808 = 9223372036854775808 := by decide
  go_enter Tryd.func46, Tryd.ntmps46
  go_wp2_with (fail)
  go_ret
  exact ⟨rfl, rfl⟩
theorem refFloat_any (f : Int) (w : World) (hf0 : 0 ≤ f) (hf1 : f < 18446744073709551616) : Calls Tryd.prog 21 #[.int .u64 f] w fun e w' =>
    e = .returned (.agg #[.int .u8 3, .int .i64 0, .int .u64 (floatV f).f, .string ⟨#[]⟩]) ∧ Below w.heap.size w w' := by
  cases hN : nanF f with
  | true =>
    have hf : (floatV f).f = 9221120237041090560 := by unfold floatV; rw [hN]; rfl
    rw [hf]
    have H := Lib.hid hN
    clear hf hN
    go_enter Tryd.func21, Tryd.ntmps21
    go_wp2_with (go_at_call 49; refine (none_any f _ hf0 hf1).mono ?_; rintro e w1 ⟨rfl, rfl⟩; rw [H.out])
    refine bodyPost_ret (v := .agg #[.int .u8 3, .int .i64 0, .int .u64 9221120237041090560, .string ⟨#[]⟩]) (by simp [results, Tryd.results21, go_sem]) rfl ?_
    exact ⟨rfl, ext_alloc w _⟩
  | false =>
    have hf : (floatV f).f = f := by unfold floatV; rw [hN]; rfl
    rw [hf]
    have H := Lib.hid hN
    clear hf hN
    go_enter Tryd.func21, Tryd.ntmps21
    go_wp2_with (go_at_call 49; refine (none_any f _ hf0 hf1).mono ?_; rintro e w1 ⟨rfl, rfl⟩; rw [H.out])
    refine bodyPost_ret (v := .agg #[.int .u8 3, .int .i64 0, .int .u64 f, .string ⟨#[]⟩]) (by simp [results, Tryd.results21, go_sem]) rfl ?_
    exact ⟨rfl, ext_alloc w _⟩

def YesB (w : World) (e : Ending) (w' : World) : Prop := e = .returned (.bool true) ∧ Below w.heap.size w w'
theorem k1 : (floatV ((9223372036854775808 : Nat) : Int)).f = 9223372036854775808 := by decide
theorem k2 : (floatV ((0 : Nat) : Int)).f = 0 := by decide
theorem k3 : numV ⟨2, 3, 0, ⟨#[]⟩⟩ = some 4613937818241073152 := by decide +kernel
theorem k4 : beqV ⟨3, 0, 9223372036854775808, ⟨#[]⟩⟩ ⟨3, 0, 0, ⟨#[]⟩⟩ = false := by decide +kernel
theorem k5 : lessV ⟨3, 0, 9223372036854775808, ⟨#[]⟩⟩ ⟨3, 0, 0, ⟨#[]⟩⟩ = true := by decide +kernel
theorem k6 : lessV ⟨3, 0, 0, ⟨#[]⟩⟩ ⟨3, 0, 9223372036854775808, ⟨#[]⟩⟩ = false := by decide +kernel
theorem k7 : mayV ⟨3, 0, 9221120237041090561, ⟨#[]⟩⟩ = false := by decide +kernel
theorem k8 : (floatV ((9221120237041090561 : Nat) : Int)).f = 9221120237041090560 := by decide
theorem k9 : mayV ⟨3, 0, 9221120237041090560, ⟨#[]⟩⟩ = true := by decide +kernel
theorem k10 : (FloatKind.f64.format.order 4613937818241073152 4613937818241073152 == some Ordering.eq) = true := by decide +kernel

set_option maxHeartbeats 3200000 in
theorem known3_any (w : World) (hT : Lib.Utf8Tabs 1 2 w) :
    Calls Tryd.prog 10 #[] w (YesB w) := by
  go_enter Tryd.func10, Tryd.ntmps10
  go_wp2_with (first
    | (go_at_call 46; refine (copysign_any _).mono ?_; rintro e w1 ⟨rfl, rfl⟩)
    | (go_at_call 19; refine Hid.out ?_))
  refine Lib.hid ?_
  refine (float_any 9223372036854775808 _ (by omega)).mono ?_
  rw [k1]
  rintro e w1 ⟨rfl, y1⟩
  go_wp2_with (go_at_call 19; refine Hid.out ?_)
  refine Lib.hid ?_
  refine (float_any 0 _ (by omega)).mono ?_
  rw [k2]
  rintro e w2 ⟨rfl, y2⟩
  have x2 := ext_trans y1 y2
  clear y1 y2
  go_wp2_with (go_at_call 18; refine Hid.out ?_)
  have ya := ext_alloc w2 (.cells #[.int .u8 3, .int .i64 0, .int .u64 9223372036854775808, .string ⟨#[]⟩] 24)
  have HBA := heap_alloc_new w2 (.cells #[.int .u8 3, .int .i64 0, .int .u64 9223372036854775808, .string ⟨#[]⟩] 24)
  have hza : (w2.alloc (.cells #[.int .u8 3, .int .i64 0, .int .u64 9223372036854775808, .string ⟨#[]⟩] 24)).heap.size = w2.heap.size + 1 := by simp
  generalize w2.alloc (.cells #[.int .u8 3, .int .i64 0, .int .u64 9223372036854775808, .string ⟨#[]⟩] 24) = w3 at *
  have yb := ext_alloc w3 (.cells #[.int .u8 3, .int .i64 0, .int .u64 0, .string ⟨#[]⟩] 24)
  have HBB := heap_alloc_new w3 (.cells #[.int .u8 3, .int .i64 0, .int .u64 0, .string ⟨#[]⟩] 24)
  have hzb : (w3.alloc (.cells #[.int .u8 3, .int .i64 0, .int .u64 0, .string ⟨#[]⟩] 24)).heap.size = w3.heap.size + 1 := by simp
  rw [hza] at HBB hzb
  have HBA := (yb.block w2.heap.size (by rw [hza]; omega)).trans HBA
  have x4 := ext_trans x2 (ext_trans ya yb)
  generalize w3.alloc (.cells #[.int .u8 3, .int .i64 0, .int .u64 0, .string ⟨#[]⟩] 24) = w4 at *
  have HBA := Lib.hid HBA
  have HBB := Lib.hid HBB
  have hz4 : w2.heap.size + 1 < w4.heap.size := by omega
  clear hza hzb ya yb x2
  refine Lib.hid ?_
  refine (int_any 3 w4).mono ?_
  rintro e w5 ⟨rfl, y⟩
  have HBA := Lib.hid ((y.block w2.heap.size (by omega)).trans HBA.out)
  have HBB := Lib.hid ((y.block (w2.heap.size + 1) (by omega)).trans HBB.out)
  have hz5 : w2.heap.size + 1 < w5.heap.size := by have := y.size; omega
  have x5 := ext_trans x4 y
  clear y x4 hz4
  go_wp2_with (go_at_call 13; refine Hid.out ?_)
  refine Lib.hid ?_
  refine (numV_any 2 3 0 ⟨#[]⟩ w5 ⟨by decide, by decide, by decide, by decide, by decide, by decide⟩ (Utf8Tabs_below hT x5)).mono ?_
  unfold NumOut
  rw [k3]
  rintro e w6 ⟨rfl, y⟩
  have HBA := Lib.hid ((y.block w2.heap.size (by omega)).trans HBA.out)
  have HBB := Lib.hid ((y.block (w2.heap.size + 1) (by omega)).trans HBB.out)
  have hz6 : w2.heap.size + 1 < w6.heap.size := by have := y.size; omega
  have x6 := ext_trans x5 y
  clear y x5 hz5
  obtain ⟨a0, a1, a2, a3⟩ := box_v HBA.out
  obtain ⟨b0, b1, b2, b3⟩ := box_v HBB.out
  have e4 := k4
  have e10 := k10
  go_wp2_with (go_at_call 22; refine Hid.out ?_)
  refine Lib.hid ?_
  refine (lessV_any 3 0 9223372036854775808 3 0 0 ⟨#[]⟩ ⟨#[]⟩ w6 ⟨by decide, by decide, by decide, by decide, by decide, by decide⟩ ⟨by decide, by decide, by decide, by decide, by decide, by decide⟩ (Utf8Tabs_below hT x6)).mono ?_
  unfold LessOut
  rw [k5]
  rintro e w7 ⟨rfl, y⟩
  have HBA := Lib.hid ((y.block w2.heap.size (by omega)).trans HBA.out)
  have HBB := Lib.hid ((y.block (w2.heap.size + 1) (by omega)).trans HBB.out)
  have hz7 : w2.heap.size + 1 < w7.heap.size := by have := y.size; omega
  have x7 := ext_trans x6 y
  clear y x6 hz6 a0 a1 a2 a3 b0 b1 b2 b3
  obtain ⟨a0, a1, a2, a3⟩ := box_v HBA.out
  obtain ⟨b0, b1, b2, b3⟩ := box_v HBB.out
  go_wp2_with (go_at_call 22; refine Hid.out ?_)
  refine Lib.hid ?_
  refine (lessV_any 3 0 0 3 0 9223372036854775808 ⟨#[]⟩ ⟨#[]⟩ w7 ⟨by decide, by decide, by decide, by decide, by decide, by decide⟩ ⟨by decide, by decide, by decide, by decide, by decide, by decide⟩ (Utf8Tabs_below hT x7)).mono ?_
  unfold LessOut
  rw [k6]
  rintro e w8 ⟨rfl, y⟩
  have x8 := ext_trans x7 y
  clear y x7 hz7 a0 a1 a2 a3 b0 b1 b2 b3 HBA HBB e4
  go_wp2_with (go_at_call 16; refine Hid.out ?_)
  refine Lib.hid ?_
  refine (mayV_any 3 0 9221120237041090561 ⟨#[]⟩ w8 (by decide) (by decide) (Utf8Tabs_below hT x8)).mono ?_
  unfold MayOut
  rw [k7]
  rintro e w9 ⟨rfl, y⟩
  have x9 := ext_trans x8 y
  clear y x8 e10
  go_wp2_with (first
    | (go_at_call 47; refine (nan_any _).mono ?_; rintro e wn ⟨rfl, rfl⟩)
    | (go_at_call 19; refine Hid.out ?_))
  refine Lib.hid ?_
  refine (float_any 9221120237041090561 _ (by omega)).mono ?_
  rw [k8]
  rintro e w10 ⟨rfl, y⟩
  have x10 := ext_trans x9 y
  clear y x9
  go_wp2_with (go_at_call 16; refine Hid.out ?_)
  refine Lib.hid ?_
  refine (mayV_any 3 0 9221120237041090560 ⟨#[]⟩ w10 (by decide) (by decide) (Utf8Tabs_below hT x10)).mono ?_
  unfold MayOut
  rw [k9]
  rintro e w11 ⟨rfl, y⟩
  have x11 := ext_trans x10 y
  clear y x10
  go_wp2_with (fail)
  go_ret
  exact ⟨rfl, x11⟩
end Go.Proofs.YtclfplpggmefjaaDoor
/- Facts kept from one world of a walk to a later one. -/
namespace Go.Proofs.YtclfplpggmefjaaDoor
open Go.RowKit
set_option linter.unusedVariables false
set_option linter.unusedSimpArgs false

theorem tabs_at {w v W : World} {a b : Nat} (hT : Lib.Utf8Tabs a b w) (h : Below w.heap.size w v) (e : W.heap = v.heap) : Lib.Utf8Tabs a b W := by
  have h2 := Utf8Tabs_below hT h
  have hc : ∀ p, W.cell? p = v.cell? p := fun p => by simp only [World.cell?, e]
  exact ⟨fun c hc' => by rw [hc]; exact h2.1 c hc', fun i hi => by rw [hc, hc]; exact h2.2 i hi⟩
theorem below_at {w v W w' : World} (h : Below w.heap.size w v) (y : Below W.heap.size W w') (e1 : W.heap = v.heap) (e2 : W.os = v.os) (e3 : W.tape = v.tape) (e4 : W.output = v.output) : Below w.heap.size w w' := by
  have y1 : Below v.heap.size v w' := ⟨by rw [← e2]; exact y.os, by rw [← e3]; exact y.tape, by rw [← e4]; exact y.output, by rw [← e1]; exact y.size, fun k hk => by rw [← e1]; exact y.block k (by rw [e1]; exact hk)⟩
  exact ext_trans h y1
theorem kept1 {v W w' : World} {b0 : Nat} {O0 : Obj} (h0 : v.heap[b0]? = some O0) (y : Below W.heap.size W w') (e : W.heap = v.heap) : w'.heap[b0]? = some O0 := by
  have hlt := (Array.getElem?_eq_some_iff.1 h0).1
  rw [y.block b0 (by rw [e]; exact hlt), e]
  exact h0
theorem kept2 {v W w' : World} {b0 b1 : Nat} {O0 O1 : Obj} (h0 : v.heap[b0]? = some O0) (h1 : v.heap[b1]? = some O1) (y : Below W.heap.size W w') (e : W.heap = v.heap) : w'.heap[b0]? = some O0 ∧ w'.heap[b1]? = some O1 := ⟨kept1 h0 y e, kept1 h1 y e⟩
theorem kept3 {v W w' : World} {b0 b1 b2 : Nat} {O0 O1 O2 : Obj} (h0 : v.heap[b0]? = some O0) (h1 : v.heap[b1]? = some O1) (h2 : v.heap[b2]? = some O2) (y : Below W.heap.size W w') (e : W.heap = v.heap) : w'.heap[b0]? = some O0 ∧ w'.heap[b1]? = some O1 ∧ w'.heap[b2]? = some O2 := ⟨kept1 h0 y e, kept1 h1 y e, kept1 h2 y e⟩
end Go.Proofs.YtclfplpggmefjaaDoor
/- The walks of schema.may, Find, Fits and of the document's Find and Fits. -/
namespace Go.Proofs.YtclfplpggmefjaaDoor
open Go.RowKit
set_option linter.unusedVariables false
set_option linter.unusedSimpArgs false

/-- may a key be by itself? -/
def mayK (k : Ky) : Bool :=
  decide (1 ≤ k.id ∧ k.id ≤ 1000 ∧ 1 ≤ k.kind ∧ k.kind ≤ 4) && (if k.block = true then !k.before && decide (0 ≤ k.group ∧ k.group ≤ 8) else decide (k.group = 0))

theorem ky_eq (k : Ky) : k.val = .agg #[.int .i64 k.id, .bool k.block, .int .u8 k.kind, .bool k.after, .bool k.before, .int .i64 k.group] := rfl

set_option maxHeartbeats 1600000 in
theorem mayK_any (i g n : Int) (b a f : Bool) (w : World) :
    Calls Tryd.prog 56 #[.agg #[.int .i64 i, .bool b, .int .u8 n, .bool a, .bool f, .int .i64 g]] w fun e w' => e = .returned (.bool (mayK ⟨i, b, n, a, f, g⟩)) ∧ Below w.heap.size w w' := by
  obtain ⟨R, hR⟩ : ∃ X, mayK ⟨i, b, n, a, f, g⟩ = X := ⟨_, rfl⟩
  rw [hR]
  unfold mayK at hR
  have HR := Lib.hid hR
  clear hR
  by_cases h1 : i < 1
  · go_enter Tryd.func56, Tryd.ntmps56
    go_wp2_with (fail)
    go_ret
    exact ⟨ret_bool (by rw [← HR.out]; simp; omega), ext_alloc w _⟩
  by_cases h2 : 1000 < i
  · go_enter Tryd.func56, Tryd.ntmps56
    go_wp2_with (fail)
    go_ret
    exact ⟨ret_bool (by rw [← HR.out]; simp; omega), ext_alloc w _⟩
  by_cases h3 : n < 1
  · go_enter Tryd.func56, Tryd.ntmps56
    go_wp2_with (fail)
    go_ret
    exact ⟨ret_bool (by rw [← HR.out]; simp; omega), ext_alloc w _⟩
  by_cases h4 : 4 < n
  · go_enter Tryd.func56, Tryd.ntmps56
    go_wp2_with (fail)
    go_ret
    exact ⟨ret_bool (by rw [← HR.out]; simp; omega), ext_alloc w _⟩
  have E4 := Lib.hid (show decide (1 ≤ i ∧ i ≤ 1000 ∧ 1 ≤ n ∧ n ≤ 4) = true by simp; omega)
  cases b with
  | false =>
    go_enter Tryd.func56, Tryd.ntmps56
    go_wp2_with (fail)
    go_ret
    exact ⟨ret_bool (by have h := HR.out; rw [E4.out] at h; rw [← h]; simp; rfl), ext_alloc w _⟩
  | true =>
    cases f with
    | true =>
      go_enter Tryd.func56, Tryd.ntmps56
      go_wp2_with (fail)
      go_ret
      exact ⟨ret_bool (by have h := HR.out; rw [E4.out] at h; rw [← h]; simp), ext_alloc w _⟩
    | false =>
      by_cases h5 : 0 ≤ g
      · go_enter Tryd.func56, Tryd.ntmps56
        go_wp2_with (fail)
        go_ret
        exact ⟨ret_bool (by have h := HR.out; rw [E4.out] at h; rw [← h]; simp [h5] <;> omega), ext_alloc w _⟩
      · go_enter Tryd.func56, Tryd.ntmps56
        go_wp2_with (fail)
        go_ret
        exact ⟨ret_bool (by have h := HR.out; rw [E4.out] at h; rw [← h]; simp [h5] <;> omega), ext_alloc w _⟩

/-- a schema's struct at block s: its map holds just these keys; its slice holds them by rising IDs -/
def Sch (w : World) (s : Nat) (l : List Ky) : Prop :=
  ∃ bm A n c ls, w.heap[s]? = some (.cells #[.slice A n c, .map (some bm)] 94 (0, 0)) ∧ MapK w bm l ∧ n = ls.length ∧ ls.Perm l ∧ ls.Pairwise (fun a b => a.id ≤ b.id) ∧ RdKy w w.heap.size A ls
theorem lt_of_some {w : World} {b : Nat} {o : Obj} (h : w.heap[b]? = some o) : b < w.heap.size := (Array.getElem?_eq_some_iff.1 h).1
theorem MapK.ext {w w' : World} {b : Nat} {l : List Ky} (h : MapK w b l) (y : Below w.heap.size w w') : MapK w' b l := by
  obtain ⟨es, clock, he, hk⟩ := h
  exact ⟨es, clock, (y.block b (lt_of_some he)).trans he, hk⟩
theorem Sch.ext {w w' : World} {s : Nat} {l : List Ky} (h : Sch w s l) (y : Below w.heap.size w w') : Sch w' s l := by
  obtain ⟨bm, A, n, c, ls, hb, hm, hn, hp, hs, hr⟩ := h
  exact ⟨bm, A, n, c, ls, (y.block s (lt_of_some hb)).trans hb, hm.ext y, hn, hp, hs, hr.ext y⟩
theorem Sch.parts {w : World} {s : Nat} {l : List Ky} (h : Sch w s l) : ∃ bm sl, w.heap[s]? = some (.cells #[sl, .map (some bm)] 94 (0, 0)) ∧ MapK w bm l := by
  obtain ⟨bm, A, n, c, ls, hb, hm, _⟩ := h
  exact ⟨bm, _, hb, hm⟩

section
variable {ops : Array Oper} {rest : List Oper} {o : Oper} {a : Act} {Q : Exit → Act → World → Prop} {w : World}
theorem wpList_lookKy (hg : o.guard = none) (m x : Operand) (hop : o.op = Op.lookup 92 m x true) (b : Nat) (l : List Ky) (hm : a.eval m = .map (some b)) (hM : MapK w b l) (id : Int) (hx : a.eval x = .int .i64 id)
    (hK : ∀ i c n d f g q, (findK l id).getD Ky.zero = ⟨i, c, n, d, f, g⟩ → (findK l id).isSome = q → wpList Tryd.prog ops Q rest (a.put o.dst (.tuple #[.agg #[.int .i64 i, .bool c, .int .u8 n, .bool d, .bool f, .int .i64 g], .bool q])) w) : wpList Tryd.prog ops Q (o :: rest) a w := by
  refine wpList_plain hg fun K' hK' => ?_
  unfold Oper.wp
  simp [execOp, hop, hm, hx, hM.look id, Result.andThen]
  have h := hK ((findK l id).getD Ky.zero).id _ _ _ _ _ _ rfl rfl
  exact hK' _ _ h
end

/-- what Find answers -/
def FindOutK (l : List Ky) (id : Int) (w : World) (e : Ending) (w' : World) : Prop :=
  ∃ i c n d f g q, e = .returned (.tuple #[.agg #[.int .i64 i, .bool c, .int .u8 n, .bool d, .bool f, .int .i64 g], .bool q]) ∧ (findK l id).getD Ky.zero = ⟨i, c, n, d, f, g⟩ ∧ (findK l id).isSome = q ∧ Below w.heap.size w w'

set_option maxHeartbeats 1600000 in
theorem findS_any (s : Nat) (l : List Ky) (id : Int) (w : World) (h : Sch w s l) :
    Calls Tryd.prog 60 #[.pointer (some ⟨s, 0, none⟩), .int .i64 id] w (FindOutK l id w) := by
  obtain ⟨bm, sl, hb, hm⟩ := h.parts
  have y := ext_alloc w (.cells #[.int .i64 0, .bool false, .int .u8 0, .bool false, .bool false, .int .i64 0] 91)
  have hb' := (y.block s (lt_of_some hb)).trans hb
  obtain ⟨es, clock, he, hk⟩ := hm
  have hm' : MapK (w.alloc (.cells #[.int .i64 0, .bool false, .int .u8 0, .bool false, .bool false, .int .i64 0] 91)) bm l := ⟨es, clock, (y.block bm (lt_of_some he)).trans he, hk⟩
  obtain ⟨c0, c1⟩ := box_2 hb'
  have HM := Lib.hid hm'
  clear hb hb' he hk hm'
  go_enter Tryd.func60, Tryd.ntmps60
  go_wp2_with (at_lookup; refine wpList_lookKy rfl _ _ rfl bm l rfl HM.out id rfl ?_; intro i c n d f g q hq1 hq2; have HQ1 := Lib.hid hq1; have HQ2 := Lib.hid hq2; clear hq1 hq2)
  refine bodyPost_ret (v := .tuple #[.agg #[.int .i64 i, .bool c, .int .u8 n, .bool d, .bool f, .int .i64 g], .bool q]) (by simp [results, Tryd.results60, go_sem]) rfl ?_
  exact ⟨i, c, n, d, f, g, q, rfl, HQ1.out, HQ2.out, by first | exact ext_trans (ext_alloc w _) (ext_alloc _ _) | trace_state⟩

set_option maxHeartbeats 1600000 in
theorem findNil_any (id : Int) (w : World) :
    Calls Tryd.prog 60 #[.pointer none, .int .i64 id] w (FindOutK [] id w) := by
  go_enter Tryd.func60, Tryd.ntmps60
  go_wp2_with (fail)
  refine bodyPost_ret (v := .tuple #[.agg #[.int .i64 0, .bool false, .int .u8 0, .bool false, .bool false, .int .i64 0], .bool false]) (by simp [results, Tryd.results60, go_sem]) rfl ?_
  exact ⟨0, false, 0, false, false, 0, false, rfl, rfl, rfl, ext_alloc w _⟩

/-- fits: may the key with an ID have a value? -/
def fitsK (l : List Ky) (id : Int) (v : V) : Bool :=
  match findK l id with
  | none => false
  | some k => decide (k.kind = v.k) && mayV v

set_option maxHeartbeats 1600000 in
theorem fitsS_any (s : Nat) (l : List Ky) (id k n f : Int) (t : ByteArray) (w : World) (h : Sch w s l) (h0 : 0 ≤ f) (h1 : f < 18446744073709551616)
    (hT : Lib.Utf8Tabs 1 2 w) :
    Calls Tryd.prog 61 #[.pointer (some ⟨s, 0, none⟩), .int .i64 id, .agg #[.int .u8 k, .int .i64 n, .int .u64 f, .string t]] w fun e w' => e = .returned (.bool (fitsK l id ⟨k, n, f, t⟩)) ∧ Below w.heap.size w w' := by
  obtain ⟨R, hR⟩ : ∃ X, fitsK l id ⟨k, n, f, t⟩ = X := ⟨_, rfl⟩
  obtain ⟨m, hm⟩ : ∃ X, mayV ⟨k, n, f, t⟩ = X := ⟨_, rfl⟩
  rw [hR]
  unfold fitsK at hR
  rw [hm] at hR
  have HR := Lib.hid hR
  have HMV := Lib.hid hm
  have y0 := ext_alloc w (.cells #[.int .u8 k, .int .i64 n, .int .u64 f, .string t] 24)
  have hv0 := heap_alloc_new w (.cells #[.int .u8 k, .int .i64 n, .int .u64 f, .string t] 24)
  have hs0 := h.ext y0
  have hT0 := Utf8Tabs_below hT y0
  clear hR hm h
  go_enter Tryd.func61, Tryd.ntmps61
  go_wp2_with (go_at_call 60; refine Hid.out ?_)
  refine Lib.hid ?_
  have H0 := Lib.hid hv0
  clear hv0
  generalize hw0 : w.alloc _ = w0 at *
  clear hw0
  refine (findS_any s l id w0 hs0).mono ?_
  rintro e w1 ⟨i, c, kd, d, g, q, b, rfl, hk, hb, y1⟩
  have hv1 := (y1.block w.heap.size (lt_of_some H0.out)).trans H0.out
  have y1' := ext_trans y0 y1
  have y2 := ext_alloc w1 (.cells #[.int .i64 i, .bool c, .int .u8 kd, .bool d, .bool g, .int .i64 q] 91)
  have hv2 := (y2.block w.heap.size (lt_of_some hv1)).trans hv1
  have hT2 := Utf8Tabs_below hT0 (ext_trans y1 y2)
  have yy := ext_trans y1' y2
  obtain ⟨a0, a1, a2, a3⟩ := box_v hv2
  have HB := Lib.hid hb
  have HK := Lib.hid hk
  clear hv1 hv2 H0 hb hk hT hT0 hs0
  cases b with
  | false =>
    go_wp2_with (fail)
    go_ret
    refine ⟨ret_bool ?_, yy⟩
    have h := HR.out
    have hb := HB.out
    cases hq : findK l id with
    | none => rw [hq] at h; exact h
    | some k => rw [hq] at hb; simp at hb
  | true =>
    obtain ⟨K, hK⟩ : ∃ K, findK l id = some K := Option.isSome_iff_exists.1 HB.out
    have hR := HR.out
    have hk := HK.out
    rw [hK] at hR hk
    simp only [Option.getD_some] at hk
    subst hk
    simp only at hR
    have HR := Lib.hid hR
    clear hR
    by_cases hkk : kd = k
    · subst hkk
      go_wp2_with (go_at_call 16; refine Hid.out ?_)
      refine Lib.hid ?_
      refine (mayV_any kd n f t _ h0 h1 hT2).mono ?_
      rintro e w3 ⟨rfl, y3⟩
      rw [HMV.out]
      go_wp2_with (fail)
      go_ret
      refine ⟨ret_bool ?_, below_at yy y3 rfl rfl rfl rfl⟩
      rw [← HR.out]; simp
    · go_wp2_with (fail)
      go_ret
      refine ⟨ret_bool ?_, yy⟩
      rw [← HR.out]; simp [hkk]
end Go.Proofs.YtclfplpggmefjaaDoor
