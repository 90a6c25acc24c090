/- Plain laws of values: the order is the document's, and is one. -/
import Derived.Test.YtclfplpggmefjaaDoorVaLess2
namespace Go.Proofs.YtclfplpggmefjaaDoor
open Go.RowKit
set_option linter.unusedVariables false
set_option linter.unusedSimpArgs false

theorem keyF_eq {w : Nat} (h : w < 18446744073709551616) : keyF w = if 9223372036854775808 ≤ w then -((w : Int) - 9223372036854775808) else (w : Int) := by
  unfold keyF sgn
  by_cases c : 9223372036854775808 ≤ w
  · rw [if_pos c]
    have e1 : w / 9223372036854775808 % 2 = 1 := by omega
    rw [e1]
    simp
    omega
  · rw [if_neg c]
    have e1 : w / 9223372036854775808 % 2 = 0 := by omega
    rw [e1]
    simp
    omega
theorem order_ne {x y : Nat} (hx : isNanF x = false) (hy : isNanF y = false) : (Ieee.double.order x y != some .eq) = decide (keyF x ≠ keyF y) := by
  rw [order_num hx hy]
  rcases Int.lt_trichotomy (keyF x) (keyF y) with h | h | h
  · rw [Int.compare_eq_lt.2 h, decide_eq_true (by omega)]; rfl
  · rw [Int.compare_eq_eq.2 h, decide_eq_false (by omega)]; rfl
  · rw [Int.compare_eq_gt.2 h, decide_eq_true (by omega)]; rfl
theorem order_lt {x y : Nat} (hx : isNanF x = false) (hy : isNanF y = false) : (Ieee.double.order x y == some .lt) = decide (keyF x < keyF y) := by
  rw [order_num hx hy]
  rcases Int.lt_trichotomy (keyF x) (keyF y) with h | h | h
  · rw [Int.compare_eq_lt.2 h, decide_eq_true h]; rfl
  · rw [Int.compare_eq_eq.2 h, decide_eq_false (by omega)]; rfl
  · rw [Int.compare_eq_gt.2 h, decide_eq_false (by omega)]; rfl

/-- may bits be a float's value's? -/
def okF (f : Int) : Prop := 0 ≤ f ∧ f ≤ 18446744073709551615 ∧ (f = 9221120237041090560 ∨ f % 9223372036854775808 ≤ 9218868437227405312)
theorem isNan_iff {f : Int} (h : okF f) : isNanF f.toNat = decide (f = 9221120237041090560) := by
  obtain ⟨h0, h1, h2⟩ := h
  unfold isNanF
  by_cases c : f = 9221120237041090560
  · subst c; decide
  · rw [decide_eq_false c]
    apply decide_eq_false
    omega
theorem rank_less {f g : Int} (hf : okF f) (hg : okF g) : lessF f.toNat g.toNat = decide (rankF f < rankF g) := by
  have nf := isNan_iff hf
  have ng := isNan_iff hg
  obtain ⟨f0, f1, f2⟩ := hf
  obtain ⟨g0, g1, g2⟩ := hg
  unfold lessF
  by_cases cf : f = 9221120237041090560
  · rw [nf, decide_eq_true cf, if_pos rfl]
    symm
    apply decide_eq_false
    unfold rankF
    rw [if_pos cf]
    split
    · omega
    · split <;> omega
  · rw [nf, decide_eq_false cf, if_neg (by simp)]
    rw [decide_eq_false cf] at nf
    by_cases cg : g = 9221120237041090560
    · rw [ng, decide_eq_true cg, if_pos rfl]
      symm
      apply decide_eq_true
      unfold rankF
      rw [if_neg cf, if_pos cg]
      split <;> omega
    · rw [ng, decide_eq_false cg, if_neg (by simp)]
      rw [decide_eq_false cg] at ng
      rw [order_ne nf ng, order_lt nf ng]
      have kx := keyF_eq (w := f.toNat) (by omega)
      have ky := keyF_eq (w := g.toNat) (by omega)
      have rf : rankF f = if 9223372036854775808 ≤ f then 9223372036854775807 - f % 9223372036854775808 else 9223372036854775808 + f := by unfold rankF; rw [if_neg cf]
      have rg : rankF g = if 9223372036854775808 ≤ g then 9223372036854775807 - g % 9223372036854775808 else 9223372036854775808 + g := by unfold rankF; rw [if_neg cg]
      generalize keyF f.toNat = x at *
      generalize keyF g.toNat = y at *
      generalize rankF f = p at *
      generalize rankF g = q at *
      have key : (x < y ∨ (x = y ∧ 9223372036854775808 ≤ f ∧ g < 9223372036854775808)) ↔ p < q := by
        by_cases s : 9223372036854775808 ≤ f
        · rw [if_pos (by omega)] at kx
          rw [if_pos s] at rf
          by_cases t : 9223372036854775808 ≤ g
          · rw [if_pos (by omega)] at ky
            rw [if_pos t] at rg
            omega
          · rw [if_neg (by omega)] at ky
            rw [if_neg t] at rg
            omega
        · rw [if_neg (by omega)] at kx
          rw [if_neg s] at rf
          by_cases t : 9223372036854775808 ≤ g
          · rw [if_pos (by omega)] at ky
            rw [if_pos t] at rg
            omega
          · rw [if_neg (by omega)] at ky
            rw [if_neg t] at rg
            omega
      by_cases e : x = y
      · rw [if_neg (by simp [e])]
        rw [Bool.eq_iff_iff]
        simp only [signB, Bool.and_eq_true, Bool.not_eq_true', decide_eq_true_eq, decide_eq_false_iff_not]
        rw [← key]
        omega
      · rw [if_pos (decide_eq_true e)]
        congr 1
        apply propext
        rw [← key]
        omega
theorem rank_inj {f g : Int} (hf : okF f) (hg : okF g) (h : rankF f = rankF g) : f = g := by
  obtain ⟨f0, f1, f2⟩ := hf
  obtain ⟨g0, g1, g2⟩ := hg
  unfold rankF at h
  split at h <;> split at h <;> (try (split at h)) <;> (try (split at h)) <;> omega

/-- what a value that may be is made of -/
theorem may_cases {v : V} (hv : okV v) (h : mayV v = true) :
    (v.k = 1 ∧ v.f = 0 ∧ v.s = ⟨#[]⟩ ∧ (v.n = 0 ∨ v.n = 1)) ∨ (v.k = 2 ∧ v.f = 0 ∧ v.s = ⟨#[]⟩) ∨ (v.k = 3 ∧ v.n = 0 ∧ v.s = ⟨#[]⟩ ∧ okF v.f) ∨ (v.k = 4 ∧ v.n = 0 ∧ v.f = 0 ∧ v.s.size ≤ 64 ∧ textOk v.s = true) := by
  obtain ⟨k, n, f, s⟩ := v
  by_cases h1 : k = 1
  · subst h1
    rw [mayV_1] at h
    simp [beqV] at h
    exact .inl ⟨rfl, h.1.1, h.1.2, h.2⟩
  · by_cases h2 : k = 2
    · subst h2
      rw [show mayV ⟨2, n, f, s⟩ = beqV ⟨2, n, f, s⟩ ⟨2, n, 0, ⟨#[]⟩⟩ from rfl] at h
      simp [beqV] at h
      exact .inr (.inl ⟨rfl, h.1, h.2⟩)
    · by_cases h3 : k = 3
      · subst h3
        rw [mayV_3] at h
        simp [beqV, nanF] at h
        have h0 := hv.f0
        have h1 := hv.f1
        simp only at h0 h1
        exact .inr (.inr (.inl ⟨rfl, h.1.1, h.1.2, (show okF f from ⟨h0, by omega, by omega⟩)⟩))
      · by_cases h4 : k = 4
        · subst h4
          rw [show mayV ⟨4, n, f, s⟩ = (decide (s.size ≤ 64 ∧ textOk s = true) && beqV ⟨4, n, f, s⟩ ⟨4, 0, 0, s⟩) from rfl] at h
          simp [beqV] at h
          exact .inr (.inr (.inr ⟨rfl, h.2.1, h.2.2, h.1.1, h.1.2⟩))
        · unfold mayV at h
          simp only at h
          rw [if_neg h1, if_neg h2, if_neg h3, if_neg h4] at h
          cases h
theorem may_okF {v : V} (hv : okV v) (h : mayV v = true) (h3 : v.k = 3) : okF v.f := by
  rcases may_cases hv h with c | c | c | c
  · omega
  · omega
  · exact c.2.2.2
  · omega
/-- the order is the document's -/
theorem less_eq {a b : V} (ha : okV a) (hb : okV b) : lessV a b = lessR a b := by
  unfold lessV lessR
  by_cases hm : (mayV a && mayV b) = false
  · rw [if_pos hm, if_pos hm]
  · rw [if_neg hm, if_neg hm]
    have hm : mayV a = true ∧ mayV b = true := by simpa using hm
    by_cases hk : a.k ≠ b.k
    · rw [if_pos hk, if_pos hk]
    · rw [if_neg hk, if_neg hk]
      have hk : a.k = b.k := by simpa using hk
      by_cases h3 : a.k = 3
      · rw [if_neg (by omega), if_neg (by simpa using h3), if_pos h3]
        exact rank_less (may_okF ha hm.1 h3) (may_okF hb hm.2 (by omega))
      · rw [if_neg h3]
        by_cases h4 : a.k = 4
        · rw [if_pos h4, if_pos h4]
        · rw [if_neg h4, if_neg h4, if_pos h3]

/-! ### the order is one -/
theorem bl_irr : ∀ x : List UInt8, Op.bytesLess x x = false
  | [] => rfl
  | a :: x => by simp [Op.bytesLess, bl_irr x]
theorem bl_asym : ∀ x y : List UInt8, Op.bytesLess x y = true → Op.bytesLess y x = false
  | [], [], h => by simp [Op.bytesLess] at h
  | [], b :: y, _ => rfl
  | a :: x, [], h => by simp [Op.bytesLess] at h
  | a :: x, b :: y, h => by
    simp only [Op.bytesLess, Bool.or_eq_true, Bool.and_eq_true, decide_eq_true_eq, beq_iff_eq, UInt8.lt_iff_toNat_lt] at h
    simp only [Op.bytesLess, Bool.or_eq_false_iff, Bool.and_eq_false_iff, decide_eq_false_iff_not, beq_eq_false_iff_ne, UInt8.lt_iff_toNat_lt]
    rcases h with h | ⟨rfl, h⟩
    · exact ⟨by omega, .inl fun e => by rw [e] at h; omega⟩
    · exact ⟨by omega, .inr (bl_asym x y h)⟩
theorem bl_tri : ∀ x y : List UInt8, Op.bytesLess x y = false → Op.bytesLess y x = false → x = y
  | [], [], _, _ => rfl
  | [], b :: y, h, _ => by simp [Op.bytesLess] at h
  | a :: x, [], _, h => by simp [Op.bytesLess] at h
  | a :: x, b :: y, h, h' => by
    simp only [Op.bytesLess, Bool.or_eq_false_iff, Bool.and_eq_false_iff, decide_eq_false_iff_not, beq_eq_false_iff_ne, UInt8.lt_iff_toNat_lt] at h h'
    have e : a = b := UInt8.toNat_inj.1 (by omega)
    subst e
    have h1 : Op.bytesLess x y = false := by rcases h.2 with c | c; exact absurd rfl c; exact c
    have h2 : Op.bytesLess y x = false := by rcases h'.2 with c | c; exact absurd rfl c; exact c
    rw [bl_tri x y h1 h2]
theorem bl_trans : ∀ x y z : List UInt8, Op.bytesLess x y = true → Op.bytesLess y z = true → Op.bytesLess x z = true
  | _, [], _, h, _ => by
    rename_i x z
    cases x <;> simp [Op.bytesLess] at h
  | _, _ :: _, [], _, h => by simp [Op.bytesLess] at h
  | [], _ :: _, _ :: _, _, _ => rfl
  | a :: x, b :: y, c :: z, h, h' => by
    simp only [Op.bytesLess, Bool.or_eq_true, Bool.and_eq_true, decide_eq_true_eq, beq_iff_eq, UInt8.lt_iff_toNat_lt] at h h' ⊢
    rcases h with h | ⟨rfl, h⟩
    · rcases h' with h' | ⟨rfl, h'⟩
      · exact .inl (by omega)
      · exact .inl h
    · rcases h' with h' | ⟨rfl, h'⟩
      · exact .inl h'
      · exact .inr ⟨rfl, bl_trans x y z h h'⟩
theorem lessR_may {a b : V} (ha : mayV a = true) (hb : mayV b = true) : lessR a b = if a.k ≠ b.k then decide (a.k < b.k) else if a.k = 3 then decide (rankF a.f < rankF b.f) else if a.k = 4 then Op.bytesLess a.s.toList b.s.toList else decide (a.n < b.n) := by
  unfold lessR
  rw [if_neg (by rw [ha, hb]; simp)]
theorem less_asym {a b : V} (ha : mayV a = true) (hb : mayV b = true) (h : lessR a b = true) : lessR b a = false := by
  rw [lessR_may ha hb] at h
  rw [lessR_may hb ha]
  by_cases hk : a.k = b.k
  · rw [if_neg (by simpa using hk)] at h
    rw [if_neg (by simpa using hk.symm)]
    by_cases h3 : a.k = 3
    · rw [if_pos h3] at h
      rw [if_pos (by omega)]
      have := of_decide_eq_true h
      exact decide_eq_false (by omega)
    · rw [if_neg h3] at h
      rw [if_neg (by omega)]
      by_cases h4 : a.k = 4
      · rw [if_pos h4] at h
        rw [if_pos (by omega)]
        exact bl_asym _ _ h
      · rw [if_neg h4] at h
        rw [if_neg (by omega)]
        have := of_decide_eq_true h
        exact decide_eq_false (by omega)
  · rw [if_pos (by simpa using hk)] at h
    rw [if_pos (by simpa using fun e : b.k = a.k => hk e.symm)]
    have := of_decide_eq_true h
    exact decide_eq_false (by omega)
theorem less_tri {a b : V} (oa : okV a) (ob : okV b) (ha : mayV a = true) (hb : mayV b = true) (h : lessR a b = false) (h' : lessR b a = false) : a = b := by
  rw [lessR_may ha hb] at h
  rw [lessR_may hb ha] at h'
  have ca := may_cases oa ha
  have cb := may_cases ob hb
  have fa := may_okF oa ha
  have fb := may_okF ob hb
  obtain ⟨k, n, f, s⟩ := a
  obtain ⟨k', n', f', s'⟩ := b
  simp only at *
  by_cases hk : k = k'
  · subst hk
    rw [if_neg (by simp)] at h h'
    by_cases h3 : k = 3
    · rw [if_pos h3] at h h'
      have e1 := of_decide_eq_false h
      have e2 := of_decide_eq_false h'
      have e := rank_inj (fa h3) (fb h3) (by omega)
      have u1 : n = 0 ∧ s = ⟨#[]⟩ := by rcases ca with c | c | c | c <;> first | exact ⟨c.2.1, c.2.2.1⟩ | omega
      have u2 : n' = 0 ∧ s' = ⟨#[]⟩ := by rcases cb with c | c | c | c <;> first | exact ⟨c.2.1, c.2.2.1⟩ | omega
      rw [e, u1.1, u1.2, u2.1, u2.2]
    · rw [if_neg h3] at h h'
      by_cases h4 : k = 4
      · rw [if_pos h4] at h h'
        have e := (bytes_list s s').1 (bl_tri _ _ h h')
        have u1 : n = 0 ∧ f = 0 := by rcases ca with c | c | c | c <;> first | exact ⟨c.2.1, c.2.2.1⟩ | omega
        have u2 : n' = 0 ∧ f' = 0 := by rcases cb with c | c | c | c <;> first | exact ⟨c.2.1, c.2.2.1⟩ | omega
        rw [e, u1.1, u1.2, u2.1, u2.2]
      · rw [if_neg h4] at h h'
        have e1 := of_decide_eq_false h
        have e2 := of_decide_eq_false h'
        have u1 : f = 0 ∧ s = ⟨#[]⟩ := by rcases ca with c | c | c | c <;> first | exact ⟨c.2.1, c.2.2.1⟩ | exact ⟨c.2.1, c.2.2⟩ | omega
        have u2 : f' = 0 ∧ s' = ⟨#[]⟩ := by rcases cb with c | c | c | c <;> first | exact ⟨c.2.1, c.2.2.1⟩ | exact ⟨c.2.1, c.2.2⟩ | omega
        rw [show n = n' by omega, u1.1, u1.2, u2.1, u2.2]
  · rw [if_pos (by simpa using hk)] at h
    rw [if_pos (by simpa using fun e : k' = k => hk e.symm)] at h'
    have e1 := of_decide_eq_false h
    have e2 := of_decide_eq_false h'
    omega
theorem less_irr {a : V} (ha : mayV a = true) : lessR a a = false := by
  rw [lessR_may ha ha, if_neg (by simp)]
  by_cases h3 : a.k = 3
  · rw [if_pos h3]; exact decide_eq_false (by omega)
  · rw [if_neg h3]
    by_cases h4 : a.k = 4
    · rw [if_pos h4]; exact bl_irr _
    · rw [if_neg h4]; exact decide_eq_false (by omega)
theorem less_trans {a b c : V} (ha : mayV a = true) (hb : mayV b = true) (hc : mayV c = true) (h : lessR a b = true) (h' : lessR b c = true) : lessR a c = true := by
  rw [lessR_may ha hb] at h
  rw [lessR_may hb hc] at h'
  rw [lessR_may ha hc]
  by_cases e1 : a.k = b.k
  · rw [if_neg (by simpa using e1)] at h
    by_cases e2 : b.k = c.k
    · rw [if_neg (by simpa using e2)] at h'
      rw [if_neg (by simpa using e1.trans e2)]
      by_cases h3 : a.k = 3
      · rw [if_pos h3] at h ⊢
        rw [if_pos (by omega)] at h'
        have := of_decide_eq_true h
        have := of_decide_eq_true h'
        exact decide_eq_true (by omega)
      · rw [if_neg h3] at h ⊢
        rw [if_neg (by omega)] at h'
        by_cases h4 : a.k = 4
        · rw [if_pos h4] at h ⊢
          rw [if_pos (by omega)] at h'
          exact bl_trans _ _ _ h h'
        · rw [if_neg h4] at h ⊢
          rw [if_neg (by omega)] at h'
          have := of_decide_eq_true h
          have := of_decide_eq_true h'
          exact decide_eq_true (by omega)
    · rw [if_pos (by simpa using e2)] at h'
      have := of_decide_eq_true h'
      rw [if_pos (by omega)]
      exact decide_eq_true (by omega)
  · rw [if_pos (by simpa using e1)] at h
    have t1 := of_decide_eq_true h
    have t2 : b.k ≤ c.k := by
      by_cases e2 : b.k = c.k
      · omega
      · rw [if_pos (by simpa using e2)] at h'
        have := of_decide_eq_true h'
        omega
    rw [if_pos (by omega)]
    exact decide_eq_true (by omega)
/-- of two numbers of one kind the smaller one is ahead -/
theorem num_less {a b : V} (oa : okV a) (ob : okV b) {x y : Nat} (ha : numV a = some x) (hb : numV b = some y) (hk : a.k = b.k) (h : (Ieee.double.order x y == some .lt) = true) : lessV a b = true := by
  have ma : mayV a = true := by
    cases hm : mayV a with
    | true => rfl
    | false => unfold numV at ha; rw [if_neg (by rw [hm]; simp)] at ha; cases ha
  have mb : mayV b = true := by
    cases hm : mayV b with
    | true => rfl
    | false => unfold numV at hb; rw [if_neg (by rw [hm]; simp)] at hb; cases hb
  unfold numV at ha hb
  rw [if_pos ma] at ha
  rw [if_pos mb] at hb
  unfold lessV
  rw [if_neg (by rw [ma, mb]; simp), if_neg (by simpa using hk)]
  by_cases h3 : a.k = 3
  · rw [if_pos h3] at ha
    rw [if_pos (by omega)] at hb
    injection ha with ha
    injection hb with hb
    rw [if_neg (by omega), if_neg (by simpa using h3), ha, hb]
    have nx : isNanF x = false := by
      cases hn : isNanF x with
      | false => rfl
      | true => rw [order_nan (.inl hn)] at h; simp at h
    have ny : isNanF y = false := by
      cases hn : isNanF y with
      | false => rfl
      | true => rw [order_nan (.inr hn)] at h; simp at h
    unfold lessF
    rw [if_neg (by rw [nx]; simp), if_neg (by rw [ny]; simp), order_ne nx ny]
    rw [order_lt nx ny] at h ⊢
    have := of_decide_eq_true h
    rw [if_pos (decide_eq_true (by omega))]
    exact h
  · rw [if_neg h3] at ha
    rw [if_neg (by omega)] at hb
    by_cases h2 : a.k = 2
    · rw [if_pos h2] at ha
      rw [if_pos (by omega)] at hb
      injection ha with ha
      injection hb with hb
      rw [if_neg (by omega), if_pos (by simpa using h3)]
      subst ha; subst hb
      have ra : a.n.natAbs < 2 ^ 64 := by have := oa.2.2.1; have := oa.2.2.2.1; omega
      have rb : b.n.natAbs < 2 ^ 64 := by have := ob.2.2.1; have := ob.2.2.2.1; omega
      rw [order_lt (ofIntF_nan ra) (ofIntF_nan rb)] at h
      have hlt := of_decide_eq_true h
      apply decide_eq_true
      have : ¬ b.n ≤ a.n := fun hle => by have := key_mono rb ra hle; omega
      omega
    · rw [if_neg h2] at ha
      cases ha
end Go.Proofs.YtclfplpggmefjaaDoor
