/- Merged texts: Cpl, MkB. -/
import Derived.Test.YtipoeidmblnbbaaDoorPk6
import Derived.Test.YtipoeidmblnbbaaDoorPk8
/- How long the common beginning of two lists is. -/
namespace Go.Proofs.YtipoeidmblnbbaaDoor
set_option linter.unusedVariables false
set_option linter.unusedSimpArgs false

def cpl {α : Type} [DecidableEq α] : List α → List α → Nat
  | a :: x, b :: y => if a = b then cpl x y + 1 else 0
  | _, _ => 0
theorem cpl_le_left {α : Type} [DecidableEq α] : ∀ (x y : List α), cpl x y ≤ x.length
  | [], _ => by simp [cpl]
  | _ :: _, [] => by simp [cpl]
  | a :: x, b :: y => by
    unfold cpl
    split
    · have := cpl_le_left x y; simp; omega
    · exact Nat.zero_le _
theorem cpl_le_right {α : Type} [DecidableEq α] : ∀ (x y : List α), cpl x y ≤ y.length
  | [], _ => by simp [cpl]
  | _ :: _, [] => by simp [cpl]
  | a :: x, b :: y => by
    unfold cpl
    split
    · have := cpl_le_right x y; simp; omega
    · exact Nat.zero_le _
theorem cpl_take {α : Type} [DecidableEq α] : ∀ (x y : List α), x.take (cpl x y) = y.take (cpl x y)
  | [], _ => by simp [cpl]
  | _ :: _, [] => by simp [cpl]
  | a :: x, b :: y => by
    unfold cpl
    split
    · rename_i h; subst h
      rw [List.take_succ_cons, List.take_succ_cons, cpl_take x y]
    · simp
/-- from m equal ones on -/
theorem cpl_at {α : Type} [DecidableEq α] : ∀ (m : Nat) (x y : List α), m ≤ x.length → m ≤ y.length → x.take m = y.take m → cpl x y = m + cpl (x.drop m) (y.drop m)
  | 0, x, y, _, _, _ => by simp
  | m + 1, [], y, h, _, _ => by simp at h
  | m + 1, _ :: _, [], _, h, _ => by simp at h
  | m + 1, a :: x, b :: y, h1, h2, h => by
    rw [List.take_succ_cons, List.take_succ_cons] at h
    injection h with hab ht
    subst hab
    have := cpl_at m x y (by simpa using h1) (by simpa using h2) ht
    simp only [cpl, if_true, List.drop_succ_cons]
    omega
theorem cpl_cons_ne {α : Type} [DecidableEq α] {a b : α} {x y : List α} (h : a ≠ b) : cpl (a :: x) (b :: y) = 0 := by simp [cpl, h]
theorem cpl_nil_left {α : Type} [DecidableEq α] (y : List α) : cpl ([] : List α) y = 0 := by simp [cpl]
theorem cpl_nil_right {α : Type} [DecidableEq α] (x : List α) : cpl x ([] : List α) = 0 := by cases x <;> simp [cpl]
end Go.Proofs.YtipoeidmblnbbaaDoor
/- How great a maker of normal forms is. Plain mathematics. -/
namespace Go.Proofs.YtipoeidmblnbbaaDoor
set_option linter.unusedVariables false
set_option linter.unusedSimpArgs false

/-- a maker has at most K ops, with at most K runes and S attributes or changes each -/
structure MkB (m : Mk) (K S : Nat) : Prop where
  len : m.done.length + m.ins.length ≤ K
  prt : ∀ o ∈ m.done ++ m.ins, o.r.length ≤ K ∧ o.s.length ≤ S ∧ o.p.length ≤ S
theorem MkB.new (S : Nat) : MkB Mk.new 0 S := ⟨Nat.le_refl _, fun o h => by simp [Mk.new] at h⟩
theorem MkB.mono {m : Mk} {K K' S S' : Nat} (h : MkB m K S) (hK : K ≤ K') (hS : S ≤ S') : MkB m K' S' :=
  ⟨Nat.le_trans h.len hK, fun o ho => by obtain ⟨h1, h2, h3⟩ := h.prt o ho; exact ⟨by omega, by omega, by omega⟩⟩
theorem MkB.gap {m : Mk} {K S : Nat} (h : MkB m K S) : (m.done ++ mkGap m).length ≤ K + 1 ∧ ∀ o ∈ m.done ++ mkGap m, o.r.length ≤ K ∧ o.s.length ≤ S ∧ o.p.length ≤ S := by
  have h1 := h.len
  refine ⟨?_, fun o ho => ?_⟩
  · unfold mkGap
    split <;> simp <;> omega
  · unfold mkGap at ho
    rw [← List.append_assoc] at ho
    rcases List.mem_append.1 ho with ho | ho
    · exact h.prt o ho
    · split at ho
      · simp at ho; subst ho; exact ⟨Nat.zero_le _, Nat.zero_le _, Nat.zero_le _⟩
      · cases ho
theorem addR_bnd {d : List Opd} {n : Int} {p : List Ch} {K S : Nat} (h : ∀ o ∈ d, o.r.length ≤ K ∧ o.s.length ≤ S ∧ o.p.length ≤ S) (hp : p.length ≤ S) :
    (addR d n p).length ≤ d.length + 1 ∧ ∀ o ∈ addR d n p, o.r.length ≤ K ∧ o.s.length ≤ S ∧ o.p.length ≤ S := by
  have push : (d ++ [opR n p]).length ≤ d.length + 1 ∧ ∀ o ∈ d ++ [opR n p], o.r.length ≤ K ∧ o.s.length ≤ S ∧ o.p.length ≤ S := ⟨by simp, fun o ho => by
    rcases List.mem_append.1 ho with ho | ho
    · exact h o ho
    · simp at ho; subst ho; exact ⟨Nat.zero_le _, Nat.zero_le _, hp⟩⟩
  unfold addR
  cases hg : d.getLast? with
  | none => exact push
  | some o =>
    simp only
    by_cases hc : o.k = 1 ∧ o.p = p
    · rw [if_pos hc]
      have hm := List.mem_of_getLast? hg
      refine ⟨by simp, fun x hx => ?_⟩
      rcases List.mem_append.1 hx with hx | hx
      · exact h x ((List.dropLast_sublist _).subset hx)
      · simp at hx; subst hx; exact h o hm
    · rw [if_neg hc]; exact push
theorem MkB.retain {m : Mk} {K S : Nat} (h : MkB m K S) (n : Int) {p : List Ch} (hp : p.length ≤ S) : MkB (mkRetain m n p) (K + 2) S := by
  unfold mkRetain
  split
  · exact h.mono (by omega) (Nat.le_refl _)
  · obtain ⟨g1, g2⟩ := h.gap
    obtain ⟨a1, a2⟩ := addR_bnd (n := n) (p := p) g2 hp
    refine ⟨by show (addR _ n p).length + 0 ≤ _; omega, fun o ho => ?_⟩
    have ho' : o ∈ addR (m.done ++ mkGap m) n p := by simpa using ho
    obtain ⟨h1, h2, h3⟩ := a2 o ho'
    exact ⟨by omega, h2, h3⟩
theorem MkB.insert {m : Mk} {K S : Nat} (h : MkB m K S) (l : List Int) {s : List At} (hs : s.length ≤ S) : MkB (mkInsert m l s) (K + l.length) S := by
  unfold mkInsert
  by_cases hl : l = []
  · rw [if_pos hl]; exact h.mono (by omega) (Nat.le_refl _)
  · rw [if_neg hl]
    have hpos : 0 < l.length := List.length_pos_iff.2 hl
    have hlen := h.len
    have base : ∀ o ∈ m.done ++ m.ins, o.r.length ≤ K + l.length ∧ o.s.length ≤ S ∧ o.p.length ≤ S := fun o ho => by obtain ⟨h1, h2, h3⟩ := h.prt o ho; exact ⟨by omega, h2, h3⟩
    have push : MkB { m with ins := m.ins ++ [opI l s] } (K + l.length) S := ⟨by simp; omega, fun o ho => by
      simp only at ho
      rw [← List.append_assoc] at ho
      rcases List.mem_append.1 ho with ho | ho
      · exact base o ho
      · simp at ho; subst ho; exact ⟨by simp [opI], hs, Nat.zero_le _⟩⟩
    unfold addI
    cases hg : m.ins.getLast? with
    | none => exact push
    | some o =>
      simp only
      by_cases hc : o.s = s
      · rw [if_pos hc]
        have hm := List.mem_of_getLast? hg
        have hpi := List.length_pos_of_mem hm
        refine ⟨by simp; omega, fun x hx => ?_⟩
        simp only at hx
        rw [← List.append_assoc] at hx
        rcases List.mem_append.1 hx with hx | hx
        · refine base x ?_
          rcases List.mem_append.1 hx with hx | hx
          · exact List.mem_append_left _ hx
          · exact List.mem_append_right _ ((List.dropLast_sublist _).subset hx)
        · simp at hx; subst hx
          obtain ⟨h1, h2, h3⟩ := h.prt o (List.mem_append_right _ hm)
          exact ⟨by simp; omega, h2, h3⟩
      · rw [if_neg hc]; exact push
theorem MkB.delete {m : Mk} {K S : Nat} (h : MkB m K S) (n : Int) : MkB (mkDelete m n) K S := ⟨h.len, h.prt⟩
theorem cutR_sub (d : List Opd) : (cutR d).length ≤ d.length ∧ ∀ o ∈ cutR d, o ∈ d := by
  unfold cutR
  split
  · split
    · exact ⟨(List.dropLast_sublist _).length_le, fun o ho => (List.dropLast_sublist _).subset ho⟩
    · exact ⟨Nat.le_refl _, fun o ho => ho⟩
  · exact ⟨Nat.le_refl _, fun o ho => ho⟩
theorem MkB.ops {m : Mk} {K S : Nat} (h : MkB m K S) : (mkOps m).length ≤ K + 1 ∧ ∀ o ∈ mkOps m, o.r.length ≤ K ∧ o.s.length ≤ S ∧ o.p.length ≤ S := by
  obtain ⟨g1, g2⟩ := h.gap
  obtain ⟨c1, c2⟩ := cutR_sub (m.done ++ mkGap m)
  exact ⟨Nat.le_trans c1 g1, fun o ho => g2 o (c2 o ho)⟩
end Go.Proofs.YtipoeidmblnbbaaDoor
