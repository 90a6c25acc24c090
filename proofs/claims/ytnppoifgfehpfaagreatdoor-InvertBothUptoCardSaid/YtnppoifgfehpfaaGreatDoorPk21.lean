/- The walk of cells.tell. -/
import Derived.Test.YtnppoifgfehpfaaGreatDoorMkIns3Pd
import Derived.Test.YtnppoifgfehpfaaGreatDoorPk14
namespace Go.Proofs.YtnppoifgfehpfaaGreatDoor
open Go.RowKit
set_option linter.unusedVariables false
set_option linter.unusedSimpArgs false

def tellM (m : Mk) (d : List Cl) : Mk := d.foldl (fun m c => mkInsert m [c.r] c.s) m
/-- how much a maker's inserts hold -/
def InsB (m : Mk) (K : Nat) : Prop := m.ins.length ≤ K ∧ ∀ o ∈ m.ins, o.s.length ≤ 10000000 ∧ o.r.length ≤ K ∧ o.p = []
theorem InsB.insert {m : Mk} {K : Nat} (h : InsB m K) (r : Int) {s : List At} (hs : s.length ≤ 10000000) : InsB (mkInsert m [r] s) (K + 1) := by
  obtain ⟨h1, h2⟩ := h
  unfold mkInsert addI
  rw [if_neg (by simp)]
  have base : ∀ o ∈ m.ins, o.s.length ≤ 10000000 ∧ o.r.length ≤ K + 1 ∧ o.p = [] := fun o ho => ⟨(h2 o ho).1, Nat.le_succ_of_le (h2 o ho).2.1, (h2 o ho).2.2⟩
  have push : InsB { m with ins := m.ins ++ [opI [r] s] } (K + 1) := ⟨by simp; omega, fun o ho => by
    rcases List.mem_append.1 ho with ho | ho
    · exact base o ho
    · simp at ho; subst ho; exact ⟨hs, by simp [opI], rfl⟩⟩
  cases hg : m.ins.getLast? with
  | none => exact push
  | some o =>
    simp only
    by_cases hc : o.s = s
    · rw [if_pos hc]
      have hm := List.mem_of_getLast? hg
      have hpos := List.length_pos_of_mem hm
      refine ⟨by simp; omega, fun x hx => ?_⟩
      rcases List.mem_append.1 hx with hx | hx
      · exact base x ((List.dropLast_sublist _).subset hx)
      · simp at hx; subst hx
        exact ⟨(h2 o hm).1, by have := (h2 o hm).2.1; simp; omega, (h2 o hm).2.2⟩
    · rw [if_neg hc]; exact push
theorem tellM_snoc (m : Mk) (d : List Cl) (c : Cl) : tellM m (d ++ [c]) = mkInsert (tellM m d) [c.r] c.s := by unfold tellM; rw [List.foldl_append]; rfl
theorem InsB.tell {m : Mk} {K : Nat} (h : InsB m K) : ∀ (d : List Cl), (∀ c ∈ d, c.s.length ≤ 10000000) → InsB (tellM m d) (K + d.length) := by
  intro d
  induction d generalizing m K with
  | nil => intro _; exact h
  | cons c d ih =>
    intro hs
    have := ih (h.insert c.r (hs c (by simp))) (fun x hx => hs x (by simp [hx]))
    rw [List.length_cons, show K + (d.length + 1) = K + 1 + d.length by omega]
    exact this

end Go.Proofs.YtnppoifgfehpfaaGreatDoor
