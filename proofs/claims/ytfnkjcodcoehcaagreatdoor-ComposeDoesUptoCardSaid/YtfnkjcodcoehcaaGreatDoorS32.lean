/- Merged texts: Com20L. -/
import Derived.Test.YtfnkjcodcoehcaaGreatDoorS26
import Derived.Test.YtfnkjcodcoehcaaGreatDoorS24
import Derived.Test.YtfnkjcodcoehcaaGreatDoorS28
namespace Go.Proofs.YtfnkjcodcoehcaaGreatDoor
set_option linter.unusedVariables false
set_option linter.unusedSimpArgs false

/-- how far the document has come: at us from a on, at vs from m on -/
def ComSt (l : List Ky) (us vs : List Un) (a m : Nat) (X : List Opd) : Prop := ∃ pre, X = pre.map op1 ∧ compU l us vs = pre ++ compU l (us.drop a) (vs.drop m)
/-- what lies under a unit that takes: a retain, or nothing any more -/
def Und (us : List Un) (a b : Nat) (p : List Ch) : Prop := (us.length ≤ a ∧ b = a ∧ p = []) ∨ (us[a]? = some (.ret p) ∧ b = a + 1)
section
variable {l : List Ky} {us vs : List Un} {a b m : Nat} {X : List Opd} {p q : List Ch} {r : Int} {s : List At}
theorem drop_at {α : Type} {x : List α} {i : Nat} {e : α} (h : x[i]? = some e) : x.drop i = e :: x.drop (i + 1) := by
  obtain ⟨hi, he⟩ := List.getElem?_eq_some_iff.1 h
  rw [List.drop_eq_getElem_cons hi, he]
theorem ComSt.nil (l : List Ky) (us vs : List Un) : ComSt l us vs 0 0 [] := ⟨[], rfl, rfl⟩
theorem ComSt.len (h : ComSt l us vs a m X) : X.length ≤ us.length + vs.length := by
  obtain ⟨pre, rfl, h2⟩ := h
  have h3 := congrArg List.length h2
  have h4 := comp_len l vs us
  rw [List.length_append] at h3
  rw [List.length_map]; omega
theorem ComSt.push {u : Un} (h : ComSt l us vs a m X) {a' m' : Nat} (he : compU l (us.drop a) (vs.drop m) = u :: compU l (us.drop a') (vs.drop m')) : ComSt l us vs a' m' (X ++ [op1 u]) := by
  obtain ⟨pre, rfl, h2⟩ := h
  exact ⟨pre ++ [u], by rw [List.map_append]; rfl, by rw [h2, he, List.append_assoc]; rfl⟩
theorem ComSt.ins (h : ComSt l us vs a m X) (hv : vs[m]? = some (.ins r s)) : ComSt l us vs a (m + 1) (X ++ [op1 (.ins r s)]) := h.push (by rw [drop_at hv, compU_ins])
theorem ComSt.skip (h : ComSt l us vs a m X) (hu : us[a]? = some .del) {v : Un} (hv : vs[m]? = some v) (hn : ∀ r s, v ≠ .ins r s) : ComSt l us vs (a + 1) m (X ++ [op1 .del]) := h.push (by
  rw [drop_at hv, drop_at hu]
  cases v with
  | ins r s => exact absurd rfl (hn r s)
  | del => exact compU_dd l _ _
  | ret q => exact compU_dr l _ _ q)
theorem ComSt.del (h : ComSt l us vs a m X) (hu : Und us a b p) (hv : vs[m]? = some .del) : ComSt l us vs b (m + 1) (X ++ [op1 .del]) := h.push (by
  rw [drop_at hv]
  rcases hu with ⟨h1, rfl, _⟩ | ⟨h1, rfl⟩
  · rw [List.drop_of_length_le h1, compU_nd]
  · rw [drop_at h1, compU_rd])
theorem ComSt.ret (h : ComSt l us vs a m X) (hu : Und us a b p) (hv : vs[m]? = some (.ret q)) : ComSt l us vs b (m + 1) (X ++ [op1 (.ret (composeP p q))]) := h.push (by
  rw [drop_at hv]
  rcases hu with ⟨h1, rfl, rfl⟩ | ⟨h1, rfl⟩
  · rw [List.drop_of_length_le h1, compU_nr]
  · rw [drop_at h1, compU_rr])
theorem ComSt.gone (h : ComSt l us vs a m X) (hu : us[a]? = some (.ins r s)) (hv : vs[m]? = some .del) : ComSt l us vs (a + 1) (m + 1) X := by
  obtain ⟨pre, h1, h2⟩ := h
  exact ⟨pre, h1, by rw [h2, drop_at hv, drop_at hu, compU_id]⟩
theorem ComSt.turn (h : ComSt l us vs a m X) (hu : us[a]? = some (.ins r s)) (hv : vs[m]? = some (.ret q)) : ComSt l us vs (a + 1) (m + 1) (X ++ [op1 (.ins r (actC l ⟨r, s⟩ q).s)]) := h.push (by rw [drop_at hv, drop_at hu, compU_ir])
theorem ComSt.last (h : ComSt l us vs a m X) (hm : vs.length ≤ m) : X ++ (us.drop a).map op1 = (compU l us vs).map op1 := by
  obtain ⟨pre, rfl, h2⟩ := h
  rw [h2, List.drop_of_length_le hm, compU_nil, List.map_append]
theorem und_rise (h : Und us a b p) (hm : ∀ u ∈ us, mU l u) : riseC p = true ∧ p.length ≤ 64 := by
  rcases h with ⟨_, _, rfl⟩ | ⟨h, _⟩
  · exact ⟨rfl, Nat.zero_le _⟩
  · have h1 : mayP l p = 0 := hm _ (List.mem_of_getElem? h)
    have h2 := mayP_zero h1
    exact ⟨h2.2.1, h2.1⟩
theorem units_op1 (us : List Un) : units (us.map op1) = us := by
  induction us with
  | nil => rfl
  | cons u us ih => rw [List.map_cons, units_cons, ih, unitsO_one]; rfl
theorem isOp_map (us : List Un) : ∀ o ∈ us.map op1, isOp o := fun o ho => by
  obtain ⟨u, _, rfl⟩ := List.mem_map.1 ho
  exact isOp_one u
theorem op1_small {us : List Un} (h : ∀ u ∈ us, mU l u) : ∀ o ∈ us.map op1, o.r.length ≤ 1 ∧ o.s.length ≤ 1000000 ∧ o.p.length ≤ 1000000 := fun o ho => by
  obtain ⟨u, hu, rfl⟩ := List.mem_map.1 ho
  cases u with
  | ins r s =>
    have h1 : mayS l s = 0 := (h _ hu).2
    have h2 := (mayS_zero h1).1
    exact ⟨Nat.le_refl _, by show s.length ≤ _; omega, Nat.zero_le _⟩
  | del => exact ⟨Nat.zero_le _, Nat.zero_le _, Nat.zero_le _⟩
  | ret p =>
    have h1 : mayP l p = 0 := h _ hu
    have h2 := (mayP_zero h1).1
    exact ⟨Nat.zero_le _, Nat.zero_le _, by show p.length ≤ _; omega⟩
end
end Go.Proofs.YtfnkjcodcoehcaaGreatDoor
