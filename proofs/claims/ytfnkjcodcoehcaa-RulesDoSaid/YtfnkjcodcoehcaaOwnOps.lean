/- Stores into, and clearing of, a row of the call's own. -/
import Derived.Test.YtfnkjcodcoehcaaBase2
namespace Go.Proofs.Ytfnkjcodcoehcaa
open Go.RowKit
set_option linter.unusedVariables false

section
variable {α : Type} {enc : α → List Value} {size : Nat} {e : TypeId} {w w' : World} {base n c : Nat} {l : List α} {P : Program}

theorem flat_take (hs : ∀ a, (enc a).length = size) (l : List α) (i : Nat) : (l.flatMap enc).take (i * size) = (l.take i).flatMap enc := by
  induction l generalizing i with
  | nil => simp
  | cons a l ih =>
    cases i with
    | zero => simp
    | succ i =>
      simp only [List.flatMap_cons, List.take_succ_cons]
      rw [List.take_append, hs, Nat.add_mul, Nat.one_mul, List.take_of_length_le (by rw [hs]; omega), Nat.add_sub_cancel, ih]
theorem flat_drop (hs : ∀ a, (enc a).length = size) (l : List α) (i : Nat) : (l.flatMap enc).drop (i * size) = (l.drop i).flatMap enc := by
  induction l generalizing i with
  | nil => simp
  | cons a l ih =>
    cases i with
    | zero => simp
    | succ i =>
      simp only [List.flatMap_cons, List.drop_succ_cons]
      rw [List.drop_append, hs, Nat.add_mul, Nat.one_mul, List.drop_of_length_le (by rw [hs]; omega), Nat.add_sub_cancel, ih]
      rfl

/-- the row behind an own slice that is not empty -/
theorem Ow.row {A : Option Addr} (h : Ow enc size e w base (.slice A n c) l) (hl : 0 < l.length) :
    ∃ g cur, A = some ⟨g, 0, none⟩ ∧ n = l.length ∧ base ≤ g ∧ w.heap[g]? = some (.cells cur e (0, 0)) ∧ l.length ≤ c ∧ c ≤ maxLen ∧ cur.size = c * size ∧ cur.toList.take (l.length * size) = l.flatMap enc := by
  rcases h with ⟨rfl, _⟩ | ⟨_, ⟨_, h0⟩ | ⟨g, cap, cur, hv, hb, hg, h1, h2, h3, h4⟩⟩
  · simp at hl
  · omega
  · injection hv with hA hn hc
    subst hA; subst hn; subst hc
    exact ⟨g, cur, rfl, rfl, hb, hg, h1, h2, h3, h4⟩
theorem add_row (g i : Nat) : (⟨g, 0, none⟩ : Addr).add i = ⟨g, i, none⟩ := by
  unfold Addr.add
  split
  · rename_i h; rw [h]
  · simp

theorem run_set_own (t : TypeId) (i0 : TypeInfo) (hi : P.info? t = some i0) (hsz : i0.size = size) (hs : ∀ a, (enc a).length = size) (h1 : ∀ a, ∀ u ∈ enc a, u.oneCell' = true)
    {A : Option Addr} (h : Ow enc size e w base (.slice A n c) l) {i : Nat} (hil : i < l.length) (b : α) {cs : Array Value} (hcs : cs.toList = enc b) {p : Addr} (hp : A.map (·.add (i * size)) = some p) :
    ∃ w', (Instr.storeAt t (.pointer (some p)) (.agg cs)).run P w = .ok () w' ∧ Ow enc size e w' base (.slice A n c) (l.set i b) ∧ w.grownBy w' (wb (.slice A n c)) := by
  obtain ⟨g, cur, rfl, hn, hb, hg, hlc, hcm, hcur, htake⟩ := h.row (by omega)
  simp only [Option.map_some, add_row, Option.some.injEq] at hp
  subst hp
  have hcsz : cs.size = size := by rw [← Array.length_toList, hcs, hs]
  have hfit : i * size + 0 + (enc b).length ≤ cur.size := by
    rw [hs, hcur, Nat.add_zero, ← Nat.succ_mul]
    exact Nat.mul_le_mul_right _ (by omega)
  have hst := run_storeCells_at P g (i * size) e (enc b) 0 cur w hg hfit (h1 b)
  refine ⟨w.setRow g (cur.toList.take (i * size + 0) ++ enc b ++ cur.toList.drop (i * size + 0 + (enc b).length)).toArray, ?_, ?_, ?_⟩
  · simp [Instr.storeAt, Instr.sureAddr, storeVar, sizeOf, typeInfo, hi, hsz, Value.cells, hcsz, hcs]
    simpa using hst
  · refine .inr ⟨by rw [flat_len hs], .inr ⟨g, c, _, by rw [hn, List.length_set], hb, setRow_heap w g cur _ e _ hg, by rw [List.length_set]; exact hlc, hcm, ?_, ?_⟩⟩
    · simp only [List.size_toArray, List.length_append, List.length_take, List.length_drop, Array.length_toList]
      omega
    · rw [List.length_set, Nat.add_zero]
      have e1 : (l.set i b).flatMap enc = (l.take i).flatMap enc ++ (enc b ++ (l.drop (i + 1)).flatMap enc) := by
        rw [List.set_eq_take_append_cons_drop, if_pos hil, List.flatMap_append, List.flatMap_cons]
      have hle : i * size ≤ l.length * size := Nat.mul_le_mul_right _ (by omega)
      have hle2 : (i + 1) * size ≤ l.length * size := Nat.mul_le_mul_right _ hil
      have e2 : cur.toList.take (i * size) = (l.take i).flatMap enc := by
        rw [← flat_take hs, ← htake, List.take_take, Nat.min_eq_left hle]
      have e3 : (cur.toList.drop ((i + 1) * size)).take (l.length * size - (i + 1) * size) = (l.drop (i + 1)).flatMap enc := by
        rw [← flat_drop hs, ← htake, List.drop_take]
      rw [e1, ← e2, ← e3]
      simp only [List.append_assoc]
      have hl1 : (cur.toList.take (i * size)).length = i * size := by
        rw [List.length_take, Array.length_toList, hcur, Nat.min_eq_left]
        exact Nat.le_trans hle (Nat.mul_le_mul_right _ hlc)
      rw [List.take_append, hl1, List.take_of_length_le (by rw [hl1]; exact hle), List.take_append, hs, List.take_of_length_le (l := enc b) (by rw [hs]; rw [Nat.succ_mul] at hle2; omega)]
      congr 3
      · rw [Nat.succ_mul]; omega
      · rw [Nat.succ_mul]
  · refine ⟨rfl, rfl, rfl, by simp, fun k _ hk => setRow_other w g k _ (fun e => hk ?_)⟩
    have : 0 < c := by omega
    cases c with
    | zero => omega
    | succ c => simp [wb, e]

/-- 'clear(s[i:])' of an own slice: the head stays -/
theorem run_clear_own (t ty : TypeId) (ht : P.underlying t = some (.slice e)) (i0 : TypeInfo) (z : Value) (hi : P.info? e = some i0) (hz : i0.zero = some z) (hzs : z.cells.size = size) (hzo : ∀ u ∈ z.cells.toList, u.oneCell' = true) (hs : ∀ a, (enc a).length = size)
    {A X : Option Addr} (h : Ow enc size e w base (.slice A n c) l) {i k : Nat} (hil : i ≤ l.length) (hX : l.length - i = 0 ∨ X = A.map (·.add (i * size))) :
    ∃ w', (Builtin.clear_ #[t] ty #[.slice X (l.length - i) k]).run P w = .ok (.tuple #[]) w' ∧ Ow enc size e w' base (.slice A i c) (l.take i) ∧ w.grownBy w' (wb (.slice A n c)) := by
  rcases Nat.eq_zero_or_pos (l.length - i) with h0 | h0
  · have hli : l.take i = l := List.take_of_length_le (by omega)
    have hil' : i = l.length := by omega
    refine ⟨w, ?_, ?_, World.grownBy.refl w _⟩
    · rw [h0]
      cases X <;> simp [Builtin.clear_, run_underlying ht]
    · rw [hli, hil']
      rcases Nat.eq_zero_or_pos l.length with hz0 | hp
      · have hnil : l = [] := List.eq_nil_of_length_eq_zero hz0
        subst hnil
        rcases h with ⟨_, A', hv⟩ | ⟨h1, ⟨hv, hn⟩ | ⟨g, cap, cur, hv, r⟩⟩
        · injection hv with a b c; subst a; subst b; subst c; exact .inl ⟨rfl, _, rfl⟩
        · injection hv with a b c; subst a; subst b; subst c; exact .inl ⟨rfl, _, rfl⟩
        · injection hv with a b c; subst a; subst b; subst c; exact .inr ⟨h1, .inr ⟨g, _, cur, rfl, r⟩⟩
      · obtain ⟨g, cur, rfl, hn, r⟩ := h.row hp
        rw [← hn]; exact h
  · obtain ⟨g, cur, rfl, hn, hb, hg, hlc, hcm, hcur, htake⟩ := h.row (by omega)
    rcases hX with hX | rfl
    · omega
    have hzl : (Builtin.zeroCells z.cells (l.length - i)).toList.length = (l.length - i) * size := by rw [Array.length_toList, size_zeroCells, hzs]
    have hzo' : ∀ u ∈ (Builtin.zeroCells z.cells (l.length - i)).toList, u.oneCell' = true := by
      intro u hu
      simp only [Builtin.zeroCells, Array.toList_map, List.mem_map, Array.mem_toList_iff] at hu
      obtain ⟨j, _, rfl⟩ := hu
      have hpos : 0 < z.cells.size := by
        rcases Nat.eq_zero_or_pos z.cells.size with hz0 | hp
        · rename_i hj; rw [hz0, Nat.mul_zero] at hj; simp at hj
        · exact hp
      have hlt : j % z.cells.size < z.cells.size := Nat.mod_lt _ hpos
      rw [getElem!_pos z.cells _ hlt]
      exact hzo _ (Array.getElem_mem_toList hlt)
    have hfit : i * size + 0 + (Builtin.zeroCells z.cells (l.length - i)).toList.length ≤ cur.size := by
      rw [hzl, hcur, Nat.add_zero, ← Nat.add_mul]
      exact Nat.mul_le_mul_right _ (by omega)
    have hst := run_storeCells_at P g (i * size) e _ 0 cur w hg hfit hzo'
    refine ⟨w.setRow g (cur.toList.take (i * size + 0) ++ (Builtin.zeroCells z.cells (l.length - i)).toList ++ cur.toList.drop (i * size + 0 + (Builtin.zeroCells z.cells (l.length - i)).toList.length)).toArray, ?_, ?_, ?_⟩
    · obtain ⟨m, hm⟩ : ∃ m, l.length - i = m + 1 := ⟨l.length - i - 1, by omega⟩
      rw [hm] at hst ⊢
      simp [Builtin.clear_, run_underlying ht, zeroValue, typeInfo, hi, hz, add_row]
      simp at hst
      rw [hst]
      simp
    · refine .inr ⟨by rw [flat_len hs], .inr ⟨g, c, _, by rw [List.length_take, Nat.min_eq_left hil], hb, setRow_heap w g cur _ e _ hg, by rw [List.length_take]; omega, hcm, ?_, ?_⟩⟩
      · simp only [List.size_toArray, List.length_append, List.length_take, List.length_drop, Array.length_toList]
        rw [Array.length_toList] at hfit
        omega
      · have hle : i * size ≤ l.length * size := Nat.mul_le_mul_right _ hil
        have hle3 : i * size ≤ cur.size := by rw [hcur]; exact Nat.le_trans hle (Nat.mul_le_mul_right _ hlc)
        rw [List.length_take, Nat.min_eq_left hil, Nat.add_zero]
        simp only [List.append_assoc]
        rw [List.take_append, List.length_take, Array.length_toList, Nat.min_eq_left hle3, Nat.sub_self, List.take_zero, List.append_nil, List.take_of_length_le (by rw [List.length_take]; omega), ← flat_take hs, ← htake, List.take_take, Nat.min_eq_left hle]
    · refine ⟨rfl, rfl, rfl, by simp, fun k _ hk => setRow_other w g k _ (fun e => hk ?_)⟩
      have : 0 < c := by omega
      cases c with
      | zero => omega
      | succ c => simp [wb, e]

theorem wpList_set_own {ops : Array Oper} {rest : List Oper} {o : Oper} {a : Act} {Q : Exit → Act → World → Prop} (hgd : o.guard = none) (t : TypeId) (x y : Operand) (ho : o.op = .store t x y) (hdst : o.dst = none)
    (i0 : TypeInfo) (hi : P.info? t = some i0) (hsz : i0.size = size) (hs : ∀ a, (enc a).length = size) (h1 : ∀ a, ∀ u ∈ enc a, u.oneCell' = true)
    {A : Option Addr} (h : Ow enc size e w base (.slice A n c) l) {i : Nat} (hil : i < l.length) (b : α) {cs : Array Value} (hcs : cs.toList = enc b) {p : Addr} (hp : A.map (·.add (i * size)) = some p)
    (hx : a.eval x = .pointer (some p)) (hy : a.eval y = .agg cs)
    (hK : ∀ w', Ow enc size e w' base (.slice A n c) (l.set i b) → w.grownBy w' (wb (.slice A n c)) → wpList P ops Q rest a w') : wpList P ops Q (o :: rest) a w :=
  wpList_plain hgd fun K hK' => by
    obtain ⟨w', hr, h2, h3⟩ := run_set_own (P := P) t i0 hi hsz hs h1 h hil b hcs hp
    unfold Oper.wp execOp
    simp only [ho, hx, hy, hr, Sem.run_bind, Sem.run_pure, Result.andThen_ok]
    refine hK' _ _ ?_
    have := hK w' h2 h3
    simpa [Act.put, hdst] using this
theorem wpList_clear_own {ops : Array Oper} {rest : List Oper} {o : Oper} {a : Act} {Q : Exit → Act → World → Prop} (hgd : o.guard = none) (x : Operand) (t : TypeId)
    (ho : o.op = .call { callee := .builtin .clear, args := #[x], argTypes := #[t] }) (hdst : o.dst = none)
    (ht : P.underlying t = some (.slice e)) (i0 : TypeInfo) (z : Value) (hi : P.info? e = some i0) (hz : i0.zero = some z) (hzs : z.cells.size = size) (hzo : ∀ u ∈ z.cells.toList, u.oneCell' = true) (hs : ∀ a, (enc a).length = size)
    {A X : Option Addr} (h : Ow enc size e w base (.slice A n c) l) {i k : Nat} (hil : i ≤ l.length) (hX : l.length - i = 0 ∨ X = A.map (·.add (i * size))) {m : Nat} (hm : m = l.length - i) (hx : a.eval x = .slice X m k)
    (hK : ∀ w', Ow enc size e w' base (.slice A i c) (l.take i) → w.grownBy w' (wb (.slice A n c)) → wpList P ops Q rest a w') : wpList P ops Q (o :: rest) a w :=
  wpList_plain hgd fun K hK' => by
    subst hm
    obtain ⟨w', hr, h2, h3⟩ := run_clear_own (P := P) t o.type ht i0 z hi hz hzs hzo hs h (k := k) hil hX
    unfold Oper.wp execOp
    simp only [ho, resolve, invoke, builtin, Sem.run_bind, Sem.run_pure, Result.andThen_ok, List.map_toArray, List.map_cons, List.map_nil, hx, hr]
    refine hK' _ _ ?_
    have := hK w' h2 h3
    simpa [Act.put, hdst] using this
end
end Go.Proofs.Ytfnkjcodcoehcaa
