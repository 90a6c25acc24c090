/- Merged texts: OwnOps, Clone, InsOps, OpTypes, Den. -/
import Derived.Test.YtipoeidmblnbbaaDoorPk6
import Derived.Lib.Overlaps
/- Stores into, and clearing of, a row of the call's own. -/
namespace Go.Proofs.YtipoeidmblnbbaaDoor
open Go.RowKit
set_option linter.unusedVariables false

section
variable {α : Type} {enc : α → List Value} {size : Nat} {e : TypeId} {w w' : World} {base n c : Nat} {l : List α} {P : Program}

theorem flat_take (hs : ∀ a, (enc a).length = size) (l : List α) (i : Nat) : (l.flatMap enc).take (i * size) = (l.take i).flatMap enc := by
  induction l generalizing i with
  | nil => simp
  | cons a l ih =>
    cases i with
    | zero => simp
    | succ i =>
      simp only [List.flatMap_cons, List.take_succ_cons]
      rw [List.take_append, hs, Nat.add_mul, Nat.one_mul, List.take_of_length_le (by rw [hs]; omega), Nat.add_sub_cancel, ih]
theorem flat_drop (hs : ∀ a, (enc a).length = size) (l : List α) (i : Nat) : (l.flatMap enc).drop (i * size) = (l.drop i).flatMap enc := by
  induction l generalizing i with
  | nil => simp
  | cons a l ih =>
    cases i with
    | zero => simp
    | succ i =>
      simp only [List.flatMap_cons, List.drop_succ_cons]
      rw [List.drop_append, hs, Nat.add_mul, Nat.one_mul, List.drop_of_length_le (by rw [hs]; omega), Nat.add_sub_cancel, ih]
      rfl

/-- the row behind an own slice that is not empty -/
theorem Ow.row {A : Option Addr} (h : Ow enc size e w base (.slice A n c) l) (hl : 0 < l.length) :
    ∃ g cur, A = some ⟨g, 0, none⟩ ∧ n = l.length ∧ base ≤ g ∧ w.heap[g]? = some (.cells cur e (0, 0)) ∧ l.length ≤ c ∧ c ≤ maxLen ∧ cur.size = c * size ∧ cur.toList.take (l.length * size) = l.flatMap enc := by
  rcases h with ⟨rfl, _⟩ | ⟨_, ⟨_, h0⟩ | ⟨g, cap, cur, hv, hb, hg, h1, h2, h3, h4⟩⟩
  · simp at hl
  · omega
  · injection hv with hA hn hc
    subst hA; subst hn; subst hc
    exact ⟨g, cur, rfl, rfl, hb, hg, h1, h2, h3, h4⟩
theorem add_row (g i : Nat) : (⟨g, 0, none⟩ : Addr).add i = ⟨g, i, none⟩ := by
  unfold Addr.add
  split
  · rename_i h; rw [h]
  · simp

theorem run_set_own (t : TypeId) (i0 : TypeInfo) (hi : P.info? t = some i0) (hsz : i0.size = size) (hs : ∀ a, (enc a).length = size) (h1 : ∀ a, ∀ u ∈ enc a, u.oneCell' = true)
    {A : Option Addr} (h : Ow enc size e w base (.slice A n c) l) {i : Nat} (hil : i < l.length) (b : α) {cs : Array Value} (hcs : cs.toList = enc b) {p : Addr} (hp : A.map (·.add (i * size)) = some p) :
    ∃ w', (Instr.storeAt t (.pointer (some p)) (.agg cs)).run P w = .ok () w' ∧ Ow enc size e w' base (.slice A n c) (l.set i b) ∧ w.grownBy w' (wb (.slice A n c)) := by
  obtain ⟨g, cur, rfl, hn, hb, hg, hlc, hcm, hcur, htake⟩ := h.row (by omega)
  simp only [Option.map_some, add_row, Option.some.injEq] at hp
  subst hp
  have hcsz : cs.size = size := by rw [← Array.length_toList, hcs, hs]
  have hfit : i * size + 0 + (enc b).length ≤ cur.size := by
    rw [hs, hcur, Nat.add_zero, ← Nat.succ_mul]
    exact Nat.mul_le_mul_right _ (by omega)
  have hst := run_storeCells_at P g (i * size) e (enc b) 0 cur w hg hfit (h1 b)
  refine ⟨w.setRow g (cur.toList.take (i * size + 0) ++ enc b ++ cur.toList.drop (i * size + 0 + (enc b).length)).toArray, ?_, ?_, ?_⟩
  · simp [Instr.storeAt, Instr.sureAddr, storeVar, sizeOf, typeInfo, hi, hsz, Value.cells, hcsz, hcs]
    simpa using hst
  · refine .inr ⟨by rw [flat_len hs], .inr ⟨g, c, _, by rw [hn, List.length_set], hb, setRow_heap w g cur _ e _ hg, by rw [List.length_set]; exact hlc, hcm, ?_, ?_⟩⟩
    · simp only [List.size_toArray, List.length_append, List.length_take, List.length_drop, Array.length_toList]
      omega
    · rw [List.length_set, Nat.add_zero]
      have e1 : (l.set i b).flatMap enc = (l.take i).flatMap enc ++ (enc b ++ (l.drop (i + 1)).flatMap enc) := by
        rw [List.set_eq_take_append_cons_drop, if_pos hil, List.flatMap_append, List.flatMap_cons]
      have hle : i * size ≤ l.length * size := Nat.mul_le_mul_right _ (by omega)
      have hle2 : (i + 1) * size ≤ l.length * size := Nat.mul_le_mul_right _ hil
      have e2 : cur.toList.take (i * size) = (l.take i).flatMap enc := by
        rw [← flat_take hs, ← htake, List.take_take, Nat.min_eq_left hle]
      have e3 : (cur.toList.drop ((i + 1) * size)).take (l.length * size - (i + 1) * size) = (l.drop (i + 1)).flatMap enc := by
        rw [← flat_drop hs, ← htake, List.drop_take]
      rw [e1, ← e2, ← e3]
      simp only [List.append_assoc]
      have hl1 : (cur.toList.take (i * size)).length = i * size := by
        rw [List.length_take, Array.length_toList, hcur, Nat.min_eq_left]
        exact Nat.le_trans hle (Nat.mul_le_mul_right _ hlc)
      rw [List.take_append, hl1, List.take_of_length_le (by rw [hl1]; exact hle), List.take_append, hs, List.take_of_length_le (l := enc b) (by rw [hs]; rw [Nat.succ_mul] at hle2; omega)]
      congr 3
      · rw [Nat.succ_mul]; omega
      · rw [Nat.succ_mul]
  · refine ⟨rfl, rfl, rfl, by simp, fun k _ hk => setRow_other w g k _ (fun e => hk ?_)⟩
    have : 0 < c := by omega
    cases c with
    | zero => omega
    | succ c => simp [wb, e]

/-- 'clear(s[i:])' of an own slice: the head stays -/
theorem run_clear_own (t ty : TypeId) (ht : P.underlying t = some (.slice e)) (i0 : TypeInfo) (z : Value) (hi : P.info? e = some i0) (hz : i0.zero = some z) (hzs : z.cells.size = size) (hzo : ∀ u ∈ z.cells.toList, u.oneCell' = true) (hs : ∀ a, (enc a).length = size)
    {A X : Option Addr} (h : Ow enc size e w base (.slice A n c) l) {i k : Nat} (hil : i ≤ l.length) (hX : l.length - i = 0 ∨ X = A.map (·.add (i * size))) :
    ∃ w', (Builtin.clear_ #[t] ty #[.slice X (l.length - i) k]).run P w = .ok (.tuple #[]) w' ∧ Ow enc size e w' base (.slice A i c) (l.take i) ∧ w.grownBy w' (wb (.slice A n c)) := by
  rcases Nat.eq_zero_or_pos (l.length - i) with h0 | h0
  · have hli : l.take i = l := List.take_of_length_le (by omega)
    have hil' : i = l.length := by omega
    refine ⟨w, ?_, ?_, World.grownBy.refl w _⟩
    · rw [h0]
      cases X <;> simp [Builtin.clear_, run_underlying ht]
    · rw [hli, hil']
      rcases Nat.eq_zero_or_pos l.length with hz0 | hp
      · have hnil : l = [] := List.eq_nil_of_length_eq_zero hz0
        subst hnil
        rcases h with ⟨_, A', hv⟩ | ⟨h1, ⟨hv, hn⟩ | ⟨g, cap, cur, hv, r⟩⟩
        · injection hv with a b c; subst a; subst b; subst c; exact .inl ⟨rfl, _, rfl⟩
        · injection hv with a b c; subst a; subst b; subst c; exact .inl ⟨rfl, _, rfl⟩
        · injection hv with a b c; subst a; subst b; subst c; exact .inr ⟨h1, .inr ⟨g, _, cur, rfl, r⟩⟩
      · obtain ⟨g, cur, rfl, hn, r⟩ := h.row hp
        rw [← hn]; exact h
  · obtain ⟨g, cur, rfl, hn, hb, hg, hlc, hcm, hcur, htake⟩ := h.row (by omega)
    rcases hX with hX | rfl
    · omega
    have hzl : (Builtin.zeroCells z.cells (l.length - i)).toList.length = (l.length - i) * size := by rw [Array.length_toList, size_zeroCells, hzs]
    have hzo' : ∀ u ∈ (Builtin.zeroCells z.cells (l.length - i)).toList, u.oneCell' = true := by
      intro u hu
      simp only [Builtin.zeroCells, Array.toList_map, List.mem_map, Array.mem_toList_iff] at hu
      obtain ⟨j, _, rfl⟩ := hu
      have hpos : 0 < z.cells.size := by
        rcases Nat.eq_zero_or_pos z.cells.size with hz0 | hp
        · rename_i hj; rw [hz0, Nat.mul_zero] at hj; simp at hj
        · exact hp
      have hlt : j % z.cells.size < z.cells.size := Nat.mod_lt _ hpos
      rw [getElem!_pos z.cells _ hlt]
      exact hzo _ (Array.getElem_mem_toList hlt)
    have hfit : i * size + 0 + (Builtin.zeroCells z.cells (l.length - i)).toList.length ≤ cur.size := by
      rw [hzl, hcur, Nat.add_zero, ← Nat.add_mul]
      exact Nat.mul_le_mul_right _ (by omega)
    have hst := run_storeCells_at P g (i * size) e _ 0 cur w hg hfit hzo'
    refine ⟨w.setRow g (cur.toList.take (i * size + 0) ++ (Builtin.zeroCells z.cells (l.length - i)).toList ++ cur.toList.drop (i * size + 0 + (Builtin.zeroCells z.cells (l.length - i)).toList.length)).toArray, ?_, ?_, ?_⟩
    · obtain ⟨m, hm⟩ : ∃ m, l.length - i = m + 1 := ⟨l.length - i - 1, by omega⟩
      rw [hm] at hst ⊢
      simp [Builtin.clear_, run_underlying ht, zeroValue, typeInfo, hi, hz, add_row]
      simp at hst
      rw [hst]
      simp
    · refine .inr ⟨by rw [flat_len hs], .inr ⟨g, c, _, by rw [List.length_take, Nat.min_eq_left hil], hb, setRow_heap w g cur _ e _ hg, by rw [List.length_take]; omega, hcm, ?_, ?_⟩⟩
      · simp only [List.size_toArray, List.length_append, List.length_take, List.length_drop, Array.length_toList]
        rw [Array.length_toList] at hfit
        omega
      · have hle : i * size ≤ l.length * size := Nat.mul_le_mul_right _ hil
        have hle3 : i * size ≤ cur.size := by rw [hcur]; exact Nat.le_trans hle (Nat.mul_le_mul_right _ hlc)
        rw [List.length_take, Nat.min_eq_left hil, Nat.add_zero]
        simp only [List.append_assoc]
        rw [List.take_append, List.length_take, Array.length_toList, Nat.min_eq_left hle3, Nat.sub_self, List.take_zero, List.append_nil, List.take_of_length_le (by rw [List.length_take]; omega), ← flat_take hs, ← htake, List.take_take, Nat.min_eq_left hle]
    · refine ⟨rfl, rfl, rfl, by simp, fun k _ hk => setRow_other w g k _ (fun e => hk ?_)⟩
      have : 0 < c := by omega
      cases c with
      | zero => omega
      | succ c => simp [wb, e]

theorem wpList_set_own {ops : Array Oper} {rest : List Oper} {o : Oper} {a : Act} {Q : Exit → Act → World → Prop} (hgd : o.guard = none) (t : TypeId) (x y : Operand) (ho : o.op = .store t x y) (hdst : o.dst = none)
    (i0 : TypeInfo) (hi : P.info? t = some i0) (hsz : i0.size = size) (hs : ∀ a, (enc a).length = size) (h1 : ∀ a, ∀ u ∈ enc a, u.oneCell' = true)
    {A : Option Addr} (h : Ow enc size e w base (.slice A n c) l) {i : Nat} (hil : i < l.length) (b : α) {cs : Array Value} (hcs : cs.toList = enc b) {p : Addr} (hp : A.map (·.add (i * size)) = some p)
    (hx : a.eval x = .pointer (some p)) (hy : a.eval y = .agg cs)
    (hK : ∀ w', Ow enc size e w' base (.slice A n c) (l.set i b) → w.grownBy w' (wb (.slice A n c)) → wpList P ops Q rest a w') : wpList P ops Q (o :: rest) a w :=
  wpList_plain hgd fun K hK' => by
    obtain ⟨w', hr, h2, h3⟩ := run_set_own (P := P) t i0 hi hsz hs h1 h hil b hcs hp
    unfold Oper.wp execOp
    simp only [ho, hx, hy, hr, Sem.run_bind, Sem.run_pure, Result.andThen_ok]
    refine hK' _ _ ?_
    have := hK w' h2 h3
    simpa [Act.put, hdst] using this
theorem wpList_clear_own {ops : Array Oper} {rest : List Oper} {o : Oper} {a : Act} {Q : Exit → Act → World → Prop} (hgd : o.guard = none) (x : Operand) (t : TypeId)
    (ho : o.op = .call { callee := .builtin .clear, args := #[x], argTypes := #[t] }) (hdst : o.dst = none)
    (ht : P.underlying t = some (.slice e)) (i0 : TypeInfo) (z : Value) (hi : P.info? e = some i0) (hz : i0.zero = some z) (hzs : z.cells.size = size) (hzo : ∀ u ∈ z.cells.toList, u.oneCell' = true) (hs : ∀ a, (enc a).length = size)
    {A X : Option Addr} (h : Ow enc size e w base (.slice A n c) l) {i k : Nat} (hil : i ≤ l.length) (hX : l.length - i = 0 ∨ X = A.map (·.add (i * size))) {m : Nat} (hm : m = l.length - i) (hx : a.eval x = .slice X m k)
    (hK : ∀ w', Ow enc size e w' base (.slice A i c) (l.take i) → w.grownBy w' (wb (.slice A n c)) → wpList P ops Q rest a w') : wpList P ops Q (o :: rest) a w :=
  wpList_plain hgd fun K hK' => by
    subst hm
    obtain ⟨w', hr, h2, h3⟩ := run_clear_own (P := P) t o.type ht i0 z hi hz hzs hzo hs h (k := k) hil hX
    unfold Oper.wp execOp
    simp only [ho, resolve, invoke, builtin, Sem.run_bind, Sem.run_pure, Result.andThen_ok, List.map_toArray, List.map_cons, List.map_nil, hx, hr]
    refine hK' _ _ ?_
    have := hK w' h2 h3
    simpa [Act.put, hdst] using this
end
end Go.Proofs.YtipoeidmblnbbaaDoor
/- slices.Clone of attributes and of changes; attrs.Copy, patch.Copy. -/
namespace Go.Proofs.YtipoeidmblnbbaaDoor
open Go.RowKit
set_option linter.unusedVariables false
set_option linter.unusedSimpArgs false

set_option maxRecDepth 100000 in
set_option maxHeartbeats 400000 in
theorem cloneAt_any (A : Option Addr) (n c : Nat) (l : List At) (w : World) (hn : n = l.length) (h : RdAt w w.heap.size A l) (hb : n ≤ 100000000) :
    Calls Tryd.prog 66 #[.slice A n c] w (NewAt l w) := by
  cases A with
  | none =>
    have hl : l = [] := by
      cases l with
      | nil => rfl
      | cons a l => obtain ⟨ad, e, _⟩ := h (by simp); cases e
    subst hl
    have hn0 : n = 0 := by simpa using hn
    subst hn0
    clear hn
    have hq := fun (w : World) => Lib.run_eql_slice_nil (P := Tryd.prog) w 42 58 none 0 c 0 0 Tryd.slAt
    go_enter Tryd.func66, Tryd.ntmps66
    go_wp2_with (fail)
    go_ret
    exact ⟨none, 0, rfl, Ow.nil _ _, Below.refl _ _⟩
  | some ad =>
    have N := Lib.hid hn
    clear hn
    have hq := fun (w : World) => Lib.run_eql_slice_nil (P := Tryd.prog) w 42 58 (some ad) n c 0 0 Tryd.slAt
    go_enter Tryd.func66, Tryd.ntmps66
    go_wp2_with (first
      | (at_builtin; refine app_at (m := l) rfl (.tmp 5) (.tmp 6) rfl rfl (by exact Ow.empty _ w.heap.size _) _ _ _ _ rfl N.out (by exact h.ext (ext_alloc w _)) (by have := N.out; simp only [List.length_nil]; omega) (by simp) ?_; intro v' w' hown' hgr hv'))
    rw [List.nil_append] at hown'
    obtain ⟨A', c', rfl, _, _⟩ := hown'.form
    go_ret
    exact ⟨A', c', rfl, hown', (ext_alloc w _).grown hgr (by simp) (fun k hk => by cases hk)⟩

set_option maxRecDepth 100000 in
set_option maxHeartbeats 400000 in
theorem cloneCh_any (A : Option Addr) (n c : Nat) (l : List Ch) (w : World) (hn : n = l.length) (h : RdCh w w.heap.size A l) (hb : n ≤ 100000000) :
    Calls Tryd.prog 106 #[.slice A n c] w (NewCh l w) := by
  cases A with
  | none =>
    have hl : l = [] := by
      cases l with
      | nil => rfl
      | cons a l => obtain ⟨ad, e, _⟩ := h (by simp); cases e
    subst hl
    have hn0 : n = 0 := by simpa using hn
    subst hn0
    clear hn
    have hq := fun (w : World) => Lib.run_eql_slice_nil (P := Tryd.prog) w 43 111 none 0 c 0 0 Tryd.slCh
    go_enter Tryd.func106, Tryd.ntmps106
    go_wp2_with (fail)
    go_ret
    exact ⟨none, 0, rfl, Ow.nil _ _, Below.refl _ _⟩
  | some ad =>
    have N := Lib.hid hn
    clear hn
    have hq := fun (w : World) => Lib.run_eql_slice_nil (P := Tryd.prog) w 43 111 (some ad) n c 0 0 Tryd.slCh
    go_enter Tryd.func106, Tryd.ntmps106
    go_wp2_with (first
      | (at_builtin; refine app_ch (m := l) rfl (.tmp 5) (.tmp 6) rfl rfl (by exact Ow.empty _ w.heap.size _) _ _ _ _ rfl N.out (by exact h.ext (ext_alloc w _)) (by have := N.out; simp only [List.length_nil]; omega) (by simp) ?_; intro v' w' hown' hgr hv'))
    rw [List.nil_append] at hown'
    obtain ⟨A', c', rfl, _, _⟩ := hown'.form
    go_ret
    exact ⟨A', c', rfl, hown', (ext_alloc w _).grown hgr (by simp) (fun k hk => by cases hk)⟩
end Go.Proofs.YtipoeidmblnbbaaDoor
/- copy onto a row, append of zeros: rows of elements of several cells. -/
namespace Go.Proofs.YtipoeidmblnbbaaDoor
open Go.RowKit
set_option linter.unusedVariables false

section
variable {P : Program} (w : World)

/-- copy onto a row of cells -/
theorem run_copy_onto (dT sT ty elem : TypeId) (i0 : TypeInfo) (size : Nat) (hu : P.underlying dT = some (.slice elem)) (hi : P.info? elem = some i0) (hsz : i0.size = size)
    (g o dLen dCap : Nat) (a : Addr) (sLen sCap : Nat) (cur : Array Value) (t : TypeId) (cs : List Value)
    (hg : w.heap[g]? = some (.cells cur t (0, 0))) (hn : cs.length = (Nat.min sLen dLen) * size)
    (hsrc : ∀ j v, cs[j]? = some v → w.cell? (a.add j) = some v) (hfit : o + cs.length ≤ cur.size) (h1 : ∀ v ∈ cs, v.oneCell' = true) :
    (Builtin.copy_ #[dT, sT] ty #[.slice (some ⟨g, o, none⟩) dLen dCap, .slice (some a) sLen sCap]).run P w =
      .ok (goInt (Nat.min sLen dLen)) (w.setRow g (cur.toList.take o ++ cs ++ cur.toList.drop (o + cs.length)).toArray) := by
  have hl := run_loadCells_list (P := P) w a cs hsrc
  have hst := run_storeCells_at P g o t cs 0 cur w hg (by simpa using hfit) h1
  simp [Builtin.copy_, run_underlying hu, Builtin.lenOf, Builtin.firstCells, sizeOf, typeInfo, hi, hsz, ← hn, hl, hst]

/-- append of zeros where a new row is wanted -/
theorem run_append_zeros_grow (t tn ty e : TypeId) (i : TypeInfo) (z : Value) (k kn : IntKind) (ht : P.underlying t = some (.slice e)) (htn : P.underlying tn = some (.int kn)) (hi : P.info? e = some i) (hz : i.zero = some z)
    (b : Addr) (sLen sCap n : Nat) (olds : List Value) (hlo : olds.length = sLen * i.size) (holds : ∀ j v, olds[j]? = some v → w.cell? (b.add j) = some v)
    (hg : sCap < sLen + n) (h0 : 0 < n) (hs : 0 < i.size) (hb1 : sLen + n ≤ 1000000000) (hb2 : i.bytes ≤ 1000)  :
    (Builtin.append_ #[t, tn] ty #[.slice (some b) sLen sCap, .int k n]).run P w =
      .ok (.slice (some ⟨w.heap.size, 0, none⟩) (sLen + n) (grownCap w (sLen + n) sCap e))
        (w.drew.alloc (.cells (olds.toArray ++ Builtin.zeroCells z.cells n ++ Builtin.zeroCells z.cells (grownCap w (sLen + n) sCap e - (sLen + n))) e)) := by
  have hmul : (sLen + n) * i.bytes ≤ 1000000000 * 1000 := Nat.mul_le_mul hb1 hb2
  have hmul2 : n * i.bytes ≤ 1000000000 * 1000 := Nat.mul_le_mul (by omega) hb2
  have hfit : Builtin.nextslicecap (sLen + n) sCap * i.bytes ≤ 281474976710656 := growslice_fits hg (by omega)
  have hn : ¬ (sLen + n ≤ sCap) := by omega
  have h63' : ¬ (9223372036854775807 < ((sLen : Int) + (n : Int))) := by omega
  have h48' : ¬ (281474976710656 < Builtin.nextslicecap (sLen + n) sCap * i.bytes) := by omega
  have hw : IntKind.i64.wrap (n : Int) = n := by rw [IntKind.wrap_i64]; omega
  have h48i : ¬ (281474976710656 < (n : Int) * (i.bytes : Int)) := by
    rw [← Int.natCast_mul]
    omega
  have hneg : ¬ ((n : Int) < 0) := by omega
  have hns : ¬ (n * i.size = 0) := Nat.mul_ne_zero (by omega) (by omega)
  have hfo := run_firstCells_some (P := P) w.drew i.size sLen b sLen sCap olds hlo (by simpa using holds)
  simp [Builtin.append_, run_underlying ht, run_underlying htn, sizeOf, typeInfo, zeroValue, hi, hz, asInt, asIntOf, hw, hn, hneg, hns, h63', h48', h48i, Question.forced, hfo, newRow, grownCap]
end

section
variable {P : Program} {w : World} {ops : Array Oper} {rest : List Oper} {o : Oper} {a : Act} {Q : Exit → Act → World → Prop} {K : Act → World → Prop} {E : Prop}
theorem wp_copy_run (d s : Operand) (dT sT : TypeId) (ho : o.op = .call { callee := .builtin .copy, args := #[d, s], argTypes := #[dT, sT] })
    (vd vs : Value) (hd : a.eval d = vd) (hs : a.eval s = vs) (v : Value) (w' : World) (hr : (Builtin.copy_ #[dT, sT] o.type #[vd, vs]).run P w = .ok v w') (h : K (a.put o.dst v) w') : o.wp P a w K Q := by
  unfold Oper.wp execOp
  simp only [ho, resolve, invoke, builtin, Sem.run_bind, Sem.run_pure, Result.andThen_ok, List.map_toArray, List.map_cons, List.map_nil, hd, hs, hr]
  exact h
theorem wpList_copy_run (hgd : o.guard = none) (d s : Operand) (dT sT : TypeId) (ho : o.op = .call { callee := .builtin .copy, args := #[d, s], argTypes := #[dT, sT] })
    (vd vs : Value) (hd : a.eval d = vd) (hs : a.eval s = vs) (v : Value) (w' : World) (hr : (Builtin.copy_ #[dT, sT] o.type #[vd, vs]).run P w = .ok v w') (h : wpList P ops Q rest (a.put o.dst v) w') : wpList P ops Q (o :: rest) a w :=
  wpList_plain hgd fun _ hK => wp_copy_run d s dT sT ho vd vs hd hs v w' hr (hK _ _ h)
theorem step_copy_run (hgd : o.guard = none) (d s : Operand) (dT sT : TypeId) (ho : o.op = .call { callee := .builtin .copy, args := #[d, s], argTypes := #[dT, sT] })
    (vd vs : Value) (hd : a.eval d = vd) (hs : a.eval s = vs) (v : Value) (w' : World) (hr : (Builtin.copy_ #[dT, sT] o.type #[vd, vs]).run P w = .ok v w') (h : K (a.put o.dst v) w') :
    if Region.wanted o (yielded ops a.tmps) = true then Oper.wp P o a w K Q else E := by
  have hw : Region.wanted o (yielded ops a.tmps) = true := by simp [Region.wanted, hgd]
  rw [if_pos hw]
  exact wp_copy_run d s dT sT ho vd vs hd hs v w' hr h
end
end Go.Proofs.YtipoeidmblnbbaaDoor
/- Rows of ops, of cells and of runes: rows of the call's own, append, slices.Clone. -/
namespace Go.Proofs.YtipoeidmblnbbaaDoor
open Go.RowKit
set_option linter.unusedVariables false
set_option linter.unusedSimpArgs false

theorem OpS.enc_one (x : OpS) : ∀ u ∈ x.enc, u.oneCell' = true := by intro u hu; simp [OpS.enc] at hu; rcases hu with rfl | rfl | rfl | rfl | rfl <;> rfl
abbrev OwOs := @Ow OpS OpS.enc 5 45
theorem Tryd.infoOp : (Tryd.prog.info? 45).map (fun i => (i.zero, i.size, i.bytes)) = some (some (.agg #[.int .u8 0, .int .i64 0, .slice none 0 0, .slice none 0 0, .slice none 0 0]), 5, 88) := by kernel_rfl
theorem Tryd.slOp : Tryd.prog.underlying 33 = some (.slice 45) := by kernel_rfl
abbrev OwCs := @Ow ClS ClS.enc 2 53
theorem Tryd.infoCl : (Tryd.prog.info? 53).map (fun i => (i.zero, i.size, i.bytes)) = some (some (.agg #[.int .i32 0, .slice none 0 0]), 2, 32) := by kernel_rfl
theorem Tryd.slCl : Tryd.prog.underlying 23 = some (.slice 53) := by kernel_rfl
section
variable {ops : Array Oper} {rest : List Oper} {o : Oper} {a : Act} {Q : Exit → Act → World → Prop} {w : World} {base : Nat} {v : Value} {K : Act → World → Prop} {E : Prop}
theorem app_os {l m : List OpS} (hgd : o.guard = none) (s x : Operand)
    (ho : o.op = .call { callee := .builtin .append, args := #[s, x], argTypes := #[33, 33] })
    (hsv : a.eval s = v) (hown : OwOs w base v l) (B : Nat) (A : Option Addr) (c n : Nat) (hx : a.eval x = .slice A n c) (hn : n = m.length) (hr : RdOs w B A m)
    (hb : l.length + m.length ≤ 1000000000000) (hbase : base ≤ w.heap.size)
    (h : ∀ v' w', OwOs w' base v' (l ++ m) → w.grownBy w' (wb v) → (v' = v ∧ w' = w ∨ wb v' = wb v ∨ wb v' = some w.heap.size) → wpList Tryd.prog ops Q rest (a.put o.dst v') w') : wpList Tryd.prog ops Q (o :: rest) a w := by
  obtain ⟨i0, hi0, hz0, hz1, hz2⟩ := info_parts Tryd.infoOp
  exact wpList_app hgd s x _ ho i0 _ 88 Tryd.slOp hi0 hz0 hz1 hz2 rfl (by omega) OpS.enc_len OpS.enc_one hsv hown B A c n hx hn hr (by simp only [maxLen]; omega) (by omega) hbase h
/-- the same at a step of a region that draws -/
theorem step_os {l m : List OpS} (hgd : o.guard = none) (s x : Operand)
    (ho : o.op = .call { callee := .builtin .append, args := #[s, x], argTypes := #[33, 33] })
    (hsv : a.eval s = v) (hown : OwOs w base v l) (B : Nat) (A : Option Addr) (c n : Nat) (hx : a.eval x = .slice A n c) (hn : n = m.length) (hr : RdOs w B A m)
    (hb : l.length + m.length ≤ 1000000000000) (hbase : base ≤ w.heap.size)
    (h : ∀ v' w', OwOs w' base v' (l ++ m) → w.grownBy w' (wb v) → (v' = v ∧ w' = w ∨ wb v' = wb v ∨ wb v' = some w.heap.size) → K (a.put o.dst v') w') :
    if Region.wanted o (yielded ops a.tmps) = true then Oper.wp Tryd.prog o a w K Q else E := by
  have hw : Region.wanted o (yielded ops a.tmps) = true := by simp [Region.wanted, hgd]
  rw [if_pos hw]
  obtain ⟨i0, hi0, hz0, hz1, hz2⟩ := info_parts Tryd.infoOp
  exact wp_app s x _ ho i0 _ 88 Tryd.slOp hi0 hz0 hz1 hz2 rfl (by omega) OpS.enc_len OpS.enc_one hsv hown B A c n hx hn hr (by simp only [maxLen]; omega) (by omega) hbase h
theorem step_i32 {l m : List Int} (hgd : o.guard = none) (s x : Operand)
    (ho : o.op = .call { callee := .builtin .append, args := #[s, x], argTypes := #[36, 36] })
    (hsv : a.eval s = v) (hown : OwI32 w base v l) (B : Nat) (A : Option Addr) (c n : Nat) (hx : a.eval x = .slice A n c) (hn : n = m.length) (hr : RdI32 w B A m)
    (hb : l.length + m.length ≤ 1000000000000) (hbase : base ≤ w.heap.size)
    (h : ∀ v' w', OwI32 w' base v' (l ++ m) → w.grownBy w' (wb v) → (v' = v ∧ w' = w ∨ wb v' = wb v ∨ wb v' = some w.heap.size) → K (a.put o.dst v') w') :
    if Region.wanted o (yielded ops a.tmps) = true then Oper.wp Tryd.prog o a w K Q else E := by
  have hw : Region.wanted o (yielded ops a.tmps) = true := by simp [Region.wanted, hgd]
  rw [if_pos hw]
  obtain ⟨i0, hi0, hz0, hz1, hz2⟩ := info_parts Tryd.infoI32
  exact wp_app s x _ ho i0 _ 4 Tryd.slI32 hi0 hz0 hz1 hz2 rfl (by omega) encI32_len encI32_one hsv hown B A c n hx hn hr (by simp only [maxLen]; omega) (by omega) hbase h
theorem app_cs {l m : List ClS} (hgd : o.guard = none) (s x : Operand)
    (ho : o.op = .call { callee := .builtin .append, args := #[s, x], argTypes := #[23, 23] })
    (hsv : a.eval s = v) (hown : OwCs w base v l) (B : Nat) (A : Option Addr) (c n : Nat) (hx : a.eval x = .slice A n c) (hn : n = m.length) (hr : RdCs w B A m)
    (hb : l.length + m.length ≤ 2000000000000) (hbase : base ≤ w.heap.size)
    (h : ∀ v' w', OwCs w' base v' (l ++ m) → w.grownBy w' (wb v) → (v' = v ∧ w' = w ∨ wb v' = wb v ∨ wb v' = some w.heap.size) → wpList Tryd.prog ops Q rest (a.put o.dst v') w') : wpList Tryd.prog ops Q (o :: rest) a w := by
  obtain ⟨i0, hi0, hz0, hz1, hz2⟩ := info_parts Tryd.infoCl
  exact wpList_app hgd s x _ ho i0 _ 32 Tryd.slCl hi0 hz0 hz1 hz2 rfl (by omega) ClS.enc_len ClS.enc_one hsv hown B A c n hx hn hr (by simp only [maxLen]; omega) (by omega) hbase h
end
def NewOs (r : List OpS) (w : World) (e : Ending) (w' : World) : Prop :=
  ∃ A c, e = .returned (.slice A r.length c) ∧ OwOs w' w.heap.size (.slice A r.length c) r ∧ Below w.heap.size w w'
def NewI32 (r : List Int) (w : World) (e : Ending) (w' : World) : Prop :=
  ∃ A c, e = .returned (.slice A r.length c) ∧ OwI32 w' w.heap.size (.slice A r.length c) r ∧ Below w.heap.size w w'
set_option maxRecDepth 100000 in
set_option maxHeartbeats 400000 in
theorem cloneOs_any (A : Option Addr) (n c : Nat) (l : List OpS) (w : World) (hn : n = l.length) (h : RdOs w w.heap.size A l) (hb : n ≤ 100000000) :
    Calls Tryd.prog 105 #[.slice A n c] w (NewOs l w) := by
  cases A with
  | none =>
    have hl : l = [] := by
      cases l with
      | nil => rfl
      | cons a l => obtain ⟨ad, e, _⟩ := h (by simp); cases e
    subst hl
    have hn0 : n = 0 := by simpa using hn
    subst hn0
    clear hn
    have hq := fun (w : World) => Lib.run_eql_slice_nil (P := Tryd.prog) w 33 45 none 0 c 0 0 Tryd.slOp
    go_enter Tryd.func105, Tryd.ntmps105
    go_wp2_with (fail)
    go_ret
    exact ⟨none, 0, rfl, Ow.nil _ _, Below.refl _ _⟩
  | some ad =>
    have N := Lib.hid hn
    clear hn
    have hq := fun (w : World) => Lib.run_eql_slice_nil (P := Tryd.prog) w 33 45 (some ad) n c 0 0 Tryd.slOp
    go_enter Tryd.func105, Tryd.ntmps105
    go_wp2_with (first
      | (at_builtin; refine app_os (m := l) rfl (.tmp 5) (.tmp 6) rfl rfl (by exact Ow.empty _ w.heap.size _) _ _ _ _ rfl N.out (by exact h.ext (ext_alloc w _)) (by have := N.out; simp only [List.length_nil]; omega) (by simp) ?_; intro v' w' hown' hgr hv'))
    rw [List.nil_append] at hown'
    obtain ⟨A', c', rfl, _, _⟩ := hown'.form
    go_ret
    exact ⟨A', c', rfl, hown', (ext_alloc w _).grown hgr (by simp) (fun k hk => by cases hk)⟩

set_option maxRecDepth 100000 in
set_option maxHeartbeats 400000 in
theorem cloneI32_any (A : Option Addr) (n c : Nat) (l : List Int) (w : World) (hn : n = l.length) (h : RdI32 w w.heap.size A l) (hb : n ≤ 100000000) :
    Calls Tryd.prog 78 #[.slice A n c] w (NewI32 l w) := by
  cases A with
  | none =>
    have hl : l = [] := by
      cases l with
      | nil => rfl
      | cons a l => obtain ⟨ad, e, _⟩ := h (by simp); cases e
    subst hl
    have hn0 : n = 0 := by simpa using hn
    subst hn0
    clear hn
    have hq := fun (w : World) => Lib.run_eql_slice_nil (P := Tryd.prog) w 36 21 none 0 c 0 0 Tryd.slI32
    go_enter Tryd.func78, Tryd.ntmps78
    go_wp2_with (fail)
    go_ret
    exact ⟨none, 0, rfl, Ow.nil _ _, Below.refl _ _⟩
  | some ad =>
    have N := Lib.hid hn
    clear hn
    have hq := fun (w : World) => Lib.run_eql_slice_nil (P := Tryd.prog) w 36 21 (some ad) n c 0 0 Tryd.slI32
    go_enter Tryd.func78, Tryd.ntmps78
    go_wp2_with (first
      | (at_builtin; refine app_i32 (m := l) rfl (.tmp 5) (.tmp 6) rfl rfl (by exact Ow.empty _ w.heap.size _) _ _ _ _ rfl N.out (by exact h.ext (ext_alloc w _)) (by have := N.out; simp only [List.length_nil]; omega) (by simp) ?_; intro v' w' hown' hgr hv'))
    rw [List.nil_append] at hown'
    obtain ⟨A', c', rfl, _, _⟩ := hown'.form
    go_ret
    exact ⟨A', c', rfl, hown', (ext_alloc w _).grown hgr (by simp) (fun k hk => by cases hk)⟩

def NewCs (r : List ClS) (w : World) (e : Ending) (w' : World) : Prop :=
  ∃ A c, e = .returned (.slice A r.length c) ∧ OwCs w' w.heap.size (.slice A r.length c) r ∧ Below w.heap.size w w'
set_option maxRecDepth 100000 in
set_option maxHeartbeats 400000 in
theorem cloneCs_any (A : Option Addr) (n c : Nat) (l : List ClS) (w : World) (hn : n = l.length) (h : RdCs w w.heap.size A l) (hb : n ≤ 100000000) :
    Calls Tryd.prog 114 #[.slice A n c] w (NewCs l w) := by
  cases A with
  | none =>
    have hl : l = [] := by
      cases l with
      | nil => rfl
      | cons a l => obtain ⟨ad, e, _⟩ := h (by simp); cases e
    subst hl
    have hn0 : n = 0 := by simpa using hn
    subst hn0
    clear hn
    have hq := fun (w : World) => Lib.run_eql_slice_nil (P := Tryd.prog) w 23 53 none 0 c 0 0 Tryd.slCl
    go_enter Tryd.func114, Tryd.ntmps114
    go_wp2_with (fail)
    go_ret
    exact ⟨none, 0, rfl, Ow.nil _ _, Below.refl _ _⟩
  | some ad =>
    have N := Lib.hid hn
    clear hn
    have hq := fun (w : World) => Lib.run_eql_slice_nil (P := Tryd.prog) w 23 53 (some ad) n c 0 0 Tryd.slCl
    go_enter Tryd.func114, Tryd.ntmps114
    go_wp2_with (first
      | (at_builtin; refine app_cs (m := l) rfl (.tmp 5) (.tmp 6) rfl rfl (by exact Ow.empty _ w.heap.size _) _ _ _ _ rfl N.out (by exact h.ext (ext_alloc w _)) (by have := N.out; simp only [List.length_nil]; omega) (by simp) ?_; intro v' w' hown' hgr hv'))
    rw [List.nil_append] at hown'
    obtain ⟨A', c', rfl, _, _⟩ := hown'.form
    go_ret
    exact ⟨A', c', rfl, hown', (ext_alloc w _).grown hgr (by simp) (fun k hk => by cases hk)⟩

end Go.Proofs.YtipoeidmblnbbaaDoor
/- Deltas as rows of units (a rune inserted, a cell deleted, a cell retained with a patch), and the ops that units are told by: plain mathematics. -/
namespace Go.Proofs.YtipoeidmblnbbaaDoor
set_option linter.unusedVariables false
set_option linter.unusedSimpArgs false

instance : DecidableEq Opd := fun a b =>
  if h : a.k = b.k ∧ a.n = b.n ∧ a.r = b.r ∧ a.s = b.s ∧ a.p = b.p then isTrue (by cases a; cases b; simp only at h; obtain ⟨rfl, rfl, rfl, rfl, rfl⟩ := h; rfl)
  else isFalse (fun e => h (by subst e; exact ⟨rfl, rfl, rfl, rfl, rfl⟩))

/-- a unit of a delta -/
inductive Un where
  | ins (r : Int) (s : List At)
  | del
  | ret (p : List Ch)
deriving DecidableEq

def opI (r : List Int) (s : List At) : Opd := ⟨2, 0, r, s, []⟩
def opD (n : Int) : Opd := ⟨3, n, [], [], []⟩
def opR (n : Int) (p : List Ch) : Opd := ⟨1, n, [], [], p⟩
/-- the op of one unit -/
def op1 : Un → Opd
  | .ins r s => opI [r] s
  | .del => opD 1
  | .ret p => opR 1 p
def canMerge (a b : Opd) : Bool :=
  (decide (a.k = 2) && decide (b.k = 2) && decide (a.s = b.s)) || (decide (a.k = 3) && decide (b.k = 3)) || (decide (a.k = 1) && decide (b.k = 1) && decide (a.p = b.p))
/-- a unit taken into the op behind it -/
def into (u : Un) (b : Opd) : Opd :=
  match u with
  | .ins r s => { b with r := r :: b.r }
  | _ => { b with n := b.n + 1 }
/-- a unit set ahead of ops -/
def cons1 (u : Un) : List Opd → List Opd
  | [] => [op1 u]
  | b :: t => if canMerge (op1 u) b = true then into u b :: t else op1 u :: b :: t
/-- the ops of units -/
def enc : List Un → List Opd
  | [] => []
  | u :: us => cons1 u (enc us)
/-- the units of an op, of ops -/
def unitsO (o : Opd) : List Un :=
  if o.k = 2 then o.r.map (fun r => Un.ins r o.s) else if o.k = 1 then List.replicate o.n.toNat (.ret o.p) else List.replicate o.n.toNat .del
def units (x : List Opd) : List Un := x.flatMap unitsO

theorem units_nil : units [] = [] := rfl
theorem units_cons (o : Opd) (x : List Opd) : units (o :: x) = unitsO o ++ units x := rfl
theorem units_append (x y : List Opd) : units (x ++ y) = units x ++ units y := by simp [units]

/-- ops that units can be told by: each has its kind's form -/
def isOp (o : Opd) : Prop :=
  (o.k = 2 ∧ o.n = 0 ∧ o.r ≠ [] ∧ o.p = []) ∨ (o.k = 3 ∧ 1 ≤ o.n ∧ o.r = [] ∧ o.s = [] ∧ o.p = []) ∨ (o.k = 1 ∧ 1 ≤ o.n ∧ o.r = [] ∧ o.s = [])
/-- no two neighbours are one -/
def tight : List Opd → Prop
  | [] => True
  | a :: x => isOp a ∧ (match x with | [] => True | b :: _ => canMerge a b = false) ∧ tight x
theorem tight_tail {a : Opd} {x : List Opd} (h : tight (a :: x)) : tight x := h.2.2

theorem cons1_new {u : Un} {x : List Opd} (h : ∀ b t, x = b :: t → canMerge (op1 u) b = false) : cons1 u x = op1 u :: x := by
  cases x with
  | nil => rfl
  | cons b t => rw [cons1, if_neg (by rw [h b t rfl]; simp)]
theorem cons1_ins_old {r : Int} {rs : List Int} {s : List At} {t : List Opd} : cons1 (.ins r s) (opI rs s :: t) = opI (r :: rs) s :: t := by
  rw [cons1, if_pos (by simp [canMerge, op1, opI])]; rfl
theorem cons1_del_old {n : Int} {t : List Opd} : cons1 .del (opD n :: t) = opD (n + 1) :: t := by
  rw [cons1, if_pos (by simp [canMerge, op1, opD])]; rfl
theorem cons1_ret_old {n : Int} {p : List Ch} {t : List Opd} : cons1 (.ret p) (opR n p :: t) = opR (n + 1) p :: t := by
  rw [cons1, if_pos (by simp [canMerge, op1, opR])]; rfl
theorem opI_of {o : Opd} (h : isOp o) (hk : o.k = 2) : o = opI o.r o.s ∧ o.r ≠ [] := by
  obtain ⟨k, n, r, s, p⟩ := o
  simp only at hk
  subst hk
  rcases h with ⟨_, h2, h3, h4⟩ | ⟨h1, _⟩ | ⟨h1, _⟩
  · simp only at h2 h3 h4; subst h2 h4; exact ⟨rfl, h3⟩
  · cases h1
  · cases h1
theorem opD_of {o : Opd} (h : isOp o) (hk : o.k = 3) : o = opD o.n ∧ 1 ≤ o.n := by
  obtain ⟨k, n, r, s, p⟩ := o
  simp only at hk
  subst hk
  rcases h with ⟨h1, _⟩ | ⟨_, h2, h3, h4, h5⟩ | ⟨h1, _⟩
  · cases h1
  · simp only at h2 h3 h4 h5; subst h3 h4 h5; exact ⟨rfl, h2⟩
  · cases h1
theorem opR_of {o : Opd} (h : isOp o) (hk : o.k = 1) : o = opR o.n o.p ∧ 1 ≤ o.n := by
  obtain ⟨k, n, r, s, p⟩ := o
  simp only at hk
  subst hk
  rcases h with ⟨h1, _⟩ | ⟨h1, _⟩ | ⟨_, h2, h3, h4⟩
  · cases h1
  · cases h1
  · simp only at h2 h3 h4; subst h3 h4; exact ⟨rfl, h2⟩
theorem isOp_kind {o : Opd} (h : isOp o) : o.k = 2 ∨ o.k = 3 ∨ o.k = 1 := by
  rcases h with h | h | h
  · exact .inl h.1
  · exact .inr (.inl h.1)
  · exact .inr (.inr h.1)

/-- units of one op set ahead of ops that do not merge with it -/
theorem enc_op {o : Opd} {us : List Un} (ho : isOp o) (hx : tight (enc us)) (h : ∀ b t, enc us = b :: t → canMerge o b = false) : enc (unitsO o ++ us) = o :: enc us := by
  rcases isOp_kind ho with hk | hk | hk
  · obtain ⟨e, hr⟩ := opI_of ho hk
    obtain ⟨k, n, r, s, p⟩ := o
    simp only at e hr hk
    rw [e] at h ⊢
    clear e ho hk
    have hu : unitsO (opI r s) = r.map (fun r => Un.ins r s) := rfl
    rw [hu]
    induction r with
    | nil => exact absurd rfl hr
    | cons a r ih =>
      cases r with
      | nil =>
        show cons1 (.ins a s) (enc us) = _
        exact cons1_new (u := .ins a s) (fun b t hb => h b t hb)
      | cons b r =>
        have ih' := ih (fun c t hc => h c t hc) (by simp) rfl
        show cons1 (.ins a s) (enc (((b :: r).map (fun r => Un.ins r s)) ++ us)) = _
        rw [ih', cons1_ins_old]
  · obtain ⟨e, hn⟩ := opD_of ho hk
    obtain ⟨k, n, r, s, p⟩ := o
    simp only at e hn hk
    rw [e] at h ⊢
    clear e ho hk
    have hu : unitsO (opD n) = List.replicate n.toNat .del := rfl
    rw [hu]
    obtain ⟨m, rfl⟩ : ∃ m : Nat, n = (m : Int) + 1 := ⟨(n - 1).toNat, by omega⟩
    have hm : ((m : Int) + 1).toNat = m + 1 := by omega
    rw [hm]
    clear hn hu hm
    induction m with
    | zero => exact cons1_new (u := .del) (fun b t hb => h b t hb)
    | succ m ih =>
      show cons1 .del (enc (List.replicate (m + 1) .del ++ us)) = _
      rw [ih (fun b t hb => h b t hb), cons1_del_old]
      congr 2
      all_goals omega
  · obtain ⟨e, hn⟩ := opR_of ho hk
    obtain ⟨k, n, r, s, p⟩ := o
    simp only at e hn hk
    rw [e] at h ⊢
    clear e ho hk
    have hu : unitsO (opR n p) = List.replicate n.toNat (.ret p) := rfl
    rw [hu]
    obtain ⟨m, rfl⟩ : ∃ m : Nat, n = (m : Int) + 1 := ⟨(n - 1).toNat, by omega⟩
    have hm : ((m : Int) + 1).toNat = m + 1 := by omega
    rw [hm]
    clear hn hu hm
    induction m with
    | zero => exact cons1_new (u := .ret p) (fun b t hb => h b t hb)
    | succ m ih =>
      show cons1 (.ret p) (enc (List.replicate (m + 1) (.ret p) ++ us)) = _
      rw [ih (fun b t hb => h b t hb), cons1_ret_old]
      congr 2
      all_goals omega
/-- ops no two neighbours of which are one are told by their units -/
theorem enc_units {x : List Opd} (h : tight x) : enc (units x) = x := by
  induction x with
  | nil => rfl
  | cons a x ih =>
    obtain ⟨h1, h2, h3⟩ := h
    have e := ih h3
    rw [units_cons, enc_op h1 (by rw [e]; exact h3) (fun b t hb => by rw [e] at hb; subst hb; exact h2), e]
theorem tight_ext {x y : List Opd} (hx : tight x) (hy : tight y) (h : units x = units y) : x = y := by rw [← enc_units hx, h, enc_units hy]
end Go.Proofs.YtipoeidmblnbbaaDoor
