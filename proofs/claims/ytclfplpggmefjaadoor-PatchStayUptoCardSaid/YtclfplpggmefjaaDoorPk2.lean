/- Merged texts: OwnOps, DelFn, DelPart, Clone, Key, Eq. -/
import Derived.Test.YtclfplpggmefjaaDoorPk1
import Derived.Maps.OwnOps
import Derived.MapKept
/- Stores into, and clearing of, a row of the call's own. -/
namespace Go.Proofs.YtclfplpggmefjaaDoor
open Go.RowKit
set_option linter.unusedVariables false

section
variable {α : Type} {enc : α → List Value} {size : Nat} {e : TypeId} {w w' : World} {base n c : Nat} {l : List α} {P : Program}

theorem flat_take (hs : ∀ a, (enc a).length = size) (l : List α) (i : Nat) : (l.flatMap enc).take (i * size) = (l.take i).flatMap enc := by
  induction l generalizing i with
  | nil => simp
  | cons a l ih =>
    cases i with
    | zero => simp
    | succ i =>
      simp only [List.flatMap_cons, List.take_succ_cons]
      rw [List.take_append, hs, Nat.add_mul, Nat.one_mul, List.take_of_length_le (by rw [hs]; omega), Nat.add_sub_cancel, ih]
theorem flat_drop (hs : ∀ a, (enc a).length = size) (l : List α) (i : Nat) : (l.flatMap enc).drop (i * size) = (l.drop i).flatMap enc := by
  induction l generalizing i with
  | nil => simp
  | cons a l ih =>
    cases i with
    | zero => simp
    | succ i =>
      simp only [List.flatMap_cons, List.drop_succ_cons]
      rw [List.drop_append, hs, Nat.add_mul, Nat.one_mul, List.drop_of_length_le (by rw [hs]; omega), Nat.add_sub_cancel, ih]
      rfl

/-- the row behind an own slice that is not empty -/
theorem Ow.row {A : Option Addr} (h : Ow enc size e w base (.slice A n c) l) (hl : 0 < l.length) :
    ∃ g cur, A = some ⟨g, 0, none⟩ ∧ n = l.length ∧ base ≤ g ∧ w.heap[g]? = some (.cells cur e (0, 0)) ∧ l.length ≤ c ∧ c ≤ maxLen ∧ cur.size = c * size ∧ cur.toList.take (l.length * size) = l.flatMap enc := by
  rcases h with ⟨rfl, _⟩ | ⟨_, ⟨_, h0⟩ | ⟨g, cap, cur, hv, hb, hg, h1, h2, h3, h4⟩⟩
  · simp at hl
  · omega
  · injection hv with hA hn hc
    subst hA; subst hn; subst hc
    exact ⟨g, cur, rfl, rfl, hb, hg, h1, h2, h3, h4⟩
theorem add_row (g i : Nat) : (⟨g, 0, none⟩ : Addr).add i = ⟨g, i, none⟩ := by
  unfold Addr.add
  split
  · rename_i h; rw [h]
  · simp

theorem run_set_own (t : TypeId) (i0 : TypeInfo) (hi : P.info? t = some i0) (hsz : i0.size = size) (hs : ∀ a, (enc a).length = size) (h1 : ∀ a, ∀ u ∈ enc a, u.oneCell' = true)
    {A : Option Addr} (h : Ow enc size e w base (.slice A n c) l) {i : Nat} (hil : i < l.length) (b : α) {cs : Array Value} (hcs : cs.toList = enc b) {p : Addr} (hp : A.map (·.add (i * size)) = some p) :
    ∃ w', (Instr.storeAt t (.pointer (some p)) (.agg cs)).run P w = .ok () w' ∧ Ow enc size e w' base (.slice A n c) (l.set i b) ∧ w.grownBy w' (wb (.slice A n c)) := by
  obtain ⟨g, cur, rfl, hn, hb, hg, hlc, hcm, hcur, htake⟩ := h.row (by omega)
  simp only [Option.map_some, add_row, Option.some.injEq] at hp
  subst hp
  have hcsz : cs.size = size := by rw [← Array.length_toList, hcs, hs]
  have hfit : i * size + 0 + (enc b).length ≤ cur.size := by
    rw [hs, hcur, Nat.add_zero, ← Nat.succ_mul]
    exact Nat.mul_le_mul_right _ (by omega)
  have hst := run_storeCells_at P g (i * size) e (enc b) 0 cur w hg hfit (h1 b)
  refine ⟨w.setRow g (cur.toList.take (i * size + 0) ++ enc b ++ cur.toList.drop (i * size + 0 + (enc b).length)).toArray, ?_, ?_, ?_⟩
  · simp [Instr.storeAt, Instr.sureAddr, storeVar, sizeOf, typeInfo, hi, hsz, Value.cells, hcsz, hcs]
    simpa using hst
  · refine .inr ⟨by rw [flat_len hs], .inr ⟨g, c, _, by rw [hn, List.length_set], hb, setRow_heap w g cur _ e _ hg, by rw [List.length_set]; exact hlc, hcm, ?_, ?_⟩⟩
    · simp only [List.size_toArray, List.length_append, List.length_take, List.length_drop, Array.length_toList]
      omega
    · rw [List.length_set, Nat.add_zero]
      have e1 : (l.set i b).flatMap enc = (l.take i).flatMap enc ++ (enc b ++ (l.drop (i + 1)).flatMap enc) := by
        rw [List.set_eq_take_append_cons_drop, if_pos hil, List.flatMap_append, List.flatMap_cons]
      have hle : i * size ≤ l.length * size := Nat.mul_le_mul_right _ (by omega)
      have hle2 : (i + 1) * size ≤ l.length * size := Nat.mul_le_mul_right _ hil
      have e2 : cur.toList.take (i * size) = (l.take i).flatMap enc := by
        rw [← flat_take hs, ← htake, List.take_take, Nat.min_eq_left hle]
      have e3 : (cur.toList.drop ((i + 1) * size)).take (l.length * size - (i + 1) * size) = (l.drop (i + 1)).flatMap enc := by
        rw [← flat_drop hs, ← htake, List.drop_take]
      rw [e1, ← e2, ← e3]
      simp only [List.append_assoc]
      have hl1 : (cur.toList.take (i * size)).length = i * size := by
        rw [List.length_take, Array.length_toList, hcur, Nat.min_eq_left]
        exact Nat.le_trans hle (Nat.mul_le_mul_right _ hlc)
      rw [List.take_append, hl1, List.take_of_length_le (by rw [hl1]; exact hle), List.take_append, hs, List.take_of_length_le (l := enc b) (by rw [hs]; rw [Nat.succ_mul] at hle2; omega)]
      congr 3
      · rw [Nat.succ_mul]; omega
      · rw [Nat.succ_mul]
  · refine ⟨rfl, rfl, rfl, by simp, fun k _ hk => setRow_other w g k _ (fun e => hk ?_)⟩
    have : 0 < c := by omega
    cases c with
    | zero => omega
    | succ c => simp [wb, e]

/-- 'clear(s[i:])' of an own slice: the head stays -/
theorem run_clear_own (t ty : TypeId) (ht : P.underlying t = some (.slice e)) (i0 : TypeInfo) (z : Value) (hi : P.info? e = some i0) (hz : i0.zero = some z) (hzs : z.cells.size = size) (hzo : ∀ u ∈ z.cells.toList, u.oneCell' = true) (hs : ∀ a, (enc a).length = size)
    {A X : Option Addr} (h : Ow enc size e w base (.slice A n c) l) {i k : Nat} (hil : i ≤ l.length) (hX : l.length - i = 0 ∨ X = A.map (·.add (i * size))) :
    ∃ w', (Builtin.clear_ #[t] ty #[.slice X (l.length - i) k]).run P w = .ok (.tuple #[]) w' ∧ Ow enc size e w' base (.slice A i c) (l.take i) ∧ w.grownBy w' (wb (.slice A n c)) := by
  rcases Nat.eq_zero_or_pos (l.length - i) with h0 | h0
  · have hli : l.take i = l := List.take_of_length_le (by omega)
    have hil' : i = l.length := by omega
    refine ⟨w, ?_, ?_, World.grownBy.refl w _⟩
    · rw [h0]
      cases X <;> simp [Builtin.clear_, run_underlying ht]
    · rw [hli, hil']
      rcases Nat.eq_zero_or_pos l.length with hz0 | hp
      · have hnil : l = [] := List.eq_nil_of_length_eq_zero hz0
        subst hnil
        rcases h with ⟨_, A', hv⟩ | ⟨h1, ⟨hv, hn⟩ | ⟨g, cap, cur, hv, r⟩⟩
        · injection hv with a b c; subst a; subst b; subst c; exact .inl ⟨rfl, _, rfl⟩
        · injection hv with a b c; subst a; subst b; subst c; exact .inl ⟨rfl, _, rfl⟩
        · injection hv with a b c; subst a; subst b; subst c; exact .inr ⟨h1, .inr ⟨g, _, cur, rfl, r⟩⟩
      · obtain ⟨g, cur, rfl, hn, r⟩ := h.row hp
        rw [← hn]; exact h
  · obtain ⟨g, cur, rfl, hn, hb, hg, hlc, hcm, hcur, htake⟩ := h.row (by omega)
    rcases hX with hX | rfl
    · omega
    have hzl : (Builtin.zeroCells z.cells (l.length - i)).toList.length = (l.length - i) * size := by rw [Array.length_toList, size_zeroCells, hzs]
    have hzo' : ∀ u ∈ (Builtin.zeroCells z.cells (l.length - i)).toList, u.oneCell' = true := by
      intro u hu
      simp only [Builtin.zeroCells, Array.toList_map, List.mem_map, Array.mem_toList_iff] at hu
      obtain ⟨j, _, rfl⟩ := hu
      have hpos : 0 < z.cells.size := by
        rcases Nat.eq_zero_or_pos z.cells.size with hz0 | hp
        · rename_i hj; rw [hz0, Nat.mul_zero] at hj; simp at hj
        · exact hp
      have hlt : j % z.cells.size < z.cells.size := Nat.mod_lt _ hpos
      rw [getElem!_pos z.cells _ hlt]
      exact hzo _ (Array.getElem_mem_toList hlt)
    have hfit : i * size + 0 + (Builtin.zeroCells z.cells (l.length - i)).toList.length ≤ cur.size := by
      rw [hzl, hcur, Nat.add_zero, ← Nat.add_mul]
      exact Nat.mul_le_mul_right _ (by omega)
    have hst := run_storeCells_at P g (i * size) e _ 0 cur w hg hfit hzo'
    refine ⟨w.setRow g (cur.toList.take (i * size + 0) ++ (Builtin.zeroCells z.cells (l.length - i)).toList ++ cur.toList.drop (i * size + 0 + (Builtin.zeroCells z.cells (l.length - i)).toList.length)).toArray, ?_, ?_, ?_⟩
    · obtain ⟨m, hm⟩ : ∃ m, l.length - i = m + 1 := ⟨l.length - i - 1, by omega⟩
      rw [hm] at hst ⊢
      simp [Builtin.clear_, run_underlying ht, zeroValue, typeInfo, hi, hz, add_row]
      simp at hst
      rw [hst]
      simp
    · refine .inr ⟨by rw [flat_len hs], .inr ⟨g, c, _, by rw [List.length_take, Nat.min_eq_left hil], hb, setRow_heap w g cur _ e _ hg, by rw [List.length_take]; omega, hcm, ?_, ?_⟩⟩
      · simp only [List.size_toArray, List.length_append, List.length_take, List.length_drop, Array.length_toList]
        rw [Array.length_toList] at hfit
        omega
      · have hle : i * size ≤ l.length * size := Nat.mul_le_mul_right _ hil
        have hle3 : i * size ≤ cur.size := by rw [hcur]; exact Nat.le_trans hle (Nat.mul_le_mul_right _ hlc)
        rw [List.length_take, Nat.min_eq_left hil, Nat.add_zero]
        simp only [List.append_assoc]
        rw [List.take_append, List.length_take, Array.length_toList, Nat.min_eq_left hle3, Nat.sub_self, List.take_zero, List.append_nil, List.take_of_length_le (by rw [List.length_take]; omega), ← flat_take hs, ← htake, List.take_take, Nat.min_eq_left hle]
    · refine ⟨rfl, rfl, rfl, by simp, fun k _ hk => setRow_other w g k _ (fun e => hk ?_)⟩
      have : 0 < c := by omega
      cases c with
      | zero => omega
      | succ c => simp [wb, e]

theorem wpList_set_own {ops : Array Oper} {rest : List Oper} {o : Oper} {a : Act} {Q : Exit → Act → World → Prop} (hgd : o.guard = none) (t : TypeId) (x y : Operand) (ho : o.op = .store t x y) (hdst : o.dst = none)
    (i0 : TypeInfo) (hi : P.info? t = some i0) (hsz : i0.size = size) (hs : ∀ a, (enc a).length = size) (h1 : ∀ a, ∀ u ∈ enc a, u.oneCell' = true)
    {A : Option Addr} (h : Ow enc size e w base (.slice A n c) l) {i : Nat} (hil : i < l.length) (b : α) {cs : Array Value} (hcs : cs.toList = enc b) {p : Addr} (hp : A.map (·.add (i * size)) = some p)
    (hx : a.eval x = .pointer (some p)) (hy : a.eval y = .agg cs)
    (hK : ∀ w', Ow enc size e w' base (.slice A n c) (l.set i b) → w.grownBy w' (wb (.slice A n c)) → wpList P ops Q rest a w') : wpList P ops Q (o :: rest) a w :=
  wpList_plain hgd fun K hK' => by
    obtain ⟨w', hr, h2, h3⟩ := run_set_own (P := P) t i0 hi hsz hs h1 h hil b hcs hp
    unfold Oper.wp execOp
    simp only [ho, hx, hy, hr, Sem.run_bind, Sem.run_pure, Result.andThen_ok]
    refine hK' _ _ ?_
    have := hK w' h2 h3
    simpa [Act.put, hdst] using this
theorem wpList_clear_own {ops : Array Oper} {rest : List Oper} {o : Oper} {a : Act} {Q : Exit → Act → World → Prop} (hgd : o.guard = none) (x : Operand) (t : TypeId)
    (ho : o.op = .call { callee := .builtin .clear, args := #[x], argTypes := #[t] }) (hdst : o.dst = none)
    (ht : P.underlying t = some (.slice e)) (i0 : TypeInfo) (z : Value) (hi : P.info? e = some i0) (hz : i0.zero = some z) (hzs : z.cells.size = size) (hzo : ∀ u ∈ z.cells.toList, u.oneCell' = true) (hs : ∀ a, (enc a).length = size)
    {A X : Option Addr} (h : Ow enc size e w base (.slice A n c) l) {i k : Nat} (hil : i ≤ l.length) (hX : l.length - i = 0 ∨ X = A.map (·.add (i * size))) {m : Nat} (hm : m = l.length - i) (hx : a.eval x = .slice X m k)
    (hK : ∀ w', Ow enc size e w' base (.slice A i c) (l.take i) → w.grownBy w' (wb (.slice A n c)) → wpList P ops Q rest a w') : wpList P ops Q (o :: rest) a w :=
  wpList_plain hgd fun K hK' => by
    subst hm
    obtain ⟨w', hr, h2, h3⟩ := run_clear_own (P := P) t o.type ht i0 z hi hz hzs hzo hs h (k := k) hil hX
    unfold Oper.wp execOp
    simp only [ho, resolve, invoke, builtin, Sem.run_bind, Sem.run_pure, Result.andThen_ok, List.map_toArray, List.map_cons, List.map_nil, hx, hr]
    refine hK' _ _ ?_
    have := hK w' h2 h3
    simpa [Act.put, hdst] using this
end
end Go.Proofs.YtclfplpggmefjaaDoor
/- What an index of a first hit says. -/
namespace Go.Proofs.YtclfplpggmefjaaDoor
def IdxOut {α : Type} (pr : α → Bool) (l : List α) (i : Int) : Prop :=
  (i = -1 ∧ ∀ x ∈ l, pr x = false) ∨ ∃ j : Nat, i = j ∧ j < l.length ∧ (∀ x ∈ l.take j, pr x = false) ∧ ∃ x, l[j]? = some x ∧ pr x = true
end Go.Proofs.YtclfplpggmefjaaDoor
/- slices.IndexFunc and slices.DeleteFunc at the closure of patch.Part. -/
namespace Go.Proofs.YtclfplpggmefjaaDoor
open Go.RowKit
set_option linter.unusedVariables false
set_option linter.unusedSimpArgs false

set_option maxRecDepth 100000 in
set_option maxHeartbeats 400000 in
theorem indexPart_any (b1 b2 : Nat) (pr : Ch → Bool) (A : Option Addr) (n c : Nat) (l : List Ch) (w : World) (hn : n = l.length) (h : RdCh w w.heap.size A l) (hb : n ≤ 140737488355328)
    (hcl : ∀ (x1 x2 x3 x4 : Int) (x6 : Bool) (x5 : ByteArray) (w' : World), Below w.heap.size w w' → Calls Tryd.prog 64 #[.agg #[.int .i64 x1, .bool x6, .int .u8 x2, .int .i64 x3, .int .u64 x4, .string x5], .pointer (some ⟨b1, 0, none⟩), .pointer (some ⟨b2, 0, none⟩)] w' fun e w'' => e = .returned (.bool (pr ⟨x1, x6, ⟨x2, x3, x4, x5⟩⟩)) ∧ Below w'.heap.size w' w'') :
    Calls Tryd.prog 78 #[.slice A n c, .func (.func 64) #[] #[.pointer (some ⟨b1, 0, none⟩), .pointer (some ⟨b2, 0, none⟩)]] w fun e w' => ∃ i : Int, e = .returned (.int .i64 i) ∧ IdxOut pr l i ∧ Below w.heap.size w w' := by
  have N := Lib.hid hn
  have HCL := Lib.hid hcl
  clear hn hcl
  go_enter Tryd.func78, Tryd.ntmps78
  go_wp2_with (fail)
  go_loopg [8] n (fun g iv wr => ∃ i : Nat, i ≤ n ∧ g = n - i ∧ iv = .int .i64 i ∧ Below w.heap.size w wr ∧ Hid (∀ x ∈ l.take i, pr x = false))
  case atStart => exact ⟨0, by omega, rfl, rfl, Below.refl _ _, Lib.hid (by simp)⟩
  case round =>
    obtain ⟨i, hi, hg, rfl, hbw, HI⟩ := hrel
    have HG := Lib.hid hg
    clear hg
    by_cases hlt : i < n
    · have hil : i < l.length := by have := N.out; omega
      obtain ⟨ad, x, rfl, _, _, hx, hc1⟩ := (h.below hbw (Nat.le_refl _)).el hil
      have HT : Hid (l.take (i + 1) = l.take i ++ [x]) := Lib.hid (by rw [List.take_add_one, hx]; rfl)
      have HX := Lib.hid hx
      clear hx hil
      obtain ⟨x1, x6, x2, x3, x4, x5⟩ := x
      obtain ⟨r0, r1, r2, r3, r4, r5⟩ := ch_cells hc1
      clear hc1
      by_cases hp : pr ⟨x1, x6, ⟨x2, x3, x4, x5⟩⟩ = true
      · go_wp2_with (go_at_call 64; refine (HCL.out _ _ _ _ _ _ _ hbw).mono ?_; rintro e w' ⟨rfl, hb'⟩)
        go_ret
        exact ⟨i, rfl, .inr ⟨i, rfl, by have := N.out; omega, HI.out, _, HX.out, hp⟩, hbw.trans (hb'.mono hbw.size)⟩
      · have hp' : pr ⟨x1, x6, ⟨x2, x3, x4, x5⟩⟩ = false := by simpa using hp
        clear hp
        go_wp2_with (go_at_call 64; refine (HCL.out _ _ _ _ _ _ _ hbw).mono ?_; rintro e w' ⟨rfl, hb'⟩)
        have hbw' := hbw.trans (hb'.mono hbw.size)
        go_roundg (n - (i + 1))
        case measure => have := HG.out; omega
        case rel =>
          refine ⟨i + 1, by omega, rfl, by go_num, hbw', Lib.hid ?_⟩
          intro y hy
          rw [HT.out] at hy
          rcases List.mem_append.1 hy with hy | hy
          · exact HI.out y hy
          · simp at hy; rw [hy]; exact hp'
    · go_wp2_with (fail)
      go_ret
      refine ⟨-1, rfl, .inl ⟨rfl, ?_⟩, hbw⟩
      have h1 := HI.out
      rw [List.take_of_length_le (by have := N.out; omega)] at h1
      exact h1

set_option maxRecDepth 100000 in
set_option maxHeartbeats 1000000 in
theorem deletePart_any (b1 b2 : Nat) (pr : Ch → Bool) (A : Option Addr) (n c base : Nat) (l : List Ch) (w : World) (hown : OwCh w base (.slice A n c) l) (hbase : base ≤ w.heap.size) (hb : n ≤ 100000000) (hn : n = l.length)
    (hcl : ∀ (x1 x2 x3 x4 : Int) (x6 : Bool) (x5 : ByteArray) (w' : World), Below base w w' → Calls Tryd.prog 64 #[.agg #[.int .i64 x1, .bool x6, .int .u8 x2, .int .i64 x3, .int .u64 x4, .string x5], .pointer (some ⟨b1, 0, none⟩), .pointer (some ⟨b2, 0, none⟩)] w' fun e w'' => e = .returned (.bool (pr ⟨x1, x6, ⟨x2, x3, x4, x5⟩⟩)) ∧ Below w'.heap.size w' w'') :
    Calls Tryd.prog 62 #[.slice A n c, .func (.func 64) #[] #[.pointer (some ⟨b1, 0, none⟩), .pointer (some ⟨b2, 0, none⟩)]] w fun e w' =>
      ∃ A' c', e = .returned (.slice A' (l.filter (fun x => !pr x)).length c') ∧ OwCh w' base (.slice A' (l.filter (fun x => !pr x)).length c') (l.filter (fun x => !pr x)) ∧ Below base w w' := by
  have N := Lib.hid hn
  have HCL := Lib.hid hcl
  have hcap := hown.cap
  have hlc : n ≤ c := by rw [hn]; exact hcap.1
  have hcm : c ≤ 2 ^ 63 - 1 := hcap.2
  clear hn hcl hcap
  generalize hR : l.filter (fun x => !pr x) = R
  have HR := Lib.hid hR
  clear hR
  go_enter Tryd.func62, Tryd.ntmps62
  go_wp2_with (go_at_call 78; refine Hid.out ?_)
  refine Lib.hid ?_
  refine (indexPart_any b1 b2 pr A n c l w N.out (hown.rd Ch.enc_len) (by omega) (fun x1 x2 x3 x4 x6 x5 w' hb' => HCL.out x1 x2 x3 x4 x6 x5 w' (hb'.mono hbase))).mono ?_
  rintro e w1 ⟨ix, rfl, hix, hb1⟩
  have hbw1 : Below base w w1 := hb1.mono hbase
  have hown1 := hown.below hb1 (Nat.le_refl _)
  have hbase1 : base ≤ w1.heap.size := Nat.le_trans hbase hb1.size
  clear hown hb1
  rcases hix with ⟨rfl, hall⟩ | ⟨i0, rfl, hi0, hpre, x0, hx0, hpx0⟩
  · have hRl : R = l := by
      rw [← HR.out]
      exact List.filter_eq_self.2 (fun x hx => by simp [hall x hx])
    have HRL := Lib.hid hRl
    clear hRl hall
    go_wp2_with (fail)
    go_ret
    refine ⟨A, c, ?_, ?_, hbw1⟩
    · rw [HRL.out, ← N.out]; rfl
    · rw [HRL.out, ← N.out]; exact hown1
  · have hne : ((i0 : Int) == -1) = false := beq_eq_false_iff_ne.2 (by omega)
    have hi0n : i0 < n := by rw [N.out]; exact hi0
    have hst : Hid (l.take i0 = (l.take (i0 + 1)).filter (fun x => !pr x)) := Lib.hid (by
      rw [List.take_add_one, hx0, List.filter_append, List.filter_eq_self.2 (fun x hx => by simp [hpre x hx])]
      simp [hpx0])
    clear hpre hx0 hpx0 hi0
    go_wp2_with (fail)
    go_loopg [5, 6] (n - (i0 + 1)) (fun g iv jv wr => ∃ (i j : Nat) (m : List Ch), i < j ∧ j ≤ n ∧ g = n - j ∧ iv = .int .i64 i ∧ jv = .int .i64 j ∧ OwCh wr base (.slice A n c) m ∧ base ≤ wr.heap.size ∧ Below base w wr ∧
      Hid (m.length = n ∧ m.drop j = l.drop j ∧ m.take i = (l.take j).filter (fun x => !pr x)))
    case atStart => exact ⟨i0, i0 + 1, l, by omega, by omega, rfl, rfl, by go_num, hown1, hbase1, hbw1, Lib.hid ⟨N.out.symm, rfl, hst.out⟩⟩
    case round =>
      clear hown1 hbase1 hbw1 hst hne hi0n
      obtain ⟨i, j, m, hij, hj, hg, rfl, rfl, hown, hbs, hbw, HI⟩ := hrel
      have HG := Lib.hid hg
      clear hg
      by_cases hlt : j < n
      · have hjm : j < m.length := by have := HI.out.1; omega
        obtain ⟨ad, x, rfl, _, hdm, hx, hc1⟩ := (hown.rd Ch.enc_len).el hjm
        have HX : Hid (l.take (j + 1) = l.take j ++ [x] ∧ m.drop (j + 1) = l.drop (j + 1)) := Lib.hid (by
          obtain ⟨h1, h2, h3⟩ := HI.out
          have h4 : l[j]? = some x := by
            have := congrArg (fun t => t[0]?) h2
            simp only [List.getElem?_drop, Nat.add_zero] at this
            rw [← this, hx]
          refine ⟨by rw [List.take_add_one, h4]; rfl, ?_⟩
          have := congrArg (fun t => t.drop 1) h2
          simpa [List.drop_drop] using this)
        clear hdm hx hjm
        obtain ⟨x1, x6, x2, x3, x4, x5⟩ := x
        obtain ⟨r0, r1, r2, r3, r4, r5⟩ := ch_cells hc1
        clear hc1
        have hbx0 := heap_alloc_new wr (.cells #[.int .i64 x1, .bool x6, .int .u8 x2, .int .i64 x3, .int .u64 x4, .string x5] 58)
        have hbwA := hbw.alloc hbs (.cells #[.int .i64 x1, .bool x6, .int .u8 x2, .int .i64 x3, .int .u64 x4, .string x5] 58)
        have hownA := hown.alloc (.cells #[.int .i64 x1, .bool x6, .int .u8 x2, .int .i64 x3, .int .u64 x4, .string x5] 58)
        have hsz := size_alloc' wr (.cells #[.int .i64 x1, .bool x6, .int .u8 x2, .int .i64 x3, .int .u64 x4, .string x5] 58)
        have hwbA : ∀ k, wb (.slice (some ad) n c) = some k → k < wr.heap.size := fun k hk => (hown.wb_lt k hk).2
        by_cases hp : pr ⟨x1, x6, ⟨x2, x3, x4, x5⟩⟩ = true
        · have HBX0 := Lib.hid hbx0
          have HWB := Lib.hid hwbA
          have HSZ := Lib.hid hsz
          clear hbx0 hwbA hsz
          go_wp2_with (go_at_call 64; refine (HCL.out _ _ _ _ _ _ _ hbwA).mono ?_; rintro e w2 ⟨rfl, hb2⟩)
          have hbw2 : Below base w w2 := hbwA.trans (hb2.mono (by rw [← HSZ.out]; omega))
          have hown2 := hownA.below hb2 (Nat.le_refl _)
          have hbs2 : base ≤ w2.heap.size := by have := hb2.size; rw [← HSZ.out] at this; omega
          go_roundg (n - (j + 1))
          case measure => have := HG.out; omega
          case rel =>
            obtain ⟨h1, h2, h3⟩ := HI.out
            obtain ⟨h4, h5⟩ := HX.out
            exact ⟨i, j + 1, m, by omega, by omega, rfl, rfl, by go_num, hown2, hbs2, hbw2, Lib.hid ⟨h1, h5, by rw [h4, List.filter_append, h3]; simp [hp]⟩⟩
        · have hp' : pr ⟨x1, x6, ⟨x2, x3, x4, x5⟩⟩ = false := by simpa using hp
          clear hp
          have HBX0 := Lib.hid hbx0
          have HWB := Lib.hid hwbA
          have HSZ := Lib.hid hsz
          clear hbx0 hwbA hsz
          go_wp2_with (go_at_call 64; refine Hid.out ?_)
          refine Lib.hid ?_
          refine (HCL.out _ _ _ _ _ _ _ hbwA).mono ?_
          rintro e w2 ⟨rfl, hb2⟩
          have hbw2 : Below base w w2 := hbwA.trans (hb2.mono (by rw [← HSZ.out]; omega))
          have hown2 := hownA.below hb2 (Nat.le_refl _)
          have hbs2 : base ≤ w2.heap.size := by have := hb2.size; rw [← HSZ.out] at this; omega
          have hbx2 := (hb2.block wr.heap.size (by rw [← HSZ.out]; omega)).trans HBX0.out
          obtain ⟨b0, b1, b2, b3, b4, b5⟩ := box_ch hbx2
          have him : i < m.length := by have := HI.out.1; omega
          have hin : i < n := by omega
          clear hbx2
          obtain ⟨i1, hi1, hz1, hz2, hz3⟩ := info_parts Tryd.infoCh
          have I1 := Lib.hid hi1
          have Z2 := Lib.hid hz2
          clear hi1 hz1 hz2 hz3 hownA hbwA
          go_wp2_with (refine wpList_set_own rfl 58 (.tmp 33) (.tmp 32) rfl rfl i1 I1.out Z2.out Ch.enc_len Ch.enc_one hown2 him ⟨x1, x6, ⟨x2, x3, x4, x5⟩⟩ (cs := #[.int .i64 x1, .bool x6, .int .u8 x2, .int .i64 x3, .int .u64 x4, .string x5]) rfl (p := ad.add (i * 6)) rfl rfl rfl ?_; intro w3 hown3 hg3)
          have hbw3 : Below base w w3 := hbw2.grown hg3 hbs2 (fun k hk => (hown2.wb_lt k hk).1)
          have hbs3 : base ≤ w3.heap.size := Nat.le_trans hbs2 hg3.size
          go_roundg (n - (j + 1))
          case measure => have := HG.out; omega
          case rel =>
            obtain ⟨h1, h2, h3⟩ := HI.out
            obtain ⟨h4, h5⟩ := HX.out
            refine ⟨i + 1, j + 1, m.set i ⟨x1, x6, ⟨x2, x3, x4, x5⟩⟩, by omega, by omega, rfl, by go_num, by go_num, hown3, hbs3, hbw3, Lib.hid ⟨by rw [List.length_set]; exact h1, by rw [List.drop_set_of_lt (by omega)]; exact h5, ?_⟩⟩
            rw [h4, List.filter_append, List.take_add_one, List.getElem?_set_self him, List.take_set_of_le (Nat.le_refl i), h3]
            simp [hp']
      · have hjn : j = n := by omega
        have hm0 := HI.out
        obtain ⟨i1, hi1, hz1, hz2, hz3⟩ := info_parts Tryd.infoCh
        have I1 := Lib.hid hi1
        have Z1 := Lib.hid hz1
        have hmR : m.take i = R := by
          obtain ⟨h1, h2, h3⟩ := hm0
          rw [h3, ← HR.out, List.take_of_length_le (by have := N.out; omega)]
        have him : i ≤ m.length := by have := hm0.1; omega
        have hiR : i = R.length := by rw [← hmR, List.length_take, Nat.min_eq_left him]
        have HIR := Lib.hid hiR
        have HMR := Lib.hid hmR
        have HML : Hid (m.length = n) := Lib.hid hm0.1
        clear hi1 hz1 hz2 hz3 hmR hiR hm0 hjn
        rcases Nat.lt_or_ge i c with hci | hci
        · have hne : ¬ c = i := by omega
          go_wp2_with (refine wpList_clear_own (i := i) (X := A.map (fun x => x.add (i * 6))) rfl (.tmp 38) _ rfl rfl Tryd.slCh i1 _ I1.out Z1.out rfl (by intro u hu; exact Ch.enc_one ⟨0, false, V.zero⟩ u hu) Ch.enc_len hown him (by exact .inr rfl) (by rw [HML.out]) rfl ?_; intro w3 hown3 hg3)
          have hbw3 : Below base w w3 := hbw.grown hg3 hbs (fun k hk => (hown.wb_lt k hk).1)
          rw [HMR.out] at hown3
          have hri := HIR.out
          subst hri
          go_ret
          exact ⟨A, c, rfl, hown3, hbw3⟩
        · go_wp2_with (refine wpList_clear_own (i := i) (X := A) rfl (.tmp 38) _ rfl rfl Tryd.slCh i1 _ I1.out Z1.out rfl (by intro u hu; exact Ch.enc_one ⟨0, false, V.zero⟩ u hu) Ch.enc_len hown him (by have := HML.out; left; omega) (by rw [HML.out]) rfl ?_; intro w3 hown3 hg3)
          have hbw3 : Below base w w3 := hbw.grown hg3 hbs (fun k hk => (hown.wb_lt k hk).1)
          rw [HMR.out] at hown3
          have hri := HIR.out
          subst hri
          go_ret
          exact ⟨A, c, rfl, hown3, hbw3⟩
end Go.Proofs.YtclfplpggmefjaaDoor
/- slices.Clone of attributes and of changes; attrs.Copy, patch.Copy. -/
namespace Go.Proofs.YtclfplpggmefjaaDoor
open Go.RowKit
set_option linter.unusedVariables false
set_option linter.unusedSimpArgs false

set_option maxRecDepth 100000 in
set_option maxHeartbeats 400000 in
theorem cloneCh_any (A : Option Addr) (n c : Nat) (l : List Ch) (w : World) (hn : n = l.length) (h : RdCh w w.heap.size A l) (hb : n ≤ 100000000) :
    Calls Tryd.prog 63 #[.slice A n c] w (NewCh l w) := by
  cases A with
  | none =>
    have hl : l = [] := by
      cases l with
      | nil => rfl
      | cons a l => obtain ⟨ad, e, _⟩ := h (by simp); cases e
    subst hl
    have hn0 : n = 0 := by simpa using hn
    subst hn0
    clear hn
    have hq := fun (w : World) => Lib.run_eql_slice_nil (P := Tryd.prog) w 47 58 none 0 c 0 0 Tryd.slCh
    go_enter Tryd.func63, Tryd.ntmps63
    go_wp2_with (fail)
    go_ret
    exact ⟨none, 0, rfl, Ow.nil _ _, Below.refl _ _⟩
  | some ad =>
    have N := Lib.hid hn
    clear hn
    have hq := fun (w : World) => Lib.run_eql_slice_nil (P := Tryd.prog) w 47 58 (some ad) n c 0 0 Tryd.slCh
    go_enter Tryd.func63, Tryd.ntmps63
    go_wp2_with (first
      | (at_builtin; refine app_ch (m := l) rfl (.tmp 5) (.tmp 6) rfl rfl (by exact Ow.empty _ w.heap.size _) _ _ _ _ rfl N.out (by exact h.ext (ext_alloc w _)) (by have := N.out; simp only [List.length_nil]; omega) (by simp) ?_; intro v' w' hown' hgr hv'))
    rw [List.nil_append] at hown'
    obtain ⟨A', c', rfl, _, _⟩ := hown'.form
    go_ret
    exact ⟨A', c', rfl, hown', (ext_alloc w _).grown hgr (by simp) (fun k hk => by cases hk)⟩
end Go.Proofs.YtclfplpggmefjaaDoor
/- A schema's keys as plain data, how they lie in cells, and the map of a schema: what is looked up in it and stored. -/
namespace Go.Proofs.YtclfplpggmefjaaDoor
open Go.RowKit Go.MapKept
set_option linter.unusedVariables false
set_option linter.unusedSimpArgs false

structure Ky where
  id : Int
  block : Bool
  kind : Int
  after : Bool
  before : Bool
  group : Int
deriving DecidableEq
def Ky.enc (k : Ky) : List Value := [.int .i64 k.id, .bool k.block, .int .u8 k.kind, .bool k.after, .bool k.before, .int .i64 k.group]
def Ky.val (k : Ky) : Value := .agg #[.int .i64 k.id, .bool k.block, .int .u8 k.kind, .bool k.after, .bool k.before, .int .i64 k.group]
def Ky.zero : Ky := ⟨0, false, 0, false, false, 0⟩
theorem Ky.enc_len (k : Ky) : k.enc.length = 6 := rfl
theorem Ky.enc_one (k : Ky) : ∀ u ∈ k.enc, u.oneCell' = true := by intro u hu; simp [Ky.enc] at hu; rcases hu with rfl | rfl | rfl | rfl | rfl | rfl <;> rfl
abbrev RdKy := @Rd Ky Ky.enc 6
abbrev OwKy := @Ow Ky Ky.enc 6 91
theorem Tryd.infoKy : (Tryd.prog.info? 91).map (fun i => (i.zero, i.size, i.bytes)) = some (some (Ky.val Ky.zero), 6, 24) := by kernel_rfl
theorem Tryd.slKy : Tryd.prog.underlying 45 = some (.slice 91) := by kernel_rfl
theorem Tryd.mpKy : Tryd.prog.underlying 92 = some (.map 3 91) := by kernel_rfl
theorem Tryd.mpInt : Tryd.prog.underlying 3 = some (.int .i64) := by kernel_rfl
theorem Tryd.zeroKy (w : World) : (zeroValue 91).run Tryd.prog w = .ok (Ky.val Ky.zero) w := by kernel_rfl

section
variable {w : World} {p : Addr}
theorem ky_cells {i g n : Int} {b a f : Bool} (h : CellsAt w p (Ky.enc ⟨i, b, n, a, f, g⟩)) :
    w.cell? p = some (.int .i64 i) ∧ w.cell? { block := p.block, off := p.off + 1 } = some (.bool b) ∧ w.cell? { block := p.block, off := p.off + 2 } = some (.int .u8 n) ∧ w.cell? { block := p.block, off := p.off + 3 } = some (.bool a) ∧ w.cell? { block := p.block, off := p.off + 4 } = some (.bool f) ∧ w.cell? { block := p.block, off := p.off + 5 } = some (.int .i64 g) := by
  have h0 := h 0 _ rfl
  rw [add_zero'] at h0
  exact ⟨h0, cellsAt_lit h 0 rfl, cellsAt_lit h 1 rfl, cellsAt_lit h 2 rfl, cellsAt_lit h 3 rfl, cellsAt_lit h 4 rfl⟩
theorem box_ky {b : Nat} {t : TypeId} {c0 c1 c2 c3 c4 c5 : Value} (h : w.heap[b]? = some (.cells #[c0, c1, c2, c3, c4, c5] t (0, 0))) :
    w.cell? ⟨b, 0, none⟩ = some c0 ∧ w.cell? ⟨b, 1, none⟩ = some c1 ∧ w.cell? ⟨b, 2, none⟩ = some c2 ∧ w.cell? ⟨b, 3, none⟩ = some c3 ∧ w.cell? ⟨b, 4, none⟩ = some c4 ∧ w.cell? ⟨b, 5, none⟩ = some c5 := by
  simp [World.cell?, h]
theorem box_2 {b : Nat} {t : TypeId} {c0 c1 : Value} (h : w.heap[b]? = some (.cells #[c0, c1] t (0, 0))) : w.cell? ⟨b, 0, none⟩ = some c0 ∧ w.cell? ⟨b, 1, none⟩ = some c1 := by
  simp [World.cell?, h]
theorem box_1 {b : Nat} {t : TypeId} {c0 : Value} (h : w.heap[b]? = some (.cells #[c0] t (0, 0))) : w.cell? ⟨b, 0, none⟩ = some c0 := by
  simp [World.cell?, h]
end


section
variable {ops : Array Oper} {rest : List Oper} {o : Oper} {a : Act} {Q : Exit → Act → World → Prop} {w : World} {base : Nat} {v : Value}
theorem app_ky {l m : List Ky} (hgd : o.guard = none) (s x : Operand)
    (ho : o.op = .call { callee := .builtin .append, args := #[s, x], argTypes := #[45, 45] })
    (hsv : a.eval s = v) (hown : OwKy w base v l) (B : Nat) (A : Option Addr) (c n : Nat) (hx : a.eval x = .slice A n c) (hn : n = m.length) (hr : RdKy w B A m)
    (hb : l.length + m.length ≤ 2000000000000) (hbase : base ≤ w.heap.size)
    (h : ∀ v' w', OwKy w' base v' (l ++ m) → w.grownBy w' (wb v) → (v' = v ∧ w' = w ∨ wb v' = wb v ∨ wb v' = some w.heap.size) → wpList Tryd.prog ops Q rest (a.put o.dst v') w') : wpList Tryd.prog ops Q (o :: rest) a w := by
  obtain ⟨i0, hi0, hz0, hz1, hz2⟩ := info_parts Tryd.infoKy
  exact wpList_app hgd s x _ ho i0 _ 24 Tryd.slKy hi0 hz0 hz1 hz2 rfl (by omega) Ky.enc_len Ky.enc_one hsv hown B A c n hx hn hr (by simp only [maxLen]; omega) (by omega) hbase h
end
/-- a list of keys in new memory -/
def NewKy (r : List Ky) (w : World) (e : Ending) (w' : World) : Prop :=
  ∃ A c, e = .returned (.slice A r.length c) ∧ OwKy w' w.heap.size (.slice A r.length c) r ∧ Below w.heap.size w w'

/-- the key with an ID -/
def findK (l : List Ky) (id : Int) : Option Ky := l.find? (fun k => decide (k.id = id))
def kvOf (k : Ky) : Value × Value := (.int .i64 k.id, k.val)
/-- block b is a map that holds just these keys, each under its ID -/
def MapK (w : World) (b : Nat) (l : List Ky) : Prop := ∃ es clock, w.heap[b]? = some (.map es clock) ∧ es.toList.map (fun e => (e.key, e.val)) = l.map kvOf

theorem findNow_keys (id : Int) : ∀ (l : List Ky) (es : List MapEntry) (i : Nat), es.map (fun e => (e.key, e.val)) = l.map kvOf →
    ∃ r, Instr.findNow (.int .i64) (.int .i64 id) es i = some r ∧ r.map (·.2) = (findK l id).map Ky.val
  | [], [], i, _ => ⟨none, rfl, rfl⟩
  | [], e :: es, i, h => by simp at h
  | k :: l, [], i, h => by simp at h
  | k :: l, e :: es, i, h => by
    simp only [List.map_cons, List.cons.injEq, kvOf, Prod.mk.injEq] at h
    obtain ⟨⟨h1, h2⟩, h3⟩ := h
    by_cases hk : k.id = id
    · refine ⟨some (i, e.val), ?_, ?_⟩
      · simp [Instr.findNow, Instr.sameNow, h1, hk]
      · simp [findK, hk, h2]
    · obtain ⟨r, hr, he⟩ := findNow_keys id l es (i + 1) h3
      refine ⟨r, ?_, ?_⟩
      · have : (id == k.id) = false := by simp; omega
        simp [Instr.findNow, Instr.sameNow, h1, this, hr]
      · rw [he]; simp [findK, hk]

theorem MapK.look {w : World} {b : Nat} {l : List Ky} (h : MapK w b l) (id : Int) :
    (Instr.lookup 92 (.map (some b)) (.int .i64 id) true).run Tryd.prog w = .ok (.tuple #[((findK l id).getD Ky.zero).val, .bool (findK l id).isSome]) w := by
  obtain ⟨es, clock, hb, he⟩ := h
  obtain ⟨r, hr, hv⟩ := findNow_keys id l es.toList 0 he
  have hf := run_findKey (P := Tryd.prog) (w := w) Tryd.mpInt hr
  have hc := fun e => run_checkKey (P := Tryd.prog) (w := w) (k := .int .i64 id) Tryd.mpInt (by simp [IsKey]) e 9999
  cases r with
  | none =>
    have : findK l id = none := by cases hq : findK l id with
      | none => rfl
      | some k => rw [hq] at hv; simp at hv
    simp [Instr.lookup, run_underlying Tryd.mpKy, MapKept.run_getObj_map hb, hc, hf, Tryd.zeroKy, Result.andThen, this]; rfl
  | some q =>
    obtain ⟨i, v⟩ := q
    cases hq : findK l id with
    | none => rw [hq] at hv; simp at hv
    | some k =>
      rw [hq] at hv
      simp at hv
      simp [Instr.lookup, run_underlying Tryd.mpKy, MapKept.run_getObj_map hb, hc, hf, Result.andThen, hv]

theorem MapK.store {w : World} {b : Nat} {l : List Ky} (h : MapK w b l) (k : Ky) (hn : findK l k.id = none) :
    ∃ w', (Instr.mapUpdate 92 (.map (some b)) (.int .i64 k.id) k.val).run Tryd.prog w = .ok () w' ∧ MapK w' b (l ++ [k]) ∧ (∀ j, j ≠ b → w'.heap[j]? = w.heap[j]?) ∧ w'.heap.size = w.heap.size ∧ w'.os = w.os ∧ w'.tape = w.tape ∧ w'.output = w.output := by
  obtain ⟨es, clock, hb, he⟩ := h
  obtain ⟨r, hr, hv⟩ := findNow_keys k.id l es.toList 0 he
  have hf := run_findKey (P := Tryd.prog) (w := w) Tryd.mpInt hr
  have hc := fun e => run_checkKey (P := Tryd.prog) (w := w) (k := .int .i64 k.id) Tryd.mpInt (by simp [IsKey]) e 9999
  rw [hn] at hv
  cases r with
  | some q => simp at hv
  | none =>
    obtain ⟨h1, h2⟩ := heap_set (o' := .map (es.push ⟨.int .i64 k.id, k.val, clock⟩) (clock + 1)) hb
    refine ⟨{ w with heap := w.heap.setIfInBounds b (.map (es.push ⟨.int .i64 k.id, k.val, clock⟩) (clock + 1)) }, ?_, ⟨_, _, h1, ?_⟩, h2, by simp, rfl, rfl, rfl⟩
    · simp [Instr.mapUpdate, run_underlying Tryd.mpKy, MapKept.run_getObj_map hb, hc, hf, MapKept.run_setObj_map _ hb, Result.andThen]
    · rw [Array.toList_push, List.map_append, he]; simp [kvOf]

theorem MapK.keep {w w' : World} {b : Nat} {l : List Ky} (h : MapK w b l) (e : w'.heap[b]? = w.heap[b]?) : MapK w' b l := by
  obtain ⟨es, clock, hb, he⟩ := h
  exact ⟨es, clock, e.trans hb, he⟩
end Go.Proofs.YtclfplpggmefjaaDoor
/- '==' and '!=' of the program's structs. -/
namespace Go.Proofs.YtclfplpggmefjaaDoor
open Go.RowKit

theorem bytes_list (a b : ByteArray) : (a.toList = b.toList) ↔ a = b := by
  constructor
  · intro h
    rw [ByteArray.toList_eq, ByteArray.toList_eq] at h
    obtain ⟨⟨x⟩⟩ := a
    obtain ⟨⟨y⟩⟩ := b
    simp at h
    rw [h]
  · intro h; rw [h]

theorem eqin_v (w : World) (d : Nat) (k n f k' n' f' : Int) (s s' : ByteArray) :
    (Op.equalIn (d + 2) 24 (.agg #[.int .u8 k, .int .i64 n, .int .u64 f, .string s]) (.agg #[.int .u8 k', .int .i64 n', .int .u64 f', .string s'])).run Tryd.prog w =
      .ok (decide ((⟨k, n, f, s⟩ : V) = ⟨k', n', f', s'⟩)) w := by
  go_simp
  by_cases h1 : k = k' <;> by_cases h2 : n = n' <;> by_cases h3 : f = f' <;> by_cases h4 : s = s' <;> simp [h1, h2, h3, h4, bytes_list]
theorem eqin_at (w : World) (d : Nat) (q k n f q' k' n' f' : Int) (s s' : ByteArray) :
    (Op.equalIn (d + 3) 62 (.agg #[.int .i64 q, .int .u8 k, .int .i64 n, .int .u64 f, .string s]) (.agg #[.int .i64 q', .int .u8 k', .int .i64 n', .int .u64 f', .string s'])).run Tryd.prog w =
      .ok (decide ((⟨q, ⟨k, n, f, s⟩⟩ : At) = ⟨q', ⟨k', n', f', s'⟩⟩)) w := by
  go_simp
  by_cases h1 : k = k' <;> by_cases h2 : n = n' <;> by_cases h3 : f = f' <;> by_cases h4 : s = s' <;> by_cases h5 : q = q' <;> simp [h1, h2, h3, h4, h5, bytes_list]
theorem eqin_ch (w : World) (d : Nat) (q k n f q' k' n' f' : Int) (g g' : Bool) (s s' : ByteArray) :
    (Op.equalIn (d + 3) 58 (.agg #[.int .i64 q, .bool g, .int .u8 k, .int .i64 n, .int .u64 f, .string s]) (.agg #[.int .i64 q', .bool g', .int .u8 k', .int .i64 n', .int .u64 f', .string s'])).run Tryd.prog w =
      .ok (decide ((⟨q, g, ⟨k, n, f, s⟩⟩ : Ch) = ⟨q', g', ⟨k', n', f', s'⟩⟩)) w := by
  go_simp
  by_cases h1 : k = k' <;> by_cases h2 : n = n' <;> by_cases h3 : f = f' <;> by_cases h4 : s = s' <;> by_cases h5 : q = q' <;> by_cases h6 : g = g' <;> simp [h1, h2, h3, h4, h5, h6, bytes_list]

def beqV (a b : V) : Bool := decide (a = b)
def beqAt (a b : At) : Bool := decide (a = b)
def beqCh (a b : Ch) : Bool := decide (a = b)
theorem beqV_eq {a b : V} (h : a = b) : beqV a b = true := decide_eq_true h
theorem beqV_ne {a b : V} (h : ¬ a = b) : beqV a b = false := decide_eq_false h
theorem beqAt_eq {a b : At} (h : a = b) : beqAt a b = true := decide_eq_true h
theorem beqAt_ne {a b : At} (h : ¬ a = b) : beqAt a b = false := decide_eq_false h
theorem beqCh_eq {a b : Ch} (h : a = b) : beqCh a b = true := decide_eq_true h
theorem beqCh_ne {a b : Ch} (h : ¬ a = b) : beqCh a b = false := decide_eq_false h

section
variable (w : World) (q k n f q' k' n' f' : Int) (g g' : Bool) (s s' : ByteArray)
@[go_sem high] theorem eql_v : (binOp .eql 24 (.agg #[.int .u8 k, .int .i64 n, .int .u64 f, .string s]) (.agg #[.int .u8 k', .int .i64 n', .int .u64 f', .string s'])).run Tryd.prog w =
      .ok (.bool (beqV ⟨k, n, f, s⟩ ⟨k', n', f', s'⟩)) w := by rw [run_eql_struct, eqin_v]; rfl
@[go_sem high] theorem neq_v : (binOp .neq 24 (.agg #[.int .u8 k, .int .i64 n, .int .u64 f, .string s]) (.agg #[.int .u8 k', .int .i64 n', .int .u64 f', .string s'])).run Tryd.prog w =
      .ok (.bool (!beqV ⟨k, n, f, s⟩ ⟨k', n', f', s'⟩)) w := by rw [run_neq_struct, eqin_v]; rfl
@[go_sem high] theorem eql_at : (binOp .eql 62 (.agg #[.int .i64 q, .int .u8 k, .int .i64 n, .int .u64 f, .string s]) (.agg #[.int .i64 q', .int .u8 k', .int .i64 n', .int .u64 f', .string s'])).run Tryd.prog w =
      .ok (.bool (beqAt ⟨q, ⟨k, n, f, s⟩⟩ ⟨q', ⟨k', n', f', s'⟩⟩)) w := by rw [run_eql_struct, eqin_at]; rfl
@[go_sem high] theorem neq_at : (binOp .neq 62 (.agg #[.int .i64 q, .int .u8 k, .int .i64 n, .int .u64 f, .string s]) (.agg #[.int .i64 q', .int .u8 k', .int .i64 n', .int .u64 f', .string s'])).run Tryd.prog w =
      .ok (.bool (!beqAt ⟨q, ⟨k, n, f, s⟩⟩ ⟨q', ⟨k', n', f', s'⟩⟩)) w := by rw [run_neq_struct, eqin_at]; rfl
@[go_sem high] theorem eql_ch : (binOp .eql 58 (.agg #[.int .i64 q, .bool g, .int .u8 k, .int .i64 n, .int .u64 f, .string s]) (.agg #[.int .i64 q', .bool g', .int .u8 k', .int .i64 n', .int .u64 f', .string s'])).run Tryd.prog w =
      .ok (.bool (beqCh ⟨q, g, ⟨k, n, f, s⟩⟩ ⟨q', g', ⟨k', n', f', s'⟩⟩)) w := by rw [run_eql_struct, eqin_ch]; rfl
@[go_sem high] theorem neq_ch : (binOp .neq 58 (.agg #[.int .i64 q, .bool g, .int .u8 k, .int .i64 n, .int .u64 f, .string s]) (.agg #[.int .i64 q', .bool g', .int .u8 k', .int .i64 n', .int .u64 f', .string s'])).run Tryd.prog w =
      .ok (.bool (!beqCh ⟨q, g, ⟨k, n, f, s⟩⟩ ⟨q', g', ⟨k', n', f', s'⟩⟩)) w := by rw [run_neq_struct, eqin_ch]; rfl
end
end Go.Proofs.YtclfplpggmefjaaDoor
