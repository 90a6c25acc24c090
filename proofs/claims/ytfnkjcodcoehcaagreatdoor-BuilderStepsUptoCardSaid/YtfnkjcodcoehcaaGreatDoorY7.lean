/- Merged texts: OwnOps, KeyClone, SchemaNew, PatchMayFn, PartsLaw, Units. -/
import Derived.Test.YtfnkjcodcoehcaaGreatDoorY6
import Derived.Test.YtfnkjcodcoehcaaGreatDoorY2
import Derived.RegionTactic
import Derived.BigRegion
import Derived.ChangeAlike
import Derived.Test.YtfnkjcodcoehcaaGreatDoorY1
import Derived.Test.YtfnkjcodcoehcaaGreatDoorY5
namespace Go.Proofs.YtfnkjcodcoehcaaGreatDoor
open Go.RowKit
set_option linter.unusedVariables false

section
variable {α : Type} {enc : α → List Value} {size : Nat} {e : TypeId} {w w' : World} {base n c : Nat} {l : List α} {P : Program}

theorem flat_take (hs : ∀ a, (enc a).length = size) (l : List α) (i : Nat) : (l.flatMap enc).take (i * size) = (l.take i).flatMap enc := by
  induction l generalizing i with
  | nil => simp
  | cons a l ih =>
    cases i with
    | zero => simp
    | succ i =>
      simp only [List.flatMap_cons, List.take_succ_cons]
      rw [List.take_append, hs, Nat.add_mul, Nat.one_mul, List.take_of_length_le (by rw [hs]; omega), Nat.add_sub_cancel, ih]
theorem flat_drop (hs : ∀ a, (enc a).length = size) (l : List α) (i : Nat) : (l.flatMap enc).drop (i * size) = (l.drop i).flatMap enc := by
  induction l generalizing i with
  | nil => simp
  | cons a l ih =>
    cases i with
    | zero => simp
    | succ i =>
      simp only [List.flatMap_cons, List.drop_succ_cons]
      rw [List.drop_append, hs, Nat.add_mul, Nat.one_mul, List.drop_of_length_le (by rw [hs]; omega), Nat.add_sub_cancel, ih]
      rfl

theorem Ow.row {A : Option Addr} (h : Ow enc size e w base (.slice A n c) l) (hl : 0 < l.length) :
    ∃ g cur, A = some ⟨g, 0, none⟩ ∧ n = l.length ∧ base ≤ g ∧ w.heap[g]? = some (.cells cur e (0, 0)) ∧ l.length ≤ c ∧ c ≤ maxLen ∧ cur.size = c * size ∧ cur.toList.take (l.length * size) = l.flatMap enc := by
  rcases h with ⟨rfl, _⟩ | ⟨_, ⟨_, h0⟩ | ⟨g, cap, cur, hv, hb, hg, h1, h2, h3, h4⟩⟩
  · simp at hl
  · omega
  · injection hv with hA hn hc
    subst hA; subst hn; subst hc
    exact ⟨g, cur, rfl, rfl, hb, hg, h1, h2, h3, h4⟩
theorem add_row (g i : Nat) : (⟨g, 0, none⟩ : Addr).add i = ⟨g, i, none⟩ := by
  unfold Addr.add
  split
  · rename_i h; rw [h]
  · simp

theorem run_set_own (t : TypeId) (i0 : TypeInfo) (hi : P.info? t = some i0) (hsz : i0.size = size) (hs : ∀ a, (enc a).length = size) (h1 : ∀ a, ∀ u ∈ enc a, u.oneCell' = true)
    {A : Option Addr} (h : Ow enc size e w base (.slice A n c) l) {i : Nat} (hil : i < l.length) (b : α) {cs : Array Value} (hcs : cs.toList = enc b) {p : Addr} (hp : A.map (·.add (i * size)) = some p) :
    ∃ w', (Instr.storeAt t (.pointer (some p)) (.agg cs)).run P w = .ok () w' ∧ Ow enc size e w' base (.slice A n c) (l.set i b) ∧ w.grownBy w' (wb (.slice A n c)) := by
  obtain ⟨g, cur, rfl, hn, hb, hg, hlc, hcm, hcur, htake⟩ := h.row (by omega)
  simp only [Option.map_some, add_row, Option.some.injEq] at hp
  subst hp
  have hcsz : cs.size = size := by rw [← Array.length_toList, hcs, hs]
  have hfit : i * size + 0 + (enc b).length ≤ cur.size := by
    rw [hs, hcur, Nat.add_zero, ← Nat.succ_mul]
    exact Nat.mul_le_mul_right _ (by omega)
  have hst := run_storeCells_at P g (i * size) e (enc b) 0 cur w hg hfit (h1 b)
  refine ⟨w.setRow g (cur.toList.take (i * size + 0) ++ enc b ++ cur.toList.drop (i * size + 0 + (enc b).length)).toArray, ?_, ?_, ?_⟩
  · simp [Instr.storeAt, Instr.sureAddr, storeVar, sizeOf, typeInfo, hi, hsz, Value.cells, hcsz, hcs]
    simpa using hst
  · refine .inr ⟨by rw [flat_len hs], .inr ⟨g, c, _, by rw [hn, List.length_set], hb, setRow_heap w g cur _ e _ hg, by rw [List.length_set]; exact hlc, hcm, ?_, ?_⟩⟩
    · simp only [List.size_toArray, List.length_append, List.length_take, List.length_drop, Array.length_toList]
      omega
    · rw [List.length_set, Nat.add_zero]
      have e1 : (l.set i b).flatMap enc = (l.take i).flatMap enc ++ (enc b ++ (l.drop (i + 1)).flatMap enc) := by
        rw [List.set_eq_take_append_cons_drop, if_pos hil, List.flatMap_append, List.flatMap_cons]
      have hle : i * size ≤ l.length * size := Nat.mul_le_mul_right _ (by omega)
      have hle2 : (i + 1) * size ≤ l.length * size := Nat.mul_le_mul_right _ hil
      have e2 : cur.toList.take (i * size) = (l.take i).flatMap enc := by
        rw [← flat_take hs, ← htake, List.take_take, Nat.min_eq_left hle]
      have e3 : (cur.toList.drop ((i + 1) * size)).take (l.length * size - (i + 1) * size) = (l.drop (i + 1)).flatMap enc := by
        rw [← flat_drop hs, ← htake, List.drop_take]
      rw [e1, ← e2, ← e3]
      simp only [List.append_assoc]
      have hl1 : (cur.toList.take (i * size)).length = i * size := by
        rw [List.length_take, Array.length_toList, hcur, Nat.min_eq_left]
        exact Nat.le_trans hle (Nat.mul_le_mul_right _ hlc)
      rw [List.take_append, hl1, List.take_of_length_le (by rw [hl1]; exact hle), List.take_append, hs, List.take_of_length_le (l := enc b) (by rw [hs]; rw [Nat.succ_mul] at hle2; omega)]
      congr 3
      · rw [Nat.succ_mul]; omega
      · rw [Nat.succ_mul]
  · refine ⟨rfl, rfl, rfl, by simp, fun k _ hk => setRow_other w g k _ (fun e => hk ?_)⟩
    have : 0 < c := by omega
    cases c with
    | zero => omega
    | succ c => simp [wb, e]

theorem run_clear_own (t ty : TypeId) (ht : P.underlying t = some (.slice e)) (i0 : TypeInfo) (z : Value) (hi : P.info? e = some i0) (hz : i0.zero = some z) (hzs : z.cells.size = size) (hzo : ∀ u ∈ z.cells.toList, u.oneCell' = true) (hs : ∀ a, (enc a).length = size)
    {A X : Option Addr} (h : Ow enc size e w base (.slice A n c) l) {i k : Nat} (hil : i ≤ l.length) (hX : l.length - i = 0 ∨ X = A.map (·.add (i * size))) :
    ∃ w', (Builtin.clear_ #[t] ty #[.slice X (l.length - i) k]).run P w = .ok (.tuple #[]) w' ∧ Ow enc size e w' base (.slice A i c) (l.take i) ∧ w.grownBy w' (wb (.slice A n c)) := by
  rcases Nat.eq_zero_or_pos (l.length - i) with h0 | h0
  · have hli : l.take i = l := List.take_of_length_le (by omega)
    have hil' : i = l.length := by omega
    refine ⟨w, ?_, ?_, World.grownBy.refl w _⟩
    · rw [h0]
      cases X <;> simp [Builtin.clear_, run_underlying ht]
    · rw [hli, hil']
      rcases Nat.eq_zero_or_pos l.length with hz0 | hp
      · have hnil : l = [] := List.eq_nil_of_length_eq_zero hz0
        subst hnil
        rcases h with ⟨_, A', hv⟩ | ⟨h1, ⟨hv, hn⟩ | ⟨g, cap, cur, hv, r⟩⟩
        · injection hv with a b c; subst a; subst b; subst c; exact .inl ⟨rfl, _, rfl⟩
        · injection hv with a b c; subst a; subst b; subst c; exact .inl ⟨rfl, _, rfl⟩
        · injection hv with a b c; subst a; subst b; subst c; exact .inr ⟨h1, .inr ⟨g, _, cur, rfl, r⟩⟩
      · obtain ⟨g, cur, rfl, hn, r⟩ := h.row hp
        rw [← hn]; exact h
  · obtain ⟨g, cur, rfl, hn, hb, hg, hlc, hcm, hcur, htake⟩ := h.row (by omega)
    rcases hX with hX | rfl
    · omega
    have hzl : (Builtin.zeroCells z.cells (l.length - i)).toList.length = (l.length - i) * size := by rw [Array.length_toList, size_zeroCells, hzs]
    have hzo' : ∀ u ∈ (Builtin.zeroCells z.cells (l.length - i)).toList, u.oneCell' = true := by
      intro u hu
      simp only [Builtin.zeroCells, Array.toList_map, List.mem_map, Array.mem_toList_iff] at hu
      obtain ⟨j, _, rfl⟩ := hu
      have hpos : 0 < z.cells.size := by
        rcases Nat.eq_zero_or_pos z.cells.size with hz0 | hp
        · rename_i hj; rw [hz0, Nat.mul_zero] at hj; simp at hj
        · exact hp
      have hlt : j % z.cells.size < z.cells.size := Nat.mod_lt _ hpos
      rw [getElem!_pos z.cells _ hlt]
      exact hzo _ (Array.getElem_mem_toList hlt)
    have hfit : i * size + 0 + (Builtin.zeroCells z.cells (l.length - i)).toList.length ≤ cur.size := by
      rw [hzl, hcur, Nat.add_zero, ← Nat.add_mul]
      exact Nat.mul_le_mul_right _ (by omega)
    have hst := run_storeCells_at P g (i * size) e _ 0 cur w hg hfit hzo'
    refine ⟨w.setRow g (cur.toList.take (i * size + 0) ++ (Builtin.zeroCells z.cells (l.length - i)).toList ++ cur.toList.drop (i * size + 0 + (Builtin.zeroCells z.cells (l.length - i)).toList.length)).toArray, ?_, ?_, ?_⟩
    · obtain ⟨m, hm⟩ : ∃ m, l.length - i = m + 1 := ⟨l.length - i - 1, by omega⟩
      rw [hm] at hst ⊢
      simp [Builtin.clear_, run_underlying ht, zeroValue, typeInfo, hi, hz, add_row]
      simp at hst
      rw [hst]
      simp
    · refine .inr ⟨by rw [flat_len hs], .inr ⟨g, c, _, by rw [List.length_take, Nat.min_eq_left hil], hb, setRow_heap w g cur _ e _ hg, by rw [List.length_take]; omega, hcm, ?_, ?_⟩⟩
      · simp only [List.size_toArray, List.length_append, List.length_take, List.length_drop, Array.length_toList]
        rw [Array.length_toList] at hfit
        omega
      · have hle : i * size ≤ l.length * size := Nat.mul_le_mul_right _ hil
        have hle3 : i * size ≤ cur.size := by rw [hcur]; exact Nat.le_trans hle (Nat.mul_le_mul_right _ hlc)
        rw [List.length_take, Nat.min_eq_left hil, Nat.add_zero]
        simp only [List.append_assoc]
        rw [List.take_append, List.length_take, Array.length_toList, Nat.min_eq_left hle3, Nat.sub_self, List.take_zero, List.append_nil, List.take_of_length_le (by rw [List.length_take]; omega), ← flat_take hs, ← htake, List.take_take, Nat.min_eq_left hle]
    · refine ⟨rfl, rfl, rfl, by simp, fun k _ hk => setRow_other w g k _ (fun e => hk ?_)⟩
      have : 0 < c := by omega
      cases c with
      | zero => omega
      | succ c => simp [wb, e]

theorem wpList_set_own {ops : Array Oper} {rest : List Oper} {o : Oper} {a : Act} {Q : Exit → Act → World → Prop} (hgd : o.guard = none) (t : TypeId) (x y : Operand) (ho : o.op = .store t x y) (hdst : o.dst = none)
    (i0 : TypeInfo) (hi : P.info? t = some i0) (hsz : i0.size = size) (hs : ∀ a, (enc a).length = size) (h1 : ∀ a, ∀ u ∈ enc a, u.oneCell' = true)
    {A : Option Addr} (h : Ow enc size e w base (.slice A n c) l) {i : Nat} (hil : i < l.length) (b : α) {cs : Array Value} (hcs : cs.toList = enc b) {p : Addr} (hp : A.map (·.add (i * size)) = some p)
    (hx : a.eval x = .pointer (some p)) (hy : a.eval y = .agg cs)
    (hK : ∀ w', Ow enc size e w' base (.slice A n c) (l.set i b) → w.grownBy w' (wb (.slice A n c)) → wpList P ops Q rest a w') : wpList P ops Q (o :: rest) a w :=
  wpList_plain hgd fun K hK' => by
    obtain ⟨w', hr, h2, h3⟩ := run_set_own (P := P) t i0 hi hsz hs h1 h hil b hcs hp
    unfold Oper.wp execOp
    simp only [ho, hx, hy, hr, Sem.run_bind, Sem.run_pure, Result.andThen_ok]
    refine hK' _ _ ?_
    have := hK w' h2 h3
    simpa [Act.put, hdst] using this
theorem wpList_clear_own {ops : Array Oper} {rest : List Oper} {o : Oper} {a : Act} {Q : Exit → Act → World → Prop} (hgd : o.guard = none) (x : Operand) (t : TypeId)
    (ho : o.op = .call { callee := .builtin .clear, args := #[x], argTypes := #[t] }) (hdst : o.dst = none)
    (ht : P.underlying t = some (.slice e)) (i0 : TypeInfo) (z : Value) (hi : P.info? e = some i0) (hz : i0.zero = some z) (hzs : z.cells.size = size) (hzo : ∀ u ∈ z.cells.toList, u.oneCell' = true) (hs : ∀ a, (enc a).length = size)
    {A X : Option Addr} (h : Ow enc size e w base (.slice A n c) l) {i k : Nat} (hil : i ≤ l.length) (hX : l.length - i = 0 ∨ X = A.map (·.add (i * size))) {m : Nat} (hm : m = l.length - i) (hx : a.eval x = .slice X m k)
    (hK : ∀ w', Ow enc size e w' base (.slice A i c) (l.take i) → w.grownBy w' (wb (.slice A n c)) → wpList P ops Q rest a w') : wpList P ops Q (o :: rest) a w :=
  wpList_plain hgd fun K hK' => by
    subst hm
    obtain ⟨w', hr, h2, h3⟩ := run_clear_own (P := P) t o.type ht i0 z hi hz hzs hzo hs h (k := k) hil hX
    unfold Oper.wp execOp
    simp only [ho, resolve, invoke, builtin, Sem.run_bind, Sem.run_pure, Result.andThen_ok, List.map_toArray, List.map_cons, List.map_nil, hx, hr]
    refine hK' _ _ ?_
    have := hK w' h2 h3
    simpa [Act.put, hdst] using this
end
open Go.RowKit
set_option linter.unusedVariables false
set_option linter.unusedSimpArgs false

set_option maxRecDepth 100000 in
set_option maxHeartbeats 400000 in
theorem cloneKy_any (A : Option Addr) (n c : Nat) (l : List Ky) (w : World) (hn : n = l.length) (h : RdKy w w.heap.size A l) (hb : n ≤ 100000000) :
    Calls Tryz.prog 67 #[.slice A n c] w (NewKy l w) := by
  cases A with
  | none =>
    have hl : l = [] := by
      cases l with
      | nil => rfl
      | cons a l => obtain ⟨ad, e, _⟩ := h (by simp); cases e
    subst hl
    have hn0 : n = 0 := by simpa using hn
    subst hn0
    clear hn
    have hq := fun (w : World) => Lib.run_eql_slice_nil (P := Tryz.prog) w 22 97 none 0 c 0 0 Tryz.slKy
    go_enter Tryz.func67, Tryz.ntmps67
    go_wp2_with (fail)
    go_ret
    exact ⟨none, 0, rfl, Ow.nil _ _, Below.refl _ _⟩
  | some ad =>
    have N := Lib.hid hn
    clear hn
    have hq := fun (w : World) => Lib.run_eql_slice_nil (P := Tryz.prog) w 22 97 (some ad) n c 0 0 Tryz.slKy
    go_enter Tryz.func67, Tryz.ntmps67
    go_wp2_with (first
      | (at_builtin; refine app_ky (m := l) rfl (.tmp 5) (.tmp 6) rfl rfl (by exact Ow.empty _ w.heap.size _) _ _ _ _ rfl N.out (by exact h.ext (ext_alloc w _)) (by have := N.out; simp only [List.length_nil]; omega) (by simp) ?_; intro v' w' hown' hgr hv'))
    rw [List.nil_append] at hown'
    obtain ⟨A', c', rfl, _, _⟩ := hown'.form
    go_ret
    exact ⟨A', c', rfl, hown', (ext_alloc w _).grown hgr (by simp) (fun k hk => by cases hk)⟩

theorem MapK.drew {w : World} {b : Nat} {l : List Ky} (h : MapK w b l) : MapK w.drew b l := h

def NewOut (l : List Ky) (w : World) (e : Ending) (w' : World) : Prop :=
  Below w.heap.size w w' ∧ ((mayKs l = true ∧ ∃ s, e = .returned (.tuple #[.pointer (some ⟨s, 0, none⟩), .int .i64 0]) ∧ Sch w' s l) ∨ (mayKs l = false ∧ e = .returned (.tuple #[.pointer none, .int .i64 3])))

set_option maxRecDepth 100000 in
set_option maxHeartbeats 3200000 in
theorem new_any (A : Option Addr) (n c : Nat) (l : List Ky) (w : World) (hn : n = l.length) (h : RdKy w w.heap.size A l) (hb : n ≤ 140737488355328) :
    Calls Tryz.prog 13 #[.slice A n c] w (NewOut l w) := by
  have N := Lib.hid hn
  generalize hR : mayKs l = R
  have HR := Lib.hid hR
  clear hn hR
  unfold NewOut
  rw [HR.out]
  by_cases h64 : (64 : Int) < (n : Int)
  · go_enter Tryz.func13, Tryz.ntmps13
    go_wp2_with (fail)
    have hf : R = false := by
      rw [← HR.out]
      have := N.out
      simp [mayKs]; omega
    refine bodyPost_ret (v := .tuple #[.pointer none, .int .i64 3]) (by simp [results, Tryz.results13, go_sem]) rfl ?_
    exact ⟨Below.refl _ _, .inr ⟨hf, rfl⟩⟩
  have HP : Hid (okPre [] l = R) := Lib.hid (by rw [← HR.out]; have := N.out; simp [mayKs]; intro h; omega)
  have hmm := @run_makeMap Tryz.prog
  go_enter Tryz.func13, Tryz.ntmps13
  go_wp2_with (go_at_call 67; refine Hid.out ?_)
  refine Lib.hid ?_
  refine (cloneKy_any A n c l w N.out h (by omega)).mono ?_
  rintro e w1 ⟨A', c', rfl, hown, y1⟩
  have HOW := Lib.hid hown
  clear hown
  go_wp2_with (fail)
  go_loopg [19] n (fun g iv wr => ∃ m : Nat, m ≤ n ∧ g = n - m ∧ iv = .int .i64 (m : Int) ∧ Below w.heap.size w wr ∧ w1.heap.size + 2 ≤ wr.heap.size ∧ wr.heap[w1.heap.size + 1]? = some (.cells #[.slice A' l.length c', .map (some w1.heap.size)] 109 (0, 0)) ∧ MapK wr w1.heap.size (l.take m) ∧ OwKy wr w.heap.size (.slice A' l.length c') l ∧ Hid (okPre (l.take m) (l.drop m) = R))
  case atStart =>
    have ya := ext_alloc w1 (.map #[] 0)
    have yb := ext_alloc (w1.alloc (.map #[] 0)) (.cells #[.slice A' l.length c', .map (some w1.heap.size)] 109)
    have hm0 := heap_alloc_new w1 (.map #[] 0)
    have hb0 := heap_alloc_new (w1.alloc (.map #[] 0)) (.cells #[.slice A' l.length c', .map (some w1.heap.size)] 109)
    rw [World.size_alloc] at hb0
    refine ⟨0, by omega, rfl, rfl, ext_trans y1 (ext_trans ya yb), by simp, hb0, ⟨#[], 0, (yb.block _ (by simp)).trans hm0, by simp⟩, (HOW.out.alloc _).alloc _, Lib.hid (by rw [List.drop_zero, List.take_zero]; exact HP.out)⟩
  case round =>
    obtain ⟨m, hm, hg, rfl, y, hs2, hbx, hmk, how, HI⟩ := hrel
    have HG := Lib.hid hg
    clear hg HR HP
    by_cases hlt : m < n
    · have hl1 : m < l.length := by have := N.out; omega
      obtain ⟨ad, x, rfl, had, hd1, hx1, hc0⟩ := (h.below y (Nat.le_refl _)).el hl1
      obtain ⟨x1, x2, x3, x4, x5, x6⟩ := x
      obtain ⟨r0, r1, r2, r3, r4, r5⟩ := ky_cells hc0
      have HI2 : Hid ((mayK ⟨x1, x2, x3, x4, x5, x6⟩ && (findK (l.take m) x1).isNone && okPre (l.take (m + 1)) (l.drop (m + 1))) = R) := Lib.hid (by
        rw [← HI.out, hd1]
        simp only [okPre]
        rw [List.take_add_one, hx1]; rfl)
      have HX := Lib.hid hx1
      have y2 := ext_alloc wr (.cells #[.int .i64 x1, .bool x2, .int .u8 x3, .bool x4, .bool x5, .int .i64 x6] 97)
      have hk2 := heap_alloc_new wr (.cells #[.int .i64 x1, .bool x2, .int .u8 x3, .bool x4, .bool x5, .int .i64 x6] 97)
      have hb2 := (y2.block _ (lt_of_some hbx)).trans hbx
      have hmk2 := hmk.ext y2
      have how2 := how.alloc (.cells #[.int .i64 x1, .bool x2, .int .u8 x3, .bool x4, .bool x5, .int .i64 x6] 97)
      obtain ⟨b0, b1⟩ := box_2 hb2
      obtain ⟨k0, k1, k2, k3, k4, k5⟩ := box_ky hk2
      have HMK := Lib.hid hmk2
      have HB2 := Lib.hid hb2
      have HK2 := Lib.hid hk2
      have HOW2 := Lib.hid how2
      have y3 := ext_alloc (wr.alloc (.cells #[.int .i64 x1, .bool x2, .int .u8 x3, .bool x4, .bool x5, .int .i64 x6] 97)) (.cells #[.int .i64 0, .bool false, .int .u8 0, .bool false, .bool false, .int .i64 0] 97)
      have hb3 := (y3.block _ (lt_of_some hb2)).trans hb2
      have hk3 := (y3.block _ (lt_of_some hk2)).trans hk2
      have hmk3 := hmk2.ext y3
      obtain ⟨b0', b1'⟩ := box_2 hb3
      obtain ⟨k0', -⟩ := box_ky hk3
      have hl := hmk2.drew.look x1
      have hl' := hmk3.drew.look x1
      have hz3 := heap_alloc_new (wr.alloc (.cells #[.int .i64 x1, .bool x2, .int .u8 x3, .bool x4, .bool x5, .int .i64 x6] 97)) (.cells #[.int .i64 0, .bool false, .int .u8 0, .bool false, .bool false, .int .i64 0] 97)
      clear hb3 hk3 hmk3
      generalize (findK (l.take m) x1).getD Ky.zero = F at hl hl'
      generalize hF2 : (findK (l.take m) x1).isSome = G at hl hl'
      obtain ⟨z1, z2, z3, z4, z5, z6⟩ := F
      simp only [Ky.val] at hl hl'
      have HF2 := Lib.hid hF2
      clear hF2
      clear hc0 hd1 hx1 HI hmk hmk2 hbx hb2 hk2 how how2
      go_wp2_with (fail)
      go_big_region
      all_goals
        have y5 := ext_trans y2 (ext_alloc (wr.alloc (.cells #[.int .i64 x1, .bool x2, .int .u8 x3, .bool x4, .bool x5, .int .i64 x6] 97)) (.cells #[.int .i64 z1, .bool z2, .int .u8 z3, .bool z4, .bool z5, .int .i64 z6] 97))
        have y5 : Below wr.heap.size wr ((wr.alloc (.cells #[.int .i64 x1, .bool x2, .int .u8 x3, .bool x4, .bool x5, .int .i64 x6] 97)).alloc (.cells #[.int .i64 z1, .bool z2, .int .u8 z3, .bool z4, .bool z5, .int .i64 z6] 97)).drew := y5.drew
        have y6 : Below (wr.alloc (.cells #[.int .i64 x1, .bool x2, .int .u8 x3, .bool x4, .bool x5, .int .i64 x6] 97)).heap.size (wr.alloc (.cells #[.int .i64 x1, .bool x2, .int .u8 x3, .bool x4, .bool x5, .int .i64 x6] 97)) ((wr.alloc (.cells #[.int .i64 x1, .bool x2, .int .u8 x3, .bool x4, .bool x5, .int .i64 x6] 97)).alloc (.cells #[.int .i64 z1, .bool z2, .int .u8 z3, .bool z4, .bool z5, .int .i64 z6] 97)).drew := (ext_alloc (wr.alloc (.cells #[.int .i64 x1, .bool x2, .int .u8 x3, .bool x4, .bool x5, .int .i64 x6] 97)) (.cells #[.int .i64 z1, .bool z2, .int .u8 z3, .bool z4, .bool z5, .int .i64 z6] 97)).drew
        generalize ((wr.alloc (.cells #[.int .i64 x1, .bool x2, .int .u8 x3, .bool x4, .bool x5, .int .i64 x6] 97)).alloc (.cells #[.int .i64 z1, .bool z2, .int .u8 z3, .bool z4, .bool z5, .int .i64 z6] 97)).drew = w5 at *
        have hb5 := (y6.block _ (lt_of_some HB2.out)).trans HB2.out
        have hk5 := (y6.block _ (lt_of_some HK2.out)).trans HK2.out
        have hmk5 := HMK.out.ext y6
        have how5 := HOW2.out.below y6 (Nat.le_refl _)
        obtain ⟨b0, b1⟩ := box_2 hb5
        obtain ⟨k0, k1, k2, k3, k4, k5⟩ := box_ky hk5
        cases G with
        | true =>
          go_wp2_with (fail)
          refine bodyPost_ret (v := .tuple #[.pointer none, .int .i64 3]) (by simp [results, Tryz.results13, go_sem]) rfl ?_
          refine ⟨ext_trans y y5, .inr ⟨?_, rfl⟩⟩
          have h2 := HF2.out
          rw [← HI2.out]
          cases hq : findK (l.take m) x1 with
          | none => rw [hq] at h2; cases h2
          | some q => simp
        | false =>
          have hnone : findK (l.take m) x1 = none := by
            have h2 := HF2.out
            cases hq : findK (l.take m) x1 with
            | none => rfl
            | some q => rw [hq] at h2; cases h2
          have HNO := Lib.hid hnone
          have HB5 := Lib.hid hb5
          have HK5 := Lib.hid hk5
          have HM5 := Lib.hid hmk5
          have HO5 := Lib.hid how5
          clear hnone hb5 hk5 hmk5 how5
          go_wp2_with (go_at_call 68; refine Hid.out ?_)
          refine Lib.hid ?_
          refine (mayK_any x1 x6 x3 x2 x4 x5 w5).mono ?_
          rintro e w6 ⟨rfl, y7⟩
          generalize hmay : mayK ⟨x1, x2, x3, x4, x5, x6⟩ = M
          have HMA := Lib.hid hmay
          clear hmay b0 b1 k0 k1 k2 k3 k4 k5
          have hb6 := (y7.block _ (lt_of_some HB5.out)).trans HB5.out
          have hk6 := (y7.block _ (lt_of_some HK5.out)).trans HK5.out
          have hmk6 := HM5.out.ext y7
          have how6 := HO5.out.below y7 (Nat.le_refl _)
          have HO6 := Lib.hid how6
          have HB6 := Lib.hid hb6
          obtain ⟨b0, b1⟩ := box_2 hb6
          obtain ⟨k0, k1, k2, k3, k4, k5⟩ := box_ky hk6
          cases M with
          | false =>
            go_wp2_with (fail)
            refine bodyPost_ret (v := .tuple #[.pointer none, .int .i64 3]) (by simp [results, Tryz.results13, go_sem]) rfl ?_
            refine ⟨ext_trans y (ext_trans y5 y7), .inr ⟨?_, rfl⟩⟩
            rw [← HI2.out, HMA.out]; simp
          | true =>
            obtain ⟨w7, hrun, hm7, hh7, hs7, ho7, ht7, hu7⟩ := hmk6.drew.store ⟨x1, x2, x3, x4, x5, x6⟩ HNO.out
            simp only [Ky.val] at hrun
            clear hb6 hk6 hmk6 how6
            go_wp2_with (fail)
            go_region
            have hw2 : IntKind.i64.wrap ((m:Int) + 1) = (m : Int) + 1 := IntWalk.i64_in _ (by omega)
            go_wp2_with (fail)
            go_roundg (n - (m + 1))
            case measure => have := HG.out; omega
            case rel =>
              have hws := y1.size
              have hB : w.heap.size ≤ w6.drew.heap.size := (ext_trans y (ext_trans y5 y7)).size
              have e67 : Below w.heap.size w6.drew w7 := ⟨ho7, ht7, hu7, by rw [hs7]; exact Nat.le_refl _, fun k hk => hh7 k (by omega)⟩
              have hsz6 : w5.heap.size ≤ w6.heap.size := y7.size
              have hsz5 : wr.heap.size ≤ w5.heap.size := y5.size
              refine ⟨m + 1, by omega, rfl, by go_num, (ext_trans y (ext_trans y5 y7)).drew.trans e67, ?_, (hh7 _ (by omega)).trans HB6.out, ?_, ?_, Lib.hid (by rw [← HI2.out, HMA.out, HNO.out]; simp)⟩
              · rw [hs7]
                show w1.heap.size + 2 ≤ w6.heap.size
                omega
              · rw [List.take_add_one, HX.out]
                exact hm7
              · refine HO6.out.drew.keep fun k hk => hh7 k ?_
                have := (HOW.out.wb_lt k hk).2
                omega
    · have hmn : m = n := by omega
      have hfull : l.take m = l := List.take_of_length_le (by have := N.out; omega)
      have hR : R = true := by rw [← HI.out, List.drop_eq_nil_of_le (by have := N.out; omega)]; rfl
      have hRT := Lib.hid hR
      have HF := Lib.hid hfull
      obtain ⟨b0, b1⟩ := box_2 hbx
      have HB := Lib.hid hbx
      have HM := Lib.hid hmk
      have HO := Lib.hid how
      clear hR hfull hbx hmk how
      go_wp2_with (go_at_call 69; refine Hid.out ?_)
      refine Lib.hid ?_
      refine (sortKy_any A' l.length c' w.heap.size l wr HO.out (by have := N.out; omega)).mono ?_
      rintro e w2 ⟨rfl, ls, hp, hs, hr, y2, hk⟩
      have hwb : ∀ j, w1.heap.size ≤ j → j < wr.heap.size → w2.heap[j]? = wr.heap[j]? := fun j hj hj2 => hk j hj2 (fun k hk2 => by have := (HOW.out.wb_lt k hk2).2; omega)
      have hb2 := (hwb (w1.heap.size + 1) (by omega) (by omega)).trans HB.out
      have hm2 := HM.out
      rw [HF.out] at hm2
      have hm2 := hm2.keep (hwb w1.heap.size (by omega) (by omega))
      have HH : Hid (Sch w2 (w1.heap.size + 1) l) := Lib.hid ⟨w1.heap.size, A', l.length, c', ls, hb2, hm2, hp.length_eq.symm, hp, hs, hr⟩
      have yy := y.trans y2
      clear hp hs hr hk hwb hb2 hm2 b0 b1
      go_wp2_with (fail)
      refine bodyPost_ret (v := .tuple #[.pointer (some ⟨w1.heap.size + 1, 0, none⟩), .int .i64 0]) (by simp [results, Tryz.results13, go_sem]) rfl ?_
      exact ⟨yy, .inl ⟨hRT.out, _, rfl, HH.out⟩⟩

theorem Sch.at_ {v W w' : World} {s : Nat} {l : List Ky} (h : Sch v s l) (y : Below W.heap.size W w') (e : W.heap = v.heap) : Sch w' s l := by
  have hc : ∀ p, W.cell? p = v.cell? p := fun p => by simp only [World.cell?, e]
  have h' : Sch W s l := by
    obtain ⟨bm, A, n, c, ls, hb, ⟨es, clock, hm, hk⟩, hn, hp, hs, hr⟩ := h
    exact ⟨bm, A, n, c, ls, by rw [e]; exact hb, ⟨es, clock, by rw [e]; exact hm, hk⟩, hn, hp, hs, by rw [e]; exact hr.keep fun p _ => hc p⟩
  exact h'.ext y

def okC (c : Ch) : Bool := if c.gone = true then beqV c.v V.zero else mayV c.v
def thereC (l : List Ky) (c : Ch) : Bool := (findK l c.key).isSome && (c.gone || fitsK l c.key c.v)
def mayP (l : List Ky) (p : List Ch) : Int := if 64 < p.length then 3 else if riseC p = true ∧ p.all okC = true then (if p.all (thereC l) = true then 0 else 4) else 3
def loopP (l : List Ky) : Option Int → Int → List Ch → Int
  | _, e, [] => e
  | prev, e, c :: r => if (prev.all (fun k => decide (k < c.key)) && okC c) = true then loopP l (some c.key) (if thereC l c = true then e else 4) r else 3
theorem loopP_some (l : List Ky) : ∀ (p : List Ch) (k : Int) (e : Int), loopP l (some k) e p = if rise (k :: p.map (·.key)) = true ∧ p.all okC = true then (if p.all (thereC l) = true then e else 4) else 3
  | [], k, e => by simp [loopP, rise]
  | c :: r, k, e => by
    unfold loopP
    rw [loopP_some l r c.key]
    by_cases h1 : k < c.key
    · by_cases h2 : okC c = true
      · by_cases h3 : thereC l c = true
        · simp [h1, h2, h3, rise]
        · have h3 : thereC l c = false := by simpa using h3
          simp [h1, h2, h3, rise]
      · have h2 : okC c = false := by simpa using h2
        simp [h1, h2]
    · simp [h1, rise]
theorem loopP_none (l : List Ky) (p : List Ch) (h : p.length ≤ 64) : loopP l none 0 p = mayP l p := by
  unfold mayP
  rw [if_neg (by omega)]
  cases p with
  | nil => simp [loopP, riseC, rise]
  | cons c r =>
    unfold loopP
    rw [loopP_some]
    by_cases h2 : okC c = true
    · by_cases h3 : thereC l c = true
      · simp [h2, h3, riseC]
      · have h3 : thereC l c = false := by simpa using h3
        simp [h2, h3, riseC]
    · have h2 : okC c = false := by simpa using h2
      simp [h2]
def okVc (p : List Ch) : Prop := ∀ c ∈ p, okV c.v
def okVs (p : List Ch) : Prop := ∀ c ∈ p, okV c.v ∧ c.v.s.size ≤ 100000000

set_option maxRecDepth 100000 in
set_option maxHeartbeats 3200000 in
theorem mayPc_any (s : Nat) (l : List Ky) (A : Option Addr) (n c : Nat) (p : List Ch) (w : World) (hn : n = p.length) (h : RdCh w w.heap.size A p) (hb : n ≤ 140737488355328) (hS : Sch w s l) (hv : okVc p) (hT : Lib.Utf8Tabs 1 2 w) :
    Calls Tryz.prog 135 #[.pointer (some ⟨s, 0, none⟩), .slice A n c] w fun e w' => e = .returned (.int .i64 (mayP l p)) ∧ Below w.heap.size w w' := by
  have N := Lib.hid hn
  generalize hR : mayP l p = R
  have HR := Lib.hid hR
  clear hn hR
  by_cases h64 : (64 : Int) < (n : Int)
  · go_enter Tryz.func135, Tryz.ntmps135
    go_wp2_with (fail)
    go_ret
    refine ⟨ret_int ?_, Below.refl _ _⟩
    rw [← HR.out]
    have := N.out
    unfold mayP
    rw [if_pos (by omega)]
  have HP : Hid (loopP l none 0 p = R) := Lib.hid (by rw [← HR.out]; exact loopP_none l p (by have := N.out; omega))
  go_enter Tryz.func135, Tryz.ntmps135
  go_wp2_with (fail)
  go_loopg [5, 15] n (fun g ev iv wr => ∃ (m : Nat) (ei : Int), m ≤ n ∧ g = n - m ∧ ev = .int .i64 ei ∧ iv = .int .i64 (m : Int) ∧ Below w.heap.size w wr ∧ Hid (loopP l (if m = 0 then none else (p[m - 1]?).map (·.key)) ei (p.drop m) = R))
  case atStart => exact ⟨0, 0, by omega, rfl, rfl, rfl, Below.refl _ _, Lib.hid (by rw [List.drop_zero]; exact HP.out)⟩
  case round =>
    obtain ⟨m, ei, hm, hg, rfl, rfl, y, HI⟩ := hrel
    have HG := Lib.hid hg
    clear hg HR HP
    by_cases hlt : m < n
    · have hl1 : m < p.length := by have := N.out; omega
      obtain ⟨ad, x, rfl, had, hd1, hx1, hc0⟩ := (h.below y (Nat.le_refl _)).el hl1
      have hxv := hv x (List.mem_of_getElem? hx1)
      obtain ⟨x1, g, x2, x3, x4, x5⟩ := x
      obtain ⟨r0, r1, r2, r3, r4, r5⟩ := ch_cells hc0
      obtain ⟨f0, f1⟩ : 0 ≤ x4 ∧ x4 < 18446744073709551616 := ⟨hxv.f0, hxv.f1⟩
      have HI2 : Hid ((if ((if m = 0 then none else (p[m - 1]?).map (·.key)).all (fun k => decide (k < x1)) && okC ⟨x1, g, x2, x3, x4, x5⟩) = true then loopP l (some x1) (if thereC l ⟨x1, g, x2, x3, x4, x5⟩ = true then ei else 4) (p.drop (m + 1)) else 3) = R) := Lib.hid (by
        rw [← HI.out, hd1]; rfl)
      have HX := Lib.hid hx1
      have y2 := ext_alloc wr (.cells #[.int .i64 x1, .bool g, .int .u8 x2, .int .i64 x3, .int .u64 x4, .string x5] 77)
      have hk2 := heap_alloc_new wr (.cells #[.int .i64 x1, .bool g, .int .u8 x2, .int .i64 x3, .int .u64 x4, .string x5] 77)
      have HK2 := Lib.hid hk2
      have HS2 := Lib.hid ((hS.ext y).ext y2)
      have HT2 := Lib.hid (Utf8Tabs_below (Utf8Tabs_below hT y) y2)
      clear hc0 hd1 hx1 HI hk2 hxv
      have hw2 : IntKind.i64.wrap ((m:Int) + 1) = (m : Int) + 1 := IntWalk.i64_in _ (by omega)
      go_wp2_with (go_at_call 62; refine Hid.out ?_)
      refine Lib.hid ?_
      generalize hw0 : wr.alloc _ = w0 at *
      clear hw0
      refine (findS_any s l x1 w0 HS2.out).mono ?_
      rintro e w3 ⟨k1, k2, k3, k4, k5, k6, q, rfl, hq1, hq2, y3⟩
      have HQ2 := Lib.hid hq2
      have y4 := ext_alloc w3 (.cells #[.int .i64 k1, .bool k2, .int .u8 k3, .bool k4, .bool k5, .int .i64 k6] 97)
      have hk5 := (y4.block _ (lt_of_some ((y3.block _ (lt_of_some HK2.out)).trans HK2.out))).trans ((y3.block _ (lt_of_some HK2.out)).trans HK2.out)
      have y5 := ext_trans y (ext_trans y2 (ext_trans y3 y4))
      have HS5 := Lib.hid (HS2.out.ext (ext_trans y3 y4))
      have HT5 := Lib.hid (Utf8Tabs_below HT2.out (ext_trans y3 y4))
      have hh5 := h.below y5 (Nat.le_refl _)
      obtain ⟨b0, b1, b2, b3, b4, b5⟩ := box_ch hk5
      have HK5 := Lib.hid hk5
      clear hk5 hq1 hq2 r0 r1 r2 r3 r4 r5 HK2 HS2 HT2
      cases m with
      | zero =>
        have HI3 : Hid ((if okC ⟨x1, g, x2, x3, x4, x5⟩ = true then loopP l (some x1) (if thereC l ⟨x1, g, x2, x3, x4, x5⟩ = true then ei else 4) (p.drop (0 + 1)) else 3) = R) := Lib.hid (by rw [← HI2.out]; simp)
        clear HI2
        go_wp2_with (fail)
        go_quiet (fail)
        cases g with
        | true =>
          cases hz : beqV ⟨x2, x3, x4, x5⟩ ⟨0, 0, 0, ⟨#[]⟩⟩ with
          | false =>
            have hok : okC ⟨x1, true, x2, x3, x4, x5⟩ = false := hz
            have HOK := Lib.hid hok
            clear hok
            go_wp2_with (fail)
            go_ret
            exact ⟨ret_int (by rw [← HI3.out]; rw [HOK.out]; rfl), y5.trans (ext_drew _ _ |>.mono (y5.size))⟩
          | true =>
            have hok : okC ⟨x1, true, x2, x3, x4, x5⟩ = true := hz
            have HOK := Lib.hid hok
            clear hok
            have HTH : Hid (thereC l ⟨x1, true, x2, x3, x4, x5⟩ = q) := Lib.hid (by unfold thereC; rw [HQ2.out]; simp)
            cases q with
            | false =>
              go_wp2_with (fail)
              go_roundg (n - (0 + 1))
              case measure => have := HG.out; omega
              case rel => exact ⟨0 + 1, 4, by omega, rfl, rfl, by go_num, y5.trans ((ext_drew _ _).mono y5.size), Lib.hid (by rw [← HI3.out, if_neg (show ¬ (0 + 1 = 0) by omega), Nat.add_sub_cancel, HX.out]; rw [HOK.out, HTH.out]; rfl)⟩
            | true =>
              go_wp2_with (fail)
              go_roundg (n - (0 + 1))
              case measure => have := HG.out; omega
              case rel => exact ⟨0 + 1, ei, by omega, rfl, rfl, by go_num, y5.trans ((ext_drew _ _).mono y5.size), Lib.hid (by rw [← HI3.out, if_neg (show ¬ (0 + 1 = 0) by omega), Nat.add_sub_cancel, HX.out]; rw [HOK.out, HTH.out]; rfl)⟩
        | false =>
          go_wp2_with (go_at_call 184; refine Hid.out ?_)
          refine Lib.hid ?_
          refine (mayV_any x2 x3 x4 x5 _ f0 f1 ?tb).mono ?_
          case tb => exact tabs_at hT y5 rfl
          rintro e w6 ⟨rfl, y6⟩
          have HOK : Hid (okC ⟨x1, false, x2, x3, x4, x5⟩ = mayV ⟨x2, x3, x4, x5⟩) := Lib.hid rfl
          generalize mayV ⟨x2, x3, x4, x5⟩ = M at HOK ⊢
          have yy6 := below_at y5 y6 rfl rfl rfl rfl
          have hk6 := kept1 HK5.out y6 rfl
          have HS6 := Lib.hid (Sch.at_ HS5.out y6 rfl)
          clear b0 b1 b2 b3 b4 b5
          obtain ⟨b0, b1, b2, b3, b4, b5⟩ := box_ch hk6
          clear hk6
          cases M with
          | false =>
            go_wp2_with (fail)
            go_ret
            exact ⟨ret_int (by rw [← HI3.out]; rw [HOK.out]; rfl), yy6⟩
          | true =>
            cases q with
            | false =>
              have HTH : Hid (thereC l ⟨x1, false, x2, x3, x4, x5⟩ = false) := Lib.hid (by unfold thereC; rw [HQ2.out]; rfl)
              go_wp2_with (fail)
              go_roundg (n - (0 + 1))
              case measure => have := HG.out; omega
              case rel => exact ⟨0 + 1, 4, by omega, rfl, rfl, by go_num, yy6, Lib.hid (by rw [← HI3.out, if_neg (show ¬ (0 + 1 = 0) by omega), Nat.add_sub_cancel, HX.out]; rw [HOK.out, HTH.out]; rfl)⟩
            | true =>
              have HTH : Hid (thereC l ⟨x1, false, x2, x3, x4, x5⟩ = fitsK l x1 ⟨x2, x3, x4, x5⟩) := Lib.hid (by unfold thereC; rw [HQ2.out]; rfl)
              go_wp2_with (go_at_call 185; refine Hid.out ?_)
              refine Lib.hid ?_
              refine (fitsS_any s l x1 x2 x3 x4 x5 _ ?sc f0 f1 ?tb).mono ?_
              case sc => exact HS6.out
              case tb => exact tabs_at hT yy6 rfl
              rintro e w7 ⟨rfl, y7⟩
              have yy7 := below_at yy6 y7 rfl rfl rfl rfl
              generalize fitsK l x1 ⟨x2, x3, x4, x5⟩ = F at HTH ⊢
              cases F with
              | false =>
                go_wp2_with (fail)
                go_roundg (n - (0 + 1))
                case measure => have := HG.out; omega
                case rel => exact ⟨0 + 1, 4, by omega, rfl, rfl, by go_num, yy7, Lib.hid (by rw [← HI3.out, if_neg (show ¬ (0 + 1 = 0) by omega), Nat.add_sub_cancel, HX.out]; rw [HOK.out, HTH.out]; rfl)⟩
              | true =>
                go_wp2_with (fail)
                go_roundg (n - (0 + 1))
                case measure => have := HG.out; omega
                case rel => exact ⟨0 + 1, ei, by omega, rfl, rfl, by go_num, yy7, Lib.hid (by rw [← HI3.out, if_neg (show ¬ (0 + 1 = 0) by omega), Nat.add_sub_cancel, HX.out]; rw [HOK.out, HTH.out]; rfl)⟩
      | succ k =>
        obtain ⟨ad', z, e, _, _, hz1, hz0⟩ := hh5.el (show k < p.length by omega)
        injection e with e; subst e
        obtain ⟨z1, zg, z2, z3, z4, z5⟩ := z
        obtain ⟨s0, -⟩ := ch_cells hz0
        have HI4 : Hid ((if (decide (z1 < x1) && okC ⟨x1, g, x2, x3, x4, x5⟩) = true then loopP l (some x1) (if thereC l ⟨x1, g, x2, x3, x4, x5⟩ = true then ei else 4) (p.drop (k + 1 + 1)) else 3) = R) := Lib.hid (by
          rw [← HI2.out, if_neg (show ¬ (k + 1 = 0) by omega), Nat.add_sub_cancel, hz1]; simp)
        clear HI2 hz1 hz0
        have hkn : k < n := by omega
        have hw1 : IntKind.i64.wrap (k:Int) = (k : Int) := IntWalk.i64_in _ (by omega)
        by_cases hle : x1 ≤ z1
        · have HI3 : Hid ((3 : Int) = R) := Lib.hid (by rw [← HI4.out, show decide (z1 < x1) = false from decide_eq_false (by omega)]; simp)
          clear HI4
          go_wp2_with (fail)
          go_quiet (fail)
          go_wp2_with (fail)
          go_ret
          exact ⟨ret_int HI3.out, y5.trans ((ext_drew _ _).mono y5.size)⟩
        · have HI3 : Hid ((if okC ⟨x1, g, x2, x3, x4, x5⟩ = true then loopP l (some x1) (if thereC l ⟨x1, g, x2, x3, x4, x5⟩ = true then ei else 4) (p.drop (k + 1 + 1)) else 3) = R) := Lib.hid (by rw [← HI4.out, show decide (z1 < x1) = true from decide_eq_true (by omega)]; simp)
          clear HI4
          go_wp2_with (fail)
          go_quiet (fail)
          cases g with
          | true =>
            cases hz : beqV ⟨x2, x3, x4, x5⟩ ⟨0, 0, 0, ⟨#[]⟩⟩ with
            | false =>
              have hok : okC ⟨x1, true, x2, x3, x4, x5⟩ = false := hz
              have HOK := Lib.hid hok
              clear hok
              go_wp2_with (fail)
              go_ret
              exact ⟨ret_int (by rw [← HI3.out]; rw [HOK.out]; rfl), y5.trans (ext_drew _ _ |>.mono (y5.size))⟩
            | true =>
              have hok : okC ⟨x1, true, x2, x3, x4, x5⟩ = true := hz
              have HOK := Lib.hid hok
              clear hok
              have HTH : Hid (thereC l ⟨x1, true, x2, x3, x4, x5⟩ = q) := Lib.hid (by unfold thereC; rw [HQ2.out]; simp)
              cases q with
              | false =>
                go_wp2_with (fail)
                go_roundg (n - ((k + 1) + 1))
                case measure => have := HG.out; omega
                case rel => exact ⟨(k + 1) + 1, 4, by omega, rfl, rfl, by go_num, y5.trans ((ext_drew _ _).mono y5.size), Lib.hid (by rw [← HI3.out, if_neg (show ¬ ((k + 1) + 1 = 0) by omega), Nat.add_sub_cancel, HX.out]; rw [HOK.out, HTH.out]; rfl)⟩
              | true =>
                go_wp2_with (fail)
                go_roundg (n - ((k + 1) + 1))
                case measure => have := HG.out; omega
                case rel => exact ⟨(k + 1) + 1, ei, by omega, rfl, rfl, by go_num, y5.trans ((ext_drew _ _).mono y5.size), Lib.hid (by rw [← HI3.out, if_neg (show ¬ ((k + 1) + 1 = 0) by omega), Nat.add_sub_cancel, HX.out]; rw [HOK.out, HTH.out]; rfl)⟩
          | false =>
            go_wp2_with (go_at_call 184; refine Hid.out ?_)
            refine Lib.hid ?_
            refine (mayV_any x2 x3 x4 x5 _ f0 f1 ?tb).mono ?_
            case tb => exact tabs_at hT y5 rfl
            rintro e w6 ⟨rfl, y6⟩
            have HOK : Hid (okC ⟨x1, false, x2, x3, x4, x5⟩ = mayV ⟨x2, x3, x4, x5⟩) := Lib.hid rfl
            generalize mayV ⟨x2, x3, x4, x5⟩ = M at HOK ⊢
            have yy6 := below_at y5 y6 rfl rfl rfl rfl
            have hk6 := kept1 HK5.out y6 rfl
            have HS6 := Lib.hid (Sch.at_ HS5.out y6 rfl)
            clear b0 b1 b2 b3 b4 b5
            obtain ⟨b0, b1, b2, b3, b4, b5⟩ := box_ch hk6
            clear hk6
            cases M with
            | false =>
              go_wp2_with (fail)
              go_ret
              exact ⟨ret_int (by rw [← HI3.out]; rw [HOK.out]; rfl), yy6⟩
            | true =>
              cases q with
              | false =>
                have HTH : Hid (thereC l ⟨x1, false, x2, x3, x4, x5⟩ = false) := Lib.hid (by unfold thereC; rw [HQ2.out]; rfl)
                go_wp2_with (fail)
                go_roundg (n - ((k + 1) + 1))
                case measure => have := HG.out; omega
                case rel => exact ⟨(k + 1) + 1, 4, by omega, rfl, rfl, by go_num, yy6, Lib.hid (by rw [← HI3.out, if_neg (show ¬ ((k + 1) + 1 = 0) by omega), Nat.add_sub_cancel, HX.out]; rw [HOK.out, HTH.out]; rfl)⟩
              | true =>
                have HTH : Hid (thereC l ⟨x1, false, x2, x3, x4, x5⟩ = fitsK l x1 ⟨x2, x3, x4, x5⟩) := Lib.hid (by unfold thereC; rw [HQ2.out]; rfl)
                go_wp2_with (go_at_call 185; refine Hid.out ?_)
                refine Lib.hid ?_
                refine (fitsS_any s l x1 x2 x3 x4 x5 _ ?sc f0 f1 ?tb).mono ?_
                case sc => exact HS6.out
                case tb => exact tabs_at hT yy6 rfl
                rintro e w7 ⟨rfl, y7⟩
                have yy7 := below_at yy6 y7 rfl rfl rfl rfl
                generalize fitsK l x1 ⟨x2, x3, x4, x5⟩ = F at HTH ⊢
                cases F with
                | false =>
                  go_wp2_with (fail)
                  go_roundg (n - ((k + 1) + 1))
                  case measure => have := HG.out; omega
                  case rel => exact ⟨(k + 1) + 1, 4, by omega, rfl, rfl, by go_num, yy7, Lib.hid (by rw [← HI3.out, if_neg (show ¬ ((k + 1) + 1 = 0) by omega), Nat.add_sub_cancel, HX.out]; rw [HOK.out, HTH.out]; rfl)⟩
                | true =>
                  go_wp2_with (fail)
                  go_roundg (n - ((k + 1) + 1))
                  case measure => have := HG.out; omega
                  case rel => exact ⟨(k + 1) + 1, ei, by omega, rfl, rfl, by go_num, yy7, Lib.hid (by rw [← HI3.out, if_neg (show ¬ ((k + 1) + 1 = 0) by omega), Nat.add_sub_cancel, HX.out]; rw [HOK.out, HTH.out]; rfl)⟩
    · have hmn : m = n := by omega
      go_wp2_with (fail)
      go_ret
      refine ⟨ret_int ?_, y⟩
      rw [← HI.out, List.drop_eq_nil_of_le (by have := N.out; omega)]
      rfl
theorem mayP_any (s : Nat) (l : List Ky) (A : Option Addr) (n c : Nat) (p : List Ch) (w : World) (hn : n = p.length) (h : RdCh w w.heap.size A p) (hb : n ≤ 140737488355328) (hS : Sch w s l) (hv : okVs p) (hT : Lib.Utf8Tabs 1 2 w) :
    Calls Tryz.prog 135 #[.pointer (some ⟨s, 0, none⟩), .slice A n c] w fun e w' => e = .returned (.int .i64 (mayP l p)) ∧ Below w.heap.size w w' :=
  mayPc_any s l A n c p w hn h hb hS (fun c hc => (hv c hc).1) hT

theorem mayP_zero {l : List Ky} {p : List Ch} (h : mayP l p = 0) : p.length ≤ 64 ∧ riseC p = true ∧ p.all okC = true ∧ p.all (thereC l) = true := by
  unfold mayP at h
  by_cases h1 : 64 < p.length
  · rw [if_pos h1] at h; cases h
  · rw [if_neg h1] at h
    by_cases h2 : riseC p = true ∧ p.all okC = true
    · rw [if_pos h2] at h
      by_cases h3 : p.all (thereC l) = true
      · exact ⟨by omega, h2.1, h2.2, h3⟩
      · rw [if_neg h3] at h; cases h
    · rw [if_neg h2] at h; cases h
theorem mayP_of {l : List Ky} {p : List Ch} (h0 : p.length ≤ 64) (h1 : riseC p = true) (h2 : ∀ c ∈ p, okC c = true) (h3 : ∀ c ∈ p, thereC l c = true) : mayP l p = 0 := by
  unfold mayP
  rw [if_neg (by omega), if_pos ⟨h1, List.all_eq_true.2 h2⟩, if_pos (List.all_eq_true.2 h3)]
theorem lk_part {l : List Ky} {b : Bool} {p : List Ch} (hp : Srt Ch.key p) (k : Int) : lk Ch.key (partP l b p) k = if keepK l b k = true then lk Ch.key p k else none := by
  unfold partP
  rw [lk_filter Ch.key hp]
  cases hq : lk Ch.key p k with
  | none => by_cases h : keepK l b k = true <;> simp [h]
  | some c =>
    have hc : c.key = k := lk_key Ch.key hq
    by_cases h : keepK l b k = true
    · simp [Option.filter, hc, h]
    · simp [Option.filter, hc, h]
theorem part_srt {l : List Ky} {b : Bool} {p : List Ch} (hp : Srt Ch.key p) : Srt Ch.key (partP l b p) := hp.filter Ch.key _

def actC (l : List Ky) (c : Cl) (p : List Ch) : Cl := ⟨c.r, applyP (partP l (c.r == 10) p) c.s⟩
theorem actC_nil (l : List Ky) (c : Cl) : actC l c [] = c := by cases c; rfl
def app (l : List Ky) : List Un → List Cl → List Cl
  | [], d => d
  | .ins r s :: us, d => ⟨r, s⟩ :: app l us d
  | .del :: us, d => app l us (d.drop 1)
  | .ret p :: us, d => (d.take 1).map (fun c => actC l c p) ++ app l us (d.drop 1)
theorem app_len (l : List Ky) : ∀ (us : List Un) (d : List Cl), takesU us ≤ d.length → (app l us d).length + takesU us = d.length + makesU us
  | [], d, _ => by simp [app, takesU, makesU]
  | .ins r s :: us, d, h => by have := app_len l us d h; simp [app, takesU, makesU]; omega
  | .del :: us, d, h => by
    simp only [takesU] at h
    have := app_len l us (d.drop 1) (by rw [List.length_drop]; omega)
    rw [List.length_drop] at this
    simp only [app, takesU, makesU]; omega
  | .ret p :: us, d, h => by
    simp only [takesU] at h
    have := app_len l us (d.drop 1) (by rw [List.length_drop]; omega)
    rw [List.length_drop] at this
    simp only [app, takesU, makesU, List.length_append, List.length_map, List.length_take]; omega
theorem app_append (l : List Ky) : ∀ (a b : List Un) (d : List Cl), app l (a ++ b) d = (app l a (d.take (takesU a))) ++ app l b (d.drop (takesU a))
  | [], b, d => by simp [app, takesU]
  | .ins r s :: a, b, d => by show _ :: app l (a ++ b) d = _; rw [app_append l a b d]; rfl
  | .del :: a, b, d => by
    show app l (a ++ b) (d.drop 1) = _
    rw [app_append l a b (d.drop 1)]
    simp only [app, takesU]
    rw [List.drop_drop, Nat.add_comm 1, List.drop_take, Nat.add_sub_cancel]
  | .ret p :: a, b, d => by
    show (d.take 1).map _ ++ app l (a ++ b) (d.drop 1) = _
    rw [app_append l a b (d.drop 1)]
    simp only [app, takesU]
    rw [List.drop_drop, Nat.add_comm 1, List.drop_take, Nat.add_sub_cancel, List.take_take, Nat.min_eq_left (by omega), List.append_assoc]
theorem app_trim (l : List Ky) (us : List Un) (d : List Cl) : app l (trim us) d = app l us d := by
  induction us generalizing d with
  | nil => rfl
  | cons u us ih =>
    rw [trim]
    cases ht : trim us with
    | nil =>
      have h1 : ∀ e : List Cl, app l us e = e := fun e => by rw [← ih e, ht]; rfl
      simp only
      by_cases hu : u = .ret []
      · rw [if_pos hu, hu]
        simp only [app]
        rw [h1]
        have : (d.take 1).map (fun c => actC l c []) = d.take 1 := by simp [actC_nil]
        rw [this, List.take_append_drop]
      · rw [if_neg hu]
        cases u with
        | ins r s => simp [app, h1]
        | del => simp [app, h1]
        | ret p => simp [app, h1]
    | cons v vs =>
      simp only
      rw [← ht]
      cases u with
      | ins r s => simp [app, ih]
      | del => simp [app, ih]
      | ret p => simp [app, ih]
theorem app_cn (l : List Ky) (us : List Un) : ∀ (I : List Un) (g : Nat) (d : List Cl), (∀ u ∈ I, ∃ r s, u = .ins r s) → app l (cn us I g) d = app l I [] ++ app l us (d.drop g) := by
  have hI : ∀ (I rest : List Un) (d : List Cl), (∀ u ∈ I, ∃ r s, u = .ins r s) → app l (I ++ rest) d = app l I [] ++ app l rest d := by
    intro I
    induction I with
    | nil => intro rest d _; rfl
    | cons u I ih =>
      intro rest d h
      obtain ⟨r, s, rfl⟩ := h u (by simp)
      show _ :: app l (I ++ rest) d = _
      rw [ih rest d (fun v hv => h v (List.mem_cons_of_mem _ hv))]; rfl
  have hD : ∀ (g : Nat) (rest : List Un) (d : List Cl), app l (List.replicate g .del ++ rest) d = app l rest (d.drop g) := by
    intro g
    induction g with
    | zero => intro rest d; rfl
    | succ g ih => intro rest d; rw [List.replicate_succ]; show app l (List.replicate g .del ++ rest) (d.drop 1) = _; rw [ih, List.drop_drop, Nat.add_comm 1]
  induction us with
  | nil =>
    intro I g d h
    rw [cn, hI I _ d h]
    have := hD g [] d
    rw [List.append_nil] at this
    rw [this]
  | cons u us ih =>
    intro I g d h
    cases u with
    | ins r s =>
      have h2 : ∀ u ∈ I ++ [Un.ins r s], ∃ r s, u = .ins r s := fun v hv => by
        rcases List.mem_append.1 hv with hv | hv
        · exact h v hv
        · simp at hv; exact ⟨r, s, hv⟩
      rw [cn, ih _ _ _ h2, hI I [.ins r s] [] h, List.append_assoc]
      rfl
    | del =>
      rw [cn, ih _ _ _ h]
      show _ = _ ++ app l us ((d.drop g).drop 1)
      rw [List.drop_drop]
    | ret p =>
      rw [cn, List.append_assoc, hI I _ d h, hD]
      rw [show app l (.ret p :: cn us [] 0) (d.drop g) = ((d.drop g).take 1).map (fun c => actC l c p) ++ app l (cn us [] 0) ((d.drop g).drop 1) from rfl, ih [] 0 _ (by simp)]
      simp [app]
theorem app_canon (l : List Ky) (us : List Un) (d : List Cl) : app l (canon us) d = app l us d := by
  rw [canon, app_cn l us [] 0 d (by simp)]; rfl
theorem app_nf (l : List Ky) (us : List Un) (d : List Cl) : app l (nf us) d = app l us d := by rw [nf, app_trim, app_canon]
end Go.Proofs.YtfnkjcodcoehcaaGreatDoor
