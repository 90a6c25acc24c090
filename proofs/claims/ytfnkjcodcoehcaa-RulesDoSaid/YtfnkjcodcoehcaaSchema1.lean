/- The walks of schema.may, Find, Fits and of the document's Find and Fits. -/
import Derived.Test.YtfnkjcodcoehcaaKey
import Derived.Test.YtfnkjcodcoehcaaReads
namespace Go.Proofs.Ytfnkjcodcoehcaa
open Go.RowKit
set_option linter.unusedVariables false
set_option linter.unusedSimpArgs false

/-- may a key be by itself? -/
def mayK (k : Ky) : Bool :=
  decide (1 ≤ k.id ∧ k.id ≤ 1000 ∧ 1 ≤ k.kind ∧ k.kind ≤ 4) && (if k.block = true then !k.before && decide (0 ≤ k.group ∧ k.group ≤ 8) else decide (k.group = 0))

theorem ky_eq (k : Ky) : k.val = .agg #[.int .i64 k.id, .bool k.block, .int .u8 k.kind, .bool k.after, .bool k.before, .int .i64 k.group] := rfl

set_option maxHeartbeats 1600000 in
theorem mayK_any (i g n : Int) (b a f : Bool) (w : World) :
    Calls Try.prog 21 #[.agg #[.int .i64 i, .bool b, .int .u8 n, .bool a, .bool f, .int .i64 g]] w fun e w' => e = .returned (.bool (mayK ⟨i, b, n, a, f, g⟩)) ∧ Below w.heap.size w w' := by
  obtain ⟨R, hR⟩ : ∃ X, mayK ⟨i, b, n, a, f, g⟩ = X := ⟨_, rfl⟩
  rw [hR]
  unfold mayK at hR
  have HR := Lib.hid hR
  clear hR
  by_cases h1 : i < 1
  · go_enter Try.func21, Try.ntmps21
    go_wp2_with (fail)
    go_ret
    exact ⟨ret_bool (by rw [← HR.out]; simp; omega), ext_alloc w _⟩
  by_cases h2 : 1000 < i
  · go_enter Try.func21, Try.ntmps21
    go_wp2_with (fail)
    go_ret
    exact ⟨ret_bool (by rw [← HR.out]; simp; omega), ext_alloc w _⟩
  by_cases h3 : n < 1
  · go_enter Try.func21, Try.ntmps21
    go_wp2_with (fail)
    go_ret
    exact ⟨ret_bool (by rw [← HR.out]; simp; omega), ext_alloc w _⟩
  by_cases h4 : 4 < n
  · go_enter Try.func21, Try.ntmps21
    go_wp2_with (fail)
    go_ret
    exact ⟨ret_bool (by rw [← HR.out]; simp; omega), ext_alloc w _⟩
  have E4 := Lib.hid (show decide (1 ≤ i ∧ i ≤ 1000 ∧ 1 ≤ n ∧ n ≤ 4) = true by simp; omega)
  cases b with
  | false =>
    go_enter Try.func21, Try.ntmps21
    go_wp2_with (fail)
    go_ret
    exact ⟨ret_bool (by have h := HR.out; rw [E4.out] at h; rw [← h]; simp; rfl), ext_alloc w _⟩
  | true =>
    cases f with
    | true =>
      go_enter Try.func21, Try.ntmps21
      go_wp2_with (fail)
      go_ret
      exact ⟨ret_bool (by have h := HR.out; rw [E4.out] at h; rw [← h]; simp), ext_alloc w _⟩
    | false =>
      by_cases h5 : 0 ≤ g
      · go_enter Try.func21, Try.ntmps21
        go_wp2_with (fail)
        go_ret
        exact ⟨ret_bool (by have h := HR.out; rw [E4.out] at h; rw [← h]; simp [h5] <;> omega), ext_alloc w _⟩
      · go_enter Try.func21, Try.ntmps21
        go_wp2_with (fail)
        go_ret
        exact ⟨ret_bool (by have h := HR.out; rw [E4.out] at h; rw [← h]; simp [h5] <;> omega), ext_alloc w _⟩

/-- a schema's struct at block s: its map holds just these keys; its slice holds them by rising IDs -/
def Sch (w : World) (s : Nat) (l : List Ky) : Prop :=
  ∃ bm A n c ls, w.heap[s]? = some (.cells #[.slice A n c, .map (some bm)] 59 (0, 0)) ∧ MapK w bm l ∧ n = ls.length ∧ ls.Perm l ∧ ls.Pairwise (fun a b => a.id ≤ b.id) ∧ RdKy w w.heap.size A ls
theorem lt_of_some {w : World} {b : Nat} {o : Obj} (h : w.heap[b]? = some o) : b < w.heap.size := (Array.getElem?_eq_some_iff.1 h).1
theorem MapK.ext {w w' : World} {b : Nat} {l : List Ky} (h : MapK w b l) (y : Below w.heap.size w w') : MapK w' b l := by
  obtain ⟨es, clock, he, hk⟩ := h
  exact ⟨es, clock, (y.block b (lt_of_some he)).trans he, hk⟩
theorem Sch.ext {w w' : World} {s : Nat} {l : List Ky} (h : Sch w s l) (y : Below w.heap.size w w') : Sch w' s l := by
  obtain ⟨bm, A, n, c, ls, hb, hm, hn, hp, hs, hr⟩ := h
  exact ⟨bm, A, n, c, ls, (y.block s (lt_of_some hb)).trans hb, hm.ext y, hn, hp, hs, hr.ext y⟩
theorem Sch.parts {w : World} {s : Nat} {l : List Ky} (h : Sch w s l) : ∃ bm sl, w.heap[s]? = some (.cells #[sl, .map (some bm)] 59 (0, 0)) ∧ MapK w bm l := by
  obtain ⟨bm, A, n, c, ls, hb, hm, _⟩ := h
  exact ⟨bm, _, hb, hm⟩

section
variable {ops : Array Oper} {rest : List Oper} {o : Oper} {a : Act} {Q : Exit → Act → World → Prop} {w : World}
theorem wpList_lookKy (hg : o.guard = none) (m x : Operand) (hop : o.op = Op.lookup 57 m x true) (b : Nat) (l : List Ky) (hm : a.eval m = .map (some b)) (hM : MapK w b l) (id : Int) (hx : a.eval x = .int .i64 id)
    (hK : ∀ i c n d f g q, (findK l id).getD Ky.zero = ⟨i, c, n, d, f, g⟩ → (findK l id).isSome = q → wpList Try.prog ops Q rest (a.put o.dst (.tuple #[.agg #[.int .i64 i, .bool c, .int .u8 n, .bool d, .bool f, .int .i64 g], .bool q])) w) : wpList Try.prog ops Q (o :: rest) a w := by
  refine wpList_plain hg fun K' hK' => ?_
  unfold Oper.wp
  simp [execOp, hop, hm, hx, hM.look id, Result.andThen]
  have h := hK ((findK l id).getD Ky.zero).id _ _ _ _ _ _ rfl rfl
  exact hK' _ _ h
end

/-- what Find answers -/
def FindOutK (l : List Ky) (id : Int) (w : World) (e : Ending) (w' : World) : Prop :=
  ∃ i c n d f g q, e = .returned (.tuple #[.agg #[.int .i64 i, .bool c, .int .u8 n, .bool d, .bool f, .int .i64 g], .bool q]) ∧ (findK l id).getD Ky.zero = ⟨i, c, n, d, f, g⟩ ∧ (findK l id).isSome = q ∧ Below w.heap.size w w'

set_option maxHeartbeats 1600000 in
theorem findS_any (s : Nat) (l : List Ky) (id : Int) (w : World) (h : Sch w s l) :
    Calls Try.prog 35 #[.pointer (some ⟨s, 0, none⟩), .int .i64 id] w (FindOutK l id w) := by
  obtain ⟨bm, sl, hb, hm⟩ := h.parts
  have y := ext_alloc w (.cells #[.int .i64 0, .bool false, .int .u8 0, .bool false, .bool false, .int .i64 0] 53)
  have hb' := (y.block s (lt_of_some hb)).trans hb
  obtain ⟨es, clock, he, hk⟩ := hm
  have hm' : MapK (w.alloc (.cells #[.int .i64 0, .bool false, .int .u8 0, .bool false, .bool false, .int .i64 0] 53)) bm l := ⟨es, clock, (y.block bm (lt_of_some he)).trans he, hk⟩
  obtain ⟨c0, c1⟩ := box_2 hb'
  have HM := Lib.hid hm'
  clear hb hb' he hk hm'
  go_enter Try.func35, Try.ntmps35
  go_wp2_with (at_lookup; refine wpList_lookKy rfl _ _ rfl bm l rfl HM.out id rfl ?_; intro i c n d f g q hq1 hq2; have HQ1 := Lib.hid hq1; have HQ2 := Lib.hid hq2; clear hq1 hq2)
  refine bodyPost_ret (v := .tuple #[.agg #[.int .i64 i, .bool c, .int .u8 n, .bool d, .bool f, .int .i64 g], .bool q]) (by simp [results, Try.results35, go_sem]) rfl ?_
  exact ⟨i, c, n, d, f, g, q, rfl, HQ1.out, HQ2.out, by first | exact ext_trans (ext_alloc w _) (ext_alloc _ _) | trace_state⟩

set_option maxHeartbeats 1600000 in
theorem findNil_any (id : Int) (w : World) :
    Calls Try.prog 35 #[.pointer none, .int .i64 id] w (FindOutK [] id w) := by
  go_enter Try.func35, Try.ntmps35
  go_wp2_with (fail)
  refine bodyPost_ret (v := .tuple #[.agg #[.int .i64 0, .bool false, .int .u8 0, .bool false, .bool false, .int .i64 0], .bool false]) (by simp [results, Try.results35, go_sem]) rfl ?_
  exact ⟨0, false, 0, false, false, 0, false, rfl, rfl, rfl, ext_alloc w _⟩

end Go.Proofs.Ytfnkjcodcoehcaa
