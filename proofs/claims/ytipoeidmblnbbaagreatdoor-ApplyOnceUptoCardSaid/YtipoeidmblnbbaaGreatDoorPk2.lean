/- Merged texts: Reads, Key, VaMake, Flo. -/
import Derived.Test.YtipoeidmblnbbaaGreatDoorPk1
import Derived.Deep.LoopGhost
import Derived.Deep.DeepMust
import Derived.Maps.OwnOps
import Derived.MapKept
import Derived.Laws.Externs
import Derived.Laws.BitsAllLaws
import Ieee.Arith
import GoSem.Core.Float
import Derived.Laws.FloatBits
/- Walks of the functions that only read: Rising, Same, Equal. -/
namespace Go.Proofs.YtipoeidmblnbbaaGreatDoor
open Go.RowKit
set_option linter.unusedVariables false
set_option linter.unusedSimpArgs false

/-- what a call does that only reads -/
def Quiet (v : Value) (w : World) (e : Ending) (w' : World) : Prop := e = .returned v ∧ ∃ d, w' = w.drewN d
theorem Quiet.below {v : Value} {w w' : World} {e : Ending} (h : Quiet v w e w') (B : Nat) : e = .returned v ∧ Below B w w' := by
  obtain ⟨h1, d, rfl⟩ := h
  exact ⟨h1, below_drewN (Below.refl _ _) d⟩

theorem ret_bool {a b : Bool} (h : a = b) : Ending.returned (.bool a) = Ending.returned (.bool b) := by rw [h]
theorem ret_int {k : IntKind} {a b : Int} (h : a = b) : Ending.returned (.int k a) = Ending.returned (.int k b) := by rw [h]

def rise : List Int → Bool
  | a :: b :: t => decide (a < b) && rise (b :: t)
  | _ => true
def riseA (l : List At) : Bool := rise (l.map (·.key))
def riseC (l : List Ch) : Bool := rise (l.map (·.key))
theorem rise_short {α : Type} (f : α → Int) (l : List α) (m : Nat) (h : l.length ≤ m + 1) : rise ((l.drop m).map f) = true := by
  have : (l.drop m).length ≤ 1 := by rw [List.length_drop]; omega
  match hd : l.drop m with
  | [] => rfl
  | [a] => rfl
  | a :: b :: t => rw [hd] at this; simp at this

set_option maxRecDepth 100000 in
set_option maxHeartbeats 400000 in
theorem risingC_any (A : Option Addr) (n c : Nat) (l : List Ch) (w : World) (hn : n = l.length) (h : RdCh w w.heap.size A l) (hb : n ≤ 140737488355328) :
    Calls Tryz.prog 68 #[.slice A n c] w (Quiet (.bool (riseC l)) w) := by
  have N := Lib.hid hn
  generalize hR : riseC l = R
  have HR := Lib.hid hR
  clear hn hR
  go_enter Tryz.func68, Tryz.ntmps68
  go_wp2_with (fail)
  go_loopg [3] n (fun g iv wr => ∃ m : Nat, (m + 1 ≤ n ∨ m = 0) ∧ g = n - m ∧ iv = .int .i64 ((m : Int) + 1) ∧ (∃ d, wr = w.drewN d) ∧ Hid (rise ((l.drop m).map (·.key)) = R))
  case atStart => exact ⟨0, by omega, rfl, rfl, ⟨0, rfl⟩, Lib.hid (by rw [List.drop_zero]; exact HR.out)⟩
  case round =>
    obtain ⟨m, hm, hg, rfl, ⟨d, rfl⟩, HI⟩ := hrel
    have HG := Lib.hid hg
    clear hg HR
    by_cases hlt : m + 1 < n
    · have hl1 : m < l.length := by have := N.out; omega
      have hl2 : m + 1 < l.length := by have := N.out; omega
      obtain ⟨ad, x, rfl, _, hd1, _, hc1⟩ := h.el hl1
      obtain ⟨ad', y, e, _, hd2, _, hc2⟩ := h.el hl2
      injection e with e; subst e
      have HI' : Hid (rise (x.key :: y.key :: (l.drop (m + 2)).map (·.key)) = R) := Lib.hid (by rw [← HI.out, hd1, hd2]; rfl)
      have HI2 : Hid (rise (y.key :: (l.drop (m + 2)).map (·.key)) = rise ((l.drop (m + 1)).map (·.key))) := Lib.hid (by rw [hd2]; rfl)
      clear HI hd1 hd2
      obtain ⟨x1, x6, x2, x3, x4, x5⟩ := x
      obtain ⟨y1, y6, y2, y3, y4, y5⟩ := y
      obtain ⟨r0, -⟩ := ch_cells hc1
      obtain ⟨s0, -⟩ := ch_cells hc2
      have hmn : m < n := by omega
      have hw : IntKind.i64.wrap (m:Int) = m := IntWalk.i64_in _ (by omega)
      have hw2 : IntKind.i64.wrap ((m:Int) + 1) = (m : Int) + 1 := IntWalk.i64_in _ (by omega)
      by_cases hle : y1 ≤ x1
      · go_wp2_with (go_quiet (fail))
        go_ret
        have : ¬ x1 < y1 := by omega
        exact ⟨ret_bool (by rw [← HI'.out]; simp [rise, this]), _, rfl⟩
      · clear hw
        go_wp2_with (go_quiet (fail))
        go_roundg (n - (m + 1))
        case measure => have := HG.out; omega
        case rel => exact ⟨m + 1, by omega, rfl, by go_num, ⟨_, rfl⟩, Lib.hid (by rw [← HI'.out, ← HI2.out]; have : x1 < y1 := by omega
                                                                                  simp [rise, this])⟩
    · go_wp2_with (fail)
      go_ret
      exact ⟨ret_bool (by rw [← HI.out, rise_short _ _ _ (by have := N.out; omega)]), _, rfl⟩

set_option maxRecDepth 100000 in
set_option maxHeartbeats 400000 in
theorem sameA_any (A B : Option Addr) (n m c d : Nat) (l k : List At) (w : World) (hn : n = l.length) (hm : m = k.length) (h1 : RdAt w w.heap.size A l) (h2 : RdAt w w.heap.size B k) (hb : n ≤ 140737488355328) (hb2 : m ≤ 140737488355328) :
    Calls Tryz.prog 74 #[.slice A n c, .slice B m d] w (Quiet (.bool (decide (l = k))) w) := by
  have N := Lib.hid hn
  have M := Lib.hid hm
  generalize hR : decide (l = k) = R
  have HR := Lib.hid hR
  clear hn hR hm
  by_cases hnm : (n : Int) = m
  · have hnm' : n = m := by omega
    subst hnm'
    clear hnm
    go_enter Tryz.func74, Tryz.ntmps74
    go_wp2_with (fail)
    go_loopg [5] n (fun g iv wr => ∃ i : Nat, i ≤ n ∧ g = n - i ∧ iv = .int .i64 (i : Int) ∧ (∃ d, wr = w.drewN d) ∧ Hid (decide (l.drop i = k.drop i) = R))
    case atStart => exact ⟨0, by omega, rfl, rfl, ⟨0, rfl⟩, Lib.hid (by rw [List.drop_zero, List.drop_zero]; exact HR.out)⟩
    case round =>
      obtain ⟨i, hi, hg, rfl, ⟨q, rfl⟩, HI⟩ := hrel
      have HG := Lib.hid hg
      clear hg HR
      by_cases hlt : i < n
      · have hl1 : i < l.length := by have := N.out; omega
        have hl2 : i < k.length := by have := M.out; omega
        obtain ⟨ad, x, rfl, _, hd1, _, hc1⟩ := h1.el hl1
        obtain ⟨ad2, y, rfl, _, hd2, _, hc2⟩ := h2.el hl2
        have HI' : Hid (decide (x :: l.drop (i + 1) = y :: k.drop (i + 1)) = R) := Lib.hid (by rw [← HI.out, hd1, hd2])
        clear HI hd1 hd2
        obtain ⟨x1, x2, x3, x4, x5⟩ := x
        obtain ⟨y1, y2, y3, y4, y5⟩ := y
        obtain ⟨r0, r1, r2, r3, r4⟩ := at_cells hc1
        obtain ⟨s0, s1, s2, s3, s4⟩ := at_cells hc2
        by_cases hxy : (⟨x1, ⟨x2, x3, x4, x5⟩⟩ : At) = ⟨y1, ⟨y2, y3, y4, y5⟩⟩
        · have hq := beqAt_eq hxy
          have HXY := Lib.hid hxy
          clear hxy
          go_wp2_with (go_quiet (fail))
          go_roundg (n - (i + 1))
          case measure => have := HG.out; omega
          case rel => exact ⟨i + 1, by omega, rfl, by go_num, ⟨_, rfl⟩, Lib.hid (by rw [← HI'.out]; simp only [List.cons.injEq, HXY.out, true_and])⟩
        · have hq := beqAt_ne hxy
          have HXY := Lib.hid hxy
          clear hxy
          go_wp2_with (go_quiet (fail))
          go_ret
          exact ⟨ret_bool (by rw [← HI'.out]; exact (decide_eq_false fun e => HXY.out (List.cons.inj e).1).symm), _, World.drewN_drewN _ _ _⟩
      · go_wp2_with (fail)
        go_ret
        exact ⟨ret_bool (by rw [← HI.out, List.drop_eq_nil_of_le (by have := N.out; omega), List.drop_eq_nil_of_le (by have := M.out; omega)]; rfl), _, rfl⟩
  · have hne : ((n : Int) == m) = false := beq_eq_false_iff_ne.2 hnm
    go_enter Tryz.func74, Tryz.ntmps74
    go_wp2_with (fail)
    go_ret
    refine ⟨ret_bool ?_, 0, rfl⟩
    rw [← HR.out]
    refine (decide_eq_false fun e => ?_).symm
    have h3 := N.out
    have h4 := M.out
    rw [e] at h3
    omega

set_option maxRecDepth 100000 in
set_option maxHeartbeats 400000 in
theorem equalC_any (A B : Option Addr) (n m c d : Nat) (l k : List Ch) (w : World) (hn : n = l.length) (hm : m = k.length) (h1 : RdCh w w.heap.size A l) (h2 : RdCh w w.heap.size B k) (hb : n ≤ 140737488355328) (hb2 : m ≤ 140737488355328) :
    Calls Tryz.prog 134 #[.slice A n c, .slice B m d] w (Quiet (.bool (decide (l = k))) w) := by
  have N := Lib.hid hn
  have M := Lib.hid hm
  generalize hR : decide (l = k) = R
  have HR := Lib.hid hR
  clear hn hR hm
  by_cases hnm : (n : Int) = m
  · have hnm' : n = m := by omega
    subst hnm'
    clear hnm
    go_enter Tryz.func134, Tryz.ntmps134
    go_wp2_with (fail)
    go_loopg [13] n (fun g iv wr => ∃ i : Nat, i ≤ n ∧ g = n - i ∧ iv = .int .i64 (i : Int) ∧ (∃ d, wr = w.drewN d) ∧ Hid (decide (l.drop i = k.drop i) = R))
    case atStart => exact ⟨0, by omega, rfl, rfl, ⟨0, rfl⟩, Lib.hid (by rw [List.drop_zero, List.drop_zero]; exact HR.out)⟩
    case round =>
      obtain ⟨i, hi, hg, rfl, ⟨q, rfl⟩, HI⟩ := hrel
      have HG := Lib.hid hg
      clear hg HR
      by_cases hlt : i < n
      · have hl1 : i < l.length := by have := N.out; omega
        have hl2 : i < k.length := by have := M.out; omega
        obtain ⟨ad, x, rfl, _, hd1, _, hc1⟩ := h1.el hl1
        obtain ⟨ad2, y, rfl, _, hd2, _, hc2⟩ := h2.el hl2
        have HI' : Hid (decide (x :: l.drop (i + 1) = y :: k.drop (i + 1)) = R) := Lib.hid (by rw [← HI.out, hd1, hd2])
        clear HI hd1 hd2
        obtain ⟨x1, x6, x2, x3, x4, x5⟩ := x
        obtain ⟨y1, y6, y2, y3, y4, y5⟩ := y
        obtain ⟨r0, r1, r2, r3, r4, r5⟩ := ch_cells hc1
        obtain ⟨s0, s1, s2, s3, s4, s5⟩ := ch_cells hc2
        by_cases hxy : (⟨x1, x6, ⟨x2, x3, x4, x5⟩⟩ : Ch) = ⟨y1, y6, ⟨y2, y3, y4, y5⟩⟩
        · have hq := beqCh_eq hxy
          have HXY := Lib.hid hxy
          clear hxy
          go_wp2_with (go_quiet (fail))
          go_roundg (n - (i + 1))
          case measure => have := HG.out; omega
          case rel => exact ⟨i + 1, by omega, rfl, by go_num, ⟨_, rfl⟩, Lib.hid (by rw [← HI'.out]; simp only [List.cons.injEq, HXY.out, true_and])⟩
        · have hq := beqCh_ne hxy
          have HXY := Lib.hid hxy
          clear hxy
          go_wp2_with (go_quiet (fail))
          go_ret
          exact ⟨ret_bool (by rw [← HI'.out]; exact (decide_eq_false fun e => HXY.out (List.cons.inj e).1).symm), _, World.drewN_drewN _ _ _⟩
      · go_wp2_with (fail)
        go_ret
        exact ⟨ret_bool (by rw [← HI.out, List.drop_eq_nil_of_le (by have := N.out; omega), List.drop_eq_nil_of_le (by have := M.out; omega)]; rfl), _, rfl⟩
  · have hne : ((n : Int) == m) = false := beq_eq_false_iff_ne.2 hnm
    go_enter Tryz.func134, Tryz.ntmps134
    go_wp2_with (fail)
    go_ret
    refine ⟨ret_bool ?_, 0, rfl⟩
    rw [← HR.out]
    refine (decide_eq_false fun e => ?_).symm
    have h3 := N.out
    have h4 := M.out
    rw [e] at h3
    omega

set_option maxHeartbeats 400000 in
theorem sameC_any (A B : Option Addr) (n m c d : Nat) (l k : List Ch) (w : World) (hn : n = l.length) (hm : m = k.length) (h1 : RdCh w w.heap.size A l) (h2 : RdCh w w.heap.size B k) (hb : n ≤ 140737488355328) (hb2 : m ≤ 140737488355328) :
    Calls Tryz.prog 96 #[.slice A n c, .slice B m d] w (Quiet (.bool (decide (l = k))) w) := by
  have N := Lib.hid hn
  have M := Lib.hid hm
  clear hn hm
  go_enter Tryz.func96, Tryz.ntmps96
  go_wp2_with (go_at_call 134; refine (equalC_any A B n m c d l k _ N.out M.out h1 h2 hb hb2).mono ?_; rintro e w' ⟨rfl, q, rfl⟩)
  go_ret
  exact ⟨rfl, _, rfl⟩
end Go.Proofs.YtipoeidmblnbbaaGreatDoor
/- A schema's keys as plain data, how they lie in cells, and the map of a schema: what is looked up in it and stored. -/
namespace Go.Proofs.YtipoeidmblnbbaaGreatDoor
open Go.RowKit Go.MapKept
set_option linter.unusedVariables false
set_option linter.unusedSimpArgs false

structure Ky where
  id : Int
  block : Bool
  kind : Int
  after : Bool
  before : Bool
  group : Int
deriving DecidableEq
def Ky.enc (k : Ky) : List Value := [.int .i64 k.id, .bool k.block, .int .u8 k.kind, .bool k.after, .bool k.before, .int .i64 k.group]
def Ky.val (k : Ky) : Value := .agg #[.int .i64 k.id, .bool k.block, .int .u8 k.kind, .bool k.after, .bool k.before, .int .i64 k.group]
def Ky.zero : Ky := ⟨0, false, 0, false, false, 0⟩
theorem Ky.enc_len (k : Ky) : k.enc.length = 6 := rfl
theorem Ky.enc_one (k : Ky) : ∀ u ∈ k.enc, u.oneCell' = true := by intro u hu; simp [Ky.enc] at hu; rcases hu with rfl | rfl | rfl | rfl | rfl | rfl <;> rfl
abbrev RdKy := @Rd Ky Ky.enc 6
abbrev OwKy := @Ow Ky Ky.enc 6 74
theorem Tryz.infoKy : (Tryz.prog.info? 74).map (fun i => (i.zero, i.size, i.bytes)) = some (some (Ky.val Ky.zero), 6, 24) := by kernel_rfl
theorem Tryz.slKy : Tryz.prog.underlying 22 = some (.slice 74) := by kernel_rfl
theorem Tryz.mpKy : Tryz.prog.underlying 75 = some (.map 3 74) := by kernel_rfl
theorem Tryz.mpInt : Tryz.prog.underlying 3 = some (.int .i64) := by kernel_rfl
theorem Tryz.zeroKy (w : World) : (zeroValue 74).run Tryz.prog w = .ok (Ky.val Ky.zero) w := by kernel_rfl

section
variable {w : World} {p : Addr}
theorem ky_cells {i g n : Int} {b a f : Bool} (h : CellsAt w p (Ky.enc ⟨i, b, n, a, f, g⟩)) :
    w.cell? p = some (.int .i64 i) ∧ w.cell? { block := p.block, off := p.off + 1 } = some (.bool b) ∧ w.cell? { block := p.block, off := p.off + 2 } = some (.int .u8 n) ∧ w.cell? { block := p.block, off := p.off + 3 } = some (.bool a) ∧ w.cell? { block := p.block, off := p.off + 4 } = some (.bool f) ∧ w.cell? { block := p.block, off := p.off + 5 } = some (.int .i64 g) := by
  have h0 := h 0 _ rfl
  rw [add_zero'] at h0
  exact ⟨h0, cellsAt_lit h 0 rfl, cellsAt_lit h 1 rfl, cellsAt_lit h 2 rfl, cellsAt_lit h 3 rfl, cellsAt_lit h 4 rfl⟩
theorem box_ky {b : Nat} {t : TypeId} {c0 c1 c2 c3 c4 c5 : Value} (h : w.heap[b]? = some (.cells #[c0, c1, c2, c3, c4, c5] t (0, 0))) :
    w.cell? ⟨b, 0, none⟩ = some c0 ∧ w.cell? ⟨b, 1, none⟩ = some c1 ∧ w.cell? ⟨b, 2, none⟩ = some c2 ∧ w.cell? ⟨b, 3, none⟩ = some c3 ∧ w.cell? ⟨b, 4, none⟩ = some c4 ∧ w.cell? ⟨b, 5, none⟩ = some c5 := by
  simp [World.cell?, h]
theorem box_2 {b : Nat} {t : TypeId} {c0 c1 : Value} (h : w.heap[b]? = some (.cells #[c0, c1] t (0, 0))) : w.cell? ⟨b, 0, none⟩ = some c0 ∧ w.cell? ⟨b, 1, none⟩ = some c1 := by
  simp [World.cell?, h]
theorem box_1 {b : Nat} {t : TypeId} {c0 : Value} (h : w.heap[b]? = some (.cells #[c0] t (0, 0))) : w.cell? ⟨b, 0, none⟩ = some c0 := by
  simp [World.cell?, h]
end


section
variable {ops : Array Oper} {rest : List Oper} {o : Oper} {a : Act} {Q : Exit → Act → World → Prop} {w : World} {base : Nat} {v : Value}
theorem app_ky {l m : List Ky} (hgd : o.guard = none) (s x : Operand)
    (ho : o.op = .call { callee := .builtin .append, args := #[s, x], argTypes := #[22, 22] })
    (hsv : a.eval s = v) (hown : OwKy w base v l) (B : Nat) (A : Option Addr) (c n : Nat) (hx : a.eval x = .slice A n c) (hn : n = m.length) (hr : RdKy w B A m)
    (hb : l.length + m.length ≤ 2000000000000) (hbase : base ≤ w.heap.size)
    (h : ∀ v' w', OwKy w' base v' (l ++ m) → w.grownBy w' (wb v) → (v' = v ∧ w' = w ∨ wb v' = wb v ∨ wb v' = some w.heap.size) → wpList Tryz.prog ops Q rest (a.put o.dst v') w') : wpList Tryz.prog ops Q (o :: rest) a w := by
  obtain ⟨i0, hi0, hz0, hz1, hz2⟩ := info_parts Tryz.infoKy
  exact wpList_app hgd s x _ ho i0 _ 24 Tryz.slKy hi0 hz0 hz1 hz2 rfl (by omega) Ky.enc_len Ky.enc_one hsv hown B A c n hx hn hr (by simp only [maxLen]; omega) (by omega) hbase h
end
/-- a list of keys in new memory -/
def NewKy (r : List Ky) (w : World) (e : Ending) (w' : World) : Prop :=
  ∃ A c, e = .returned (.slice A r.length c) ∧ OwKy w' w.heap.size (.slice A r.length c) r ∧ Below w.heap.size w w'

/-- the key with an ID -/
def findK (l : List Ky) (id : Int) : Option Ky := l.find? (fun k => decide (k.id = id))
def kvOf (k : Ky) : Value × Value := (.int .i64 k.id, k.val)
/-- block b is a map that holds just these keys, each under its ID -/
def MapK (w : World) (b : Nat) (l : List Ky) : Prop := ∃ es clock, w.heap[b]? = some (.map es clock) ∧ es.toList.map (fun e => (e.key, e.val)) = l.map kvOf

theorem findNow_keys (id : Int) : ∀ (l : List Ky) (es : List MapEntry) (i : Nat), es.map (fun e => (e.key, e.val)) = l.map kvOf →
    ∃ r, Instr.findNow (.int .i64) (.int .i64 id) es i = some r ∧ r.map (·.2) = (findK l id).map Ky.val
  | [], [], i, _ => ⟨none, rfl, rfl⟩
  | [], e :: es, i, h => by simp at h
  | k :: l, [], i, h => by simp at h
  | k :: l, e :: es, i, h => by
    simp only [List.map_cons, List.cons.injEq, kvOf, Prod.mk.injEq] at h
    obtain ⟨⟨h1, h2⟩, h3⟩ := h
    by_cases hk : k.id = id
    · refine ⟨some (i, e.val), ?_, ?_⟩
      · simp [Instr.findNow, Instr.sameNow, h1, hk]
      · simp [findK, hk, h2]
    · obtain ⟨r, hr, he⟩ := findNow_keys id l es (i + 1) h3
      refine ⟨r, ?_, ?_⟩
      · have : (id == k.id) = false := by simp; omega
        simp [Instr.findNow, Instr.sameNow, h1, this, hr]
      · rw [he]; simp [findK, hk]

theorem MapK.look {w : World} {b : Nat} {l : List Ky} (h : MapK w b l) (id : Int) :
    (Instr.lookup 75 (.map (some b)) (.int .i64 id) true).run Tryz.prog w = .ok (.tuple #[((findK l id).getD Ky.zero).val, .bool (findK l id).isSome]) w := by
  obtain ⟨es, clock, hb, he⟩ := h
  obtain ⟨r, hr, hv⟩ := findNow_keys id l es.toList 0 he
  have hf := run_findKey (P := Tryz.prog) (w := w) Tryz.mpInt hr
  have hc := fun e => run_checkKey (P := Tryz.prog) (w := w) (k := .int .i64 id) Tryz.mpInt (by simp [IsKey]) e 9999
  cases r with
  | none =>
    have : findK l id = none := by cases hq : findK l id with
      | none => rfl
      | some k => rw [hq] at hv; simp at hv
    simp [Instr.lookup, run_underlying Tryz.mpKy, MapKept.run_getObj_map hb, hc, hf, Tryz.zeroKy, Result.andThen, this]; rfl
  | some q =>
    obtain ⟨i, v⟩ := q
    cases hq : findK l id with
    | none => rw [hq] at hv; simp at hv
    | some k =>
      rw [hq] at hv
      simp at hv
      simp [Instr.lookup, run_underlying Tryz.mpKy, MapKept.run_getObj_map hb, hc, hf, Result.andThen, hv]

theorem MapK.store {w : World} {b : Nat} {l : List Ky} (h : MapK w b l) (k : Ky) (hn : findK l k.id = none) :
    ∃ w', (Instr.mapUpdate 75 (.map (some b)) (.int .i64 k.id) k.val).run Tryz.prog w = .ok () w' ∧ MapK w' b (l ++ [k]) ∧ (∀ j, j ≠ b → w'.heap[j]? = w.heap[j]?) ∧ w'.heap.size = w.heap.size ∧ w'.os = w.os ∧ w'.tape = w.tape ∧ w'.output = w.output := by
  obtain ⟨es, clock, hb, he⟩ := h
  obtain ⟨r, hr, hv⟩ := findNow_keys k.id l es.toList 0 he
  have hf := run_findKey (P := Tryz.prog) (w := w) Tryz.mpInt hr
  have hc := fun e => run_checkKey (P := Tryz.prog) (w := w) (k := .int .i64 k.id) Tryz.mpInt (by simp [IsKey]) e 9999
  rw [hn] at hv
  cases r with
  | some q => simp at hv
  | none =>
    obtain ⟨h1, h2⟩ := heap_set (o' := .map (es.push ⟨.int .i64 k.id, k.val, clock⟩) (clock + 1)) hb
    refine ⟨{ w with heap := w.heap.setIfInBounds b (.map (es.push ⟨.int .i64 k.id, k.val, clock⟩) (clock + 1)) }, ?_, ⟨_, _, h1, ?_⟩, h2, by simp, rfl, rfl, rfl⟩
    · simp [Instr.mapUpdate, run_underlying Tryz.mpKy, MapKept.run_getObj_map hb, hc, hf, MapKept.run_setObj_map _ hb, Result.andThen]
    · rw [Array.toList_push, List.map_append, he]; simp [kvOf]

theorem MapK.keep {w w' : World} {b : Nat} {l : List Ky} (h : MapK w b l) (e : w'.heap[b]? = w.heap[b]?) : MapK w' b l := by
  obtain ⟨es, clock, hb, he⟩ := h
  exact ⟨es, clock, e.trans hb, he⟩
end Go.Proofs.YtipoeidmblnbbaaGreatDoor
/- The walks of what makes values: Flag, Int, Float, and of math's bits. -/
namespace Go.Proofs.YtipoeidmblnbbaaGreatDoor
open Go.RowKit
set_option linter.unusedVariables false
set_option linter.unusedSimpArgs false

/-- a pattern of what is no number -/
def nanF (f : Int) : Bool := decide (9218868437227405312 < f % 9223372036854775808)
/-- the one pattern -/
def NaNbits : Int := 9221120237041090560
def floatV (f : Int) : V := ⟨3, 0, if nanF f = true then 9221120237041090560 else f, ⟨#[]⟩⟩
def flagV (b : Bool) : V := ⟨1, if b = true then 1 else 0, 0, ⟨#[]⟩⟩
def intV (n : Int) : V := ⟨2, n, 0, ⟨#[]⟩⟩
def textV (s : ByteArray) : V := ⟨4, 0, 0, s⟩

@[go_sem high] theorem run_frombits (n : Int) (w : World) : (callFunc 125 #[.int .u64 n]).run Tryz.prog w = .ok (.value (.float .f64 n.toNat)) w := by
  rw [run_callFunc_extern (fn := Tryz.f125) (e := Extern.MathFloatBits.float64frombits) Tryz.func125 (by kernel_rfl) (by kernel_rfl) (by kernel_rfl) (by kernel_rfl)]
  rfl
@[go_sem high] theorem run_bits (n : Nat) (w : World) : (callFunc 145 #[.float .f64 n]).run Tryz.prog w = .ok (.value (.int .u64 (n : Int))) w := by
  rw [run_callFunc_extern (fn := Tryz.f145) (e := Extern.MathFloatBits.float64bits) Tryz.func145 (by kernel_rfl) (by kernel_rfl) (by kernel_rfl) (by kernel_rfl)]
  rfl

theorem flag_any (b : Bool) (w : World) : Calls Tryz.prog 122 #[.bool b] w fun e w' => e = .returned (.agg #[.int .u8 1, .int .i64 (if b = true then 1 else 0), .int .u64 0, .string ⟨#[]⟩]) ∧ Below w.heap.size w w' := by
  cases b
  · go_enter Tryz.func122, Tryz.ntmps122
    go_wp2_with (fail)
    refine bodyPost_ret (v := .agg #[.int .u8 1, .int .i64 0, .int .u64 0, .string ⟨#[]⟩]) (by simp [results, Tryz.results122, go_sem]) rfl ?_
    exact ⟨rfl, ext_trans (ext_alloc w _) (ext_alloc _ _)⟩
  · go_enter Tryz.func122, Tryz.ntmps122
    go_wp2_with (fail)
    refine bodyPost_ret (v := .agg #[.int .u8 1, .int .i64 1, .int .u64 0, .string ⟨#[]⟩]) (by simp [results, Tryz.results122, go_sem]) rfl ?_
    exact ⟨rfl, ext_trans (ext_alloc w _) (ext_alloc _ _)⟩
theorem int_any (n : Int) (w : World) : Calls Tryz.prog 123 #[.int .i64 n] w fun e w' => e = .returned (.agg #[.int .u8 2, .int .i64 n, .int .u64 0, .string ⟨#[]⟩]) ∧ Below w.heap.size w w' := by
  go_enter Tryz.func123, Tryz.ntmps123
  go_wp2_with (fail)
  refine bodyPost_ret (v := .agg #[.int .u8 2, .int .i64 n, .int .u64 0, .string ⟨#[]⟩]) (by simp [results, Tryz.results123, go_sem]) rfl ?_
  exact ⟨rfl, ext_alloc w _⟩
end Go.Proofs.YtipoeidmblnbbaaGreatDoor
/- Plain laws of float64 by its bits: how two stand to each other, whole numbers near it. Nothing of the program stands here. -/
namespace Go.Proofs.YtipoeidmblnbbaaGreatDoor
open Ieee
set_option linter.unusedVariables false
set_option linter.unusedSimpArgs false

theorem dW (w : Nat) : w / Ieee.double.signWeight % 2 = w / 9223372036854775808 % 2 := rfl
/-- the datum of a word, in numbers -/
theorem read_eq (w : Nat) : Ieee.double.read w =
    if w % 9223372036854775808 < 4503599627370496 then .number (w / 9223372036854775808 % 2 == 1) (w % 9223372036854775808) (-1074)
    else if w % 9223372036854775808 < 9218868437227405312 then
      .number (w / 9223372036854775808 % 2 == 1) (4503599627370496 + w % 9223372036854775808 % 4503599627370496) (-1074 + (w % 9223372036854775808 / 4503599627370496 - 1 : Nat))
    else if w % 9223372036854775808 = 9218868437227405312 then .infinity (w / 9223372036854775808 % 2 == 1)
    else .nan (w / 9223372036854775808 % 2 == 1) (w % 9223372036854775808 - 9218868437227405312) := rfl

/-- a rung's magnitude, in units of the least -/
def magF (r : Nat) : Nat := if r < 4503599627370496 then r else (4503599627370496 + r % 4503599627370496) * 2 ^ (r / 4503599627370496 - 1)
theorem magF_succ (r : Nat) : magF r < magF (r + 1) := by
  unfold magF
  by_cases h : r + 1 < 4503599627370496
  · rw [if_pos h, if_pos (by omega)]; omega
  · by_cases h2 : r < 4503599627370496
    · have e : r = 4503599627370495 := by omega
      subst e
      decide
    · rw [if_neg h2, if_neg h]
      by_cases h3 : (r + 1) % 4503599627370496 = 0
      · have e1 : r % 4503599627370496 = 4503599627370495 := by omega
        have e2 : (r + 1) / 4503599627370496 - 1 = (r / 4503599627370496 - 1) + 1 := by omega
        rw [h3, e1, e2, Nat.pow_succ]
        have hp : 0 < 2 ^ (r / 4503599627370496 - 1) := Nat.two_pow_pos _
        generalize 2 ^ (r / 4503599627370496 - 1) = p at *
        omega
      · have e1 : (r + 1) % 4503599627370496 = r % 4503599627370496 + 1 := by omega
        have e2 : (r + 1) / 4503599627370496 = r / 4503599627370496 := by omega
        rw [e1, e2]
        exact Nat.mul_lt_mul_of_pos_right (by omega) (Nat.two_pow_pos _)
theorem magF_lt {a b : Nat} (h : a < b) : magF a < magF b := by
  obtain ⟨k, rfl⟩ : ∃ k, b = a + 1 + k := ⟨b - (a + 1), by omega⟩
  clear h
  induction k with
  | zero => exact magF_succ a
  | succ k ih => exact Nat.lt_trans ih (magF_succ _)
theorem magF_zero : magF 0 = 0 := rfl

def sgn (s : Bool) (m : Nat) : Int := if s then -(m : Int) else (m : Int)
theorem signed_eq (s : Bool) (m u : Nat) : signed s m u = sgn s (m * 2 ^ u) := by
  unfold signed sgn
  rw [Nat.shiftLeft_eq]
theorem sgn_mul (s : Bool) (m c : Nat) : sgn s (m * c) = sgn s m * c := by
  unfold sgn
  cases s <;> simp [Int.neg_mul]
theorem cmp_mul {x y : Int} {c : Nat} (h : 0 < c) : compare (x * c) (y * c) = compare x y := by
  have hc : (0 : Int) < c := by omega
  rcases Int.lt_trichotomy x y with hx | hx | hx
  · rw [Int.compare_eq_lt.2 hx, Int.compare_eq_lt.2 (Int.mul_lt_mul_of_pos_right hx hc)]
  · subst hx; simp
  · rw [Int.compare_eq_gt.2 hx, Int.compare_eq_gt.2 (Int.mul_lt_mul_of_pos_right hx hc)]
theorem sgn_mono (s t : Bool) (a b : Nat) : compare (sgn s (magF a)) (sgn t (magF b)) = compare (sgn s a) (sgn t b) := by
  have key : ∀ x y : Nat, (magF x < magF y ↔ x < y) ∧ (magF x = magF y ↔ x = y) := fun x y => by
    rcases Nat.lt_trichotomy x y with h | h | h
    · have := magF_lt h; constructor <;> constructor <;> intro _ <;> omega
    · subst h; simp
    · have := magF_lt h; constructor <;> constructor <;> intro _ <;> omega
  have k0 := key a b
  have ka := key 0 a
  have kb := key 0 b
  rw [magF_zero] at ka kb
  generalize magF a = ma at *
  generalize magF b = mb at *
  have hh : ∀ x y x' y' : Int, (x < y ↔ x' < y') → (x = y ↔ x' = y') → compare x y = compare x' y' := fun x y x' y' h1 h2 => by
    rcases Int.lt_trichotomy x y with h | h | h
    · rw [Int.compare_eq_lt.2 h, Int.compare_eq_lt.2 (h1.1 h)]
    · rw [Int.compare_eq_eq.2 h, Int.compare_eq_eq.2 (h2.1 h)]
    · have h3 : ¬ x' < y' := fun c => by have := h1.2 c; omega
      have h4 : ¬ x' = y' := fun c => by have := h2.2 c; omega
      rw [Int.compare_eq_gt.2 h, Int.compare_eq_gt.2 (by omega)]
  apply hh <;> cases s <;> cases t <;> simp only [sgn, Bool.false_eq_true, if_false, if_true] <;> constructor <;> intro _ <;> omega

/-- a number's datum, against the rung's magnitude -/
theorem read_num {w : Nat} (h : w % 9223372036854775808 < 9218868437227405312) :
    ∃ m p, Ieee.double.read w = .number (w / 9223372036854775808 % 2 == 1) m p ∧ -1074 ≤ p ∧ m * 2 ^ (p + 1074).toNat = magF (w % 9223372036854775808) := by
  rw [read_eq]
  unfold magF
  by_cases h1 : w % 9223372036854775808 < 4503599627370496
  · rw [if_pos h1, if_pos h1]
    exact ⟨_, _, rfl, by omega, by simp⟩
  · rw [if_neg h1, if_neg h1, if_pos h]
    refine ⟨_, _, rfl, by omega, ?_⟩
    congr 2
    omega
/-- a word as a whole number that rises with what it stands for -/
def keyF (w : Nat) : Int := sgn (w / 9223372036854775808 % 2 == 1) (w % 9223372036854775808)
def isNanF (w : Nat) : Bool := decide (9218868437227405312 < w % 9223372036854775808)
theorem order_nan {a b : Nat} (h : isNanF a = true ∨ isNanF b = true) : Ieee.double.order a b = none := by
  have hn : ∀ w, isNanF w = true → ∃ s t, Ieee.double.read w = .nan s t := fun w hw => by
    have := of_decide_eq_true hw
    rw [read_eq, if_neg (by omega), if_neg (by omega), if_neg (by omega)]
    exact ⟨_, _, rfl⟩
  unfold Format.order
  rcases h with h | h
  · obtain ⟨s, t, e⟩ := hn a h
    rw [e]
    cases Ieee.double.read b <;> rfl
  · obtain ⟨s, t, e⟩ := hn b h
    rw [e]
    cases Ieee.double.read a <;> rfl
theorem read_inf {w : Nat} (h : w % 9223372036854775808 = 9218868437227405312) : Ieee.double.read w = .infinity (w / 9223372036854775808 % 2 == 1) := by
  rw [read_eq, if_neg (by omega), if_neg (by omega), if_pos h]
theorem order_num {a b : Nat} (ha : isNanF a = false) (hb : isNanF b = false) : Ieee.double.order a b = some (compare (keyF a) (keyF b)) := by
  have ha := of_decide_eq_false ha
  have hb := of_decide_eq_false hb
  unfold Format.order keyF
  generalize hs : (a / 9223372036854775808 % 2 == 1) = s
  generalize ht : (b / 9223372036854775808 % 2 == 1) = t
  by_cases ia : a % 9223372036854775808 = 9218868437227405312
  · rw [read_inf ia, hs, ia]
    by_cases ib : b % 9223372036854775808 = 9218868437227405312
    · rw [read_inf ib, ht, ib]
      cases s <;> cases t <;> rfl
    · obtain ⟨m, p, e, _, _⟩ := read_num (w := b) (by omega)
      rw [e]
      generalize b % 9223372036854775808 = r at *
      simp only [Datum.order]
      cases s
      · simp only [Bool.false_eq_true, if_false]
        rw [Int.compare_eq_gt.2 (by unfold sgn; cases t <;> simp <;> omega)]
      · simp only [if_true]
        rw [Int.compare_eq_lt.2 (by unfold sgn; cases t <;> simp <;> omega)]
  · by_cases ib : b % 9223372036854775808 = 9218868437227405312
    · obtain ⟨m, p, e, _, _⟩ := read_num (w := a) (by omega)
      rw [read_inf ib, ht, ib, e]
      generalize a % 9223372036854775808 = r at *
      simp only [Datum.order]
      cases t
      · simp only [Bool.false_eq_true, if_false]
        rw [Int.compare_eq_lt.2 (by unfold sgn; cases s <;> simp <;> omega)]
      · simp only [if_true]
        rw [Int.compare_eq_gt.2 (by unfold sgn; cases s <;> simp <;> omega)]
    · obtain ⟨m, p, e, hp, hm⟩ := read_num (w := a) (by omega)
      obtain ⟨n, q, e2, hq, hn⟩ := read_num (w := b) (by omega)
      rw [e, e2, hs, ht]
      simp only [Datum.order]
      congr 1
      rw [signed_eq, signed_eq, ← sgn_mono s t (a % 9223372036854775808) (b % 9223372036854775808), ← hm, ← hn]
      have hb1 : (p + 1074).toNat = (p - min p q).toNat + (min p q + 1074).toNat := by omega
      have hb2 : (q + 1074).toNat = (q - min p q).toNat + (min p q + 1074).toNat := by omega
      rw [hb1, hb2, Nat.pow_add, Nat.pow_add, ← Nat.mul_assoc, ← Nat.mul_assoc, sgn_mul s (m * 2 ^ (p - min p q).toNat) (2 ^ (min p q + 1074).toNat), sgn_mul t (n * 2 ^ (q - min p q).toNat) (2 ^ (min p q + 1074).toNat), cmp_mul (Nat.two_pow_pos _)]
theorem order_self (a : Nat) : (Ieee.double.order a a != some .eq) = isNanF a := by
  cases h : isNanF a with
  | true => rw [order_nan (.inl h)]; rfl
  | false =>
    rw [order_num h h, Int.compare_eq_eq.2 rfl]
    rfl

/-! ### whole numbers -/
/-- the kept digits of a whole number, of which d are dropped: to the nearest, ties to even -/
def keepE (n d : Nat) : Nat := n / 2 ^ d + (if 2 ^ d < 2 * (n % 2 ^ d) ∨ (2 ^ d = 2 * (n % 2 ^ d) ∧ n / 2 ^ d % 2 = 1) then 1 else 0)
theorem cut_even (neg : Bool) (n d : Nat) (h : d ≤ n.log2 + 2) : Toward.even.cut neg n d = keepE n d := by
  unfold Toward.cut keepE
  simp only [Nat.min_eq_left h, Nat.one_shiftLeft]
  congr 1
  by_cases c : 2 ^ d < 2 * (n % 2 ^ d) ∨ (2 ^ d = 2 * (n % 2 ^ d) ∧ n / 2 ^ d % 2 = 1)
  · rw [if_pos c]
    have : (decide (2 ^ d < 2 * (n % 2 ^ d)) || (2 ^ d == 2 * (n % 2 ^ d)) && (n / 2 ^ d % 2 == 1)) = true := by simpa using c
    rw [this]; rfl
  · rw [if_neg c]
    have : (decide (2 ^ d < 2 * (n % 2 ^ d)) || (2 ^ d == 2 * (n % 2 ^ d)) && (n / 2 ^ d % 2 == 1)) = false := by
      rw [Bool.eq_false_iff]
      intro h
      exact c (by simpa using h)
    rw [this]; rfl
theorem keepE_mono {m n : Nat} (d : Nat) (h : m ≤ n) : keepE m d ≤ keepE n d := by
  unfold keepE
  have hp : 0 < 2 ^ d := Nat.two_pow_pos _
  have hm := Nat.div_add_mod m (2 ^ d)
  have hn := Nat.div_add_mod n (2 ^ d)
  have lm := Nat.mod_lt m hp
  have ln := Nat.mod_lt n hp
  have hq : m / 2 ^ d ≤ n / 2 ^ d := Nat.div_le_div_right h
  rcases Nat.lt_or_ge (m / 2 ^ d) (n / 2 ^ d) with hlt | hge
  · split <;> split <;> omega
  · have e : m / 2 ^ d = n / 2 ^ d := by omega
    rw [e] at hm ⊢
    have hr : m % 2 ^ d ≤ n % 2 ^ d := by omega
    split <;> split <;> omega
theorem keepE_zero (n : Nat) : keepE n 0 = n := by
  unfold keepE
  simp [Nat.mod_one]
/-- the digits that are kept of a whole number -/
def keptN (m : Nat) : Nat := if m.log2 ≤ 52 then m * 2 ^ (52 - m.log2) else keepE m (m.log2 - 52)
/-- the rung of a whole number -/
def rungN (m : Nat) : Nat := if m = 0 then 0 else (m.log2 + 1022) * 4503599627370496 + keptN m
theorem log_lt {m k : Nat} (hm : m < 2 ^ k) (h0 : m ≠ 0) : m.log2 < k := by
  have := Nat.log2_self_le h0
  exact (Nat.pow_lt_pow_iff_right (by omega)).1 (Nat.lt_of_le_of_lt this hm)
theorem kept_bd {m : Nat} (h0 : m ≠ 0) : 4503599627370496 ≤ keptN m ∧ keptN m ≤ 9007199254740992 := by
  have h1 := Nat.log2_self_le h0
  have h2 := Nat.lt_log2_self (n := m)
  unfold keptN
  by_cases h : m.log2 ≤ 52
  · rw [if_pos h]
    have hp : 0 < 2 ^ (52 - m.log2) := Nat.two_pow_pos _
    have e1 : 2 ^ m.log2 * 2 ^ (52 - m.log2) = 4503599627370496 := by rw [← Nat.pow_add, show m.log2 + (52 - m.log2) = 52 by omega]
    have a1 := Nat.mul_le_mul_right (2 ^ (52 - m.log2)) h1
    have a2 := (Nat.mul_lt_mul_right hp).2 h2
    rw [e1] at a1
    rw [Nat.pow_succ, Nat.mul_right_comm, e1] at a2
    omega
  · rw [if_neg h]
    unfold keepE
    have hp : 0 < 2 ^ (m.log2 - 52) := Nat.two_pow_pos _
    have e1 : 4503599627370496 * 2 ^ (m.log2 - 52) = 2 ^ m.log2 := by
      rw [show (4503599627370496 : Nat) = 2 ^ 52 by decide, ← Nat.pow_add, show 52 + (m.log2 - 52) = m.log2 by omega]
    have a1 : 4503599627370496 ≤ m / 2 ^ (m.log2 - 52) := (Nat.le_div_iff_mul_le hp).2 (by rw [e1]; exact h1)
    have a2 : m / 2 ^ (m.log2 - 52) < 9007199254740992 := (Nat.div_lt_iff_lt_mul hp).2 (by
      rw [show (9007199254740992 : Nat) = 4503599627370496 * 2 by decide, Nat.mul_right_comm, e1, ← Nat.pow_succ]
      exact h2)
    split <;> omega
theorem nearest_eq (neg : Bool) {m : Nat} (hm : m < 2 ^ 64) : Ieee.double.nearest neg m 0 = (if neg then 9223372036854775808 + rungN m else rungN m) := by
  have hW : ∀ r, Ieee.double.word neg r = (if neg then 9223372036854775808 + r else r) := fun r => rfl
  unfold Format.nearest
  by_cases h0 : m = 0
  · rw [if_pos h0, hW]
    simp [rungN, h0]
  · rw [if_neg h0]
    have hl := log_lt hm h0
    have hk := kept_bd h0
    have e1 : max ((0 : Int) + (m.log2 : Nat) - (Ieee.double.fractionBits : Nat)) Ieee.double.leastPlace = (m.log2 : Int) - 52 := by
      show max ((0 : Int) + (m.log2 : Nat) - 52) (-1074) = _
      omega
    simp only [e1]
    have e2 : Toward.even.cut neg (m <<< ((0 : Int) - ((m.log2 : Int) - 52)).toNat) (((m.log2 : Int) - 52) - 0).toNat = keptN m := by
      unfold keptN
      by_cases h : m.log2 ≤ 52
      · rw [if_pos h, show (((m.log2 : Int) - 52) - 0).toNat = 0 by omega, show ((0 : Int) - ((m.log2 : Int) - 52)).toNat = 52 - m.log2 by omega, cut_even _ _ _ (by omega), keepE_zero, Nat.shiftLeft_eq]
      · rw [if_neg h, show (((m.log2 : Int) - 52) - 0).toNat = m.log2 - 52 by omega, show ((0 : Int) - ((m.log2 : Int) - 52)).toNat = 0 by omega, Nat.shiftLeft_zero, cut_even _ _ _ (by omega)]
    rw [e2, hW]
    have e3 : (((m.log2 : Int) - 52) - Ieee.double.leastPlace).toNat = m.log2 + 1022 := by
      show (((m.log2 : Int) - 52) - (-1074)).toNat = _
      omega
    rw [e3]
    have e4 : Ieee.double.binade = 4503599627370496 := rfl
    have e5 : Ieee.double.infRung = 9218868437227405312 := rfl
    rw [e4, e5, Nat.min_eq_left (by omega)]
    simp [rungN, h0]
theorem rungN_lt {m : Nat} (hm : m < 2 ^ 64) : rungN m < 9218868437227405312 := by
  unfold rungN
  by_cases h0 : m = 0
  · rw [if_pos h0]; omega
  · rw [if_neg h0]
    have hl := log_lt hm h0
    have hk := kept_bd h0
    omega
theorem log_mono {m n : Nat} (h : m ≤ n) (h0 : m ≠ 0) : m.log2 ≤ n.log2 := by
  have h1 := Nat.log2_self_le h0
  have h2 := Nat.lt_log2_self (n := n)
  have : 2 ^ m.log2 < 2 ^ (n.log2 + 1) := by omega
  have := (Nat.pow_lt_pow_iff_right (a := 2) (by omega)).1 this
  omega
theorem rungN_mono {m n : Nat} (h : m ≤ n) : rungN m ≤ rungN n := by
  unfold rungN
  by_cases h0 : m = 0
  · rw [if_pos h0]; omega
  · rw [if_neg h0, if_neg (by omega)]
    have hl := log_mono h h0
    have k1 := kept_bd h0
    have k2 := kept_bd (m := n) (by omega)
    rcases Nat.lt_or_ge m.log2 n.log2 with hlt | hge
    · omega
    · have e : m.log2 = n.log2 := by omega
      have : keptN m ≤ keptN n := by
        unfold keptN
        rw [e]
        split
        · exact Nat.mul_le_mul_right _ h
        · exact keepE_mono _ h
      rw [e]
      omega
/-- the word of a whole number -/
def ofIntF (n : Int) : Nat := FloatKind.f64.nearest n
theorem ofIntF_eq {n : Int} (h : n.natAbs < 2 ^ 64) : ofIntF n = if n < 0 then 9223372036854775808 + rungN n.natAbs else rungN n.natAbs := by
  show Ieee.double.nearest (decide (n < 0)) n.natAbs 0 = _
  rw [nearest_eq _ h]
  by_cases c : n < 0 <;> simp [c]
theorem ofIntF_lt {n : Int} (h : n.natAbs < 2 ^ 64) : ofIntF n < 18446744073709551616 := by
  have := rungN_lt h
  rw [ofIntF_eq h]
  split <;> omega
theorem ofIntF_nan {n : Int} (h : n.natAbs < 2 ^ 64) : isNanF (ofIntF n) = false := by
  have := rungN_lt h
  rw [ofIntF_eq h]
  unfold isNanF
  apply decide_eq_false
  split <;> omega
theorem keyF_int {n : Int} (h : n.natAbs < 2 ^ 64) : keyF (ofIntF n) = if n < 0 then -(rungN n.natAbs : Int) else (rungN n.natAbs : Int) := by
  have := rungN_lt h
  rw [ofIntF_eq h]
  unfold keyF sgn
  by_cases c : n < 0
  · rw [if_pos c, if_pos c]
    have e1 : (9223372036854775808 + rungN n.natAbs) / 9223372036854775808 % 2 = 1 := by omega
    have e2 : (9223372036854775808 + rungN n.natAbs) % 9223372036854775808 = rungN n.natAbs := by omega
    rw [e1, e2]
    rfl
  · rw [if_neg c, if_neg c]
    have e1 : rungN n.natAbs / 9223372036854775808 % 2 = 0 := by omega
    have e2 : rungN n.natAbs % 9223372036854775808 = rungN n.natAbs := by omega
    rw [e1, e2]
    rfl
theorem key_mono {m n : Int} (hm : m.natAbs < 2 ^ 64) (hn : n.natAbs < 2 ^ 64) (h : m ≤ n) : keyF (ofIntF m) ≤ keyF (ofIntF n) := by
  rw [keyF_int hm, keyF_int hn]
  by_cases c1 : m < 0
  · by_cases c2 : n < 0
    · rw [if_pos c1, if_pos c2]
      have := rungN_mono (m := n.natAbs) (n := m.natAbs) (by omega)
      omega
    · rw [if_pos c1, if_neg c2]; omega
  · rw [if_neg c1, if_neg (by omega)]
    have := rungN_mono (m := m.natAbs) (n := n.natAbs) (by omega)
    omega
/-- of whole numbers near nought the float is that number -/
theorem toInt_int {n : Int} (h : n.natAbs < 9007199254740992) : (FloatKind.f64.decode (ofIntF n)).toInt .zero = some n := by
  show (Ieee.double.read (ofIntF n)).toInt .zero = some n
  have h64 : n.natAbs < 2 ^ 64 := by omega
  have hr := rungN_lt h64
  obtain ⟨m, hm⟩ : ∃ m, n.natAbs = m := ⟨_, rfl⟩
  have hs : (ofIntF n / 9223372036854775808 % 2 == 1) = decide (n < 0) ∧ ofIntF n % 9223372036854775808 = rungN m := by
    rw [ofIntF_eq h64]
    rw [hm] at hr ⊢
    by_cases c : n < 0
    · rw [if_pos c]
      refine ⟨?_, by omega⟩
      rw [show (9223372036854775808 + rungN m) / 9223372036854775808 % 2 = 1 by omega]
      simp [c]
    · rw [if_neg c]
      refine ⟨?_, by omega⟩
      rw [show rungN m / 9223372036854775808 % 2 = 0 by omega]
      simp [c]
  rw [read_eq, hs.1, hs.2]
  rw [hm] at hr h h64
  by_cases h0 : m = 0
  · subst h0
    obtain rfl : n = 0 := by omega
    decide
  · have hl := log_lt (k := 53) (m := m) (by omega) h0
    have hk := kept_bd h0
    have hkk : keptN m = m * 2 ^ (52 - m.log2) := by unfold keptN; rw [if_pos (by omega)]
    have hk2 : keptN m < 9007199254740992 := by
      have h2 := Nat.lt_log2_self (n := m)
      have hp : 0 < 2 ^ (52 - m.log2) := Nat.two_pow_pos _
      have e1 : 2 ^ m.log2 * 2 ^ (52 - m.log2) = 4503599627370496 := by rw [← Nat.pow_add, show m.log2 + (52 - m.log2) = 52 by omega]
      have a2 := (Nat.mul_lt_mul_right hp).2 h2
      rw [Nat.pow_succ, Nat.mul_right_comm, e1] at a2
      omega
    have hrr : rungN m = (m.log2 + 1022) * 4503599627370496 + keptN m := by unfold rungN; rw [if_neg h0]
    rw [if_neg (by omega), if_pos hr]
    unfold Datum.toInt Datum.integral
    simp only
    have e1 : 4503599627370496 + rungN m % 4503599627370496 = keptN m := by omega
    have e2 : (-1074 + ((rungN m / 4503599627370496 - 1 : Nat) : Int)) = (m.log2 : Int) - 52 := by omega
    rw [e1, e2, show ((m.log2 : Int) - 52).toNat = 0 by omega, Nat.shiftLeft_zero, show (-((m.log2 : Int) - 52)).toNat = 52 - m.log2 by omega, hkk]
    have e3 : Toward.zero.cut (decide (n < 0)) (m * 2 ^ (52 - m.log2)) (52 - m.log2) = m := by
      have hp : 0 < 2 ^ (52 - m.log2) := Nat.two_pow_pos _
      have hlog : 52 - m.log2 ≤ (m * 2 ^ (52 - m.log2)).log2 + 2 := by
        have : 2 ^ (52 - m.log2) ≤ m * 2 ^ (52 - m.log2) := Nat.le_mul_of_pos_left _ (by omega)
        have h2 := Nat.lt_log2_self (n := m * 2 ^ (52 - m.log2))
        have := (Nat.pow_lt_pow_iff_right (a := 2) (by omega)).1 (Nat.lt_of_le_of_lt this h2)
        omega
      unfold Toward.cut
      simp only [Nat.min_eq_left hlog, Nat.one_shiftLeft, Nat.mul_div_cancel _ hp]
      rfl
    rw [e3, signed_eq]
    unfold sgn
    by_cases c : n < 0
    · simp [c]; omega
    · simp [c]; omega
end Go.Proofs.YtipoeidmblnbbaaGreatDoor
