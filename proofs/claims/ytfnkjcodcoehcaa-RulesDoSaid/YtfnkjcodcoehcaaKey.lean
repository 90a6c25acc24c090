/- A schema's keys as plain data, how they lie in cells, and the map of a schema: what is looked up in it and stored. -/
import Derived.Test.YtfnkjcodcoehcaaTypes
import Derived.Maps.OwnOps
import Derived.MapKept
namespace Go.Proofs.Ytfnkjcodcoehcaa
open Go.RowKit Go.MapKept
set_option linter.unusedVariables false
set_option linter.unusedSimpArgs false

structure Ky where
  id : Int
  block : Bool
  kind : Int
  after : Bool
  before : Bool
  group : Int
deriving DecidableEq
def Ky.enc (k : Ky) : List Value := [.int .i64 k.id, .bool k.block, .int .u8 k.kind, .bool k.after, .bool k.before, .int .i64 k.group]
def Ky.val (k : Ky) : Value := .agg #[.int .i64 k.id, .bool k.block, .int .u8 k.kind, .bool k.after, .bool k.before, .int .i64 k.group]
def Ky.zero : Ky := ⟨0, false, 0, false, false, 0⟩
theorem Ky.enc_len (k : Ky) : k.enc.length = 6 := rfl
theorem Ky.enc_one (k : Ky) : ∀ u ∈ k.enc, u.oneCell' = true := by intro u hu; simp [Ky.enc] at hu; rcases hu with rfl | rfl | rfl | rfl | rfl | rfl <;> rfl
abbrev RdKy := @Rd Ky Ky.enc 6
abbrev OwKy := @Ow Ky Ky.enc 6 53
theorem Try.infoKy : (Try.prog.info? 53).map (fun i => (i.zero, i.size, i.bytes)) = some (some (Ky.val Ky.zero), 6, 24) := by kernel_rfl
theorem Try.slKy : Try.prog.underlying 22 = some (.slice 53) := by kernel_rfl
theorem Try.mpKy : Try.prog.underlying 57 = some (.map 3 53) := by kernel_rfl
theorem Try.mpInt : Try.prog.underlying 3 = some (.int .i64) := by kernel_rfl
theorem Try.zeroKy (w : World) : (zeroValue 53).run Try.prog w = .ok (Ky.val Ky.zero) w := by kernel_rfl

section
variable {w : World} {p : Addr}
theorem ky_cells {i g n : Int} {b a f : Bool} (h : CellsAt w p (Ky.enc ⟨i, b, n, a, f, g⟩)) :
    w.cell? p = some (.int .i64 i) ∧ w.cell? { block := p.block, off := p.off + 1 } = some (.bool b) ∧ w.cell? { block := p.block, off := p.off + 2 } = some (.int .u8 n) ∧ w.cell? { block := p.block, off := p.off + 3 } = some (.bool a) ∧ w.cell? { block := p.block, off := p.off + 4 } = some (.bool f) ∧ w.cell? { block := p.block, off := p.off + 5 } = some (.int .i64 g) := by
  have h0 := h 0 _ rfl
  rw [add_zero'] at h0
  exact ⟨h0, cellsAt_lit h 0 rfl, cellsAt_lit h 1 rfl, cellsAt_lit h 2 rfl, cellsAt_lit h 3 rfl, cellsAt_lit h 4 rfl⟩
theorem box_ky {b : Nat} {t : TypeId} {c0 c1 c2 c3 c4 c5 : Value} (h : w.heap[b]? = some (.cells #[c0, c1, c2, c3, c4, c5] t (0, 0))) :
    w.cell? ⟨b, 0, none⟩ = some c0 ∧ w.cell? ⟨b, 1, none⟩ = some c1 ∧ w.cell? ⟨b, 2, none⟩ = some c2 ∧ w.cell? ⟨b, 3, none⟩ = some c3 ∧ w.cell? ⟨b, 4, none⟩ = some c4 ∧ w.cell? ⟨b, 5, none⟩ = some c5 := by
  simp [World.cell?, h]
theorem box_2 {b : Nat} {t : TypeId} {c0 c1 : Value} (h : w.heap[b]? = some (.cells #[c0, c1] t (0, 0))) : w.cell? ⟨b, 0, none⟩ = some c0 ∧ w.cell? ⟨b, 1, none⟩ = some c1 := by
  simp [World.cell?, h]
theorem box_1 {b : Nat} {t : TypeId} {c0 : Value} (h : w.heap[b]? = some (.cells #[c0] t (0, 0))) : w.cell? ⟨b, 0, none⟩ = some c0 := by
  simp [World.cell?, h]
end


section
variable {ops : Array Oper} {rest : List Oper} {o : Oper} {a : Act} {Q : Exit → Act → World → Prop} {w : World} {base : Nat} {v : Value}
theorem app_ky {l m : List Ky} (hgd : o.guard = none) (s x : Operand)
    (ho : o.op = .call { callee := .builtin .append, args := #[s, x], argTypes := #[22, 22] })
    (hsv : a.eval s = v) (hown : OwKy w base v l) (B : Nat) (A : Option Addr) (c n : Nat) (hx : a.eval x = .slice A n c) (hn : n = m.length) (hr : RdKy w B A m)
    (hb : l.length + m.length ≤ 2000000000000) (hbase : base ≤ w.heap.size)
    (h : ∀ v' w', OwKy w' base v' (l ++ m) → w.grownBy w' (wb v) → (v' = v ∧ w' = w ∨ wb v' = wb v ∨ wb v' = some w.heap.size) → wpList Try.prog ops Q rest (a.put o.dst v') w') : wpList Try.prog ops Q (o :: rest) a w := by
  obtain ⟨i0, hi0, hz0, hz1, hz2⟩ := info_parts Try.infoKy
  exact wpList_app hgd s x _ ho i0 _ 24 Try.slKy hi0 hz0 hz1 hz2 rfl (by omega) Ky.enc_len Ky.enc_one hsv hown B A c n hx hn hr (by simp only [maxLen]; omega) (by omega) hbase h
end
/-- a list of keys in new memory -/
def NewKy (r : List Ky) (w : World) (e : Ending) (w' : World) : Prop :=
  ∃ A c, e = .returned (.slice A r.length c) ∧ OwKy w' w.heap.size (.slice A r.length c) r ∧ Below w.heap.size w w'

/-- the key with an ID -/
def findK (l : List Ky) (id : Int) : Option Ky := l.find? (fun k => decide (k.id = id))
def kvOf (k : Ky) : Value × Value := (.int .i64 k.id, k.val)
/-- block b is a map that holds just these keys, each under its ID -/
def MapK (w : World) (b : Nat) (l : List Ky) : Prop := ∃ es clock, w.heap[b]? = some (.map es clock) ∧ es.toList.map (fun e => (e.key, e.val)) = l.map kvOf

theorem findNow_keys (id : Int) : ∀ (l : List Ky) (es : List MapEntry) (i : Nat), es.map (fun e => (e.key, e.val)) = l.map kvOf →
    ∃ r, Instr.findNow (.int .i64) (.int .i64 id) es i = some r ∧ r.map (·.2) = (findK l id).map Ky.val
  | [], [], i, _ => ⟨none, rfl, rfl⟩
  | [], e :: es, i, h => by simp at h
  | k :: l, [], i, h => by simp at h
  | k :: l, e :: es, i, h => by
    simp only [List.map_cons, List.cons.injEq, kvOf, Prod.mk.injEq] at h
    obtain ⟨⟨h1, h2⟩, h3⟩ := h
    by_cases hk : k.id = id
    · refine ⟨some (i, e.val), ?_, ?_⟩
      · simp [Instr.findNow, Instr.sameNow, h1, hk]
      · simp [findK, hk, h2]
    · obtain ⟨r, hr, he⟩ := findNow_keys id l es (i + 1) h3
      refine ⟨r, ?_, ?_⟩
      · have : (id == k.id) = false := by simp; omega
        simp [Instr.findNow, Instr.sameNow, h1, this, hr]
      · rw [he]; simp [findK, hk]

theorem MapK.look {w : World} {b : Nat} {l : List Ky} (h : MapK w b l) (id : Int) :
    (Instr.lookup 57 (.map (some b)) (.int .i64 id) true).run Try.prog w = .ok (.tuple #[((findK l id).getD Ky.zero).val, .bool (findK l id).isSome]) w := by
  obtain ⟨es, clock, hb, he⟩ := h
  obtain ⟨r, hr, hv⟩ := findNow_keys id l es.toList 0 he
  have hf := run_findKey (P := Try.prog) (w := w) Try.mpInt hr
  have hc := fun e => run_checkKey (P := Try.prog) (w := w) (k := .int .i64 id) Try.mpInt (by simp [IsKey]) e 9999
  cases r with
  | none =>
    have : findK l id = none := by cases hq : findK l id with
      | none => rfl
      | some k => rw [hq] at hv; simp at hv
    simp [Instr.lookup, run_underlying Try.mpKy, MapKept.run_getObj_map hb, hc, hf, Try.zeroKy, Result.andThen, this]; rfl
  | some q =>
    obtain ⟨i, v⟩ := q
    cases hq : findK l id with
    | none => rw [hq] at hv; simp at hv
    | some k =>
      rw [hq] at hv
      simp at hv
      simp [Instr.lookup, run_underlying Try.mpKy, MapKept.run_getObj_map hb, hc, hf, Result.andThen, hv]

theorem MapK.store {w : World} {b : Nat} {l : List Ky} (h : MapK w b l) (k : Ky) (hn : findK l k.id = none) :
    ∃ w', (Instr.mapUpdate 57 (.map (some b)) (.int .i64 k.id) k.val).run Try.prog w = .ok () w' ∧ MapK w' b (l ++ [k]) ∧ (∀ j, j ≠ b → w'.heap[j]? = w.heap[j]?) ∧ w'.heap.size = w.heap.size ∧ w'.os = w.os ∧ w'.tape = w.tape ∧ w'.output = w.output := by
  obtain ⟨es, clock, hb, he⟩ := h
  obtain ⟨r, hr, hv⟩ := findNow_keys k.id l es.toList 0 he
  have hf := run_findKey (P := Try.prog) (w := w) Try.mpInt hr
  have hc := fun e => run_checkKey (P := Try.prog) (w := w) (k := .int .i64 k.id) Try.mpInt (by simp [IsKey]) e 9999
  rw [hn] at hv
  cases r with
  | some q => simp at hv
  | none =>
    obtain ⟨h1, h2⟩ := heap_set (o' := .map (es.push ⟨.int .i64 k.id, k.val, clock⟩) (clock + 1)) hb
    refine ⟨{ w with heap := w.heap.setIfInBounds b (.map (es.push ⟨.int .i64 k.id, k.val, clock⟩) (clock + 1)) }, ?_, ⟨_, _, h1, ?_⟩, h2, by simp, rfl, rfl, rfl⟩
    · simp [Instr.mapUpdate, run_underlying Try.mpKy, MapKept.run_getObj_map hb, hc, hf, MapKept.run_setObj_map _ hb, Result.andThen]
    · rw [Array.toList_push, List.map_append, he]; simp [kvOf]

theorem MapK.keep {w w' : World} {b : Nat} {l : List Ky} (h : MapK w b l) (e : w'.heap[b]? = w.heap[b]?) : MapK w' b l := by
  obtain ⟨es, clock, hb, he⟩ := h
  exact ⟨es, clock, e.trans hb, he⟩
end Go.Proofs.Ytfnkjcodcoehcaa
