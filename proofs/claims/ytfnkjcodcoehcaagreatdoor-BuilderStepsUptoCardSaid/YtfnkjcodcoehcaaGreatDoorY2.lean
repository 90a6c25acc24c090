/- Merged texts: Key, VaMake, Flo, RuReads, RuBytes, RuNext, RuWord, RuVal0, RuLaw. -/
import Derived.Maps.OwnOps
import Derived.MapKept
import Derived.Test.YtfnkjcodcoehcaaGreatDoorY1
import Derived.Laws.Externs
import Derived.Laws.BitsAllLaws
import Ieee.Arith
import GoSem.Core.Float
import Derived.Laws.FloatBits
import Derived.Deep.LoopGhost
import Derived.Deep.DeepMust
import Derived.Lib.ValidAsc
import Derived.Lib.EndianBits
import Derived.Shelf.Unicode.WordAny
import Derived.Lib.LaidU8
import Derived.Deep.CutBlock
import Derived.Deep.DeepCutAuto
import Derived.Deep.DeepBigQuietO
namespace Go.Proofs.YtfnkjcodcoehcaaGreatDoor
open Go.RowKit Go.MapKept
set_option linter.unusedVariables false
set_option linter.unusedSimpArgs false

structure Ky where
  id : Int
  block : Bool
  kind : Int
  after : Bool
  before : Bool
  group : Int
deriving DecidableEq
def Ky.enc (k : Ky) : List Value := [.int .i64 k.id, .bool k.block, .int .u8 k.kind, .bool k.after, .bool k.before, .int .i64 k.group]
def Ky.val (k : Ky) : Value := .agg #[.int .i64 k.id, .bool k.block, .int .u8 k.kind, .bool k.after, .bool k.before, .int .i64 k.group]
def Ky.zero : Ky := ⟨0, false, 0, false, false, 0⟩
theorem Ky.enc_len (k : Ky) : k.enc.length = 6 := rfl
theorem Ky.enc_one (k : Ky) : ∀ u ∈ k.enc, u.oneCell' = true := by intro u hu; simp [Ky.enc] at hu; rcases hu with rfl | rfl | rfl | rfl | rfl | rfl <;> rfl
abbrev RdKy := @Rd Ky Ky.enc 6
abbrev OwKy := @Ow Ky Ky.enc 6 97
theorem Tryz.infoKy : (Tryz.prog.info? 97).map (fun i => (i.zero, i.size, i.bytes)) = some (some (Ky.val Ky.zero), 6, 24) := by kernel_rfl
theorem Tryz.slKy : Tryz.prog.underlying 22 = some (.slice 97) := by kernel_rfl
theorem Tryz.mpKy : Tryz.prog.underlying 107 = some (.map 3 97) := by kernel_rfl
theorem Tryz.mpInt : Tryz.prog.underlying 3 = some (.int .i64) := by kernel_rfl
theorem Tryz.zeroKy (w : World) : (zeroValue 97).run Tryz.prog w = .ok (Ky.val Ky.zero) w := by kernel_rfl

section
variable {w : World} {p : Addr}
theorem ky_cells {i g n : Int} {b a f : Bool} (h : CellsAt w p (Ky.enc ⟨i, b, n, a, f, g⟩)) :
    w.cell? p = some (.int .i64 i) ∧ w.cell? { block := p.block, off := p.off + 1 } = some (.bool b) ∧ w.cell? { block := p.block, off := p.off + 2 } = some (.int .u8 n) ∧ w.cell? { block := p.block, off := p.off + 3 } = some (.bool a) ∧ w.cell? { block := p.block, off := p.off + 4 } = some (.bool f) ∧ w.cell? { block := p.block, off := p.off + 5 } = some (.int .i64 g) := by
  have h0 := h 0 _ rfl
  rw [add_zero'] at h0
  exact ⟨h0, cellsAt_lit h 0 rfl, cellsAt_lit h 1 rfl, cellsAt_lit h 2 rfl, cellsAt_lit h 3 rfl, cellsAt_lit h 4 rfl⟩
theorem box_ky {b : Nat} {t : TypeId} {c0 c1 c2 c3 c4 c5 : Value} (h : w.heap[b]? = some (.cells #[c0, c1, c2, c3, c4, c5] t (0, 0))) :
    w.cell? ⟨b, 0, none⟩ = some c0 ∧ w.cell? ⟨b, 1, none⟩ = some c1 ∧ w.cell? ⟨b, 2, none⟩ = some c2 ∧ w.cell? ⟨b, 3, none⟩ = some c3 ∧ w.cell? ⟨b, 4, none⟩ = some c4 ∧ w.cell? ⟨b, 5, none⟩ = some c5 := by
  simp [World.cell?, h]
theorem box_2 {b : Nat} {t : TypeId} {c0 c1 : Value} (h : w.heap[b]? = some (.cells #[c0, c1] t (0, 0))) : w.cell? ⟨b, 0, none⟩ = some c0 ∧ w.cell? ⟨b, 1, none⟩ = some c1 := by
  simp [World.cell?, h]
theorem box_1 {b : Nat} {t : TypeId} {c0 : Value} (h : w.heap[b]? = some (.cells #[c0] t (0, 0))) : w.cell? ⟨b, 0, none⟩ = some c0 := by
  simp [World.cell?, h]
end

section
variable {ops : Array Oper} {rest : List Oper} {o : Oper} {a : Act} {Q : Exit → Act → World → Prop} {w : World} {base : Nat} {v : Value}
theorem app_ky {l m : List Ky} (hgd : o.guard = none) (s x : Operand)
    (ho : o.op = .call { callee := .builtin .append, args := #[s, x], argTypes := #[22, 22] })
    (hsv : a.eval s = v) (hown : OwKy w base v l) (B : Nat) (A : Option Addr) (c n : Nat) (hx : a.eval x = .slice A n c) (hn : n = m.length) (hr : RdKy w B A m)
    (hb : l.length + m.length ≤ 2000000000000) (hbase : base ≤ w.heap.size)
    (h : ∀ v' w', OwKy w' base v' (l ++ m) → w.grownBy w' (wb v) → (v' = v ∧ w' = w ∨ wb v' = wb v ∨ wb v' = some w.heap.size) → wpList Tryz.prog ops Q rest (a.put o.dst v') w') : wpList Tryz.prog ops Q (o :: rest) a w := by
  obtain ⟨i0, hi0, hz0, hz1, hz2⟩ := info_parts Tryz.infoKy
  exact wpList_app hgd s x _ ho i0 _ 24 Tryz.slKy hi0 hz0 hz1 hz2 rfl (by omega) Ky.enc_len Ky.enc_one hsv hown B A c n hx hn hr (by simp only [maxLen]; omega) (by omega) hbase h
end
def NewKy (r : List Ky) (w : World) (e : Ending) (w' : World) : Prop :=
  ∃ A c, e = .returned (.slice A r.length c) ∧ OwKy w' w.heap.size (.slice A r.length c) r ∧ Below w.heap.size w w'

def findK (l : List Ky) (id : Int) : Option Ky := l.find? (fun k => decide (k.id = id))
def kvOf (k : Ky) : Value × Value := (.int .i64 k.id, k.val)
def MapK (w : World) (b : Nat) (l : List Ky) : Prop := ∃ es clock, w.heap[b]? = some (.map es clock) ∧ es.toList.map (fun e => (e.key, e.val)) = l.map kvOf

theorem findNow_keys (id : Int) : ∀ (l : List Ky) (es : List MapEntry) (i : Nat), es.map (fun e => (e.key, e.val)) = l.map kvOf →
    ∃ r, Instr.findNow (.int .i64) (.int .i64 id) es i = some r ∧ r.map (·.2) = (findK l id).map Ky.val
  | [], [], i, _ => ⟨none, rfl, rfl⟩
  | [], e :: es, i, h => by simp at h
  | k :: l, [], i, h => by simp at h
  | k :: l, e :: es, i, h => by
    simp only [List.map_cons, List.cons.injEq, kvOf, Prod.mk.injEq] at h
    obtain ⟨⟨h1, h2⟩, h3⟩ := h
    by_cases hk : k.id = id
    · refine ⟨some (i, e.val), ?_, ?_⟩
      · simp [Instr.findNow, Instr.sameNow, h1, hk]
      · simp [findK, hk, h2]
    · obtain ⟨r, hr, he⟩ := findNow_keys id l es (i + 1) h3
      refine ⟨r, ?_, ?_⟩
      · have : (id == k.id) = false := by simp; omega
        simp [Instr.findNow, Instr.sameNow, h1, this, hr]
      · rw [he]; simp [findK, hk]

theorem MapK.look {w : World} {b : Nat} {l : List Ky} (h : MapK w b l) (id : Int) :
    (Instr.lookup 107 (.map (some b)) (.int .i64 id) true).run Tryz.prog w = .ok (.tuple #[((findK l id).getD Ky.zero).val, .bool (findK l id).isSome]) w := by
  obtain ⟨es, clock, hb, he⟩ := h
  obtain ⟨r, hr, hv⟩ := findNow_keys id l es.toList 0 he
  have hf := run_findKey (P := Tryz.prog) (w := w) Tryz.mpInt hr
  have hc := fun e => run_checkKey (P := Tryz.prog) (w := w) (k := .int .i64 id) Tryz.mpInt (by simp [IsKey]) e 9999
  cases r with
  | none =>
    have : findK l id = none := by cases hq : findK l id with
      | none => rfl
      | some k => rw [hq] at hv; simp at hv
    simp [Instr.lookup, run_underlying Tryz.mpKy, MapKept.run_getObj_map hb, hc, hf, Tryz.zeroKy, Result.andThen, this]; rfl
  | some q =>
    obtain ⟨i, v⟩ := q
    cases hq : findK l id with
    | none => rw [hq] at hv; simp at hv
    | some k =>
      rw [hq] at hv
      simp at hv
      simp [Instr.lookup, run_underlying Tryz.mpKy, MapKept.run_getObj_map hb, hc, hf, Result.andThen, hv]

theorem MapK.store {w : World} {b : Nat} {l : List Ky} (h : MapK w b l) (k : Ky) (hn : findK l k.id = none) :
    ∃ w', (Instr.mapUpdate 107 (.map (some b)) (.int .i64 k.id) k.val).run Tryz.prog w = .ok () w' ∧ MapK w' b (l ++ [k]) ∧ (∀ j, j ≠ b → w'.heap[j]? = w.heap[j]?) ∧ w'.heap.size = w.heap.size ∧ w'.os = w.os ∧ w'.tape = w.tape ∧ w'.output = w.output := by
  obtain ⟨es, clock, hb, he⟩ := h
  obtain ⟨r, hr, hv⟩ := findNow_keys k.id l es.toList 0 he
  have hf := run_findKey (P := Tryz.prog) (w := w) Tryz.mpInt hr
  have hc := fun e => run_checkKey (P := Tryz.prog) (w := w) (k := .int .i64 k.id) Tryz.mpInt (by simp [IsKey]) e 9999
  rw [hn] at hv
  cases r with
  | some q => simp at hv
  | none =>
    obtain ⟨h1, h2⟩ := heap_set (o' := .map (es.push ⟨.int .i64 k.id, k.val, clock⟩) (clock + 1)) hb
    refine ⟨{ w with heap := w.heap.setIfInBounds b (.map (es.push ⟨.int .i64 k.id, k.val, clock⟩) (clock + 1)) }, ?_, ⟨_, _, h1, ?_⟩, h2, by simp, rfl, rfl, rfl⟩
    · simp [Instr.mapUpdate, run_underlying Tryz.mpKy, MapKept.run_getObj_map hb, hc, hf, MapKept.run_setObj_map _ hb, Result.andThen]
    · rw [Array.toList_push, List.map_append, he]; simp [kvOf]

theorem MapK.keep {w w' : World} {b : Nat} {l : List Ky} (h : MapK w b l) (e : w'.heap[b]? = w.heap[b]?) : MapK w' b l := by
  obtain ⟨es, clock, hb, he⟩ := h
  exact ⟨es, clock, e.trans hb, he⟩
open Go.RowKit
set_option linter.unusedVariables false
set_option linter.unusedSimpArgs false

def nanF (f : Int) : Bool := decide (9218868437227405312 < f % 9223372036854775808)
def floatV (f : Int) : V := ⟨3, 0, if nanF f = true then 9221120237041090560 else f, ⟨#[]⟩⟩
def flagV (b : Bool) : V := ⟨1, if b = true then 1 else 0, 0, ⟨#[]⟩⟩
def intV (n : Int) : V := ⟨2, n, 0, ⟨#[]⟩⟩
def textV (s : ByteArray) : V := ⟨4, 0, 0, s⟩

@[go_sem high] theorem run_frombits (n : Int) (w : World) : (callFunc 217 #[.int .u64 n]).run Tryz.prog w = .ok (.value (.float .f64 n.toNat)) w := by
  rw [run_callFunc_extern (fn := Tryz.f217) (e := Extern.MathFloatBits.float64frombits) Tryz.func217 (by kernel_rfl) (by kernel_rfl) (by kernel_rfl) (by kernel_rfl)]
  rfl
@[go_sem high] theorem run_bits (n : Nat) (w : World) : (callFunc 234 #[.float .f64 n]).run Tryz.prog w = .ok (.value (.int .u64 (n : Int))) w := by
  rw [run_callFunc_extern (fn := Tryz.f234) (e := Extern.MathFloatBits.float64bits) Tryz.func234 (by kernel_rfl) (by kernel_rfl) (by kernel_rfl) (by kernel_rfl)]
  rfl

theorem flag_any (b : Bool) (w : World) : Calls Tryz.prog 214 #[.bool b] w fun e w' => e = .returned (.agg #[.int .u8 1, .int .i64 (if b = true then 1 else 0), .int .u64 0, .string ⟨#[]⟩]) ∧ Below w.heap.size w w' := by
  cases b
  · go_enter Tryz.func214, Tryz.ntmps214
    go_wp2_with (fail)
    refine bodyPost_ret (v := .agg #[.int .u8 1, .int .i64 0, .int .u64 0, .string ⟨#[]⟩]) (by simp [results, Tryz.results214, go_sem]) rfl ?_
    exact ⟨rfl, ext_trans (ext_alloc w _) (ext_alloc _ _)⟩
  · go_enter Tryz.func214, Tryz.ntmps214
    go_wp2_with (fail)
    refine bodyPost_ret (v := .agg #[.int .u8 1, .int .i64 1, .int .u64 0, .string ⟨#[]⟩]) (by simp [results, Tryz.results214, go_sem]) rfl ?_
    exact ⟨rfl, ext_trans (ext_alloc w _) (ext_alloc _ _)⟩
theorem int_any (n : Int) (w : World) : Calls Tryz.prog 215 #[.int .i64 n] w fun e w' => e = .returned (.agg #[.int .u8 2, .int .i64 n, .int .u64 0, .string ⟨#[]⟩]) ∧ Below w.heap.size w w' := by
  go_enter Tryz.func215, Tryz.ntmps215
  go_wp2_with (fail)
  refine bodyPost_ret (v := .agg #[.int .u8 2, .int .i64 n, .int .u64 0, .string ⟨#[]⟩]) (by simp [results, Tryz.results215, go_sem]) rfl ?_
  exact ⟨rfl, ext_alloc w _⟩
open Ieee

theorem read_eq (w : Nat) : Ieee.double.read w =
    if w % 9223372036854775808 < 4503599627370496 then .number (w / 9223372036854775808 % 2 == 1) (w % 9223372036854775808) (-1074)
    else if w % 9223372036854775808 < 9218868437227405312 then
      .number (w / 9223372036854775808 % 2 == 1) (4503599627370496 + w % 9223372036854775808 % 4503599627370496) (-1074 + (w % 9223372036854775808 / 4503599627370496 - 1 : Nat))
    else if w % 9223372036854775808 = 9218868437227405312 then .infinity (w / 9223372036854775808 % 2 == 1)
    else .nan (w / 9223372036854775808 % 2 == 1) (w % 9223372036854775808 - 9218868437227405312) := rfl

def magF (r : Nat) : Nat := if r < 4503599627370496 then r else (4503599627370496 + r % 4503599627370496) * 2 ^ (r / 4503599627370496 - 1)
theorem magF_succ (r : Nat) : magF r < magF (r + 1) := by
  unfold magF
  by_cases h : r + 1 < 4503599627370496
  · rw [if_pos h, if_pos (by omega)]; omega
  · by_cases h2 : r < 4503599627370496
    · have e : r = 4503599627370495 := by omega
      subst e
      decide
    · rw [if_neg h2, if_neg h]
      by_cases h3 : (r + 1) % 4503599627370496 = 0
      · have e1 : r % 4503599627370496 = 4503599627370495 := by omega
        have e2 : (r + 1) / 4503599627370496 - 1 = (r / 4503599627370496 - 1) + 1 := by omega
        rw [h3, e1, e2, Nat.pow_succ]
        have hp : 0 < 2 ^ (r / 4503599627370496 - 1) := Nat.two_pow_pos _
        generalize 2 ^ (r / 4503599627370496 - 1) = p at *
        omega
      · have e1 : (r + 1) % 4503599627370496 = r % 4503599627370496 + 1 := by omega
        have e2 : (r + 1) / 4503599627370496 = r / 4503599627370496 := by omega
        rw [e1, e2]
        exact Nat.mul_lt_mul_of_pos_right (by omega) (Nat.two_pow_pos _)
theorem magF_lt {a b : Nat} (h : a < b) : magF a < magF b := by
  obtain ⟨k, rfl⟩ : ∃ k, b = a + 1 + k := ⟨b - (a + 1), by omega⟩
  clear h
  induction k with
  | zero => exact magF_succ a
  | succ k ih => exact Nat.lt_trans ih (magF_succ _)
theorem magF_zero : magF 0 = 0 := rfl

def sgn (s : Bool) (m : Nat) : Int := if s then -(m : Int) else (m : Int)
theorem signed_eq (s : Bool) (m u : Nat) : signed s m u = sgn s (m * 2 ^ u) := by
  unfold signed sgn
  rw [Nat.shiftLeft_eq]
theorem sgn_mul (s : Bool) (m c : Nat) : sgn s (m * c) = sgn s m * c := by
  unfold sgn
  cases s <;> simp [Int.neg_mul]
theorem cmp_mul {x y : Int} {c : Nat} (h : 0 < c) : compare (x * c) (y * c) = compare x y := by
  have hc : (0 : Int) < c := by omega
  rcases Int.lt_trichotomy x y with hx | hx | hx
  · rw [Int.compare_eq_lt.2 hx, Int.compare_eq_lt.2 (Int.mul_lt_mul_of_pos_right hx hc)]
  · subst hx; simp
  · rw [Int.compare_eq_gt.2 hx, Int.compare_eq_gt.2 (Int.mul_lt_mul_of_pos_right hx hc)]
theorem sgn_mono (s t : Bool) (a b : Nat) : compare (sgn s (magF a)) (sgn t (magF b)) = compare (sgn s a) (sgn t b) := by
  have key : ∀ x y : Nat, (magF x < magF y ↔ x < y) ∧ (magF x = magF y ↔ x = y) := fun x y => by
    rcases Nat.lt_trichotomy x y with h | h | h
    · have := magF_lt h; constructor <;> constructor <;> intro _ <;> omega
    · subst h; simp
    · have := magF_lt h; constructor <;> constructor <;> intro _ <;> omega
  have k0 := key a b
  have ka := key 0 a
  have kb := key 0 b
  rw [magF_zero] at ka kb
  generalize magF a = ma at *
  generalize magF b = mb at *
  have hh : ∀ x y x' y' : Int, (x < y ↔ x' < y') → (x = y ↔ x' = y') → compare x y = compare x' y' := fun x y x' y' h1 h2 => by
    rcases Int.lt_trichotomy x y with h | h | h
    · rw [Int.compare_eq_lt.2 h, Int.compare_eq_lt.2 (h1.1 h)]
    · rw [Int.compare_eq_eq.2 h, Int.compare_eq_eq.2 (h2.1 h)]
    · have h3 : ¬ x' < y' := fun c => by have := h1.2 c; omega
      have h4 : ¬ x' = y' := fun c => by have := h2.2 c; omega
      rw [Int.compare_eq_gt.2 h, Int.compare_eq_gt.2 (by omega)]
  apply hh <;> cases s <;> cases t <;> simp only [sgn, Bool.false_eq_true, if_false, if_true] <;> constructor <;> intro _ <;> omega

theorem read_num {w : Nat} (h : w % 9223372036854775808 < 9218868437227405312) :
    ∃ m p, Ieee.double.read w = .number (w / 9223372036854775808 % 2 == 1) m p ∧ -1074 ≤ p ∧ m * 2 ^ (p + 1074).toNat = magF (w % 9223372036854775808) := by
  rw [read_eq]
  unfold magF
  by_cases h1 : w % 9223372036854775808 < 4503599627370496
  · rw [if_pos h1, if_pos h1]
    exact ⟨_, _, rfl, by omega, by simp⟩
  · rw [if_neg h1, if_neg h1, if_pos h]
    refine ⟨_, _, rfl, by omega, ?_⟩
    congr 2
    omega
def keyF (w : Nat) : Int := sgn (w / 9223372036854775808 % 2 == 1) (w % 9223372036854775808)
def isNanF (w : Nat) : Bool := decide (9218868437227405312 < w % 9223372036854775808)
theorem order_nan {a b : Nat} (h : isNanF a = true ∨ isNanF b = true) : Ieee.double.order a b = none := by
  have hn : ∀ w, isNanF w = true → ∃ s t, Ieee.double.read w = .nan s t := fun w hw => by
    have := of_decide_eq_true hw
    rw [read_eq, if_neg (by omega), if_neg (by omega), if_neg (by omega)]
    exact ⟨_, _, rfl⟩
  unfold Format.order
  rcases h with h | h
  · obtain ⟨s, t, e⟩ := hn a h
    rw [e]
    cases Ieee.double.read b <;> rfl
  · obtain ⟨s, t, e⟩ := hn b h
    rw [e]
    cases Ieee.double.read a <;> rfl
theorem read_inf {w : Nat} (h : w % 9223372036854775808 = 9218868437227405312) : Ieee.double.read w = .infinity (w / 9223372036854775808 % 2 == 1) := by
  rw [read_eq, if_neg (by omega), if_neg (by omega), if_pos h]
theorem order_num {a b : Nat} (ha : isNanF a = false) (hb : isNanF b = false) : Ieee.double.order a b = some (compare (keyF a) (keyF b)) := by
  have ha := of_decide_eq_false ha
  have hb := of_decide_eq_false hb
  unfold Format.order keyF
  generalize hs : (a / 9223372036854775808 % 2 == 1) = s
  generalize ht : (b / 9223372036854775808 % 2 == 1) = t
  by_cases ia : a % 9223372036854775808 = 9218868437227405312
  · rw [read_inf ia, hs, ia]
    by_cases ib : b % 9223372036854775808 = 9218868437227405312
    · rw [read_inf ib, ht, ib]
      cases s <;> cases t <;> rfl
    · obtain ⟨m, p, e, _, _⟩ := read_num (w := b) (by omega)
      rw [e]
      generalize b % 9223372036854775808 = r at *
      simp only [Datum.order]
      cases s
      · simp only [Bool.false_eq_true, if_false]
        rw [Int.compare_eq_gt.2 (by unfold sgn; cases t <;> simp <;> omega)]
      · simp only [if_true]
        rw [Int.compare_eq_lt.2 (by unfold sgn; cases t <;> simp <;> omega)]
  · by_cases ib : b % 9223372036854775808 = 9218868437227405312
    · obtain ⟨m, p, e, _, _⟩ := read_num (w := a) (by omega)
      rw [read_inf ib, ht, ib, e]
      generalize a % 9223372036854775808 = r at *
      simp only [Datum.order]
      cases t
      · simp only [Bool.false_eq_true, if_false]
        rw [Int.compare_eq_lt.2 (by unfold sgn; cases s <;> simp <;> omega)]
      · simp only [if_true]
        rw [Int.compare_eq_gt.2 (by unfold sgn; cases s <;> simp <;> omega)]
    · obtain ⟨m, p, e, hp, hm⟩ := read_num (w := a) (by omega)
      obtain ⟨n, q, e2, hq, hn⟩ := read_num (w := b) (by omega)
      rw [e, e2, hs, ht]
      simp only [Datum.order]
      congr 1
      rw [signed_eq, signed_eq, ← sgn_mono s t (a % 9223372036854775808) (b % 9223372036854775808), ← hm, ← hn]
      have hb1 : (p + 1074).toNat = (p - min p q).toNat + (min p q + 1074).toNat := by omega
      have hb2 : (q + 1074).toNat = (q - min p q).toNat + (min p q + 1074).toNat := by omega
      rw [hb1, hb2, Nat.pow_add, Nat.pow_add, ← Nat.mul_assoc, ← Nat.mul_assoc, sgn_mul s (m * 2 ^ (p - min p q).toNat) (2 ^ (min p q + 1074).toNat), sgn_mul t (n * 2 ^ (q - min p q).toNat) (2 ^ (min p q + 1074).toNat), cmp_mul (Nat.two_pow_pos _)]
theorem order_self (a : Nat) : (Ieee.double.order a a != some .eq) = isNanF a := by
  cases h : isNanF a with
  | true => rw [order_nan (.inl h)]; rfl
  | false =>
    rw [order_num h h, Int.compare_eq_eq.2 rfl]
    rfl

/-! ### whole numbers -/

theorem ret_boolR {a b : Bool} (h : a = b) : Ending.returned (.bool a) = Ending.returned (.bool b) := by rw [h]
def QuietR (v : Value) (w : World) (e : Ending) (w' : World) : Prop := e = .returned v ∧ ∃ d, w' = w.drewN d

def nlR (l : List Int) : Nat := l.countP (fun r => r == 10)
theorem nlR_take {l : List Int} {i : Nat} {r : Int} (h : l[i]? = some r) : nlR (l.take (i + 1)) = nlR (l.take i) + (if r = 10 then 1 else 0) := by
  obtain ⟨hi, he⟩ := List.getElem?_eq_some_iff.1 h
  rw [List.take_succ_eq_append_getElem hi, he]
  simp [nlR, List.countP_append, List.countP_cons]
theorem nlR_le (l : List Int) (i : Nat) : nlR (l.take i) ≤ l.length := by
  have h1 := List.countP_le_length (p := fun r => r == (10 : Int)) (l := l.take i)
  have h2 := List.length_take (i := i) (l := l)
  unfold nlR
  omega

set_option maxHeartbeats 400000 in
theorem newlines_any (A : Option Addr) (n c : Nat) (l : List Int) (w : World) (hn : n = l.length) (h : RdI32 w w.heap.size A l) (hb : n ≤ 9223372036854775806) :
    Calls Tryz.prog 209 #[.slice A n c] w fun e w' => e = .returned (.int .i64 (nlR l : Nat)) ∧ w = w' := by
  have N := Lib.hid hn
  clear hn
  go_enter Tryz.func209, Tryz.ntmps209
  go_wp2_with (fail)
  go_loopg [3, 8] n (fun g kv iv wr => ∃ i k : Nat, i ≤ n ∧ g = n - i ∧ kv = .int .i64 (k : Int) ∧ iv = .int .i64 (i : Int) ∧ w = wr ∧ Hid (nlR (l.take i) = k))
  case atStart => exact ⟨0, 0, by omega, rfl, rfl, rfl, rfl, Lib.hid rfl⟩
  case round =>
    obtain ⟨i, k, hi, hg, rfl, rfl, rfl, HK⟩ := hrel
    have HG := Lib.hid hg
    clear hg
    by_cases hlt : i < n
    · obtain ⟨ad, r, rfl, _, _, hri, hc1⟩ := h.el (i := i) (by have := N.out; omega)
      have r0 : w.cell? (ad.add (i * 1)) = some (.int .i32 r) := by have := hc1 0 _ rfl; rwa [add_zero'] at this
      rw [Nat.mul_one] at r0
      have hk1 := nlR_take hri
      have hk2 := nlR_le l i
      rw [HK.out] at hk1 hk2
      have hkb : k ≤ n := by rw [N.out]; exact hk2
      clear hk2 hri hc1
      by_cases h10 : r = 10
      · rw [if_pos h10] at hk1
        subst h10
        have HK1 := Lib.hid hk1
        clear hk1
        go_wp2_with (fail)
        go_roundg (n - (i + 1))
        case measure => have := HG.out; omega
        case rel => exact ⟨i + 1, k + 1, by omega, rfl, by go_num, by go_num, rfl, HK1⟩
      · rw [if_neg h10] at hk1
        have HK1 := Lib.hid hk1
        clear hk1
        go_wp2_with (fail)
        go_roundg (n - (i + 1))
        case measure => have := HG.out; omega
        case rel => exact ⟨i + 1, k, by omega, rfl, rfl, by go_num, rfl, HK1⟩
    · have hl : nlR l = k := by rw [← HK.out, List.take_of_length_le (by have := N.out; omega)]
      have HL := Lib.hid hl
      clear hl
      go_wp2_with (fail)
      go_ret
      exact ⟨by rw [HL.out]; rfl, rfl⟩
set_option maxHeartbeats 400000 in
theorem refSame_any (A B : Option Addr) (n m c d : Nat) (l k : List Int) (w : World) (hn : n = l.length) (hm : m = k.length) (h1 : RdI32 w w.heap.size A l) (h2 : RdI32 w w.heap.size B k) (hb : n ≤ 140737488355328) (hb2 : m ≤ 140737488355328) :
    Calls Tryz.prog 59 #[.slice A n c, .slice B m d] w (QuietR (.bool (decide (l = k))) w) := by
  have N := Lib.hid hn
  have M := Lib.hid hm
  generalize hR : decide (l = k) = R
  have HR := Lib.hid hR
  clear hn hR hm
  by_cases hnm : (n : Int) = m
  · have hnm' : n = m := by omega
    subst hnm'
    clear hnm
    go_enter Tryz.func59, Tryz.ntmps59
    go_wp2_with (fail)
    go_loopg [5] n (fun g iv wr => ∃ i : Nat, i ≤ n ∧ g = n - i ∧ iv = .int .i64 (i : Int) ∧ (∃ d, wr = w.drewN d) ∧ Hid (decide (l.drop i = k.drop i) = R))
    case atStart => exact ⟨0, by omega, rfl, rfl, ⟨0, rfl⟩, Lib.hid (by rw [List.drop_zero, List.drop_zero]; exact HR.out)⟩
    case round =>
      obtain ⟨i, hi, hg, rfl, ⟨q, rfl⟩, HI⟩ := hrel
      have HG := Lib.hid hg
      clear hg HR
      by_cases hlt : i < n
      · have hl1 : i < l.length := by have := N.out; omega
        have hl2 : i < k.length := by have := M.out; omega
        obtain ⟨ad, x, rfl, _, hd1, _, hc1⟩ := h1.el hl1
        obtain ⟨ad2, y, rfl, _, hd2, _, hc2⟩ := h2.el hl2
        have HI' : Hid (decide (x :: l.drop (i + 1) = y :: k.drop (i + 1)) = R) := Lib.hid (by rw [← HI.out, hd1, hd2])
        clear HI hd1 hd2
        have r0 : w.cell? (ad.add (i * 1)) = some (.int .i32 x) := by have := hc1 0 _ rfl; rwa [add_zero'] at this
        have s0 : w.cell? (ad2.add (i * 1)) = some (.int .i32 y) := by have := hc2 0 _ rfl; rwa [add_zero'] at this
        rw [Nat.mul_one] at r0 s0
        clear hc1 hc2
        by_cases hxy : x = y
        · subst hxy
          go_wp2_with (go_quiet (fail))
          go_roundg (n - (i + 1))
          case measure => have := HG.out; omega
          case rel => exact ⟨i + 1, by omega, rfl, by go_num, ⟨_, rfl⟩, Lib.hid (by rw [← HI'.out]; simp only [List.cons.injEq, true_and])⟩
        · go_wp2_with (go_quiet (fail))
          go_ret
          exact ⟨ret_boolR (by rw [← HI'.out]; exact (decide_eq_false fun e => hxy (List.cons.inj e).1).symm), _, World.drewN_drewN _ _ _⟩
      · go_wp2_with (fail)
        go_ret
        exact ⟨ret_boolR (by rw [← HI.out, List.drop_eq_nil_of_le (by have := N.out; omega), List.drop_eq_nil_of_le (by have := M.out; omega)]; rfl), _, rfl⟩
  · have hne : ((n : Int) == m) = false := beq_eq_false_iff_ne.2 hnm
    go_enter Tryz.func59, Tryz.ntmps59
    go_wp2_with (fail)
    go_ret
    refine ⟨ret_boolR ?_, 0, rfl⟩
    rw [← HR.out]
    refine (decide_eq_false fun e => ?_).symm
    have h3 := N.out
    have h4 := M.out
    rw [e] at h3
    omega

theorem encR_len (r : Int) : 1 ≤ (encR r).length ∧ (encR r).length ≤ 4 := by
  unfold encR
  split
  · simp
  · split
    · simp
    · split <;> simp
theorem mayR_le {r : Int} (h : mayR r = true) : 0 ≤ r ∧ r ≤ 1114111 := by have := of_decide_eq_true h; omega

def contR (r : Int) : List Int → Option Int
  | [] => some r
  | x :: t => if 128 ≤ x ∧ x ≤ 191 then contR (r * 64 + x - 128) t else none
def headR (n : Nat) (r : Int) (b : List Int) : Int × Nat :=
  if b.length < n then (0, 0) else
  match contR r ((b.drop 1).take (n - 1)) with
  | none => (0, 0)
  | some r => if mayR r = true ∧ (encR r).length = n then (r, n) else (0, 0)
def nextR (b : List Int) : Int × Nat :=
  let b0 := b.headD 0
  if 240 ≤ b0 then headR 4 (b0 - 240) b else if 224 ≤ b0 then headR 3 (b0 - 224) b else if 192 ≤ b0 then headR 2 (b0 - 192) b else if 128 ≤ b0 then (0, 0) else headR 1 b0 b

theorem nextR_cons {b : List Int} {b0 : Int} (h : b[0]? = some b0) : nextR b = if 240 ≤ b0 then headR 4 (b0 - 240) b else if 224 ≤ b0 then headR 3 (b0 - 224) b else if 192 ≤ b0 then headR 2 (b0 - 192) b else if 128 ≤ b0 then (0, 0) else headR 1 b0 b := by
  cases b with
  | nil => cases h
  | cons a t => injection h with h; subst h; rfl

def encB (u : UInt8) : List Value := [.int .u8 (u.toNat : Int)]
abbrev RdB := @Rd UInt8 encB 1
section
variable {w : World} {B : Nat} {ad : Addr} {t : List UInt8}
theorem RdB.at0 (h : RdB w B (some ad) t) (hi : 0 < t.length) : w.cell? ad = some (.int .u8 (t[0].toNat : Int)) := by
  obtain ⟨ad', e, _, hc⟩ := h hi
  injection e with e
  subst e
  have := hc 0 hi 0 _ rfl
  simpa [add_zero'] using this
theorem RdB.atS (h : RdB w B (some ad) t) (i : Nat) (hi : i + 1 < t.length) : w.cell? { block := ad.block, off := ad.off + (i + 1) } = some (.int .u8 (t[i + 1].toNat : Int)) := by
  obtain ⟨ad', e, _, hc⟩ := h (by omega)
  injection e with e
  subst e
  have := hc (i + 1) hi 0 _ rfl
  rw [add_zero', Nat.mul_one] at this
  simpa [Addr.add] using this
end

theorem take8L {t : List UInt8} (h : 8 ≤ t.length) : t.take 8 = [t[0]'(by omega), t[1]'(by omega), t[2]'(by omega), t[3]'(by omega), t[4]'(by omega), t[5]'(by omega), t[6]'(by omega), t[7]'(by omega)] := by
  match t, h with
  | a0 :: a1 :: a2 :: a3 :: a4 :: a5 :: a6 :: a7 :: r, _ => simp

set_option maxHeartbeats 8000000 in
set_option maxRecDepth 100000 in
theorem word_any (A : Option Addr) (n c B : Nat) (t : List UInt8) (w : World) (hn : n = t.length) (h8 : 8 ≤ n) (h : RdB w B A t) :
    Calls Tryz.prog 245 #[.slice A n c] w fun e w' => e = .returned (.int .u64 ((Lib.leNat (t.take 8) : Nat) : Int)) ∧ ∃ q, w' = w.drewN q := by
  have N := Lib.hid hn
  have hl : 8 ≤ t.length := by omega
  obtain ⟨ad, rfl, _⟩ := h (by omega)
  clear hn
  obtain ⟨x0, hx0⟩ : ∃ x, t[0]'(by omega) = x := ⟨_, rfl⟩
  have c0 := h.at0 (by omega)
  rw [hx0] at c0
  have l0 : x0.toNat < 256 := x0.toNat_lt
  obtain ⟨x1, hx1⟩ : ∃ x, t[1]'(by omega) = x := ⟨_, rfl⟩
  have c1 := h.atS 0 (by omega)
  simp only [Nat.reduceAdd] at c1
  rw [hx1] at c1
  have l1 : x1.toNat < 256 := x1.toNat_lt
  obtain ⟨x2, hx2⟩ : ∃ x, t[2]'(by omega) = x := ⟨_, rfl⟩
  have c2 := h.atS 1 (by omega)
  simp only [Nat.reduceAdd] at c2
  rw [hx2] at c2
  have l2 : x2.toNat < 256 := x2.toNat_lt
  obtain ⟨x3, hx3⟩ : ∃ x, t[3]'(by omega) = x := ⟨_, rfl⟩
  have c3 := h.atS 2 (by omega)
  simp only [Nat.reduceAdd] at c3
  rw [hx3] at c3
  have l3 : x3.toNat < 256 := x3.toNat_lt
  obtain ⟨x4, hx4⟩ : ∃ x, t[4]'(by omega) = x := ⟨_, rfl⟩
  have c4 := h.atS 3 (by omega)
  simp only [Nat.reduceAdd] at c4
  rw [hx4] at c4
  have l4 : x4.toNat < 256 := x4.toNat_lt
  obtain ⟨x5, hx5⟩ : ∃ x, t[5]'(by omega) = x := ⟨_, rfl⟩
  have c5 := h.atS 4 (by omega)
  simp only [Nat.reduceAdd] at c5
  rw [hx5] at c5
  have l5 : x5.toNat < 256 := x5.toNat_lt
  obtain ⟨x6, hx6⟩ : ∃ x, t[6]'(by omega) = x := ⟨_, rfl⟩
  have c6 := h.atS 5 (by omega)
  simp only [Nat.reduceAdd] at c6
  rw [hx6] at c6
  have l6 : x6.toNat < 256 := x6.toNat_lt
  obtain ⟨x7, hx7⟩ : ∃ x, t[7]'(by omega) = x := ⟨_, rfl⟩
  have c7 := h.atS 6 (by omega)
  simp only [Nat.reduceAdd] at c7
  rw [hx7] at c7
  have l7 : x7.toNat < 256 := x7.toNat_lt
  have ht : t.take 8 = [x0, x1, x2, x3, x4, x5, x6, x7] := by
    rw [take8L hl, hx0, hx1, hx2, hx3, hx4, hx5, hx6, hx7]
  rw [ht]
  have hv : ((Lib.leNat [x0, x1, x2, x3, x4, x5, x6, x7] : Nat) : Int) = (x0.toNat : Int) + (x1.toNat : Int) * 256 + (x2.toNat : Int) * 65536 + (x3.toNat : Int) * 16777216 + (x4.toNat : Int) * 4294967296 + (x5.toNat : Int) * 1099511627776 + (x6.toNat : Int) * 281474976710656 + (x7.toNat : Int) * 72057594037927936 := by
    simp only [Lib.leNat]
    push_cast
    omega
  have HV := Lib.hid hv
  clear hv ht hx0 hx1 hx2 hx3 hx4 hx5 hx6 hx7
  have q0 : (0 : Int) < (n : Int) := by omega
  have p0 : 0 < n := by omega
  have q1 : (1 : Int) < (n : Int) := by omega
  have p1 : 1 < n := by omega
  have q2 : (2 : Int) < (n : Int) := by omega
  have p2 : 2 < n := by omega
  have q3 : (3 : Int) < (n : Int) := by omega
  have p3 : 3 < n := by omega
  have q4 : (4 : Int) < (n : Int) := by omega
  have p4 : 4 < n := by omega
  have q5 : (5 : Int) < (n : Int) := by omega
  have p5 : 5 < n := by omega
  have q6 : (6 : Int) < (n : Int) := by omega
  have p6 : 6 < n := by omega
  have q7 : (7 : Int) < (n : Int) := by omega
  have p7 : 7 < n := by omega
  go_enter Tryz.func245, Tryz.ntmps245
  go_wp2_with (fail)
  go_quiet (fail)
  go_wp2_with (fail)
  go_ret
  refine ⟨?_, _, rfl⟩
  simp (disch := omega) only [u64_wrap_id, u64_or8, u64_or16, u64_or24, u64_or32, u64_or40, u64_or48, u64_or56]
  rw [HV.out]
  rfl
open Go.RowKit
set_option linter.unusedVariables false
set_option linter.unusedSimpArgs false

def ascL (t : List UInt8) (k : Nat) : Prop := ∀ b ∈ t.take k, b.toNat < 128
theorem ascL_word {t : List UInt8} (h : 8 ≤ t.length) : (Lib.leNat (t.take 8) &&& 9259542123273814144 = 0) ↔ ascL t 8 := by
  have h8 : (t.take 8).length = 8 := by rw [List.length_take]; omega
  have := Lib.leNat_mask (t.take 8)
  rw [h8, Lib.maskN8] at this
  exact this
theorem ascL_add {t : List UInt8} {a b : Nat} (ha : ascL t a) (hb : ascL (t.drop a) b) : ascL t (a + b) := by
  unfold ascL at *
  rw [List.take_add]
  intro x hx
  rcases List.mem_append.1 hx with h | h
  · exact ha x h
  · exact hb x h
theorem ascL_one {t : List UInt8} (h0 : 0 < t.length) (h : (t[0]'h0).toNat < 128) : ascL t 1 := by
  match t, h0 with
  | a :: r, _ =>
    intro b hb
    simp at hb h
    subst hb
    exact h
theorem ascL_skip {t : List UInt8} {k : Nat} (h : ascL t k) : Lib.validD (t.drop k) = Lib.validD t := (Lib.validD_ascii k t h).symm
theorem leNat8 (t : List UInt8) : Lib.leNat (t.take 8) < 18446744073709551616 := by
  have h := Lib.leNat_lt (t.take 8)
  refine Nat.lt_of_lt_of_le h ?_
  rw [show (18446744073709551616 : Nat) = 256 ^ 8 from by decide]
  exact Nat.pow_le_pow_right (by omega) (by rw [List.length_take]; omega)

theorem below_draws {B : Nat} {a w : World} {n : Nat} (h : Below B a w) : Below B a (w.drewN n) := h.trans ⟨rfl, rfl, rfl, Nat.le_refl _, fun _ _ => rfl⟩
set_option maxRecDepth 100000 in
theorem and7 : ∀ X : Fin 256, bits .and .u8 ((X.val : Nat) : Int) 7 = ((X.val % 8 : Nat) : Int) := by decide
theorem getD_lt (l : List UInt8) (i : Nat) (h : i < l.length) : l.getD i 0 = l[i] := by simp [List.getD, h]
theorem calls_more {P : Program} {f : FuncId} {args : Array Value} {w : World} {p q : Nat} {v : Value}
    (h : Calls P f args (w.drewN (p + q)) fun e w' => e = .returned v ∧ ∃ k, w' = (w.drewN (p + q)).drewN k) : Calls P f args (w.drewN (p + q)) fun e w' => e = .returned v ∧ ∃ k, w' = w.drewN (p + k) :=
  h.mono fun _ _ ⟨h1, k, h2⟩ => ⟨h1, q + k, by rw [h2, World.drewN_drewN]; congr 1; omega⟩

def adv (A : Option Addr) (n k : Nat) : Option Addr := if n = k then A else A.map (·.add (k * 1))
theorem rd_adv {w : World} {B n k : Nat} {A : Option Addr} {t : List UInt8} (h : RdB w B A t) (hn : n = t.length) (hk : k ≤ n) : RdB w B (adv A n k) (t.drop k) := by
  subst hn
  exact h.cut hk (Nat.le_refl _)
theorem Tryz.elU8 : Tryz.prog.elem 232 = 5 := by kernel_rfl
theorem size_u8 (W : World) : (sizeOf 5).run Tryz.prog W = .ok 1 W := by
  obtain ⟨i0, hi0, hz0, hz1, hz2⟩ := info_of Tryz.infoU8
  simp [sizeOf, typeInfo, hi0, hz1]
theorem from_eq {A A' : Option Addr} {n k n' : Nat} {z : Int} (hz : z = (k : Int)) (hA : adv A n k = A') (hn : n - k = n') (hk : k ≤ n) (W : World) : (Instr.slice 232 (.slice A n n) (some (.int .i64 z)) none none).run Tryz.prog W = .ok (.slice A' n' n') W := by
  subst hz; subst hA; subst hn
  rw [run_slice_l W _ A n n (by rw [Tryz.elU8]; exact Tryz.slU8) .i64 (k : Int) (by omega) (by omega), Tryz.elU8, size_u8]
  simp [sliced, adv, Result.andThen]
theorem all_eq (A : Option Addr) (n c : Nat) (hc : n ≤ c) (W : World) : (Instr.slice 232 (.slice A n c) none (some (.int .i64 (n : Int))) (some (.int .i64 (n : Int)))).run Tryz.prog W = .ok (.slice A n n) W := by
  rw [run_slice_hm W _ A n c (by rw [Tryz.elU8]; exact Tryz.slU8) .i64 .i64 (n : Int) (n : Int) (by omega) (by omega) (by omega), Tryz.elU8, size_u8]
  cases A <;> simp [sliced, Result.andThen, add_zero']

theorem encR_1 {r : Int} (h : r < 128) : encR r = [r] := by rw [encR, if_pos h]
theorem encR_2 {r : Int} (h : ¬ r < 128) (h2 : r < 2048) : encR r = [192 + r / 64, 128 + r % 64] := by rw [encR, if_neg h, if_pos h2]
theorem encR_3 {r : Int} (h : ¬ r < 2048) (h2 : r < 65536) : encR r = [224 + r / 4096, 128 + r / 64 % 64, 128 + r % 64] := by rw [encR, if_neg (by omega), if_neg h, if_pos h2]
theorem encR_4 {r : Int} (h : ¬ r < 65536) : encR r = [240 + r / 262144, 128 + r / 4096 % 64, 128 + r / 64 % 64, 128 + r % 64] := by rw [encR, if_neg (by omega), if_neg (by omega), if_neg h]
theorem encR_n {r : Int} : (encR r).length = if r < 128 then 1 else if r < 2048 then 2 else if r < 65536 then 3 else 4 := by
  unfold encR
  repeat' split
  all_goals rfl

theorem head_ok {n : Nat} {r0 r : Int} {b : List Int} (hl : n ≤ b.length) (hc : contR r0 ((b.drop 1).take (n - 1)) = some r) (hm : mayR r = true) (he : (encR r).length = n) : headR n r0 b = (r, n) := by
  unfold headR
  rw [if_neg (by omega), hc]
  exact if_pos ⟨hm, he⟩
theorem contR_cons {r x : Int} {t : List Int} (h : 128 ≤ x) (h2 : x ≤ 191) : contR r (x :: t) = contR (r * 64 + x - 128) t := by rw [contR, if_pos ⟨h, h2⟩]

theorem next_enc {r : Int} (h : mayR r = true) (rest : List Int) : nextR (encR r ++ rest) = (r, (encR r).length) := by
  have hb := mayR_le h
  by_cases h1 : r < 128
  · have hl : (encR r).length = 1 := by rw [encR_n, if_pos h1]
    rw [hl]
    have e : encR r ++ rest = r :: rest := by rw [encR_1 h1]; rfl
    rw [e, nextR_cons (b0 := r) rfl, if_neg (by omega), if_neg (by omega), if_neg (by omega), if_neg (by omega)]
    exact head_ok (by simp) (by simp [contR]) h hl
  · by_cases h2 : r < 2048
    · have hl : (encR r).length = 2 := by rw [encR_n, if_neg h1, if_pos h2]
      rw [hl]
      have e : encR r ++ rest = (192 + r / 64) :: (128 + r % 64) :: rest := by rw [encR_2 h1 h2]; rfl
      rw [e, nextR_cons (b0 := 192 + r / 64) rfl, if_neg (by omega), if_neg (by omega), if_pos (by omega)]
      refine head_ok (by simp) ?_ h hl
      simp only [List.drop_succ_cons, List.drop_zero, Nat.reduceSub, List.take_succ_cons, List.take_zero]
      rw [contR_cons (by omega) (by omega)]
      rw [contR]; congr 1; omega
    · by_cases h3 : r < 65536
      · have hl : (encR r).length = 3 := by rw [encR_n, if_neg h1, if_neg h2, if_pos h3]
        rw [hl]
        have e : encR r ++ rest = (224 + r / 4096) :: (128 + r / 64 % 64) :: (128 + r % 64) :: rest := by rw [encR_3 h2 h3]; rfl
        rw [e, nextR_cons (b0 := 224 + r / 4096) rfl, if_neg (by omega), if_pos (by omega)]
        refine head_ok (by simp) ?_ h hl
        simp only [List.drop_succ_cons, List.drop_zero, Nat.reduceSub, List.take_succ_cons, List.take_zero]
        rw [contR_cons (by omega) (by omega), contR_cons (by omega) (by omega)]
        rw [contR]; congr 1; omega
      · have hl : (encR r).length = 4 := by rw [encR_n, if_neg h1, if_neg h2, if_neg h3]
        rw [hl]
        have e : encR r ++ rest = (240 + r / 262144) :: (128 + r / 4096 % 64) :: (128 + r / 64 % 64) :: (128 + r % 64) :: rest := by rw [encR_4 h3]; rfl
        rw [e, nextR_cons (b0 := 240 + r / 262144) rfl, if_pos (by omega)]
        refine head_ok (by simp) ?_ h hl
        simp only [List.drop_succ_cons, List.drop_zero, Nat.reduceSub, List.take_succ_cons, List.take_zero]
        rw [contR_cons (by omega) (by omega), contR_cons (by omega) (by omega), contR_cons (by omega) (by omega)]
        rw [contR]; congr 1; omega

theorem head_inv {n : Nat} {r0 r : Int} {m : Nat} {b : List Int} (h : headR n r0 b = (r, m)) (hm : m ≠ 0) : n ≤ b.length ∧ contR r0 ((b.drop 1).take (n - 1)) = some r ∧ mayR r = true ∧ (encR r).length = n ∧ m = n := by
  unfold headR at h
  split at h
  · injection h with _ h; exact absurd h.symm hm
  · rename_i hl
    split at h
    · injection h with _ h; exact absurd h.symm hm
    · rename_i r' hc
      split at h
      · rename_i hh
        injection h with h h'
        subst h; subst h'
        exact ⟨by omega, hc, hh.1, hh.2, rfl⟩
      · injection h with _ h; exact absurd h.symm hm
theorem contR_inv {r x r' : Int} {t : List Int} (h : contR r (x :: t) = some r') : 128 ≤ x ∧ x ≤ 191 ∧ contR (r * 64 + x - 128) t = some r' := by
  rw [contR] at h
  split at h
  · rename_i hh; exact ⟨hh.1, hh.2, h⟩
  · cases h

theorem next_inv {b : List Int} {r : Int} {n : Nat} (hu : ∀ x ∈ b, 0 ≤ x ∧ x ≤ 255) (h : nextR b = (r, n)) (hn : n ≠ 0) : mayR r = true ∧ n = (encR r).length ∧ b = encR r ++ b.drop n := by
  cases b with
  | nil =>
    have e : nextR [] = (0, 0) := rfl
    rw [e] at h
    injection h with _ h
    exact absurd h.symm hn
  | cons b0 t =>
    have h0 := hu b0 (by simp)
    rw [nextR_cons (b0 := b0) rfl] at h
    split at h
    · rename_i c0
      obtain ⟨h1, h2, h3, h4, rfl⟩ := head_inv h hn
      refine ⟨h3, h4.symm, ?_⟩
      match t, h1 with
      | x1 :: x2 :: x3 :: t', _ =>
        simp only [List.drop_succ_cons, List.drop_zero, Nat.reduceSub, List.take_succ_cons, List.take_zero] at h2
        obtain ⟨a1, a2, h2⟩ := contR_inv h2
        obtain ⟨a3, a4, h2⟩ := contR_inv h2
        obtain ⟨a5, a6, h2⟩ := contR_inv h2
        rw [contR] at h2
        injection h2 with h2
        have hr : ¬ r < 65536 := by rw [encR_n] at h4; intro hc; split at h4 <;> (try (split at h4)) <;> (try (split at h4)) <;> omega
        rw [encR_4 hr]
        simp only [List.drop_succ_cons, List.drop_zero, List.cons_append, List.nil_append, List.cons.injEq, and_true]
        omega
    · rename_i c0
      split at h
      · rename_i c1
        obtain ⟨h1, h2, h3, h4, rfl⟩ := head_inv h hn
        refine ⟨h3, h4.symm, ?_⟩
        match t, h1 with
        | x1 :: x2 :: t', _ =>
          simp only [List.drop_succ_cons, List.drop_zero, Nat.reduceSub, List.take_succ_cons, List.take_zero] at h2
          obtain ⟨a1, a2, h2⟩ := contR_inv h2
          obtain ⟨a3, a4, h2⟩ := contR_inv h2
          rw [contR] at h2
          injection h2 with h2
          have hr : ¬ r < 2048 ∧ r < 65536 := by rw [encR_n] at h4; (split at h4 <;> (try (split at h4)) <;> (try (split at h4))) <;> omega
          rw [encR_3 hr.1 hr.2]
          simp only [List.drop_succ_cons, List.drop_zero, List.cons_append, List.nil_append, List.cons.injEq, and_true]
          omega
      · rename_i c1
        split at h
        · rename_i c2
          obtain ⟨h1, h2, h3, h4, rfl⟩ := head_inv h hn
          refine ⟨h3, h4.symm, ?_⟩
          match t, h1 with
          | x1 :: t', _ =>
            simp only [List.drop_succ_cons, List.drop_zero, Nat.reduceSub, List.take_succ_cons, List.take_zero] at h2
            obtain ⟨a1, a2, h2⟩ := contR_inv h2
            rw [contR] at h2
            injection h2 with h2
            have hr : ¬ r < 128 ∧ r < 2048 := by rw [encR_n] at h4; (split at h4 <;> (try (split at h4)) <;> (try (split at h4))) <;> omega
            rw [encR_2 hr.1 hr.2]
            simp only [List.drop_succ_cons, List.drop_zero, List.cons_append, List.nil_append, List.cons.injEq, and_true]
            omega
        · rename_i c2
          split at h
          · injection h with _ h; exact absurd h.symm hn
          · rename_i c3
            obtain ⟨h1, h2, h3, h4, rfl⟩ := head_inv h hn
            refine ⟨h3, h4.symm, ?_⟩
            simp only [List.drop_succ_cons, List.drop_zero, Nat.reduceSub, List.take_zero, contR] at h2
            injection h2 with h2
            subst h2
            rw [encR_1 (by omega)]
            rfl

def readGo : Nat → List Int → Option (List Int)
  | 0, b => if b = [] then some [] else none
  | n + 1, b => if b = [] then some [] else if (nextR b).2 = 0 then none else (readGo n (b.drop (nextR b).2)).map ((nextR b).1 :: ·)
def readR (b : List Int) : Option (List Int) := readGo b.length b
theorem readGo_nil (n : Nat) : readGo n [] = some [] := by cases n <;> simp [readGo]
theorem readGo_fuel : ∀ (n m : Nat) (b : List Int), b.length ≤ n → b.length ≤ m → readGo n b = readGo m b
  | 0, m, b, hn, _ => by
    obtain rfl : b = [] := List.eq_nil_of_length_eq_zero (by omega)
    rw [readGo_nil, readGo_nil]
  | n + 1, 0, b, _, hm => by
    obtain rfl : b = [] := List.eq_nil_of_length_eq_zero (by omega)
    rw [readGo_nil, readGo_nil]
  | n + 1, m + 1, b, hn, hm => by
    unfold readGo
    by_cases hne : b = []
    · simp [hne]
    · rw [if_neg hne, if_neg hne]
      by_cases hz : (nextR b).2 = 0
      · rw [if_pos hz, if_pos hz]
      · have hl : 0 < b.length := List.length_pos_iff.2 hne
        rw [if_neg hz, if_neg hz, readGo_fuel n m _ (by rw [List.length_drop]; omega) (by rw [List.length_drop]; omega)]
theorem readR_step {b : List Int} (hne : b ≠ []) : readR b = if (nextR b).2 = 0 then none else (readR (b.drop (nextR b).2)).map ((nextR b).1 :: ·) := by
  have hl : 0 < b.length := List.length_pos_iff.2 hne
  obtain ⟨n, hn⟩ : ∃ n, b.length = n + 1 := ⟨b.length - 1, by omega⟩
  unfold readR
  rw [hn]
  show (if b = [] then some [] else _) = _
  rw [if_neg hne]
  by_cases hz : (nextR b).2 = 0
  · rw [if_pos hz, if_pos hz]
  · rw [if_neg hz, if_neg hz, readGo_fuel n (b.drop (nextR b).2).length _ (by rw [List.length_drop]; omega) (Nat.le_refl _)]
end Go.Proofs.YtfnkjcodcoehcaaGreatDoor
