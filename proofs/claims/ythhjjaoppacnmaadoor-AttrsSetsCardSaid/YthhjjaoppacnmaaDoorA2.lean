/- Merged texts: Reads, RuMay, RuRef, RuTypes, VaMake, Flo, RuBytes. -/
import Derived.Deep.LoopGhost
import Derived.Deep.DeepMust
import Derived.Test.YthhjjaoppacnmaaDoorA1
import Derived.Test.YthhjjaoppacnmaaDoorProg
import Derived.Laws.Externs
import Derived.Laws.BitsAllLaws
import Ieee.Arith
import GoSem.Core.Float
import Derived.Laws.FloatBits
namespace Go.Proofs.YthhjjaoppacnmaaDoor
open Go.RowKit
set_option linter.unusedVariables false
set_option linter.unusedSimpArgs false

/-- what a call does that only reads -/
def Quiet (v : Value) (w : World) (e : Ending) (w' : World) : Prop := e = .returned v ∧ ∃ d, w' = w.drewN d
theorem Quiet.below {v : Value} {w w' : World} {e : Ending} (h : Quiet v w e w') (B : Nat) : e = .returned v ∧ Below B w w' := by
  obtain ⟨h1, d, rfl⟩ := h
  exact ⟨h1, below_drewN (Below.refl _ _) d⟩

theorem ret_bool {a b : Bool} (h : a = b) : Ending.returned (.bool a) = Ending.returned (.bool b) := by rw [h]
theorem ret_int {k : IntKind} {a b : Int} (h : a = b) : Ending.returned (.int k a) = Ending.returned (.int k b) := by rw [h]

def rise : List Int → Bool
  | a :: b :: t => decide (a < b) && rise (b :: t)
  | _ => true
def riseA (l : List At) : Bool := rise (l.map (·.key))
theorem rise_short {α : Type} (f : α → Int) (l : List α) (m : Nat) (h : l.length ≤ m + 1) : rise ((l.drop m).map f) = true := by
  have : (l.drop m).length ≤ 1 := by rw [List.length_drop]; omega
  match hd : l.drop m with
  | [] => rfl
  | [a] => rfl
  | a :: b :: t => rw [hd] at this; simp at this

set_option maxRecDepth 100000 in
set_option maxHeartbeats 400000 in
theorem risingA_any (A : Option Addr) (n c : Nat) (l : List At) (w : World) (hn : n = l.length) (h : RdAt w w.heap.size A l) (hb : n ≤ 140737488355328) :
    Calls Tryd.prog 14 #[.slice A n c] w (Quiet (.bool (riseA l)) w) := by
  have N := Lib.hid hn
  generalize hR : riseA l = R
  have HR := Lib.hid hR
  clear hn hR
  go_enter Tryd.func14, Tryd.ntmps14
  go_wp2_with (fail)
  go_loopg [3] n (fun g iv wr => ∃ m : Nat, (m + 1 ≤ n ∨ m = 0) ∧ g = n - m ∧ iv = .int .i64 ((m : Int) + 1) ∧ (∃ d, wr = w.drewN d) ∧ Hid (rise ((l.drop m).map (·.key)) = R))
  case atStart => exact ⟨0, by omega, rfl, rfl, ⟨0, rfl⟩, Lib.hid (by rw [List.drop_zero]; exact HR.out)⟩
  case round =>
    obtain ⟨m, hm, hg, rfl, ⟨d, rfl⟩, HI⟩ := hrel
    have HG := Lib.hid hg
    clear hg HR
    by_cases hlt : m + 1 < n
    · have hl1 : m < l.length := by have := N.out; omega
      have hl2 : m + 1 < l.length := by have := N.out; omega
      obtain ⟨ad, x, rfl, _, hd1, _, hc1⟩ := h.el hl1
      obtain ⟨ad', y, e, _, hd2, _, hc2⟩ := h.el hl2
      injection e with e; subst e
      have HI' : Hid (rise (x.key :: y.key :: (l.drop (m + 2)).map (·.key)) = R) := Lib.hid (by rw [← HI.out, hd1, hd2]; rfl)
      have HI2 : Hid (rise (y.key :: (l.drop (m + 2)).map (·.key)) = rise ((l.drop (m + 1)).map (·.key))) := Lib.hid (by rw [hd2]; rfl)
      clear HI hd1 hd2
      obtain ⟨x1, x2, x3, x4, x5⟩ := x
      obtain ⟨y1, y2, y3, y4, y5⟩ := y
      obtain ⟨r0, -⟩ := at_cells hc1
      obtain ⟨s0, -⟩ := at_cells hc2
      have hmn : m < n := by omega
      have hw : IntKind.i64.wrap (m:Int) = m := IntWalk.i64_in _ (by omega)
      have hw2 : IntKind.i64.wrap ((m:Int) + 1) = (m : Int) + 1 := IntWalk.i64_in _ (by omega)
      by_cases hle : y1 ≤ x1
      · go_wp2_with (go_quiet (fail))
        go_ret
        have : ¬ x1 < y1 := by omega
        exact ⟨ret_bool (by rw [← HI'.out]; simp [rise, this]), _, rfl⟩
      · clear hw
        go_wp2_with (go_quiet (fail))
        go_roundg (n - (m + 1))
        case measure => have := HG.out; omega
        case rel => exact ⟨m + 1, by omega, rfl, by go_num, ⟨_, rfl⟩, Lib.hid (by rw [← HI'.out, ← HI2.out]; have : x1 < y1 := by omega
                                                                                  simp [rise, this])⟩
    · go_wp2_with (fail)
      go_ret
      exact ⟨ret_bool (by rw [← HI.out, rise_short _ _ _ (by have := N.out; omega)]), _, rfl⟩

set_option maxRecDepth 100000 in
set_option maxHeartbeats 400000 in
theorem sameA_any (A B : Option Addr) (n m c d : Nat) (l k : List At) (w : World) (hn : n = l.length) (hm : m = k.length) (h1 : RdAt w w.heap.size A l) (h2 : RdAt w w.heap.size B k) (hb : n ≤ 140737488355328) (hb2 : m ≤ 140737488355328) :
    Calls Tryd.prog 12 #[.slice A n c, .slice B m d] w (Quiet (.bool (decide (l = k))) w) := by
  have N := Lib.hid hn
  have M := Lib.hid hm
  generalize hR : decide (l = k) = R
  have HR := Lib.hid hR
  clear hn hR hm
  by_cases hnm : (n : Int) = m
  · have hnm' : n = m := by omega
    subst hnm'
    clear hnm
    go_enter Tryd.func12, Tryd.ntmps12
    go_wp2_with (fail)
    go_loopg [5] n (fun g iv wr => ∃ i : Nat, i ≤ n ∧ g = n - i ∧ iv = .int .i64 (i : Int) ∧ (∃ d, wr = w.drewN d) ∧ Hid (decide (l.drop i = k.drop i) = R))
    case atStart => exact ⟨0, by omega, rfl, rfl, ⟨0, rfl⟩, Lib.hid (by rw [List.drop_zero, List.drop_zero]; exact HR.out)⟩
    case round =>
      obtain ⟨i, hi, hg, rfl, ⟨q, rfl⟩, HI⟩ := hrel
      have HG := Lib.hid hg
      clear hg HR
      by_cases hlt : i < n
      · have hl1 : i < l.length := by have := N.out; omega
        have hl2 : i < k.length := by have := M.out; omega
        obtain ⟨ad, x, rfl, _, hd1, _, hc1⟩ := h1.el hl1
        obtain ⟨ad2, y, rfl, _, hd2, _, hc2⟩ := h2.el hl2
        have HI' : Hid (decide (x :: l.drop (i + 1) = y :: k.drop (i + 1)) = R) := Lib.hid (by rw [← HI.out, hd1, hd2])
        clear HI hd1 hd2
        obtain ⟨x1, x2, x3, x4, x5⟩ := x
        obtain ⟨y1, y2, y3, y4, y5⟩ := y
        obtain ⟨r0, r1, r2, r3, r4⟩ := at_cells hc1
        obtain ⟨s0, s1, s2, s3, s4⟩ := at_cells hc2
        by_cases hxy : (⟨x1, ⟨x2, x3, x4, x5⟩⟩ : At) = ⟨y1, ⟨y2, y3, y4, y5⟩⟩
        · have hq := beqAt_eq hxy
          have HXY := Lib.hid hxy
          clear hxy
          go_wp2_with (go_quiet (fail))
          go_roundg (n - (i + 1))
          case measure => have := HG.out; omega
          case rel => exact ⟨i + 1, by omega, rfl, by go_num, ⟨_, rfl⟩, Lib.hid (by rw [← HI'.out]; simp only [List.cons.injEq, HXY.out, true_and])⟩
        · have hq := beqAt_ne hxy
          have HXY := Lib.hid hxy
          clear hxy
          go_wp2_with (go_quiet (fail))
          go_ret
          exact ⟨ret_bool (by rw [← HI'.out]; exact (decide_eq_false fun e => HXY.out (List.cons.inj e).1).symm), _, World.drewN_drewN _ _ _⟩
      · go_wp2_with (fail)
        go_ret
        exact ⟨ret_bool (by rw [← HI.out, List.drop_eq_nil_of_le (by have := N.out; omega), List.drop_eq_nil_of_le (by have := M.out; omega)]; rfl), _, rfl⟩
  · have hne : ((n : Int) == m) = false := beq_eq_false_iff_ne.2 hnm
    go_enter Tryd.func12, Tryd.ntmps12
    go_wp2_with (fail)
    go_ret
    refine ⟨ret_bool ?_, 0, rfl⟩
    rw [← HR.out]
    refine (decide_eq_false fun e => ?_).symm
    have h3 := N.out
    have h4 := M.out
    rw [e] at h3
    omega

end Go.Proofs.YthhjjaoppacnmaaDoor
namespace Go.Proofs.YthhjjaoppacnmaaDoor
open Go.RowKit
set_option linter.unusedVariables false
set_option linter.unusedSimpArgs false

/-- may a rune be? -/
def mayR (r : Int) : Bool := decide (0 ≤ r ∧ r < 55296 ∨ 57344 ≤ r ∧ r ≤ 1114111)

end Go.Proofs.YthhjjaoppacnmaaDoor
namespace Go.Proofs.YthhjjaoppacnmaaDoor
open Go.RowKit
set_option linter.unusedVariables false
set_option linter.unusedSimpArgs false

theorem refMay_any (r : Int) (w : World) : Calls Tryd.prog 94 #[.int .i32 r] w fun e w' => e = .returned (.bool (mayR r)) ∧ w = w' := by
  by_cases h1 : 0 ≤ r
  · by_cases h2 : r < 55296
    · have h3 : mayR r = true := decide_eq_true (.inl ⟨h1, h2⟩)
      rw [h3]
      go_enter Tryd.func94, Tryd.ntmps94
      go_wp2_with (fail)
      go_ret
      exact ⟨rfl, rfl⟩
    · by_cases h4 : 57344 ≤ r
      · by_cases h5 : r ≤ 1114111
        · have h3 : mayR r = true := decide_eq_true (.inr ⟨h4, h5⟩)
          rw [h3]
          go_enter Tryd.func94, Tryd.ntmps94
          go_wp2_with (fail)
          go_ret
          exact ⟨rfl, rfl⟩
        · have h3 : mayR r = false := decide_eq_false (by omega)
          rw [h3]
          go_enter Tryd.func94, Tryd.ntmps94
          go_wp2_with (fail)
          go_ret
          exact ⟨rfl, rfl⟩
      · have h3 : mayR r = false := decide_eq_false (by omega)
        rw [h3]
        go_enter Tryd.func94, Tryd.ntmps94
        go_wp2_with (fail)
        go_ret
        exact ⟨rfl, rfl⟩
  · have h3 : mayR r = false := decide_eq_false (by omega)
    rw [h3]
    have h4 : ¬ 57344 ≤ r := by omega
    go_enter Tryd.func94, Tryd.ntmps94
    go_wp2_with (fail)
    go_ret
    exact ⟨rfl, rfl⟩
theorem six_any (r : Int) (w : World) (h0 : 0 ≤ r) (h1 : r ≤ 2147483647) : Calls Tryd.prog 100 #[.int .i32 r] w fun e w' => e = .returned (.int .u8 (128 + r % 64)) ∧ w = w' := by
  go_enter Tryd.func100, Tryd.ntmps100
  go_wp2_with (fail)
  go_ret
  exact ⟨rfl, rfl⟩
def encU8 (x : Int) : List Value := [.int .u8 x]
def encI32 (x : Int) : List Value := [.int .i32 x]
/-- a rune's bytes -/
def encR (r : Int) : List Int :=
  if r < 128 then [r] else if r < 2048 then [192 + r / 64, 128 + r % 64] else if r < 65536 then [224 + r / 4096, 128 + r / 64 % 64, 128 + r % 64]
  else [240 + r / 262144, 128 + r / 4096 % 64, 128 + r / 64 % 64, 128 + r % 64]

theorem one_any (r : Int) (w : World) (h0 : 0 ≤ r) (h1 : r ≤ 1114111) : Calls Tryd.prog 95 #[.int .i32 r] w fun e w' =>
    ∃ A c, e = .returned (.slice A (encR r).length c) ∧ Rd encU8 1 w' w'.heap.size A (encR r) ∧ Below w.heap.size w w' := by
  by_cases h2 : r < 128
  · have e : encR r = [r] := by simp [encR, h2]
    rw [e]
    go_enter Tryd.func95, Tryd.ntmps95
    go_wp2_with (fail)
    go_ret
    exact ⟨_, _, rfl, Rd.new (enc := encU8) (size := 1) (fun _ => rfl) w 5 _ (cs := #[.int .u8 (r)]) rfl rfl, ext_alloc w _⟩
  · by_cases h3 : r < 2048
    · have e : encR r = [192 + r / 64, 128 + r % 64] := by simp [encR, h2, h3]
      rw [e]
      go_enter Tryd.func95, Tryd.ntmps95
      go_wp2_with (go_at_call 100; refine (six_any _ w (by omega) (by omega)).mono ?_; rintro e w' ⟨rfl, rfl⟩)
      go_ret
      exact ⟨_, _, rfl, Rd.new (enc := encU8) (size := 1) (fun _ => rfl) w 5 _ (cs := #[.int .u8 (192 + r / 64), .int .u8 (128 + r % 64)]) rfl rfl, ext_alloc w _⟩
    · by_cases h4 : r < 65536
      · have e : encR r = [224 + r / 4096, 128 + r / 64 % 64, 128 + r % 64] := by simp [encR, h2, h3, h4]
        rw [e]
        go_enter Tryd.func95, Tryd.ntmps95
        go_wp2_with (go_at_call 100; refine (six_any _ w (by omega) (by omega)).mono ?_; rintro e w' ⟨rfl, rfl⟩)
        go_ret
        exact ⟨_, _, rfl, Rd.new (enc := encU8) (size := 1) (fun _ => rfl) w 5 _ (cs := #[.int .u8 (224 + r / 4096), .int .u8 (128 + r / 64 % 64), .int .u8 (128 + r % 64)]) rfl rfl, ext_alloc w _⟩
      · have e : encR r = [240 + r / 262144, 128 + r / 4096 % 64, 128 + r / 64 % 64, 128 + r % 64] := by simp [encR, h2, h3, h4]
        rw [e]
        go_enter Tryd.func95, Tryd.ntmps95
        go_wp2_with (go_at_call 100; refine (six_any _ w (by omega) (by omega)).mono ?_; rintro e w' ⟨rfl, rfl⟩)
        go_ret
        exact ⟨_, _, rfl, Rd.new (enc := encU8) (size := 1) (fun _ => rfl) w 5 _ (cs := #[.int .u8 (240 + r / 262144), .int .u8 (128 + r / 4096 % 64), .int .u8 (128 + r / 64 % 64), .int .u8 (128 + r % 64)]) rfl rfl, ext_alloc w _⟩
end Go.Proofs.YthhjjaoppacnmaaDoor
namespace Go.Proofs.YthhjjaoppacnmaaDoor
open Go.RowKit
set_option linter.unusedVariables false

theorem Tryd.infoU8 : (Tryd.prog.info? 5).map (fun i => (i.zero, i.size, i.bytes)) = some (some (.int .u8 0), 1, 1) := by kernel_rfl
theorem Tryd.infoI32 : (Tryd.prog.info? 21).map (fun i => (i.zero, i.size, i.bytes)) = some (some (.int .i32 0), 1, 4) := by kernel_rfl
theorem Tryd.slU8 : Tryd.prog.underlying 100 = some (.slice 5) := by kernel_rfl
theorem Tryd.slI32 : Tryd.prog.underlying 97 = some (.slice 21) := by kernel_rfl
theorem encI32_len (a : Int) : (encI32 a).length = 1 := rfl
theorem encI32_one (a : Int) : ∀ u ∈ encI32 a, u.oneCell' = true := by intro u hu; simp [encI32] at hu; rw [hu]; rfl
theorem info_of {P : Program} {t : TypeId} {z : Option Value} {s b : Nat} (h : (P.info? t).map (fun i => (i.zero, i.size, i.bytes)) = some (z, s, b)) : ∃ i, P.info? t = some i ∧ i.zero = z ∧ i.size = s ∧ i.bytes = b := by
  cases hi : P.info? t with
  | none => rw [hi] at h; simp at h
  | some i => rw [hi] at h; simp at h; exact ⟨i, rfl, h.1, h.2.1, h.2.2⟩

abbrev OwI32 := @Ow Int encI32 1 21
abbrev RdU8 := @Rd Int encU8 1
abbrev RdI32 := @Rd Int encI32 1

section
variable {ops : Array Oper} {rest : List Oper} {o : Oper} {a : Act} {Q : Exit → Act → World → Prop} {w : World} {base : Nat} {v : Value}
theorem app_i32 {l m : List Int} (hgd : o.guard = none) (s x : Operand)
    (ho : o.op = .call { callee := .builtin .append, args := #[s, x], argTypes := #[97, 97] })
    (hsv : a.eval s = v) (hown : OwI32 w base v l) (B : Nat) (A : Option Addr) (c n : Nat) (hx : a.eval x = .slice A n c) (hn : n = m.length) (hr : RdI32 w B A m)
    (hb : l.length + m.length ≤ 2000000000000) (hbase : base ≤ w.heap.size)
    (h : ∀ v' w', OwI32 w' base v' (l ++ m) → w.grownBy w' (wb v) → (v' = v ∧ w' = w ∨ wb v' = wb v ∨ wb v' = some w.heap.size) → wpList Tryd.prog ops Q rest (a.put o.dst v') w') : wpList Tryd.prog ops Q (o :: rest) a w := by
  obtain ⟨i0, hi0, hz0, hz1, hz2⟩ := info_of Tryd.infoI32
  exact wpList_app hgd s x _ ho i0 _ 4 Tryd.slI32 hi0 hz0 hz1 hz2 rfl (by omega) encI32_len encI32_one hsv hown B A c n hx hn hr (by simp only [maxLen]; omega) (by omega) hbase h
end
end Go.Proofs.YthhjjaoppacnmaaDoor
namespace Go.Proofs.YthhjjaoppacnmaaDoor
open Go.RowKit
set_option linter.unusedVariables false
set_option linter.unusedSimpArgs false

/-- a pattern of what is no number -/
def nanF (f : Int) : Bool := decide (9218868437227405312 < f % 9223372036854775808)
def floatV (f : Int) : V := ⟨3, 0, if nanF f = true then 9221120237041090560 else f, ⟨#[]⟩⟩
def flagV (b : Bool) : V := ⟨1, if b = true then 1 else 0, 0, ⟨#[]⟩⟩
def intV (n : Int) : V := ⟨2, n, 0, ⟨#[]⟩⟩
def textV (s : ByteArray) : V := ⟨4, 0, 0, s⟩

@[go_sem high] theorem run_frombits (n : Int) (w : World) : (callFunc 58 #[.int .u64 n]).run Tryd.prog w = .ok (.value (.float .f64 n.toNat)) w := by
  rw [run_callFunc_extern (fn := Tryd.f58) (e := Extern.MathFloatBits.float64frombits) Tryd.func58 (by kernel_rfl) (by kernel_rfl) (by kernel_rfl) (by kernel_rfl)]
  rfl
@[go_sem high] theorem run_bits (n : Nat) (w : World) : (callFunc 83 #[.float .f64 n]).run Tryd.prog w = .ok (.value (.int .u64 (n : Int))) w := by
  rw [run_callFunc_extern (fn := Tryd.f83) (e := Extern.MathFloatBits.float64bits) Tryd.func83 (by kernel_rfl) (by kernel_rfl) (by kernel_rfl) (by kernel_rfl)]
  rfl

theorem flag_any (b : Bool) (w : World) : Calls Tryd.prog 55 #[.bool b] w fun e w' => e = .returned (.agg #[.int .u8 1, .int .i64 (if b = true then 1 else 0), .int .u64 0, .string ⟨#[]⟩]) ∧ Below w.heap.size w w' := by
  cases b
  · go_enter Tryd.func55, Tryd.ntmps55
    go_wp2_with (fail)
    refine bodyPost_ret (v := .agg #[.int .u8 1, .int .i64 0, .int .u64 0, .string ⟨#[]⟩]) (by simp [results, Tryd.results55, go_sem]) rfl ?_
    exact ⟨rfl, ext_trans (ext_alloc w _) (ext_alloc _ _)⟩
  · go_enter Tryd.func55, Tryd.ntmps55
    go_wp2_with (fail)
    refine bodyPost_ret (v := .agg #[.int .u8 1, .int .i64 1, .int .u64 0, .string ⟨#[]⟩]) (by simp [results, Tryd.results55, go_sem]) rfl ?_
    exact ⟨rfl, ext_trans (ext_alloc w _) (ext_alloc _ _)⟩
theorem int_any (n : Int) (w : World) : Calls Tryd.prog 56 #[.int .i64 n] w fun e w' => e = .returned (.agg #[.int .u8 2, .int .i64 n, .int .u64 0, .string ⟨#[]⟩]) ∧ Below w.heap.size w w' := by
  go_enter Tryd.func56, Tryd.ntmps56
  go_wp2_with (fail)
  refine bodyPost_ret (v := .agg #[.int .u8 2, .int .i64 n, .int .u64 0, .string ⟨#[]⟩]) (by simp [results, Tryd.results56, go_sem]) rfl ?_
  exact ⟨rfl, ext_alloc w _⟩
end Go.Proofs.YthhjjaoppacnmaaDoor
namespace Go.Proofs.YthhjjaoppacnmaaDoor
open Ieee
set_option linter.unusedVariables false
set_option linter.unusedSimpArgs false

/-- the datum of a word, in numbers -/
theorem read_eq (w : Nat) : Ieee.double.read w =
    if w % 9223372036854775808 < 4503599627370496 then .number (w / 9223372036854775808 % 2 == 1) (w % 9223372036854775808) (-1074)
    else if w % 9223372036854775808 < 9218868437227405312 then
      .number (w / 9223372036854775808 % 2 == 1) (4503599627370496 + w % 9223372036854775808 % 4503599627370496) (-1074 + (w % 9223372036854775808 / 4503599627370496 - 1 : Nat))
    else if w % 9223372036854775808 = 9218868437227405312 then .infinity (w / 9223372036854775808 % 2 == 1)
    else .nan (w / 9223372036854775808 % 2 == 1) (w % 9223372036854775808 - 9218868437227405312) := rfl

/-- a rung's magnitude, in units of the least -/
def magF (r : Nat) : Nat := if r < 4503599627370496 then r else (4503599627370496 + r % 4503599627370496) * 2 ^ (r / 4503599627370496 - 1)
theorem magF_succ (r : Nat) : magF r < magF (r + 1) := by
  unfold magF
  by_cases h : r + 1 < 4503599627370496
  · rw [if_pos h, if_pos (by omega)]; omega
  · by_cases h2 : r < 4503599627370496
    · have e : r = 4503599627370495 := by omega
      subst e
      decide
    · rw [if_neg h2, if_neg h]
      by_cases h3 : (r + 1) % 4503599627370496 = 0
      · have e1 : r % 4503599627370496 = 4503599627370495 := by omega
        have e2 : (r + 1) / 4503599627370496 - 1 = (r / 4503599627370496 - 1) + 1 := by omega
        rw [h3, e1, e2, Nat.pow_succ]
        have hp : 0 < 2 ^ (r / 4503599627370496 - 1) := Nat.two_pow_pos _
        generalize 2 ^ (r / 4503599627370496 - 1) = p at *
        omega
      · have e1 : (r + 1) % 4503599627370496 = r % 4503599627370496 + 1 := by omega
        have e2 : (r + 1) / 4503599627370496 = r / 4503599627370496 := by omega
        rw [e1, e2]
        exact Nat.mul_lt_mul_of_pos_right (by omega) (Nat.two_pow_pos _)
theorem magF_lt {a b : Nat} (h : a < b) : magF a < magF b := by
  obtain ⟨k, rfl⟩ : ∃ k, b = a + 1 + k := ⟨b - (a + 1), by omega⟩
  clear h
  induction k with
  | zero => exact magF_succ a
  | succ k ih => exact Nat.lt_trans ih (magF_succ _)
theorem magF_zero : magF 0 = 0 := rfl

def sgn (s : Bool) (m : Nat) : Int := if s then -(m : Int) else (m : Int)
theorem signed_eq (s : Bool) (m u : Nat) : signed s m u = sgn s (m * 2 ^ u) := by
  unfold signed sgn
  rw [Nat.shiftLeft_eq]
theorem sgn_mul (s : Bool) (m c : Nat) : sgn s (m * c) = sgn s m * c := by
  unfold sgn
  cases s <;> simp [Int.neg_mul]
theorem cmp_mul {x y : Int} {c : Nat} (h : 0 < c) : compare (x * c) (y * c) = compare x y := by
  have hc : (0 : Int) < c := by omega
  rcases Int.lt_trichotomy x y with hx | hx | hx
  · rw [Int.compare_eq_lt.2 hx, Int.compare_eq_lt.2 (Int.mul_lt_mul_of_pos_right hx hc)]
  · subst hx; simp
  · rw [Int.compare_eq_gt.2 hx, Int.compare_eq_gt.2 (Int.mul_lt_mul_of_pos_right hx hc)]
theorem sgn_mono (s t : Bool) (a b : Nat) : compare (sgn s (magF a)) (sgn t (magF b)) = compare (sgn s a) (sgn t b) := by
  have key : ∀ x y : Nat, (magF x < magF y ↔ x < y) ∧ (magF x = magF y ↔ x = y) := fun x y => by
    rcases Nat.lt_trichotomy x y with h | h | h
    · have := magF_lt h; constructor <;> constructor <;> intro _ <;> omega
    · subst h; simp
    · have := magF_lt h; constructor <;> constructor <;> intro _ <;> omega
  have k0 := key a b
  have ka := key 0 a
  have kb := key 0 b
  rw [magF_zero] at ka kb
  generalize magF a = ma at *
  generalize magF b = mb at *
  have hh : ∀ x y x' y' : Int, (x < y ↔ x' < y') → (x = y ↔ x' = y') → compare x y = compare x' y' := fun x y x' y' h1 h2 => by
    rcases Int.lt_trichotomy x y with h | h | h
    · rw [Int.compare_eq_lt.2 h, Int.compare_eq_lt.2 (h1.1 h)]
    · rw [Int.compare_eq_eq.2 h, Int.compare_eq_eq.2 (h2.1 h)]
    · have h3 : ¬ x' < y' := fun c => by have := h1.2 c; omega
      have h4 : ¬ x' = y' := fun c => by have := h2.2 c; omega
      rw [Int.compare_eq_gt.2 h, Int.compare_eq_gt.2 (by omega)]
  apply hh <;> cases s <;> cases t <;> simp only [sgn, Bool.false_eq_true, if_false, if_true] <;> constructor <;> intro _ <;> omega

/-- a number's datum, against the rung's magnitude -/
theorem read_num {w : Nat} (h : w % 9223372036854775808 < 9218868437227405312) :
    ∃ m p, Ieee.double.read w = .number (w / 9223372036854775808 % 2 == 1) m p ∧ -1074 ≤ p ∧ m * 2 ^ (p + 1074).toNat = magF (w % 9223372036854775808) := by
  rw [read_eq]
  unfold magF
  by_cases h1 : w % 9223372036854775808 < 4503599627370496
  · rw [if_pos h1, if_pos h1]
    exact ⟨_, _, rfl, by omega, by simp⟩
  · rw [if_neg h1, if_neg h1, if_pos h]
    refine ⟨_, _, rfl, by omega, ?_⟩
    congr 2
    omega
/-- a word as a whole number that rises with what it stands for -/
def keyF (w : Nat) : Int := sgn (w / 9223372036854775808 % 2 == 1) (w % 9223372036854775808)
def isNanF (w : Nat) : Bool := decide (9218868437227405312 < w % 9223372036854775808)
theorem order_nan {a b : Nat} (h : isNanF a = true ∨ isNanF b = true) : Ieee.double.order a b = none := by
  have hn : ∀ w, isNanF w = true → ∃ s t, Ieee.double.read w = .nan s t := fun w hw => by
    have := of_decide_eq_true hw
    rw [read_eq, if_neg (by omega), if_neg (by omega), if_neg (by omega)]
    exact ⟨_, _, rfl⟩
  unfold Format.order
  rcases h with h | h
  · obtain ⟨s, t, e⟩ := hn a h
    rw [e]
    cases Ieee.double.read b <;> rfl
  · obtain ⟨s, t, e⟩ := hn b h
    rw [e]
    cases Ieee.double.read a <;> rfl
theorem read_inf {w : Nat} (h : w % 9223372036854775808 = 9218868437227405312) : Ieee.double.read w = .infinity (w / 9223372036854775808 % 2 == 1) := by
  rw [read_eq, if_neg (by omega), if_neg (by omega), if_pos h]
theorem order_num {a b : Nat} (ha : isNanF a = false) (hb : isNanF b = false) : Ieee.double.order a b = some (compare (keyF a) (keyF b)) := by
  have ha := of_decide_eq_false ha
  have hb := of_decide_eq_false hb
  unfold Format.order keyF
  generalize hs : (a / 9223372036854775808 % 2 == 1) = s
  generalize ht : (b / 9223372036854775808 % 2 == 1) = t
  by_cases ia : a % 9223372036854775808 = 9218868437227405312
  · rw [read_inf ia, hs, ia]
    by_cases ib : b % 9223372036854775808 = 9218868437227405312
    · rw [read_inf ib, ht, ib]
      cases s <;> cases t <;> rfl
    · obtain ⟨m, p, e, _, _⟩ := read_num (w := b) (by omega)
      rw [e]
      generalize b % 9223372036854775808 = r at *
      simp only [Datum.order]
      cases s
      · simp only [Bool.false_eq_true, if_false]
        rw [Int.compare_eq_gt.2 (by unfold sgn; cases t <;> simp <;> omega)]
      · simp only [if_true]
        rw [Int.compare_eq_lt.2 (by unfold sgn; cases t <;> simp <;> omega)]
  · by_cases ib : b % 9223372036854775808 = 9218868437227405312
    · obtain ⟨m, p, e, _, _⟩ := read_num (w := a) (by omega)
      rw [read_inf ib, ht, ib, e]
      generalize a % 9223372036854775808 = r at *
      simp only [Datum.order]
      cases t
      · simp only [Bool.false_eq_true, if_false]
        rw [Int.compare_eq_lt.2 (by unfold sgn; cases s <;> simp <;> omega)]
      · simp only [if_true]
        rw [Int.compare_eq_gt.2 (by unfold sgn; cases s <;> simp <;> omega)]
    · obtain ⟨m, p, e, hp, hm⟩ := read_num (w := a) (by omega)
      obtain ⟨n, q, e2, hq, hn⟩ := read_num (w := b) (by omega)
      rw [e, e2, hs, ht]
      simp only [Datum.order]
      congr 1
      rw [signed_eq, signed_eq, ← sgn_mono s t (a % 9223372036854775808) (b % 9223372036854775808), ← hm, ← hn]
      have hb1 : (p + 1074).toNat = (p - min p q).toNat + (min p q + 1074).toNat := by omega
      have hb2 : (q + 1074).toNat = (q - min p q).toNat + (min p q + 1074).toNat := by omega
      rw [hb1, hb2, Nat.pow_add, Nat.pow_add, ← Nat.mul_assoc, ← Nat.mul_assoc, sgn_mul s (m * 2 ^ (p - min p q).toNat) (2 ^ (min p q + 1074).toNat), sgn_mul t (n * 2 ^ (q - min p q).toNat) (2 ^ (min p q + 1074).toNat), cmp_mul (Nat.two_pow_pos _)]
theorem order_self (a : Nat) : (Ieee.double.order a a != some .eq) = isNanF a := by
  cases h : isNanF a with
  | true => rw [order_nan (.inl h)]; rfl
  | false =>
    rw [order_num h h, Int.compare_eq_eq.2 rfl]
    rfl

/-! ### whole numbers -/
end Go.Proofs.YthhjjaoppacnmaaDoor
namespace Go.Proofs.YthhjjaoppacnmaaDoor
open Go.RowKit
set_option linter.unusedVariables false
set_option linter.unusedSimpArgs false

theorem encR_len (r : Int) : 1 ≤ (encR r).length ∧ (encR r).length ≤ 4 := by
  unfold encR
  split
  · simp
  · split
    · simp
    · split <;> simp
theorem mayR_le {r : Int} (h : mayR r = true) : 0 ≤ r ∧ r ≤ 1114111 := by have := of_decide_eq_true h; omega
end Go.Proofs.YthhjjaoppacnmaaDoor
