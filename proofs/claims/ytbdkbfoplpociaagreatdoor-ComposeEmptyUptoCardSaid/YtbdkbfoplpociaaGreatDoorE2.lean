/- Merged texts: RuMay, RuRef, RuTypes, Eq, Reads. -/
import Derived.Test.YtbdkbfoplpociaaGreatDoorProg
import Derived.Test.YtbdkbfoplpociaaGreatDoorE1
import Derived.Deep.LoopGhost
import Derived.Deep.DeepMust
namespace Go.Proofs.YtbdkbfoplpociaaGreatDoor
open Go.RowKit
set_option linter.unusedVariables false
set_option linter.unusedSimpArgs false

/-- may a rune be? -/
def mayR (r : Int) : Bool := decide (0 ≤ r ∧ r < 55296 ∨ 57344 ≤ r ∧ r ≤ 1114111)

theorem valid_any (r : Int) (w : World) : Calls Tryz.prog 198 #[.int .i32 r] w fun e w' => e = .returned (.bool (mayR r)) ∧ w = w' := by
  by_cases h1 : 0 ≤ r
  · by_cases h2 : r < 55296
    · have h3 : mayR r = true := decide_eq_true (.inl ⟨h1, h2⟩)
      rw [h3]
      go_enter Tryz.func198, Tryz.ntmps198
      go_wp2_with (fail)
      go_ret
      exact ⟨rfl, rfl⟩
    · by_cases h4 : 57343 < r
      · by_cases h5 : r ≤ 1114111
        · have h3 : mayR r = true := decide_eq_true (.inr ⟨by omega, h5⟩)
          rw [h3]
          go_enter Tryz.func198, Tryz.ntmps198
          go_wp2_with (fail)
          go_ret
          exact ⟨rfl, rfl⟩
        · have h3 : mayR r = false := decide_eq_false (by omega)
          rw [h3]
          go_enter Tryz.func198, Tryz.ntmps198
          go_wp2_with (fail)
          go_ret
          exact ⟨rfl, rfl⟩
      · have h3 : mayR r = false := decide_eq_false (by omega)
        rw [h3]
        go_enter Tryz.func198, Tryz.ntmps198
        go_wp2_with (fail)
        go_ret
        exact ⟨rfl, rfl⟩
  · have h3 : mayR r = false := decide_eq_false (by omega)
    rw [h3]
    have h4 : ¬ 57343 < r := by omega
    go_enter Tryz.func198, Tryz.ntmps198
    go_wp2_with (fail)
    go_ret
    exact ⟨rfl, rfl⟩
theorem may_any (r : Int) (w : World) : Calls Tryz.prog 142 #[.int .i32 r] w fun e w' => e = .returned (.bool (mayR r)) ∧ w = w' := by
  generalize hR : mayR r = R
  have HR := Lib.hid hR
  clear hR
  go_enter Tryz.func142, Tryz.ntmps142
  go_wp2_with (go_at_call 198; refine Hid.out ?_)
  refine Lib.hid ?_
  refine (valid_any r w).mono ?_
  rintro e w1 ⟨rfl, rfl⟩
  rw [HR.out]
  go_wp2_with (fail)
  go_ret
  exact ⟨rfl, rfl⟩
end Go.Proofs.YtbdkbfoplpociaaGreatDoor
namespace Go.Proofs.YtbdkbfoplpociaaGreatDoor
open Go.RowKit
set_option linter.unusedVariables false
set_option linter.unusedSimpArgs false

theorem refMay_any (r : Int) (w : World) : Calls Tryz.prog 155 #[.int .i32 r] w fun e w' => e = .returned (.bool (mayR r)) ∧ w = w' := by
  by_cases h1 : 0 ≤ r
  · by_cases h2 : r < 55296
    · have h3 : mayR r = true := decide_eq_true (.inl ⟨h1, h2⟩)
      rw [h3]
      go_enter Tryz.func155, Tryz.ntmps155
      go_wp2_with (fail)
      go_ret
      exact ⟨rfl, rfl⟩
    · by_cases h4 : 57344 ≤ r
      · by_cases h5 : r ≤ 1114111
        · have h3 : mayR r = true := decide_eq_true (.inr ⟨h4, h5⟩)
          rw [h3]
          go_enter Tryz.func155, Tryz.ntmps155
          go_wp2_with (fail)
          go_ret
          exact ⟨rfl, rfl⟩
        · have h3 : mayR r = false := decide_eq_false (by omega)
          rw [h3]
          go_enter Tryz.func155, Tryz.ntmps155
          go_wp2_with (fail)
          go_ret
          exact ⟨rfl, rfl⟩
      · have h3 : mayR r = false := decide_eq_false (by omega)
        rw [h3]
        go_enter Tryz.func155, Tryz.ntmps155
        go_wp2_with (fail)
        go_ret
        exact ⟨rfl, rfl⟩
  · have h3 : mayR r = false := decide_eq_false (by omega)
    rw [h3]
    have h4 : ¬ 57344 ≤ r := by omega
    go_enter Tryz.func155, Tryz.ntmps155
    go_wp2_with (fail)
    go_ret
    exact ⟨rfl, rfl⟩
theorem six_any (r : Int) (w : World) (h0 : 0 ≤ r) (h1 : r ≤ 2147483647) : Calls Tryz.prog 210 #[.int .i32 r] w fun e w' => e = .returned (.int .u8 (128 + r % 64)) ∧ w = w' := by
  go_enter Tryz.func210, Tryz.ntmps210
  go_wp2_with (fail)
  go_ret
  exact ⟨rfl, rfl⟩
def encU8 (x : Int) : List Value := [.int .u8 x]
def encI32 (x : Int) : List Value := [.int .i32 x]
/-- a rune's bytes -/
def encR (r : Int) : List Int :=
  if r < 128 then [r] else if r < 2048 then [192 + r / 64, 128 + r % 64] else if r < 65536 then [224 + r / 4096, 128 + r / 64 % 64, 128 + r % 64]
  else [240 + r / 262144, 128 + r / 4096 % 64, 128 + r / 64 % 64, 128 + r % 64]

theorem one_any (r : Int) (w : World) (h0 : 0 ≤ r) (h1 : r ≤ 1114111) : Calls Tryz.prog 156 #[.int .i32 r] w fun e w' =>
    ∃ A c, e = .returned (.slice A (encR r).length c) ∧ Rd encU8 1 w' w'.heap.size A (encR r) ∧ Below w.heap.size w w' := by
  by_cases h2 : r < 128
  · have e : encR r = [r] := by simp [encR, h2]
    rw [e]
    go_enter Tryz.func156, Tryz.ntmps156
    go_wp2_with (fail)
    go_ret
    exact ⟨_, _, rfl, Rd.new (enc := encU8) (size := 1) (fun _ => rfl) w 5 _ (cs := #[.int .u8 (r)]) rfl rfl, ext_alloc w _⟩
  · by_cases h3 : r < 2048
    · have e : encR r = [192 + r / 64, 128 + r % 64] := by simp [encR, h2, h3]
      rw [e]
      go_enter Tryz.func156, Tryz.ntmps156
      go_wp2_with (go_at_call 210; refine (six_any _ w (by omega) (by omega)).mono ?_; rintro e w' ⟨rfl, rfl⟩)
      go_ret
      exact ⟨_, _, rfl, Rd.new (enc := encU8) (size := 1) (fun _ => rfl) w 5 _ (cs := #[.int .u8 (192 + r / 64), .int .u8 (128 + r % 64)]) rfl rfl, ext_alloc w _⟩
    · by_cases h4 : r < 65536
      · have e : encR r = [224 + r / 4096, 128 + r / 64 % 64, 128 + r % 64] := by simp [encR, h2, h3, h4]
        rw [e]
        go_enter Tryz.func156, Tryz.ntmps156
        go_wp2_with (go_at_call 210; refine (six_any _ w (by omega) (by omega)).mono ?_; rintro e w' ⟨rfl, rfl⟩)
        go_ret
        exact ⟨_, _, rfl, Rd.new (enc := encU8) (size := 1) (fun _ => rfl) w 5 _ (cs := #[.int .u8 (224 + r / 4096), .int .u8 (128 + r / 64 % 64), .int .u8 (128 + r % 64)]) rfl rfl, ext_alloc w _⟩
      · have e : encR r = [240 + r / 262144, 128 + r / 4096 % 64, 128 + r / 64 % 64, 128 + r % 64] := by simp [encR, h2, h3, h4]
        rw [e]
        go_enter Tryz.func156, Tryz.ntmps156
        go_wp2_with (go_at_call 210; refine (six_any _ w (by omega) (by omega)).mono ?_; rintro e w' ⟨rfl, rfl⟩)
        go_ret
        exact ⟨_, _, rfl, Rd.new (enc := encU8) (size := 1) (fun _ => rfl) w 5 _ (cs := #[.int .u8 (240 + r / 262144), .int .u8 (128 + r / 4096 % 64), .int .u8 (128 + r / 64 % 64), .int .u8 (128 + r % 64)]) rfl rfl, ext_alloc w _⟩
end Go.Proofs.YtbdkbfoplpociaaGreatDoor
namespace Go.Proofs.YtbdkbfoplpociaaGreatDoor
open Go.RowKit
set_option linter.unusedVariables false

theorem Tryz.infoU8 : (Tryz.prog.info? 5).map (fun i => (i.zero, i.size, i.bytes)) = some (some (.int .u8 0), 1, 1) := by kernel_rfl
theorem Tryz.infoI32 : (Tryz.prog.info? 21).map (fun i => (i.zero, i.size, i.bytes)) = some (some (.int .i32 0), 1, 4) := by kernel_rfl
theorem Tryz.slU8 : Tryz.prog.underlying 99 = some (.slice 5) := by kernel_rfl
theorem Tryz.slI32 : Tryz.prog.underlying 36 = some (.slice 21) := by kernel_rfl
theorem encI32_len (a : Int) : (encI32 a).length = 1 := rfl
theorem encI32_one (a : Int) : ∀ u ∈ encI32 a, u.oneCell' = true := by intro u hu; simp [encI32] at hu; rw [hu]; rfl
theorem info_of {P : Program} {t : TypeId} {z : Option Value} {s b : Nat} (h : (P.info? t).map (fun i => (i.zero, i.size, i.bytes)) = some (z, s, b)) : ∃ i, P.info? t = some i ∧ i.zero = z ∧ i.size = s ∧ i.bytes = b := by
  cases hi : P.info? t with
  | none => rw [hi] at h; simp at h
  | some i => rw [hi] at h; simp at h; exact ⟨i, rfl, h.1, h.2.1, h.2.2⟩

abbrev OwI32 := @Ow Int encI32 1 21
abbrev RdU8 := @Rd Int encU8 1
abbrev RdI32 := @Rd Int encI32 1

section
variable {ops : Array Oper} {rest : List Oper} {o : Oper} {a : Act} {Q : Exit → Act → World → Prop} {w : World} {base : Nat} {v : Value}
theorem app_i32 {l m : List Int} (hgd : o.guard = none) (s x : Operand)
    (ho : o.op = .call { callee := .builtin .append, args := #[s, x], argTypes := #[36, 36] })
    (hsv : a.eval s = v) (hown : OwI32 w base v l) (B : Nat) (A : Option Addr) (c n : Nat) (hx : a.eval x = .slice A n c) (hn : n = m.length) (hr : RdI32 w B A m)
    (hb : l.length + m.length ≤ 2000000000000) (hbase : base ≤ w.heap.size)
    (h : ∀ v' w', OwI32 w' base v' (l ++ m) → w.grownBy w' (wb v) → (v' = v ∧ w' = w ∨ wb v' = wb v ∨ wb v' = some w.heap.size) → wpList Tryz.prog ops Q rest (a.put o.dst v') w') : wpList Tryz.prog ops Q (o :: rest) a w := by
  obtain ⟨i0, hi0, hz0, hz1, hz2⟩ := info_of Tryz.infoI32
  exact wpList_app hgd s x _ ho i0 _ 4 Tryz.slI32 hi0 hz0 hz1 hz2 rfl (by omega) encI32_len encI32_one hsv hown B A c n hx hn hr (by simp only [maxLen]; omega) (by omega) hbase h
end
end Go.Proofs.YtbdkbfoplpociaaGreatDoor
namespace Go.Proofs.YtbdkbfoplpociaaGreatDoor
open Go.RowKit

theorem bytes_list (a b : ByteArray) : (a.toList = b.toList) ↔ a = b := by
  constructor
  · intro h
    rw [ByteArray.toList_eq, ByteArray.toList_eq] at h
    obtain ⟨⟨x⟩⟩ := a
    obtain ⟨⟨y⟩⟩ := b
    simp at h
    rw [h]
  · intro h; rw [h]

theorem eqin_v (w : World) (d : Nat) (k n f k' n' f' : Int) (s s' : ByteArray) :
    (Op.equalIn (d + 2) 43 (.agg #[.int .u8 k, .int .i64 n, .int .u64 f, .string s]) (.agg #[.int .u8 k', .int .i64 n', .int .u64 f', .string s'])).run Tryz.prog w =
      .ok (decide ((⟨k, n, f, s⟩ : V) = ⟨k', n', f', s'⟩)) w := by
  go_simp
  by_cases h1 : k = k' <;> by_cases h2 : n = n' <;> by_cases h3 : f = f' <;> by_cases h4 : s = s' <;> simp [h1, h2, h3, h4, bytes_list]
theorem eqin_at (w : World) (d : Nat) (q k n f q' k' n' f' : Int) (s s' : ByteArray) :
    (Op.equalIn (d + 3) 53 (.agg #[.int .i64 q, .int .u8 k, .int .i64 n, .int .u64 f, .string s]) (.agg #[.int .i64 q', .int .u8 k', .int .i64 n', .int .u64 f', .string s'])).run Tryz.prog w =
      .ok (decide ((⟨q, ⟨k, n, f, s⟩⟩ : At) = ⟨q', ⟨k', n', f', s'⟩⟩)) w := by
  go_simp
  by_cases h1 : k = k' <;> by_cases h2 : n = n' <;> by_cases h3 : f = f' <;> by_cases h4 : s = s' <;> by_cases h5 : q = q' <;> simp [h1, h2, h3, h4, h5, bytes_list]
theorem eqin_ch (w : World) (d : Nat) (q k n f q' k' n' f' : Int) (g g' : Bool) (s s' : ByteArray) :
    (Op.equalIn (d + 3) 45 (.agg #[.int .i64 q, .bool g, .int .u8 k, .int .i64 n, .int .u64 f, .string s]) (.agg #[.int .i64 q', .bool g', .int .u8 k', .int .i64 n', .int .u64 f', .string s'])).run Tryz.prog w =
      .ok (decide ((⟨q, g, ⟨k, n, f, s⟩⟩ : Ch) = ⟨q', g', ⟨k', n', f', s'⟩⟩)) w := by
  go_simp
  by_cases h1 : k = k' <;> by_cases h2 : n = n' <;> by_cases h3 : f = f' <;> by_cases h4 : s = s' <;> by_cases h5 : q = q' <;> by_cases h6 : g = g' <;> simp [h1, h2, h3, h4, h5, h6, bytes_list]

def beqV (a b : V) : Bool := decide (a = b)
def beqAt (a b : At) : Bool := decide (a = b)
def beqCh (a b : Ch) : Bool := decide (a = b)
theorem beqAt_eq {a b : At} (h : a = b) : beqAt a b = true := decide_eq_true h
theorem beqAt_ne {a b : At} (h : ¬ a = b) : beqAt a b = false := decide_eq_false h
theorem beqCh_eq {a b : Ch} (h : a = b) : beqCh a b = true := decide_eq_true h
theorem beqCh_ne {a b : Ch} (h : ¬ a = b) : beqCh a b = false := decide_eq_false h

section
variable (w : World) (q k n f q' k' n' f' : Int) (g g' : Bool) (s s' : ByteArray)
@[go_sem high] theorem eql_v : (binOp .eql 43 (.agg #[.int .u8 k, .int .i64 n, .int .u64 f, .string s]) (.agg #[.int .u8 k', .int .i64 n', .int .u64 f', .string s'])).run Tryz.prog w =
      .ok (.bool (beqV ⟨k, n, f, s⟩ ⟨k', n', f', s'⟩)) w := by rw [run_eql_struct, eqin_v]; rfl
@[go_sem high] theorem neq_v : (binOp .neq 43 (.agg #[.int .u8 k, .int .i64 n, .int .u64 f, .string s]) (.agg #[.int .u8 k', .int .i64 n', .int .u64 f', .string s'])).run Tryz.prog w =
      .ok (.bool (!beqV ⟨k, n, f, s⟩ ⟨k', n', f', s'⟩)) w := by rw [run_neq_struct, eqin_v]; rfl
@[go_sem high] theorem eql_at : (binOp .eql 53 (.agg #[.int .i64 q, .int .u8 k, .int .i64 n, .int .u64 f, .string s]) (.agg #[.int .i64 q', .int .u8 k', .int .i64 n', .int .u64 f', .string s'])).run Tryz.prog w =
      .ok (.bool (beqAt ⟨q, ⟨k, n, f, s⟩⟩ ⟨q', ⟨k', n', f', s'⟩⟩)) w := by rw [run_eql_struct, eqin_at]; rfl
@[go_sem high] theorem neq_at : (binOp .neq 53 (.agg #[.int .i64 q, .int .u8 k, .int .i64 n, .int .u64 f, .string s]) (.agg #[.int .i64 q', .int .u8 k', .int .i64 n', .int .u64 f', .string s'])).run Tryz.prog w =
      .ok (.bool (!beqAt ⟨q, ⟨k, n, f, s⟩⟩ ⟨q', ⟨k', n', f', s'⟩⟩)) w := by rw [run_neq_struct, eqin_at]; rfl
@[go_sem high] theorem eql_ch : (binOp .eql 45 (.agg #[.int .i64 q, .bool g, .int .u8 k, .int .i64 n, .int .u64 f, .string s]) (.agg #[.int .i64 q', .bool g', .int .u8 k', .int .i64 n', .int .u64 f', .string s'])).run Tryz.prog w =
      .ok (.bool (beqCh ⟨q, g, ⟨k, n, f, s⟩⟩ ⟨q', g', ⟨k', n', f', s'⟩⟩)) w := by rw [run_eql_struct, eqin_ch]; rfl
@[go_sem high] theorem neq_ch : (binOp .neq 45 (.agg #[.int .i64 q, .bool g, .int .u8 k, .int .i64 n, .int .u64 f, .string s]) (.agg #[.int .i64 q', .bool g', .int .u8 k', .int .i64 n', .int .u64 f', .string s'])).run Tryz.prog w =
      .ok (.bool (!beqCh ⟨q, g, ⟨k, n, f, s⟩⟩ ⟨q', g', ⟨k', n', f', s'⟩⟩)) w := by rw [run_neq_struct, eqin_ch]; rfl
end
end Go.Proofs.YtbdkbfoplpociaaGreatDoor
namespace Go.Proofs.YtbdkbfoplpociaaGreatDoor
open Go.RowKit
set_option linter.unusedVariables false
set_option linter.unusedSimpArgs false

/-- what a call does that only reads -/
def Quiet (v : Value) (w : World) (e : Ending) (w' : World) : Prop := e = .returned v ∧ ∃ d, w' = w.drewN d
theorem Quiet.below {v : Value} {w w' : World} {e : Ending} (h : Quiet v w e w') (B : Nat) : e = .returned v ∧ Below B w w' := by
  obtain ⟨h1, d, rfl⟩ := h
  exact ⟨h1, below_drewN (Below.refl _ _) d⟩

theorem ret_bool {a b : Bool} (h : a = b) : Ending.returned (.bool a) = Ending.returned (.bool b) := by rw [h]
theorem ret_int {k : IntKind} {a b : Int} (h : a = b) : Ending.returned (.int k a) = Ending.returned (.int k b) := by rw [h]

def rise : List Int → Bool
  | a :: b :: t => decide (a < b) && rise (b :: t)
  | _ => true
def riseA (l : List At) : Bool := rise (l.map (·.key))
def riseC (l : List Ch) : Bool := rise (l.map (·.key))
theorem rise_short {α : Type} (f : α → Int) (l : List α) (m : Nat) (h : l.length ≤ m + 1) : rise ((l.drop m).map f) = true := by
  have : (l.drop m).length ≤ 1 := by rw [List.length_drop]; omega
  match hd : l.drop m with
  | [] => rfl
  | [a] => rfl
  | a :: b :: t => rw [hd] at this; simp at this

set_option maxRecDepth 100000 in
set_option maxHeartbeats 400000 in
theorem risingA_any (A : Option Addr) (n c : Nat) (l : List At) (w : World) (hn : n = l.length) (h : RdAt w w.heap.size A l) (hb : n ≤ 140737488355328) :
    Calls Tryz.prog 41 #[.slice A n c] w (Quiet (.bool (riseA l)) w) := by
  have N := Lib.hid hn
  generalize hR : riseA l = R
  have HR := Lib.hid hR
  clear hn hR
  go_enter Tryz.func41, Tryz.ntmps41
  go_wp2_with (fail)
  go_loopg [3] n (fun g iv wr => ∃ m : Nat, (m + 1 ≤ n ∨ m = 0) ∧ g = n - m ∧ iv = .int .i64 ((m : Int) + 1) ∧ (∃ d, wr = w.drewN d) ∧ Hid (rise ((l.drop m).map (·.key)) = R))
  case atStart => exact ⟨0, by omega, rfl, rfl, ⟨0, rfl⟩, Lib.hid (by rw [List.drop_zero]; exact HR.out)⟩
  case round =>
    obtain ⟨m, hm, hg, rfl, ⟨d, rfl⟩, HI⟩ := hrel
    have HG := Lib.hid hg
    clear hg HR
    by_cases hlt : m + 1 < n
    · have hl1 : m < l.length := by have := N.out; omega
      have hl2 : m + 1 < l.length := by have := N.out; omega
      obtain ⟨ad, x, rfl, _, hd1, _, hc1⟩ := h.el hl1
      obtain ⟨ad', y, e, _, hd2, _, hc2⟩ := h.el hl2
      injection e with e; subst e
      have HI' : Hid (rise (x.key :: y.key :: (l.drop (m + 2)).map (·.key)) = R) := Lib.hid (by rw [← HI.out, hd1, hd2]; rfl)
      have HI2 : Hid (rise (y.key :: (l.drop (m + 2)).map (·.key)) = rise ((l.drop (m + 1)).map (·.key))) := Lib.hid (by rw [hd2]; rfl)
      clear HI hd1 hd2
      obtain ⟨x1, x2, x3, x4, x5⟩ := x
      obtain ⟨y1, y2, y3, y4, y5⟩ := y
      obtain ⟨r0, -⟩ := at_cells hc1
      obtain ⟨s0, -⟩ := at_cells hc2
      have hmn : m < n := by omega
      have hw : IntKind.i64.wrap (m:Int) = m := IntWalk.i64_in _ (by omega)
      have hw2 : IntKind.i64.wrap ((m:Int) + 1) = (m : Int) + 1 := IntWalk.i64_in _ (by omega)
      by_cases hle : y1 ≤ x1
      · go_wp2_with (go_quiet (fail))
        go_ret
        have : ¬ x1 < y1 := by omega
        exact ⟨ret_bool (by rw [← HI'.out]; simp [rise, this]), _, rfl⟩
      · clear hw
        go_wp2_with (go_quiet (fail))
        go_roundg (n - (m + 1))
        case measure => have := HG.out; omega
        case rel => exact ⟨m + 1, by omega, rfl, by go_num, ⟨_, rfl⟩, Lib.hid (by rw [← HI'.out, ← HI2.out]; have : x1 < y1 := by omega
                                                                                  simp [rise, this])⟩
    · go_wp2_with (fail)
      go_ret
      exact ⟨ret_bool (by rw [← HI.out, rise_short _ _ _ (by have := N.out; omega)]), _, rfl⟩

set_option maxRecDepth 100000 in
set_option maxHeartbeats 400000 in
theorem risingC_any (A : Option Addr) (n c : Nat) (l : List Ch) (w : World) (hn : n = l.length) (h : RdCh w w.heap.size A l) (hb : n ≤ 140737488355328) :
    Calls Tryz.prog 42 #[.slice A n c] w (Quiet (.bool (riseC l)) w) := by
  have N := Lib.hid hn
  generalize hR : riseC l = R
  have HR := Lib.hid hR
  clear hn hR
  go_enter Tryz.func42, Tryz.ntmps42
  go_wp2_with (fail)
  go_loopg [3] n (fun g iv wr => ∃ m : Nat, (m + 1 ≤ n ∨ m = 0) ∧ g = n - m ∧ iv = .int .i64 ((m : Int) + 1) ∧ (∃ d, wr = w.drewN d) ∧ Hid (rise ((l.drop m).map (·.key)) = R))
  case atStart => exact ⟨0, by omega, rfl, rfl, ⟨0, rfl⟩, Lib.hid (by rw [List.drop_zero]; exact HR.out)⟩
  case round =>
    obtain ⟨m, hm, hg, rfl, ⟨d, rfl⟩, HI⟩ := hrel
    have HG := Lib.hid hg
    clear hg HR
    by_cases hlt : m + 1 < n
    · have hl1 : m < l.length := by have := N.out; omega
      have hl2 : m + 1 < l.length := by have := N.out; omega
      obtain ⟨ad, x, rfl, _, hd1, _, hc1⟩ := h.el hl1
      obtain ⟨ad', y, e, _, hd2, _, hc2⟩ := h.el hl2
      injection e with e; subst e
      have HI' : Hid (rise (x.key :: y.key :: (l.drop (m + 2)).map (·.key)) = R) := Lib.hid (by rw [← HI.out, hd1, hd2]; rfl)
      have HI2 : Hid (rise (y.key :: (l.drop (m + 2)).map (·.key)) = rise ((l.drop (m + 1)).map (·.key))) := Lib.hid (by rw [hd2]; rfl)
      clear HI hd1 hd2
      obtain ⟨x1, x6, x2, x3, x4, x5⟩ := x
      obtain ⟨y1, y6, y2, y3, y4, y5⟩ := y
      obtain ⟨r0, -⟩ := ch_cells hc1
      obtain ⟨s0, -⟩ := ch_cells hc2
      have hmn : m < n := by omega
      have hw : IntKind.i64.wrap (m:Int) = m := IntWalk.i64_in _ (by omega)
      have hw2 : IntKind.i64.wrap ((m:Int) + 1) = (m : Int) + 1 := IntWalk.i64_in _ (by omega)
      by_cases hle : y1 ≤ x1
      · go_wp2_with (go_quiet (fail))
        go_ret
        have : ¬ x1 < y1 := by omega
        exact ⟨ret_bool (by rw [← HI'.out]; simp [rise, this]), _, rfl⟩
      · clear hw
        go_wp2_with (go_quiet (fail))
        go_roundg (n - (m + 1))
        case measure => have := HG.out; omega
        case rel => exact ⟨m + 1, by omega, rfl, by go_num, ⟨_, rfl⟩, Lib.hid (by rw [← HI'.out, ← HI2.out]; have : x1 < y1 := by omega
                                                                                  simp [rise, this])⟩
    · go_wp2_with (fail)
      go_ret
      exact ⟨ret_bool (by rw [← HI.out, rise_short _ _ _ (by have := N.out; omega)]), _, rfl⟩

set_option maxRecDepth 100000 in
set_option maxHeartbeats 400000 in
theorem sameA_any (A B : Option Addr) (n m c d : Nat) (l k : List At) (w : World) (hn : n = l.length) (hm : m = k.length) (h1 : RdAt w w.heap.size A l) (h2 : RdAt w w.heap.size B k) (hb : n ≤ 140737488355328) (hb2 : m ≤ 140737488355328) :
    Calls Tryz.prog 45 #[.slice A n c, .slice B m d] w (Quiet (.bool (decide (l = k))) w) := by
  have N := Lib.hid hn
  have M := Lib.hid hm
  generalize hR : decide (l = k) = R
  have HR := Lib.hid hR
  clear hn hR hm
  by_cases hnm : (n : Int) = m
  · have hnm' : n = m := by omega
    subst hnm'
    clear hnm
    go_enter Tryz.func45, Tryz.ntmps45
    go_wp2_with (fail)
    go_loopg [5] n (fun g iv wr => ∃ i : Nat, i ≤ n ∧ g = n - i ∧ iv = .int .i64 (i : Int) ∧ (∃ d, wr = w.drewN d) ∧ Hid (decide (l.drop i = k.drop i) = R))
    case atStart => exact ⟨0, by omega, rfl, rfl, ⟨0, rfl⟩, Lib.hid (by rw [List.drop_zero, List.drop_zero]; exact HR.out)⟩
    case round =>
      obtain ⟨i, hi, hg, rfl, ⟨q, rfl⟩, HI⟩ := hrel
      have HG := Lib.hid hg
      clear hg HR
      by_cases hlt : i < n
      · have hl1 : i < l.length := by have := N.out; omega
        have hl2 : i < k.length := by have := M.out; omega
        obtain ⟨ad, x, rfl, _, hd1, _, hc1⟩ := h1.el hl1
        obtain ⟨ad2, y, rfl, _, hd2, _, hc2⟩ := h2.el hl2
        have HI' : Hid (decide (x :: l.drop (i + 1) = y :: k.drop (i + 1)) = R) := Lib.hid (by rw [← HI.out, hd1, hd2])
        clear HI hd1 hd2
        obtain ⟨x1, x2, x3, x4, x5⟩ := x
        obtain ⟨y1, y2, y3, y4, y5⟩ := y
        obtain ⟨r0, r1, r2, r3, r4⟩ := at_cells hc1
        obtain ⟨s0, s1, s2, s3, s4⟩ := at_cells hc2
        by_cases hxy : (⟨x1, ⟨x2, x3, x4, x5⟩⟩ : At) = ⟨y1, ⟨y2, y3, y4, y5⟩⟩
        · have hq := beqAt_eq hxy
          have HXY := Lib.hid hxy
          clear hxy
          go_wp2_with (go_quiet (fail))
          go_roundg (n - (i + 1))
          case measure => have := HG.out; omega
          case rel => exact ⟨i + 1, by omega, rfl, by go_num, ⟨_, rfl⟩, Lib.hid (by rw [← HI'.out]; simp only [List.cons.injEq, HXY.out, true_and])⟩
        · have hq := beqAt_ne hxy
          have HXY := Lib.hid hxy
          clear hxy
          go_wp2_with (go_quiet (fail))
          go_ret
          exact ⟨ret_bool (by rw [← HI'.out]; exact (decide_eq_false fun e => HXY.out (List.cons.inj e).1).symm), _, World.drewN_drewN _ _ _⟩
      · go_wp2_with (fail)
        go_ret
        exact ⟨ret_bool (by rw [← HI.out, List.drop_eq_nil_of_le (by have := N.out; omega), List.drop_eq_nil_of_le (by have := M.out; omega)]; rfl), _, rfl⟩
  · have hne : ((n : Int) == m) = false := beq_eq_false_iff_ne.2 hnm
    go_enter Tryz.func45, Tryz.ntmps45
    go_wp2_with (fail)
    go_ret
    refine ⟨ret_bool ?_, 0, rfl⟩
    rw [← HR.out]
    refine (decide_eq_false fun e => ?_).symm
    have h3 := N.out
    have h4 := M.out
    rw [e] at h3
    omega

set_option maxRecDepth 100000 in
set_option maxHeartbeats 400000 in
theorem equalC_any (A B : Option Addr) (n m c d : Nat) (l k : List Ch) (w : World) (hn : n = l.length) (hm : m = k.length) (h1 : RdCh w w.heap.size A l) (h2 : RdCh w w.heap.size B k) (hb : n ≤ 140737488355328) (hb2 : m ≤ 140737488355328) :
    Calls Tryz.prog 239 #[.slice A n c, .slice B m d] w (Quiet (.bool (decide (l = k))) w) := by
  have N := Lib.hid hn
  have M := Lib.hid hm
  generalize hR : decide (l = k) = R
  have HR := Lib.hid hR
  clear hn hR hm
  by_cases hnm : (n : Int) = m
  · have hnm' : n = m := by omega
    subst hnm'
    clear hnm
    go_enter Tryz.func239, Tryz.ntmps239
    go_wp2_with (fail)
    go_loopg [13] n (fun g iv wr => ∃ i : Nat, i ≤ n ∧ g = n - i ∧ iv = .int .i64 (i : Int) ∧ (∃ d, wr = w.drewN d) ∧ Hid (decide (l.drop i = k.drop i) = R))
    case atStart => exact ⟨0, by omega, rfl, rfl, ⟨0, rfl⟩, Lib.hid (by rw [List.drop_zero, List.drop_zero]; exact HR.out)⟩
    case round =>
      obtain ⟨i, hi, hg, rfl, ⟨q, rfl⟩, HI⟩ := hrel
      have HG := Lib.hid hg
      clear hg HR
      by_cases hlt : i < n
      · have hl1 : i < l.length := by have := N.out; omega
        have hl2 : i < k.length := by have := M.out; omega
        obtain ⟨ad, x, rfl, _, hd1, _, hc1⟩ := h1.el hl1
        obtain ⟨ad2, y, rfl, _, hd2, _, hc2⟩ := h2.el hl2
        have HI' : Hid (decide (x :: l.drop (i + 1) = y :: k.drop (i + 1)) = R) := Lib.hid (by rw [← HI.out, hd1, hd2])
        clear HI hd1 hd2
        obtain ⟨x1, x6, x2, x3, x4, x5⟩ := x
        obtain ⟨y1, y6, y2, y3, y4, y5⟩ := y
        obtain ⟨r0, r1, r2, r3, r4, r5⟩ := ch_cells hc1
        obtain ⟨s0, s1, s2, s3, s4, s5⟩ := ch_cells hc2
        by_cases hxy : (⟨x1, x6, ⟨x2, x3, x4, x5⟩⟩ : Ch) = ⟨y1, y6, ⟨y2, y3, y4, y5⟩⟩
        · have hq := beqCh_eq hxy
          have HXY := Lib.hid hxy
          clear hxy
          go_wp2_with (go_quiet (fail))
          go_roundg (n - (i + 1))
          case measure => have := HG.out; omega
          case rel => exact ⟨i + 1, by omega, rfl, by go_num, ⟨_, rfl⟩, Lib.hid (by rw [← HI'.out]; simp only [List.cons.injEq, HXY.out, true_and])⟩
        · have hq := beqCh_ne hxy
          have HXY := Lib.hid hxy
          clear hxy
          go_wp2_with (go_quiet (fail))
          go_ret
          exact ⟨ret_bool (by rw [← HI'.out]; exact (decide_eq_false fun e => HXY.out (List.cons.inj e).1).symm), _, World.drewN_drewN _ _ _⟩
      · go_wp2_with (fail)
        go_ret
        exact ⟨ret_bool (by rw [← HI.out, List.drop_eq_nil_of_le (by have := N.out; omega), List.drop_eq_nil_of_le (by have := M.out; omega)]; rfl), _, rfl⟩
  · have hne : ((n : Int) == m) = false := beq_eq_false_iff_ne.2 hnm
    go_enter Tryz.func239, Tryz.ntmps239
    go_wp2_with (fail)
    go_ret
    refine ⟨ret_bool ?_, 0, rfl⟩
    rw [← HR.out]
    refine (decide_eq_false fun e => ?_).symm
    have h3 := N.out
    have h4 := M.out
    rw [e] at h3
    omega

set_option maxHeartbeats 400000 in
theorem sameC_any (A B : Option Addr) (n m c d : Nat) (l k : List Ch) (w : World) (hn : n = l.length) (hm : m = k.length) (h1 : RdCh w w.heap.size A l) (h2 : RdCh w w.heap.size B k) (hb : n ≤ 140737488355328) (hb2 : m ≤ 140737488355328) :
    Calls Tryz.prog 189 #[.slice A n c, .slice B m d] w (Quiet (.bool (decide (l = k))) w) := by
  have N := Lib.hid hn
  have M := Lib.hid hm
  clear hn hm
  go_enter Tryz.func189, Tryz.ntmps189
  go_wp2_with (go_at_call 239; refine (equalC_any A B n m c d l k _ N.out M.out h1 h2 hb hb2).mono ?_; rintro e w' ⟨rfl, q, rfl⟩)
  go_ret
  exact ⟨rfl, _, rfl⟩
end Go.Proofs.YtbdkbfoplpociaaGreatDoor
