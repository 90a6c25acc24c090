/- Merged texts: Reads, RuMay, RuRef, RuTypes, VaMake, Flo, RuReads, RuBytes. -/
import Derived.Test.YtnhmbocgopjbjaaDoorPk1
import Derived.Deep.LoopGhost
import Derived.Deep.DeepMust
import Derived.Test.YtnhmbocgopjbjaaDoorProg
import Derived.Laws.Externs
import Derived.Laws.BitsAllLaws
import Ieee.Arith
import GoSem.Core.Float
import Derived.Laws.FloatBits
/- Walks of the functions that only read: Rising, Same, Equal. -/
namespace Go.Proofs.YtnhmbocgopjbjaaDoor
open Go.RowKit
set_option linter.unusedVariables false
set_option linter.unusedSimpArgs false

/-- what a call does that only reads -/
def Quiet (v : Value) (w : World) (e : Ending) (w' : World) : Prop := e = .returned v ∧ ∃ d, w' = w.drewN d
theorem Quiet.below {v : Value} {w w' : World} {e : Ending} (h : Quiet v w e w') (B : Nat) : e = .returned v ∧ Below B w w' := by
  obtain ⟨h1, d, rfl⟩ := h
  exact ⟨h1, below_drewN (Below.refl _ _) d⟩

theorem ret_bool {a b : Bool} (h : a = b) : Ending.returned (.bool a) = Ending.returned (.bool b) := by rw [h]
theorem ret_int {k : IntKind} {a b : Int} (h : a = b) : Ending.returned (.int k a) = Ending.returned (.int k b) := by rw [h]

def rise : List Int → Bool
  | a :: b :: t => decide (a < b) && rise (b :: t)
  | _ => true
def riseA (l : List At) : Bool := rise (l.map (·.key))
def riseC (l : List Ch) : Bool := rise (l.map (·.key))
theorem rise_short {α : Type} (f : α → Int) (l : List α) (m : Nat) (h : l.length ≤ m + 1) : rise ((l.drop m).map f) = true := by
  have : (l.drop m).length ≤ 1 := by rw [List.length_drop]; omega
  match hd : l.drop m with
  | [] => rfl
  | [a] => rfl
  | a :: b :: t => rw [hd] at this; simp at this

set_option maxRecDepth 100000 in
set_option maxHeartbeats 400000 in
theorem risingA_any (A : Option Addr) (n c : Nat) (l : List At) (w : World) (hn : n = l.length) (h : RdAt w w.heap.size A l) (hb : n ≤ 140737488355328) :
    Calls Tryd.prog 30 #[.slice A n c] w (Quiet (.bool (riseA l)) w) := by
  have N := Lib.hid hn
  generalize hR : riseA l = R
  have HR := Lib.hid hR
  clear hn hR
  go_enter Tryd.func30, Tryd.ntmps30
  go_wp2_with (fail)
  go_loopg [3] n (fun g iv wr => ∃ m : Nat, (m + 1 ≤ n ∨ m = 0) ∧ g = n - m ∧ iv = .int .i64 ((m : Int) + 1) ∧ (∃ d, wr = w.drewN d) ∧ Hid (rise ((l.drop m).map (·.key)) = R))
  case atStart => exact ⟨0, by omega, rfl, rfl, ⟨0, rfl⟩, Lib.hid (by rw [List.drop_zero]; exact HR.out)⟩
  case round =>
    obtain ⟨m, hm, hg, rfl, ⟨d, rfl⟩, HI⟩ := hrel
    have HG := Lib.hid hg
    clear hg HR
    by_cases hlt : m + 1 < n
    · have hl1 : m < l.length := by have := N.out; omega
      have hl2 : m + 1 < l.length := by have := N.out; omega
      obtain ⟨ad, x, rfl, _, hd1, _, hc1⟩ := h.el hl1
      obtain ⟨ad', y, e, _, hd2, _, hc2⟩ := h.el hl2
      injection e with e; subst e
      have HI' : Hid (rise (x.key :: y.key :: (l.drop (m + 2)).map (·.key)) = R) := Lib.hid (by rw [← HI.out, hd1, hd2]; rfl)
      have HI2 : Hid (rise (y.key :: (l.drop (m + 2)).map (·.key)) = rise ((l.drop (m + 1)).map (·.key))) := Lib.hid (by rw [hd2]; rfl)
      clear HI hd1 hd2
      obtain ⟨x1, x2, x3, x4, x5⟩ := x
      obtain ⟨y1, y2, y3, y4, y5⟩ := y
      obtain ⟨r0, -⟩ := at_cells hc1
      obtain ⟨s0, -⟩ := at_cells hc2
      have hmn : m < n := by omega
      have hw : IntKind.i64.wrap (m:Int) = m := IntWalk.i64_in _ (by omega)
      have hw2 : IntKind.i64.wrap ((m:Int) + 1) = (m : Int) + 1 := IntWalk.i64_in _ (by omega)
      by_cases hle : y1 ≤ x1
      · go_wp2_with (go_quiet (fail))
        go_ret
        have : ¬ x1 < y1 := by omega
        exact ⟨ret_bool (by rw [← HI'.out]; simp [rise, this]), _, rfl⟩
      · clear hw
        go_wp2_with (go_quiet (fail))
        go_roundg (n - (m + 1))
        case measure => have := HG.out; omega
        case rel => exact ⟨m + 1, by omega, rfl, by go_num, ⟨_, rfl⟩, Lib.hid (by rw [← HI'.out, ← HI2.out]; have : x1 < y1 := by omega
                                                                                  simp [rise, this])⟩
    · go_wp2_with (fail)
      go_ret
      exact ⟨ret_bool (by rw [← HI.out, rise_short _ _ _ (by have := N.out; omega)]), _, rfl⟩

set_option maxRecDepth 100000 in
set_option maxHeartbeats 400000 in
theorem sameA_any (A B : Option Addr) (n m c d : Nat) (l k : List At) (w : World) (hn : n = l.length) (hm : m = k.length) (h1 : RdAt w w.heap.size A l) (h2 : RdAt w w.heap.size B k) (hb : n ≤ 140737488355328) (hb2 : m ≤ 140737488355328) :
    Calls Tryd.prog 28 #[.slice A n c, .slice B m d] w (Quiet (.bool (decide (l = k))) w) := by
  have N := Lib.hid hn
  have M := Lib.hid hm
  generalize hR : decide (l = k) = R
  have HR := Lib.hid hR
  clear hn hR hm
  by_cases hnm : (n : Int) = m
  · have hnm' : n = m := by omega
    subst hnm'
    clear hnm
    go_enter Tryd.func28, Tryd.ntmps28
    go_wp2_with (fail)
    go_loopg [5] n (fun g iv wr => ∃ i : Nat, i ≤ n ∧ g = n - i ∧ iv = .int .i64 (i : Int) ∧ (∃ d, wr = w.drewN d) ∧ Hid (decide (l.drop i = k.drop i) = R))
    case atStart => exact ⟨0, by omega, rfl, rfl, ⟨0, rfl⟩, Lib.hid (by rw [List.drop_zero, List.drop_zero]; exact HR.out)⟩
    case round =>
      obtain ⟨i, hi, hg, rfl, ⟨q, rfl⟩, HI⟩ := hrel
      have HG := Lib.hid hg
      clear hg HR
      by_cases hlt : i < n
      · have hl1 : i < l.length := by have := N.out; omega
        have hl2 : i < k.length := by have := M.out; omega
        obtain ⟨ad, x, rfl, _, hd1, _, hc1⟩ := h1.el hl1
        obtain ⟨ad2, y, rfl, _, hd2, _, hc2⟩ := h2.el hl2
        have HI' : Hid (decide (x :: l.drop (i + 1) = y :: k.drop (i + 1)) = R) := Lib.hid (by rw [← HI.out, hd1, hd2])
        clear HI hd1 hd2
        obtain ⟨x1, x2, x3, x4, x5⟩ := x
        obtain ⟨y1, y2, y3, y4, y5⟩ := y
        obtain ⟨r0, r1, r2, r3, r4⟩ := at_cells hc1
        obtain ⟨s0, s1, s2, s3, s4⟩ := at_cells hc2
        by_cases hxy : (⟨x1, ⟨x2, x3, x4, x5⟩⟩ : At) = ⟨y1, ⟨y2, y3, y4, y5⟩⟩
        · have hq := beqAt_eq hxy
          have HXY := Lib.hid hxy
          clear hxy
          go_wp2_with (go_quiet (fail))
          go_roundg (n - (i + 1))
          case measure => have := HG.out; omega
          case rel => exact ⟨i + 1, by omega, rfl, by go_num, ⟨_, rfl⟩, Lib.hid (by rw [← HI'.out]; simp only [List.cons.injEq, HXY.out, true_and])⟩
        · have hq := beqAt_ne hxy
          have HXY := Lib.hid hxy
          clear hxy
          go_wp2_with (go_quiet (fail))
          go_ret
          exact ⟨ret_bool (by rw [← HI'.out]; exact (decide_eq_false fun e => HXY.out (List.cons.inj e).1).symm), _, World.drewN_drewN _ _ _⟩
      · go_wp2_with (fail)
        go_ret
        exact ⟨ret_bool (by rw [← HI.out, List.drop_eq_nil_of_le (by have := N.out; omega), List.drop_eq_nil_of_le (by have := M.out; omega)]; rfl), _, rfl⟩
  · have hne : ((n : Int) == m) = false := beq_eq_false_iff_ne.2 hnm
    go_enter Tryd.func28, Tryd.ntmps28
    go_wp2_with (fail)
    go_ret
    refine ⟨ret_bool ?_, 0, rfl⟩
    rw [← HR.out]
    refine (decide_eq_false fun e => ?_).symm
    have h3 := N.out
    have h4 := M.out
    rw [e] at h3
    omega

end Go.Proofs.YtnhmbocgopjbjaaDoor
/- The walks of which rune may be: utf8.ValidRune, runes.May, rubricref01.May. -/
namespace Go.Proofs.YtnhmbocgopjbjaaDoor
open Go.RowKit
set_option linter.unusedVariables false
set_option linter.unusedSimpArgs false

/-- may a rune be? -/
def mayR (r : Int) : Bool := decide (0 ≤ r ∧ r < 55296 ∨ 57344 ≤ r ∧ r ≤ 1114111)

theorem valid_any (r : Int) (w : World) : Calls Tryd.prog 115 #[.int .i32 r] w fun e w' => e = .returned (.bool (mayR r)) ∧ w = w' := by
  by_cases h1 : 0 ≤ r
  · by_cases h2 : r < 55296
    · have h3 : mayR r = true := decide_eq_true (.inl ⟨h1, h2⟩)
      rw [h3]
      go_enter Tryd.func115, Tryd.ntmps115
      go_wp2_with (fail)
      go_ret
      exact ⟨rfl, rfl⟩
    · by_cases h4 : 57343 < r
      · by_cases h5 : r ≤ 1114111
        · have h3 : mayR r = true := decide_eq_true (.inr ⟨by omega, h5⟩)
          rw [h3]
          go_enter Tryd.func115, Tryd.ntmps115
          go_wp2_with (fail)
          go_ret
          exact ⟨rfl, rfl⟩
        · have h3 : mayR r = false := decide_eq_false (by omega)
          rw [h3]
          go_enter Tryd.func115, Tryd.ntmps115
          go_wp2_with (fail)
          go_ret
          exact ⟨rfl, rfl⟩
      · have h3 : mayR r = false := decide_eq_false (by omega)
        rw [h3]
        go_enter Tryd.func115, Tryd.ntmps115
        go_wp2_with (fail)
        go_ret
        exact ⟨rfl, rfl⟩
  · have h3 : mayR r = false := decide_eq_false (by omega)
    rw [h3]
    have h4 : ¬ 57343 < r := by omega
    go_enter Tryd.func115, Tryd.ntmps115
    go_wp2_with (fail)
    go_ret
    exact ⟨rfl, rfl⟩
theorem may_any (r : Int) (w : World) : Calls Tryd.prog 102 #[.int .i32 r] w fun e w' => e = .returned (.bool (mayR r)) ∧ w = w' := by
  generalize hR : mayR r = R
  have HR := Lib.hid hR
  clear hR
  go_enter Tryd.func102, Tryd.ntmps102
  go_wp2_with (go_at_call 115; refine Hid.out ?_)
  refine Lib.hid ?_
  refine (valid_any r w).mono ?_
  rintro e w1 ⟨rfl, rfl⟩
  rw [HR.out]
  go_wp2_with (fail)
  go_ret
  exact ⟨rfl, rfl⟩
end Go.Proofs.YtnhmbocgopjbjaaDoor
/- The walks of the document's answers of layer 1: rubricref01.May, six. -/
namespace Go.Proofs.YtnhmbocgopjbjaaDoor
open Go.RowKit
set_option linter.unusedVariables false
set_option linter.unusedSimpArgs false

theorem refMay_any (r : Int) (w : World) : Calls Tryd.prog 118 #[.int .i32 r] w fun e w' => e = .returned (.bool (mayR r)) ∧ w = w' := by
  by_cases h1 : 0 ≤ r
  · by_cases h2 : r < 55296
    · have h3 : mayR r = true := decide_eq_true (.inl ⟨h1, h2⟩)
      rw [h3]
      go_enter Tryd.func118, Tryd.ntmps118
      go_wp2_with (fail)
      go_ret
      exact ⟨rfl, rfl⟩
    · by_cases h4 : 57344 ≤ r
      · by_cases h5 : r ≤ 1114111
        · have h3 : mayR r = true := decide_eq_true (.inr ⟨h4, h5⟩)
          rw [h3]
          go_enter Tryd.func118, Tryd.ntmps118
          go_wp2_with (fail)
          go_ret
          exact ⟨rfl, rfl⟩
        · have h3 : mayR r = false := decide_eq_false (by omega)
          rw [h3]
          go_enter Tryd.func118, Tryd.ntmps118
          go_wp2_with (fail)
          go_ret
          exact ⟨rfl, rfl⟩
      · have h3 : mayR r = false := decide_eq_false (by omega)
        rw [h3]
        go_enter Tryd.func118, Tryd.ntmps118
        go_wp2_with (fail)
        go_ret
        exact ⟨rfl, rfl⟩
  · have h3 : mayR r = false := decide_eq_false (by omega)
    rw [h3]
    have h4 : ¬ 57344 ≤ r := by omega
    go_enter Tryd.func118, Tryd.ntmps118
    go_wp2_with (fail)
    go_ret
    exact ⟨rfl, rfl⟩
theorem six_any (r : Int) (w : World) (h0 : 0 ≤ r) (h1 : r ≤ 2147483647) : Calls Tryd.prog 123 #[.int .i32 r] w fun e w' => e = .returned (.int .u8 (128 + r % 64)) ∧ w = w' := by
  go_enter Tryd.func123, Tryd.ntmps123
  go_wp2_with (fail)
  go_ret
  exact ⟨rfl, rfl⟩
def encU8 (x : Int) : List Value := [.int .u8 x]
def encI32 (x : Int) : List Value := [.int .i32 x]
/-- a rune's bytes -/
def encR (r : Int) : List Int :=
  if r < 128 then [r] else if r < 2048 then [192 + r / 64, 128 + r % 64] else if r < 65536 then [224 + r / 4096, 128 + r / 64 % 64, 128 + r % 64]
  else [240 + r / 262144, 128 + r / 4096 % 64, 128 + r / 64 % 64, 128 + r % 64]

theorem one_any (r : Int) (w : World) (h0 : 0 ≤ r) (h1 : r ≤ 1114111) : Calls Tryd.prog 119 #[.int .i32 r] w fun e w' =>
    ∃ A c, e = .returned (.slice A (encR r).length c) ∧ Rd encU8 1 w' w'.heap.size A (encR r) ∧ Below w.heap.size w w' := by
  by_cases h2 : r < 128
  · have e : encR r = [r] := by simp [encR, h2]
    rw [e]
    go_enter Tryd.func119, Tryd.ntmps119
    go_wp2_with (fail)
    go_ret
    exact ⟨_, _, rfl, Rd.new (enc := encU8) (size := 1) (fun _ => rfl) w 5 _ (cs := #[.int .u8 (r)]) rfl rfl, ext_alloc w _⟩
  · by_cases h3 : r < 2048
    · have e : encR r = [192 + r / 64, 128 + r % 64] := by simp [encR, h2, h3]
      rw [e]
      go_enter Tryd.func119, Tryd.ntmps119
      go_wp2_with (go_at_call 123; refine (six_any _ w (by omega) (by omega)).mono ?_; rintro e w' ⟨rfl, rfl⟩)
      go_ret
      exact ⟨_, _, rfl, Rd.new (enc := encU8) (size := 1) (fun _ => rfl) w 5 _ (cs := #[.int .u8 (192 + r / 64), .int .u8 (128 + r % 64)]) rfl rfl, ext_alloc w _⟩
    · by_cases h4 : r < 65536
      · have e : encR r = [224 + r / 4096, 128 + r / 64 % 64, 128 + r % 64] := by simp [encR, h2, h3, h4]
        rw [e]
        go_enter Tryd.func119, Tryd.ntmps119
        go_wp2_with (go_at_call 123; refine (six_any _ w (by omega) (by omega)).mono ?_; rintro e w' ⟨rfl, rfl⟩)
        go_ret
        exact ⟨_, _, rfl, Rd.new (enc := encU8) (size := 1) (fun _ => rfl) w 5 _ (cs := #[.int .u8 (224 + r / 4096), .int .u8 (128 + r / 64 % 64), .int .u8 (128 + r % 64)]) rfl rfl, ext_alloc w _⟩
      · have e : encR r = [240 + r / 262144, 128 + r / 4096 % 64, 128 + r / 64 % 64, 128 + r % 64] := by simp [encR, h2, h3, h4]
        rw [e]
        go_enter Tryd.func119, Tryd.ntmps119
        go_wp2_with (go_at_call 123; refine (six_any _ w (by omega) (by omega)).mono ?_; rintro e w' ⟨rfl, rfl⟩)
        go_ret
        exact ⟨_, _, rfl, Rd.new (enc := encU8) (size := 1) (fun _ => rfl) w 5 _ (cs := #[.int .u8 (240 + r / 262144), .int .u8 (128 + r / 4096 % 64), .int .u8 (128 + r / 64 % 64), .int .u8 (128 + r % 64)]) rfl rfl, ext_alloc w _⟩
end Go.Proofs.YtnhmbocgopjbjaaDoor
/- Slices of bytes and of runes as plain lists: the append laws. -/
namespace Go.Proofs.YtnhmbocgopjbjaaDoor
open Go.RowKit
set_option linter.unusedVariables false

theorem Tryd.infoU8 : (Tryd.prog.info? 5).map (fun i => (i.zero, i.size, i.bytes)) = some (some (.int .u8 0), 1, 1) := by kernel_rfl
theorem Tryd.infoI32 : (Tryd.prog.info? 21).map (fun i => (i.zero, i.size, i.bytes)) = some (some (.int .i32 0), 1, 4) := by kernel_rfl
theorem Tryd.slU8 : Tryd.prog.underlying 122 = some (.slice 5) := by kernel_rfl
theorem Tryd.slI32 : Tryd.prog.underlying 37 = some (.slice 21) := by kernel_rfl
theorem encU8_len (a : Int) : (encU8 a).length = 1 := rfl
theorem encI32_len (a : Int) : (encI32 a).length = 1 := rfl
theorem encU8_one (a : Int) : ∀ u ∈ encU8 a, u.oneCell' = true := by intro u hu; simp [encU8] at hu; rw [hu]; rfl
theorem encI32_one (a : Int) : ∀ u ∈ encI32 a, u.oneCell' = true := by intro u hu; simp [encI32] at hu; rw [hu]; rfl
theorem info_of {P : Program} {t : TypeId} {z : Option Value} {s b : Nat} (h : (P.info? t).map (fun i => (i.zero, i.size, i.bytes)) = some (z, s, b)) : ∃ i, P.info? t = some i ∧ i.zero = z ∧ i.size = s ∧ i.bytes = b := by
  cases hi : P.info? t with
  | none => rw [hi] at h; simp at h
  | some i => rw [hi] at h; simp at h; exact ⟨i, rfl, h.1, h.2.1, h.2.2⟩

abbrev OwU8 := @Ow Int encU8 1 5
abbrev OwI32 := @Ow Int encI32 1 21
abbrev RdU8 := @Rd Int encU8 1
abbrev RdI32 := @Rd Int encI32 1

section
variable {ops : Array Oper} {rest : List Oper} {o : Oper} {a : Act} {Q : Exit → Act → World → Prop} {w : World} {base : Nat} {v : Value}
theorem app_u8 {l m : List Int} (hgd : o.guard = none) (s x : Operand)
    (ho : o.op = .call { callee := .builtin .append, args := #[s, x], argTypes := #[122, 122] })
    (hsv : a.eval s = v) (hown : OwU8 w base v l) (B : Nat) (A : Option Addr) (c n : Nat) (hx : a.eval x = .slice A n c) (hn : n = m.length) (hr : RdU8 w B A m)
    (hb : l.length + m.length ≤ 2000000000000) (hbase : base ≤ w.heap.size)
    (h : ∀ v' w', OwU8 w' base v' (l ++ m) → w.grownBy w' (wb v) → (v' = v ∧ w' = w ∨ wb v' = wb v ∨ wb v' = some w.heap.size) → wpList Tryd.prog ops Q rest (a.put o.dst v') w') : wpList Tryd.prog ops Q (o :: rest) a w := by
  obtain ⟨i0, hi0, hz0, hz1, hz2⟩ := info_of Tryd.infoU8
  exact wpList_app hgd s x _ ho i0 _ 1 Tryd.slU8 hi0 hz0 hz1 hz2 rfl (by omega) encU8_len encU8_one hsv hown B A c n hx hn hr (by simp only [maxLen]; omega) (by omega) hbase h
theorem app_i32 {l m : List Int} (hgd : o.guard = none) (s x : Operand)
    (ho : o.op = .call { callee := .builtin .append, args := #[s, x], argTypes := #[37, 37] })
    (hsv : a.eval s = v) (hown : OwI32 w base v l) (B : Nat) (A : Option Addr) (c n : Nat) (hx : a.eval x = .slice A n c) (hn : n = m.length) (hr : RdI32 w B A m)
    (hb : l.length + m.length ≤ 2000000000000) (hbase : base ≤ w.heap.size)
    (h : ∀ v' w', OwI32 w' base v' (l ++ m) → w.grownBy w' (wb v) → (v' = v ∧ w' = w ∨ wb v' = wb v ∨ wb v' = some w.heap.size) → wpList Tryd.prog ops Q rest (a.put o.dst v') w') : wpList Tryd.prog ops Q (o :: rest) a w := by
  obtain ⟨i0, hi0, hz0, hz1, hz2⟩ := info_of Tryd.infoI32
  exact wpList_app hgd s x _ ho i0 _ 4 Tryd.slI32 hi0 hz0 hz1 hz2 rfl (by omega) encI32_len encI32_one hsv hown B A c n hx hn hr (by simp only [maxLen]; omega) (by omega) hbase h
end
end Go.Proofs.YtnhmbocgopjbjaaDoor
/- The walks of what makes values: Flag, Int, Float, and of math's bits. -/
namespace Go.Proofs.YtnhmbocgopjbjaaDoor
open Go.RowKit
set_option linter.unusedVariables false
set_option linter.unusedSimpArgs false

/-- a pattern of what is no number -/
def nanF (f : Int) : Bool := decide (9218868437227405312 < f % 9223372036854775808)
/-- the one pattern -/
def NaNbits : Int := 9221120237041090560
def floatV (f : Int) : V := ⟨3, 0, if nanF f = true then 9221120237041090560 else f, ⟨#[]⟩⟩
def flagV (b : Bool) : V := ⟨1, if b = true then 1 else 0, 0, ⟨#[]⟩⟩
def intV (n : Int) : V := ⟨2, n, 0, ⟨#[]⟩⟩
def textV (s : ByteArray) : V := ⟨4, 0, 0, s⟩

@[go_sem high] theorem run_frombits (n : Int) (w : World) : (callFunc 76 #[.int .u64 n]).run Tryd.prog w = .ok (.value (.float .f64 n.toNat)) w := by
  rw [run_callFunc_extern (fn := Tryd.f76) (e := Extern.MathFloatBits.float64frombits) Tryd.func76 (by kernel_rfl) (by kernel_rfl) (by kernel_rfl) (by kernel_rfl)]
  rfl
@[go_sem high] theorem run_bits (n : Nat) (w : World) : (callFunc 104 #[.float .f64 n]).run Tryd.prog w = .ok (.value (.int .u64 (n : Int))) w := by
  rw [run_callFunc_extern (fn := Tryd.f104) (e := Extern.MathFloatBits.float64bits) Tryd.func104 (by kernel_rfl) (by kernel_rfl) (by kernel_rfl) (by kernel_rfl)]
  rfl

theorem flag_any (b : Bool) (w : World) : Calls Tryd.prog 73 #[.bool b] w fun e w' => e = .returned (.agg #[.int .u8 1, .int .i64 (if b = true then 1 else 0), .int .u64 0, .string ⟨#[]⟩]) ∧ Below w.heap.size w w' := by
  cases b
  · go_enter Tryd.func73, Tryd.ntmps73
    go_wp2_with (fail)
    refine bodyPost_ret (v := .agg #[.int .u8 1, .int .i64 0, .int .u64 0, .string ⟨#[]⟩]) (by simp [results, Tryd.results73, go_sem]) rfl ?_
    exact ⟨rfl, ext_trans (ext_alloc w _) (ext_alloc _ _)⟩
  · go_enter Tryd.func73, Tryd.ntmps73
    go_wp2_with (fail)
    refine bodyPost_ret (v := .agg #[.int .u8 1, .int .i64 1, .int .u64 0, .string ⟨#[]⟩]) (by simp [results, Tryd.results73, go_sem]) rfl ?_
    exact ⟨rfl, ext_trans (ext_alloc w _) (ext_alloc _ _)⟩
theorem int_any (n : Int) (w : World) : Calls Tryd.prog 74 #[.int .i64 n] w fun e w' => e = .returned (.agg #[.int .u8 2, .int .i64 n, .int .u64 0, .string ⟨#[]⟩]) ∧ Below w.heap.size w w' := by
  go_enter Tryd.func74, Tryd.ntmps74
  go_wp2_with (fail)
  refine bodyPost_ret (v := .agg #[.int .u8 2, .int .i64 n, .int .u64 0, .string ⟨#[]⟩]) (by simp [results, Tryd.results74, go_sem]) rfl ?_
  exact ⟨rfl, ext_alloc w _⟩
end Go.Proofs.YtnhmbocgopjbjaaDoor
/- Plain laws of float64 by its bits: how two stand to each other, whole numbers near it. Nothing of the program stands here. -/
namespace Go.Proofs.YtnhmbocgopjbjaaDoor
open Ieee
set_option linter.unusedVariables false
set_option linter.unusedSimpArgs false

theorem dW (w : Nat) : w / Ieee.double.signWeight % 2 = w / 9223372036854775808 % 2 := rfl
/-- the datum of a word, in numbers -/
theorem read_eq (w : Nat) : Ieee.double.read w =
    if w % 9223372036854775808 < 4503599627370496 then .number (w / 9223372036854775808 % 2 == 1) (w % 9223372036854775808) (-1074)
    else if w % 9223372036854775808 < 9218868437227405312 then
      .number (w / 9223372036854775808 % 2 == 1) (4503599627370496 + w % 9223372036854775808 % 4503599627370496) (-1074 + (w % 9223372036854775808 / 4503599627370496 - 1 : Nat))
    else if w % 9223372036854775808 = 9218868437227405312 then .infinity (w / 9223372036854775808 % 2 == 1)
    else .nan (w / 9223372036854775808 % 2 == 1) (w % 9223372036854775808 - 9218868437227405312) := rfl

/-- a rung's magnitude, in units of the least -/
def magF (r : Nat) : Nat := if r < 4503599627370496 then r else (4503599627370496 + r % 4503599627370496) * 2 ^ (r / 4503599627370496 - 1)
theorem magF_succ (r : Nat) : magF r < magF (r + 1) := by
  unfold magF
  by_cases h : r + 1 < 4503599627370496
  · rw [if_pos h, if_pos (by omega)]; omega
  · by_cases h2 : r < 4503599627370496
    · have e : r = 4503599627370495 := by omega
      subst e
      decide
    · rw [if_neg h2, if_neg h]
      by_cases h3 : (r + 1) % 4503599627370496 = 0
      · have e1 : r % 4503599627370496 = 4503599627370495 := by omega
        have e2 : (r + 1) / 4503599627370496 - 1 = (r / 4503599627370496 - 1) + 1 := by omega
        rw [h3, e1, e2, Nat.pow_succ]
        have hp : 0 < 2 ^ (r / 4503599627370496 - 1) := Nat.two_pow_pos _
        generalize 2 ^ (r / 4503599627370496 - 1) = p at *
        omega
      · have e1 : (r + 1) % 4503599627370496 = r % 4503599627370496 + 1 := by omega
        have e2 : (r + 1) / 4503599627370496 = r / 4503599627370496 := by omega
        rw [e1, e2]
        exact Nat.mul_lt_mul_of_pos_right (by omega) (Nat.two_pow_pos _)
theorem magF_lt {a b : Nat} (h : a < b) : magF a < magF b := by
  obtain ⟨k, rfl⟩ : ∃ k, b = a + 1 + k := ⟨b - (a + 1), by omega⟩
  clear h
  induction k with
  | zero => exact magF_succ a
  | succ k ih => exact Nat.lt_trans ih (magF_succ _)
theorem magF_zero : magF 0 = 0 := rfl

def sgn (s : Bool) (m : Nat) : Int := if s then -(m : Int) else (m : Int)
theorem signed_eq (s : Bool) (m u : Nat) : signed s m u = sgn s (m * 2 ^ u) := by
  unfold signed sgn
  rw [Nat.shiftLeft_eq]
theorem sgn_mul (s : Bool) (m c : Nat) : sgn s (m * c) = sgn s m * c := by
  unfold sgn
  cases s <;> simp [Int.neg_mul]
theorem cmp_mul {x y : Int} {c : Nat} (h : 0 < c) : compare (x * c) (y * c) = compare x y := by
  have hc : (0 : Int) < c := by omega
  rcases Int.lt_trichotomy x y with hx | hx | hx
  · rw [Int.compare_eq_lt.2 hx, Int.compare_eq_lt.2 (Int.mul_lt_mul_of_pos_right hx hc)]
  · subst hx; simp
  · rw [Int.compare_eq_gt.2 hx, Int.compare_eq_gt.2 (Int.mul_lt_mul_of_pos_right hx hc)]
theorem sgn_mono (s t : Bool) (a b : Nat) : compare (sgn s (magF a)) (sgn t (magF b)) = compare (sgn s a) (sgn t b) := by
  have key : ∀ x y : Nat, (magF x < magF y ↔ x < y) ∧ (magF x = magF y ↔ x = y) := fun x y => by
    rcases Nat.lt_trichotomy x y with h | h | h
    · have := magF_lt h; constructor <;> constructor <;> intro _ <;> omega
    · subst h; simp
    · have := magF_lt h; constructor <;> constructor <;> intro _ <;> omega
  have k0 := key a b
  have ka := key 0 a
  have kb := key 0 b
  rw [magF_zero] at ka kb
  generalize magF a = ma at *
  generalize magF b = mb at *
  have hh : ∀ x y x' y' : Int, (x < y ↔ x' < y') → (x = y ↔ x' = y') → compare x y = compare x' y' := fun x y x' y' h1 h2 => by
    rcases Int.lt_trichotomy x y with h | h | h
    · rw [Int.compare_eq_lt.2 h, Int.compare_eq_lt.2 (h1.1 h)]
    · rw [Int.compare_eq_eq.2 h, Int.compare_eq_eq.2 (h2.1 h)]
    · have h3 : ¬ x' < y' := fun c => by have := h1.2 c; omega
      have h4 : ¬ x' = y' := fun c => by have := h2.2 c; omega
      rw [Int.compare_eq_gt.2 h, Int.compare_eq_gt.2 (by omega)]
  apply hh <;> cases s <;> cases t <;> simp only [sgn, Bool.false_eq_true, if_false, if_true] <;> constructor <;> intro _ <;> omega

/-- a number's datum, against the rung's magnitude -/
theorem read_num {w : Nat} (h : w % 9223372036854775808 < 9218868437227405312) :
    ∃ m p, Ieee.double.read w = .number (w / 9223372036854775808 % 2 == 1) m p ∧ -1074 ≤ p ∧ m * 2 ^ (p + 1074).toNat = magF (w % 9223372036854775808) := by
  rw [read_eq]
  unfold magF
  by_cases h1 : w % 9223372036854775808 < 4503599627370496
  · rw [if_pos h1, if_pos h1]
    exact ⟨_, _, rfl, by omega, by simp⟩
  · rw [if_neg h1, if_neg h1, if_pos h]
    refine ⟨_, _, rfl, by omega, ?_⟩
    congr 2
    omega
/-- a word as a whole number that rises with what it stands for -/
def keyF (w : Nat) : Int := sgn (w / 9223372036854775808 % 2 == 1) (w % 9223372036854775808)
def isNanF (w : Nat) : Bool := decide (9218868437227405312 < w % 9223372036854775808)
theorem order_nan {a b : Nat} (h : isNanF a = true ∨ isNanF b = true) : Ieee.double.order a b = none := by
  have hn : ∀ w, isNanF w = true → ∃ s t, Ieee.double.read w = .nan s t := fun w hw => by
    have := of_decide_eq_true hw
    rw [read_eq, if_neg (by omega), if_neg (by omega), if_neg (by omega)]
    exact ⟨_, _, rfl⟩
  unfold Format.order
  rcases h with h | h
  · obtain ⟨s, t, e⟩ := hn a h
    rw [e]
    cases Ieee.double.read b <;> rfl
  · obtain ⟨s, t, e⟩ := hn b h
    rw [e]
    cases Ieee.double.read a <;> rfl
theorem read_inf {w : Nat} (h : w % 9223372036854775808 = 9218868437227405312) : Ieee.double.read w = .infinity (w / 9223372036854775808 % 2 == 1) := by
  rw [read_eq, if_neg (by omega), if_neg (by omega), if_pos h]
theorem order_num {a b : Nat} (ha : isNanF a = false) (hb : isNanF b = false) : Ieee.double.order a b = some (compare (keyF a) (keyF b)) := by
  have ha := of_decide_eq_false ha
  have hb := of_decide_eq_false hb
  unfold Format.order keyF
  generalize hs : (a / 9223372036854775808 % 2 == 1) = s
  generalize ht : (b / 9223372036854775808 % 2 == 1) = t
  by_cases ia : a % 9223372036854775808 = 9218868437227405312
  · rw [read_inf ia, hs, ia]
    by_cases ib : b % 9223372036854775808 = 9218868437227405312
    · rw [read_inf ib, ht, ib]
      cases s <;> cases t <;> rfl
    · obtain ⟨m, p, e, _, _⟩ := read_num (w := b) (by omega)
      rw [e]
      generalize b % 9223372036854775808 = r at *
      simp only [Datum.order]
      cases s
      · simp only [Bool.false_eq_true, if_false]
        rw [Int.compare_eq_gt.2 (by unfold sgn; cases t <;> simp <;> omega)]
      · simp only [if_true]
        rw [Int.compare_eq_lt.2 (by unfold sgn; cases t <;> simp <;> omega)]
  · by_cases ib : b % 9223372036854775808 = 9218868437227405312
    · obtain ⟨m, p, e, _, _⟩ := read_num (w := a) (by omega)
      rw [read_inf ib, ht, ib, e]
      generalize a % 9223372036854775808 = r at *
      simp only [Datum.order]
      cases t
      · simp only [Bool.false_eq_true, if_false]
        rw [Int.compare_eq_lt.2 (by unfold sgn; cases s <;> simp <;> omega)]
      · simp only [if_true]
        rw [Int.compare_eq_gt.2 (by unfold sgn; cases s <;> simp <;> omega)]
    · obtain ⟨m, p, e, hp, hm⟩ := read_num (w := a) (by omega)
      obtain ⟨n, q, e2, hq, hn⟩ := read_num (w := b) (by omega)
      rw [e, e2, hs, ht]
      simp only [Datum.order]
      congr 1
      rw [signed_eq, signed_eq, ← sgn_mono s t (a % 9223372036854775808) (b % 9223372036854775808), ← hm, ← hn]
      have hb1 : (p + 1074).toNat = (p - min p q).toNat + (min p q + 1074).toNat := by omega
      have hb2 : (q + 1074).toNat = (q - min p q).toNat + (min p q + 1074).toNat := by omega
      rw [hb1, hb2, Nat.pow_add, Nat.pow_add, ← Nat.mul_assoc, ← Nat.mul_assoc, sgn_mul s (m * 2 ^ (p - min p q).toNat) (2 ^ (min p q + 1074).toNat), sgn_mul t (n * 2 ^ (q - min p q).toNat) (2 ^ (min p q + 1074).toNat), cmp_mul (Nat.two_pow_pos _)]
theorem order_self (a : Nat) : (Ieee.double.order a a != some .eq) = isNanF a := by
  cases h : isNanF a with
  | true => rw [order_nan (.inl h)]; rfl
  | false =>
    rw [order_num h h, Int.compare_eq_eq.2 rfl]
    rfl

/-! ### whole numbers -/
/-- the kept digits of a whole number, of which d are dropped: to the nearest, ties to even -/
def keepE (n d : Nat) : Nat := n / 2 ^ d + (if 2 ^ d < 2 * (n % 2 ^ d) ∨ (2 ^ d = 2 * (n % 2 ^ d) ∧ n / 2 ^ d % 2 = 1) then 1 else 0)
theorem cut_even (neg : Bool) (n d : Nat) (h : d ≤ n.log2 + 2) : Toward.even.cut neg n d = keepE n d := by
  unfold Toward.cut keepE
  simp only [Nat.min_eq_left h, Nat.one_shiftLeft]
  congr 1
  by_cases c : 2 ^ d < 2 * (n % 2 ^ d) ∨ (2 ^ d = 2 * (n % 2 ^ d) ∧ n / 2 ^ d % 2 = 1)
  · rw [if_pos c]
    have : (decide (2 ^ d < 2 * (n % 2 ^ d)) || (2 ^ d == 2 * (n % 2 ^ d)) && (n / 2 ^ d % 2 == 1)) = true := by simpa using c
    rw [this]; rfl
  · rw [if_neg c]
    have : (decide (2 ^ d < 2 * (n % 2 ^ d)) || (2 ^ d == 2 * (n % 2 ^ d)) && (n / 2 ^ d % 2 == 1)) = false := by
      rw [Bool.eq_false_iff]
      intro h
      exact c (by simpa using h)
    rw [this]; rfl
theorem keepE_mono {m n : Nat} (d : Nat) (h : m ≤ n) : keepE m d ≤ keepE n d := by
  unfold keepE
  have hp : 0 < 2 ^ d := Nat.two_pow_pos _
  have hm := Nat.div_add_mod m (2 ^ d)
  have hn := Nat.div_add_mod n (2 ^ d)
  have lm := Nat.mod_lt m hp
  have ln := Nat.mod_lt n hp
  have hq : m / 2 ^ d ≤ n / 2 ^ d := Nat.div_le_div_right h
  rcases Nat.lt_or_ge (m / 2 ^ d) (n / 2 ^ d) with hlt | hge
  · split <;> split <;> omega
  · have e : m / 2 ^ d = n / 2 ^ d := by omega
    rw [e] at hm ⊢
    have hr : m % 2 ^ d ≤ n % 2 ^ d := by omega
    split <;> split <;> omega
theorem keepE_zero (n : Nat) : keepE n 0 = n := by
  unfold keepE
  simp [Nat.mod_one]
/-- the digits that are kept of a whole number -/
def keptN (m : Nat) : Nat := if m.log2 ≤ 52 then m * 2 ^ (52 - m.log2) else keepE m (m.log2 - 52)
/-- the rung of a whole number -/
def rungN (m : Nat) : Nat := if m = 0 then 0 else (m.log2 + 1022) * 4503599627370496 + keptN m
theorem log_lt {m k : Nat} (hm : m < 2 ^ k) (h0 : m ≠ 0) : m.log2 < k := by
  have := Nat.log2_self_le h0
  exact (Nat.pow_lt_pow_iff_right (by omega)).1 (Nat.lt_of_le_of_lt this hm)
theorem kept_bd {m : Nat} (h0 : m ≠ 0) : 4503599627370496 ≤ keptN m ∧ keptN m ≤ 9007199254740992 := by
  have h1 := Nat.log2_self_le h0
  have h2 := Nat.lt_log2_self (n := m)
  unfold keptN
  by_cases h : m.log2 ≤ 52
  · rw [if_pos h]
    have hp : 0 < 2 ^ (52 - m.log2) := Nat.two_pow_pos _
    have e1 : 2 ^ m.log2 * 2 ^ (52 - m.log2) = 4503599627370496 := by rw [← Nat.pow_add, show m.log2 + (52 - m.log2) = 52 by omega]
    have a1 := Nat.mul_le_mul_right (2 ^ (52 - m.log2)) h1
    have a2 := (Nat.mul_lt_mul_right hp).2 h2
    rw [e1] at a1
    rw [Nat.pow_succ, Nat.mul_right_comm, e1] at a2
    omega
  · rw [if_neg h]
    unfold keepE
    have hp : 0 < 2 ^ (m.log2 - 52) := Nat.two_pow_pos _
    have e1 : 4503599627370496 * 2 ^ (m.log2 - 52) = 2 ^ m.log2 := by
      rw [show (4503599627370496 : Nat) = 2 ^ 52 by decide, ← Nat.pow_add, show 52 + (m.log2 - 52) = m.log2 by omega]
    have a1 : 4503599627370496 ≤ m / 2 ^ (m.log2 - 52) := (Nat.le_div_iff_mul_le hp).2 (by rw [e1]; exact h1)
    have a2 : m / 2 ^ (m.log2 - 52) < 9007199254740992 := (Nat.div_lt_iff_lt_mul hp).2 (by
      rw [show (9007199254740992 : Nat) = 4503599627370496 * 2 by decide, Nat.mul_right_comm, e1, ← Nat.pow_succ]
      exact h2)
    split <;> omega
theorem nearest_eq (neg : Bool) {m : Nat} (hm : m < 2 ^ 64) : Ieee.double.nearest neg m 0 = (if neg then 9223372036854775808 + rungN m else rungN m) := by
  have hW : ∀ r, Ieee.double.word neg r = (if neg then 9223372036854775808 + r else r) := fun r => rfl
  unfold Format.nearest
  by_cases h0 : m = 0
  · rw [if_pos h0, hW]
    simp [rungN, h0]
  · rw [if_neg h0]
    have hl := log_lt hm h0
    have hk := kept_bd h0
    have e1 : max ((0 : Int) + (m.log2 : Nat) - (Ieee.double.fractionBits : Nat)) Ieee.double.leastPlace = (m.log2 : Int) - 52 := by
      show max ((0 : Int) + (m.log2 : Nat) - 52) (-1074) = _
      omega
    simp only [e1]
    have e2 : Toward.even.cut neg (m <<< ((0 : Int) - ((m.log2 : Int) - 52)).toNat) (((m.log2 : Int) - 52) - 0).toNat = keptN m := by
      unfold keptN
      by_cases h : m.log2 ≤ 52
      · rw [if_pos h, show (((m.log2 : Int) - 52) - 0).toNat = 0 by omega, show ((0 : Int) - ((m.log2 : Int) - 52)).toNat = 52 - m.log2 by omega, cut_even _ _ _ (by omega), keepE_zero, Nat.shiftLeft_eq]
      · rw [if_neg h, show (((m.log2 : Int) - 52) - 0).toNat = m.log2 - 52 by omega, show ((0 : Int) - ((m.log2 : Int) - 52)).toNat = 0 by omega, Nat.shiftLeft_zero, cut_even _ _ _ (by omega)]
    rw [e2, hW]
    have e3 : (((m.log2 : Int) - 52) - Ieee.double.leastPlace).toNat = m.log2 + 1022 := by
      show (((m.log2 : Int) - 52) - (-1074)).toNat = _
      omega
    rw [e3]
    have e4 : Ieee.double.binade = 4503599627370496 := rfl
    have e5 : Ieee.double.infRung = 9218868437227405312 := rfl
    rw [e4, e5, Nat.min_eq_left (by omega)]
    simp [rungN, h0]
theorem rungN_lt {m : Nat} (hm : m < 2 ^ 64) : rungN m < 9218868437227405312 := by
  unfold rungN
  by_cases h0 : m = 0
  · rw [if_pos h0]; omega
  · rw [if_neg h0]
    have hl := log_lt hm h0
    have hk := kept_bd h0
    omega
theorem log_mono {m n : Nat} (h : m ≤ n) (h0 : m ≠ 0) : m.log2 ≤ n.log2 := by
  have h1 := Nat.log2_self_le h0
  have h2 := Nat.lt_log2_self (n := n)
  have : 2 ^ m.log2 < 2 ^ (n.log2 + 1) := by omega
  have := (Nat.pow_lt_pow_iff_right (a := 2) (by omega)).1 this
  omega
theorem rungN_mono {m n : Nat} (h : m ≤ n) : rungN m ≤ rungN n := by
  unfold rungN
  by_cases h0 : m = 0
  · rw [if_pos h0]; omega
  · rw [if_neg h0, if_neg (by omega)]
    have hl := log_mono h h0
    have k1 := kept_bd h0
    have k2 := kept_bd (m := n) (by omega)
    rcases Nat.lt_or_ge m.log2 n.log2 with hlt | hge
    · omega
    · have e : m.log2 = n.log2 := by omega
      have : keptN m ≤ keptN n := by
        unfold keptN
        rw [e]
        split
        · exact Nat.mul_le_mul_right _ h
        · exact keepE_mono _ h
      rw [e]
      omega
/-- the word of a whole number -/
def ofIntF (n : Int) : Nat := FloatKind.f64.nearest n
theorem ofIntF_eq {n : Int} (h : n.natAbs < 2 ^ 64) : ofIntF n = if n < 0 then 9223372036854775808 + rungN n.natAbs else rungN n.natAbs := by
  show Ieee.double.nearest (decide (n < 0)) n.natAbs 0 = _
  rw [nearest_eq _ h]
  by_cases c : n < 0 <;> simp [c]
theorem ofIntF_lt {n : Int} (h : n.natAbs < 2 ^ 64) : ofIntF n < 18446744073709551616 := by
  have := rungN_lt h
  rw [ofIntF_eq h]
  split <;> omega
theorem ofIntF_nan {n : Int} (h : n.natAbs < 2 ^ 64) : isNanF (ofIntF n) = false := by
  have := rungN_lt h
  rw [ofIntF_eq h]
  unfold isNanF
  apply decide_eq_false
  split <;> omega
theorem keyF_int {n : Int} (h : n.natAbs < 2 ^ 64) : keyF (ofIntF n) = if n < 0 then -(rungN n.natAbs : Int) else (rungN n.natAbs : Int) := by
  have := rungN_lt h
  rw [ofIntF_eq h]
  unfold keyF sgn
  by_cases c : n < 0
  · rw [if_pos c, if_pos c]
    have e1 : (9223372036854775808 + rungN n.natAbs) / 9223372036854775808 % 2 = 1 := by omega
    have e2 : (9223372036854775808 + rungN n.natAbs) % 9223372036854775808 = rungN n.natAbs := by omega
    rw [e1, e2]
    rfl
  · rw [if_neg c, if_neg c]
    have e1 : rungN n.natAbs / 9223372036854775808 % 2 = 0 := by omega
    have e2 : rungN n.natAbs % 9223372036854775808 = rungN n.natAbs := by omega
    rw [e1, e2]
    rfl
theorem key_mono {m n : Int} (hm : m.natAbs < 2 ^ 64) (hn : n.natAbs < 2 ^ 64) (h : m ≤ n) : keyF (ofIntF m) ≤ keyF (ofIntF n) := by
  rw [keyF_int hm, keyF_int hn]
  by_cases c1 : m < 0
  · by_cases c2 : n < 0
    · rw [if_pos c1, if_pos c2]
      have := rungN_mono (m := n.natAbs) (n := m.natAbs) (by omega)
      omega
    · rw [if_pos c1, if_neg c2]; omega
  · rw [if_neg c1, if_neg (by omega)]
    have := rungN_mono (m := m.natAbs) (n := n.natAbs) (by omega)
    omega
/-- of whole numbers near nought the float is that number -/
theorem toInt_int {n : Int} (h : n.natAbs < 9007199254740992) : (FloatKind.f64.decode (ofIntF n)).toInt .zero = some n := by
  show (Ieee.double.read (ofIntF n)).toInt .zero = some n
  have h64 : n.natAbs < 2 ^ 64 := by omega
  have hr := rungN_lt h64
  obtain ⟨m, hm⟩ : ∃ m, n.natAbs = m := ⟨_, rfl⟩
  have hs : (ofIntF n / 9223372036854775808 % 2 == 1) = decide (n < 0) ∧ ofIntF n % 9223372036854775808 = rungN m := by
    rw [ofIntF_eq h64]
    rw [hm] at hr ⊢
    by_cases c : n < 0
    · rw [if_pos c]
      refine ⟨?_, by omega⟩
      rw [show (9223372036854775808 + rungN m) / 9223372036854775808 % 2 = 1 by omega]
      simp [c]
    · rw [if_neg c]
      refine ⟨?_, by omega⟩
      rw [show rungN m / 9223372036854775808 % 2 = 0 by omega]
      simp [c]
  rw [read_eq, hs.1, hs.2]
  rw [hm] at hr h h64
  by_cases h0 : m = 0
  · subst h0
    obtain rfl : n = 0 := by omega
    decide
  · have hl := log_lt (k := 53) (m := m) (by omega) h0
    have hk := kept_bd h0
    have hkk : keptN m = m * 2 ^ (52 - m.log2) := by unfold keptN; rw [if_pos (by omega)]
    have hk2 : keptN m < 9007199254740992 := by
      have h2 := Nat.lt_log2_self (n := m)
      have hp : 0 < 2 ^ (52 - m.log2) := Nat.two_pow_pos _
      have e1 : 2 ^ m.log2 * 2 ^ (52 - m.log2) = 4503599627370496 := by rw [← Nat.pow_add, show m.log2 + (52 - m.log2) = 52 by omega]
      have a2 := (Nat.mul_lt_mul_right hp).2 h2
      rw [Nat.pow_succ, Nat.mul_right_comm, e1] at a2
      omega
    have hrr : rungN m = (m.log2 + 1022) * 4503599627370496 + keptN m := by unfold rungN; rw [if_neg h0]
    rw [if_neg (by omega), if_pos hr]
    unfold Datum.toInt Datum.integral
    simp only
    have e1 : 4503599627370496 + rungN m % 4503599627370496 = keptN m := by omega
    have e2 : (-1074 + ((rungN m / 4503599627370496 - 1 : Nat) : Int)) = (m.log2 : Int) - 52 := by omega
    rw [e1, e2, show ((m.log2 : Int) - 52).toNat = 0 by omega, Nat.shiftLeft_zero, show (-((m.log2 : Int) - 52)).toNat = 52 - m.log2 by omega, hkk]
    have e3 : Toward.zero.cut (decide (n < 0)) (m * 2 ^ (52 - m.log2)) (52 - m.log2) = m := by
      have hp : 0 < 2 ^ (52 - m.log2) := Nat.two_pow_pos _
      have hlog : 52 - m.log2 ≤ (m * 2 ^ (52 - m.log2)).log2 + 2 := by
        have : 2 ^ (52 - m.log2) ≤ m * 2 ^ (52 - m.log2) := Nat.le_mul_of_pos_left _ (by omega)
        have h2 := Nat.lt_log2_self (n := m * 2 ^ (52 - m.log2))
        have := (Nat.pow_lt_pow_iff_right (a := 2) (by omega)).1 (Nat.lt_of_le_of_lt this h2)
        omega
      unfold Toward.cut
      simp only [Nat.min_eq_left hlog, Nat.one_shiftLeft, Nat.mul_div_cancel _ hp]
      rfl
    rw [e3, signed_eq]
    unfold sgn
    by_cases c : n < 0
    · simp [c]; omega
    · simp [c]; omega
end Go.Proofs.YtnhmbocgopjbjaaDoor
/- The walks of rubricref01.Same and of both Newlines. -/
namespace Go.Proofs.YtnhmbocgopjbjaaDoor
open Go.RowKit
set_option linter.unusedVariables false
set_option linter.unusedSimpArgs false

theorem ret_boolR {a b : Bool} (h : a = b) : Ending.returned (.bool a) = Ending.returned (.bool b) := by rw [h]
/-- the answer v, and nothing but draws -/
def QuietR (v : Value) (w : World) (e : Ending) (w' : World) : Prop := e = .returned v ∧ ∃ d, w' = w.drewN d

/-- how many newlines -/
def nlR (l : List Int) : Nat := l.countP (fun r => r == 10)
theorem nlR_take {l : List Int} {i : Nat} {r : Int} (h : l[i]? = some r) : nlR (l.take (i + 1)) = nlR (l.take i) + (if r = 10 then 1 else 0) := by
  obtain ⟨hi, he⟩ := List.getElem?_eq_some_iff.1 h
  rw [List.take_succ_eq_append_getElem hi, he]
  simp [nlR, List.countP_append, List.countP_cons]
theorem nlR_le (l : List Int) (i : Nat) : nlR (l.take i) ≤ l.length := by
  have h1 := List.countP_le_length (p := fun r => r == (10 : Int)) (l := l.take i)
  have h2 := List.length_take (i := i) (l := l)
  unfold nlR
  omega

set_option maxHeartbeats 400000 in
theorem newlines_any (A : Option Addr) (n c : Nat) (l : List Int) (w : World) (hn : n = l.length) (h : RdI32 w w.heap.size A l) (hb : n ≤ 9223372036854775806) :
    Calls Tryd.prog 52 #[.slice A n c] w fun e w' => e = .returned (.int .i64 (nlR l : Nat)) ∧ w = w' := by
  have N := Lib.hid hn
  clear hn
  go_enter Tryd.func52, Tryd.ntmps52
  go_wp2_with (fail)
  go_loopg [3, 8] n (fun g kv iv wr => ∃ i k : Nat, i ≤ n ∧ g = n - i ∧ kv = .int .i64 (k : Int) ∧ iv = .int .i64 (i : Int) ∧ w = wr ∧ Hid (nlR (l.take i) = k))
  case atStart => exact ⟨0, 0, by omega, rfl, rfl, rfl, rfl, Lib.hid rfl⟩
  case round =>
    obtain ⟨i, k, hi, hg, rfl, rfl, rfl, HK⟩ := hrel
    have HG := Lib.hid hg
    clear hg
    by_cases hlt : i < n
    · obtain ⟨ad, r, rfl, _, _, hri, hc1⟩ := h.el (i := i) (by have := N.out; omega)
      have r0 : w.cell? (ad.add (i * 1)) = some (.int .i32 r) := by have := hc1 0 _ rfl; rwa [add_zero'] at this
      rw [Nat.mul_one] at r0
      have hk1 := nlR_take hri
      have hk2 := nlR_le l i
      rw [HK.out] at hk1 hk2
      have hkb : k ≤ n := by rw [N.out]; exact hk2
      clear hk2 hri hc1
      by_cases h10 : r = 10
      · rw [if_pos h10] at hk1
        subst h10
        have HK1 := Lib.hid hk1
        clear hk1
        go_wp2_with (fail)
        go_roundg (n - (i + 1))
        case measure => have := HG.out; omega
        case rel => exact ⟨i + 1, k + 1, by omega, rfl, by go_num, by go_num, rfl, HK1⟩
      · rw [if_neg h10] at hk1
        have HK1 := Lib.hid hk1
        clear hk1
        go_wp2_with (fail)
        go_roundg (n - (i + 1))
        case measure => have := HG.out; omega
        case rel => exact ⟨i + 1, k, by omega, rfl, rfl, by go_num, rfl, HK1⟩
    · have hl : nlR l = k := by rw [← HK.out, List.take_of_length_le (by have := N.out; omega)]
      have HL := Lib.hid hl
      clear hl
      go_wp2_with (fail)
      go_ret
      exact ⟨by rw [HL.out]; rfl, rfl⟩
end Go.Proofs.YtnhmbocgopjbjaaDoor
/- The walk of rubricref01.Bytes. -/
namespace Go.Proofs.YtnhmbocgopjbjaaDoor
open Go.RowKit
set_option linter.unusedVariables false
set_option linter.unusedSimpArgs false

def okR (l : List Int) : Bool := l.all mayR
def bytesR (l : List Int) : List Int := l.flatMap encR
theorem encR_len (r : Int) : 1 ≤ (encR r).length ∧ (encR r).length ≤ 4 := by
  unfold encR
  split
  · simp
  · split
    · simp
    · split <;> simp
theorem mayR_le {r : Int} (h : mayR r = true) : 0 ≤ r ∧ r ≤ 1114111 := by have := of_decide_eq_true h; omega
theorem bytesR_take {l : List Int} {i : Nat} {r : Int} (h : l[i]? = some r) : bytesR (l.take (i + 1)) = bytesR (l.take i) ++ encR r := by
  obtain ⟨hi, he⟩ := List.getElem?_eq_some_iff.1 h
  rw [List.take_succ_eq_append_getElem hi, he]
  simp [bytesR]
theorem okR_take {l : List Int} {i : Nat} {r : Int} (h : l[i]? = some r) : okR (l.take (i + 1)) = (okR (l.take i) && mayR r) := by
  obtain ⟨hi, he⟩ := List.getElem?_eq_some_iff.1 h
  rw [List.take_succ_eq_append_getElem hi, he]
  simp [okR, List.all_append]
theorem bytesR_len (l : List Int) : (bytesR l).length ≤ 4 * l.length := by
  induction l with
  | nil => simp [bytesR]
  | cons r l ih =>
    have := (encR_len r).2
    have e : bytesR (r :: l) = encR r ++ bytesR l := rfl
    rw [e, List.length_append, List.length_cons]
    omega
theorem okR_not {l : List Int} {i : Nat} {r : Int} (h : l[i]? = some r) (hr : mayR r = false) : okR l = false := by
  unfold okR
  rw [List.all_eq_false]
  exact ⟨r, List.mem_of_getElem? h, by simp [hr]⟩

/-- what the bytes of runes answer -/
def BytesOut (l : List Int) (w : World) (e : Ending) (w' : World) : Prop :=
  ∃ v, e = .returned (.tuple #[v, .int .i64 (if okR l = true then 0 else 3)]) ∧ OwU8 w' w.heap.size v (if okR l = true then bytesR l else []) ∧ Below w.heap.size w w'

end Go.Proofs.YtnhmbocgopjbjaaDoor
