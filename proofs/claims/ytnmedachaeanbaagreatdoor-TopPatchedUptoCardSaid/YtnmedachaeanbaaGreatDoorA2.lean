/- Merged texts. -/
import Derived.Deep.LoopGhost
import Derived.Deep.DeepMust
import Derived.Test.YtnmedachaeanbaaGreatDoorA1
import Derived.Maps.OwnOps
import Derived.MapKept
import Derived.Laws.Externs
import Derived.Laws.BitsAllLaws
import Ieee.Arith
import GoSem.Core.Float
import Derived.Laws.FloatBits
namespace Go.Proofs.YtnmedachaeanbaaGreatDoor
set_option maxRecDepth 100000
set_option maxHeartbeats 400000
open Go.RowKit
open Go.Lib (hid)
set_option linter.unusedVariables false
set_option linter.unusedSimpArgs false
def Z84 (v : Value) (w : World) (e : Ending) (w' : World) : Prop := e = .returned v ∧ ∃ d, w' = w.drewN d
theorem Z0g {a b : Bool} (h : a = b) : Ending.returned (.bool a) = Ending.returned (.bool b) := by rw [h]
theorem Z0t {k : IntKind} {a b : Int} (h : a = b) : Ending.returned (.int k a) = Ending.returned (.int k b) := by rw [h]
def rise : List Int → Bool
 | a :: b :: t => decide (a < b) && rise (b :: t)
 | _ => true
def Z1D (l : List At) : Bool := rise (l.map (·.key))
def Z1S (l : List Ch) : Bool := rise (l.map (·.key))
theorem Z6J {α : Type} (f : α → Int) (l : List α) (m : Nat) (h : l.length ≤ m + 1) : rise ((l.drop m).map f) = true := by
 have : (l.drop m).length ≤ 1 := by rw [List.length_drop]; omega
 match hd : l.drop m with
 | [] => rfl
 | [a] => rfl
 | a :: b :: t => rw [hd] at this; simp at this
theorem Y5M (A : Option Addr) (n c : Nat) (l : List At) (w : World) (hn : n = l.length) (h : RdAt w w.heap.size A l) (hb : n ≤ 140737488355328) :
 Calls Tryz.prog 178 #[.slice A n c] w (Z84 (.bool (Z1D l)) w) := by
 have N := hid hn
 generalize hR : Z1D l = R
 have HR := hid hR
 clear hn hR
 go_enter Tryz.func178, Tryz.ntmps178
 go_wp2_with (fail)
 go_loopg [3] n (fun g iv wr => ∃ m : Nat, (m + 1 ≤ n ∨ m = 0) ∧ g = n - m ∧ iv = .int .i64 ((m : Int) + 1) ∧ (∃ d, wr = w.drewN d) ∧ Hid (rise ((l.drop m).map (·.key)) = R))
 case atStart => exact ⟨0, by omega, rfl, rfl, ⟨0, rfl⟩, hid (by rw [List.drop_zero]; exact HR.out)⟩
 case round =>
  obtain ⟨m, hm, hg, rfl, ⟨d, rfl⟩, HI⟩ := hrel
  have HG := hid hg
  clear hg HR
  by_cases hlt : m + 1 < n
  ·have hl1 : m < l.length := by have := N.out; omega
   have hl2 : m + 1 < l.length := by have := N.out; omega
   obtain ⟨ad, x, rfl, _, hd1, _, hc1⟩ := h.el hl1
   obtain ⟨ad', y, e, _, hd2, _, hc2⟩ := h.el hl2
   injection e with e; subst e
   have HI' : Hid (rise (x.key :: y.key :: (l.drop (m + 2)).map (·.key)) = R) := hid (by rw [← HI.out, hd1, hd2]; rfl)
   have HI2 : Hid (rise (y.key :: (l.drop (m + 2)).map (·.key)) = rise ((l.drop (m + 1)).map (·.key))) := hid (by rw [hd2]; rfl)
   clear HI hd1 hd2
   obtain ⟨x1, x2, x3, x4, x5⟩ := x
   obtain ⟨y1, y2, y3, y4, y5⟩ := y
   obtain ⟨r0, -⟩ := Z1b hc1
   obtain ⟨s0, -⟩ := Z1b hc2
   have hmn : m < n := by omega
   have hw : IntKind.i64.wrap (m:Int) = m := IntWalk.i64_in _ (by omega)
   have hw2 : IntKind.i64.wrap ((m:Int) + 1) = (m : Int) + 1 := IntWalk.i64_in _ (by omega)
   by_cases hle : y1 ≤ x1
   ·go_wp2_with (go_quiet (fail))
    go_ret
    have : ¬ x1 < y1 := by omega
    exact ⟨Z0g (by rw [← HI'.out]; simp [rise, this]), _, rfl⟩
   ·clear hw
    go_wp2_with (go_quiet (fail))
    go_roundg (n - (m + 1))
    case measure => have := HG.out; omega
    case rel => exact ⟨m + 1, by omega, rfl, by go_num, ⟨_, rfl⟩, hid (by rw [← HI'.out, ← HI2.out]; have : x1 < y1 := by omega
                                                                          simp [rise, this])⟩
  ·go_wp2_with (fail)
   go_ret
   exact ⟨Z0g (by rw [← HI.out, Z6J _ _ _ (by have := N.out; omega)]), _, rfl⟩
theorem Z85 (A : Option Addr) (n c : Nat) (l : List Ch) (w : World) (hn : n = l.length) (h : RdCh w w.heap.size A l) (hb : n ≤ 140737488355328) :
 Calls Tryz.prog 31 #[.slice A n c] w (Z84 (.bool (Z1S l)) w) := by
 have N := hid hn
 generalize hR : Z1S l = R
 have HR := hid hR
 clear hn hR
 go_enter Tryz.func31, Tryz.ntmps31
 go_wp2_with (fail)
 go_loopg [3] n (fun g iv wr => ∃ m : Nat, (m + 1 ≤ n ∨ m = 0) ∧ g = n - m ∧ iv = .int .i64 ((m : Int) + 1) ∧ (∃ d, wr = w.drewN d) ∧ Hid (rise ((l.drop m).map (·.key)) = R))
 case atStart => exact ⟨0, by omega, rfl, rfl, ⟨0, rfl⟩, hid (by rw [List.drop_zero]; exact HR.out)⟩
 case round =>
  obtain ⟨m, hm, hg, rfl, ⟨d, rfl⟩, HI⟩ := hrel
  have HG := hid hg
  clear hg HR
  by_cases hlt : m + 1 < n
  ·have hl1 : m < l.length := by have := N.out; omega
   have hl2 : m + 1 < l.length := by have := N.out; omega
   obtain ⟨ad, x, rfl, _, hd1, _, hc1⟩ := h.el hl1
   obtain ⟨ad', y, e, _, hd2, _, hc2⟩ := h.el hl2
   injection e with e; subst e
   have HI' : Hid (rise (x.key :: y.key :: (l.drop (m + 2)).map (·.key)) = R) := hid (by rw [← HI.out, hd1, hd2]; rfl)
   have HI2 : Hid (rise (y.key :: (l.drop (m + 2)).map (·.key)) = rise ((l.drop (m + 1)).map (·.key))) := hid (by rw [hd2]; rfl)
   clear HI hd1 hd2
   obtain ⟨x1, x6, x2, x3, x4, x5⟩ := x
   obtain ⟨y1, y6, y2, y3, y4, y5⟩ := y
   obtain ⟨r0, -⟩ := Z0w hc1
   obtain ⟨s0, -⟩ := Z0w hc2
   have hmn : m < n := by omega
   have hw : IntKind.i64.wrap (m:Int) = m := IntWalk.i64_in _ (by omega)
   have hw2 : IntKind.i64.wrap ((m:Int) + 1) = (m : Int) + 1 := IntWalk.i64_in _ (by omega)
   by_cases hle : y1 ≤ x1
   ·go_wp2_with (go_quiet (fail))
    go_ret
    have : ¬ x1 < y1 := by omega
    exact ⟨Z0g (by rw [← HI'.out]; simp [rise, this]), _, rfl⟩
   ·clear hw
    go_wp2_with (go_quiet (fail))
    go_roundg (n - (m + 1))
    case measure => have := HG.out; omega
    case rel => exact ⟨m + 1, by omega, rfl, by go_num, ⟨_, rfl⟩, hid (by rw [← HI'.out, ← HI2.out]; have : x1 < y1 := by omega
                                                                          simp [rise, this])⟩
  ·go_wp2_with (fail)
   go_ret
   exact ⟨Z0g (by rw [← HI.out, Z6J _ _ _ (by have := N.out; omega)]), _, rfl⟩
theorem Y1W (A B : Option Addr) (n m c d : Nat) (l k : List At) (w : World) (hn : n = l.length) (hm : m = k.length) (h1 : RdAt w w.heap.size A l) (h2 : RdAt w w.heap.size B k) (hb : n ≤ 140737488355328) (hb2 : m ≤ 140737488355328) :
 Calls Tryz.prog 14 #[.slice A n c, .slice B m d] w (Z84 (.bool (decide (l = k))) w) := by
 have N := hid hn
 have M := hid hm
 generalize hR : decide (l = k) = R
 have HR := hid hR
 clear hn hR hm
 by_cases hnm : (n : Int) = m
 ·have hnm' : n = m := by omega
  subst hnm'
  clear hnm
  go_enter Tryz.func14, Tryz.ntmps14
  go_wp2_with (fail)
  go_loopg [5] n (fun g iv wr => ∃ i : Nat, i ≤ n ∧ g = n - i ∧ iv = .int .i64 (i : Int) ∧ (∃ d, wr = w.drewN d) ∧ Hid (decide (l.drop i = k.drop i) = R))
  case atStart => exact ⟨0, by omega, rfl, rfl, ⟨0, rfl⟩, hid (by rw [List.drop_zero, List.drop_zero]; exact HR.out)⟩
  case round =>
   obtain ⟨i, hi, hg, rfl, ⟨q, rfl⟩, HI⟩ := hrel
   have HG := hid hg
   clear hg HR
   by_cases hlt : i < n
   ·have hl1 : i < l.length := by have := N.out; omega
    have hl2 : i < k.length := by have := M.out; omega
    obtain ⟨ad, x, rfl, _, hd1, _, hc1⟩ := h1.el hl1
    obtain ⟨ad2, y, rfl, _, hd2, _, hc2⟩ := h2.el hl2
    have HI' : Hid (decide (x :: l.drop (i + 1) = y :: k.drop (i + 1)) = R) := hid (by rw [← HI.out, hd1, hd2])
    clear HI hd1 hd2
    obtain ⟨x1, x2, x3, x4, x5⟩ := x
    obtain ⟨y1, y2, y3, y4, y5⟩ := y
    obtain ⟨r0, r1, r2, r3, r4⟩ := Z1b hc1
    obtain ⟨s0, s1, s2, s3, s4⟩ := Z1b hc2
    by_cases hxy : (⟨x1, ⟨x2, x3, x4, x5⟩⟩ : At) = ⟨y1, ⟨y2, y3, y4, y5⟩⟩
    ·have hq := Z9N hxy
     have HXY := hid hxy
     clear hxy
     go_wp2_with (go_quiet (fail))
     go_roundg (n - (i + 1))
     case measure => have := HG.out; omega
     case rel => exact ⟨i + 1, by omega, rfl, by go_num, ⟨_, rfl⟩, hid (by rw [← HI'.out]; simp only [List.cons.injEq, HXY.out, true_and])⟩
    ·have hq := Z9O hxy
     have HXY := hid hxy
     clear hxy
     go_wp2_with (go_quiet (fail))
     go_ret
     exact ⟨Z0g (by rw [← HI'.out]; exact (decide_eq_false fun e => HXY.out (List.cons.inj e).1).symm), _, World.drewN_drewN _ _ _⟩
   ·go_wp2_with (fail)
    go_ret
    exact ⟨Z0g (by rw [← HI.out, List.drop_eq_nil_of_le (by have := N.out; omega), List.drop_eq_nil_of_le (by have := M.out; omega)]; rfl), _, rfl⟩
 ·have hne : ((n : Int) == m) = false := beq_eq_false_iff_ne.2 hnm
  go_enter Tryz.func14, Tryz.ntmps14
  go_wp2_with (fail)
  go_ret
  refine ⟨Z0g ?_, 0, rfl⟩
  rw [← HR.out]
  refine (decide_eq_false fun e => ?_).symm
  have h3 := N.out
  have h4 := M.out
  rw [e] at h3
  omega
theorem Y0R (A B : Option Addr) (n m c d : Nat) (l k : List Ch) (w : World) (hn : n = l.length) (hm : m = k.length) (h1 : RdCh w w.heap.size A l) (h2 : RdCh w w.heap.size B k) (hb : n ≤ 140737488355328) (hb2 : m ≤ 140737488355328) :
 Calls Tryz.prog 227 #[.slice A n c, .slice B m d] w (Z84 (.bool (decide (l = k))) w) := by
 have N := hid hn
 have M := hid hm
 generalize hR : decide (l = k) = R
 have HR := hid hR
 clear hn hR hm
 by_cases hnm : (n : Int) = m
 ·have hnm' : n = m := by omega
  subst hnm'
  clear hnm
  go_enter Tryz.func227, Tryz.ntmps227
  go_wp2_with (fail)
  go_loopg [13] n (fun g iv wr => ∃ i : Nat, i ≤ n ∧ g = n - i ∧ iv = .int .i64 (i : Int) ∧ (∃ d, wr = w.drewN d) ∧ Hid (decide (l.drop i = k.drop i) = R))
  case atStart => exact ⟨0, by omega, rfl, rfl, ⟨0, rfl⟩, hid (by rw [List.drop_zero, List.drop_zero]; exact HR.out)⟩
  case round =>
   obtain ⟨i, hi, hg, rfl, ⟨q, rfl⟩, HI⟩ := hrel
   have HG := hid hg
   clear hg HR
   by_cases hlt : i < n
   ·have hl1 : i < l.length := by have := N.out; omega
    have hl2 : i < k.length := by have := M.out; omega
    obtain ⟨ad, x, rfl, _, hd1, _, hc1⟩ := h1.el hl1
    obtain ⟨ad2, y, rfl, _, hd2, _, hc2⟩ := h2.el hl2
    have HI' : Hid (decide (x :: l.drop (i + 1) = y :: k.drop (i + 1)) = R) := hid (by rw [← HI.out, hd1, hd2])
    clear HI hd1 hd2
    obtain ⟨x1, x6, x2, x3, x4, x5⟩ := x
    obtain ⟨y1, y6, y2, y3, y4, y5⟩ := y
    obtain ⟨r0, r1, r2, r3, r4, r5⟩ := Z0w hc1
    obtain ⟨s0, s1, s2, s3, s4, s5⟩ := Z0w hc2
    by_cases hxy : (⟨x1, x6, ⟨x2, x3, x4, x5⟩⟩ : Ch) = ⟨y1, y6, ⟨y2, y3, y4, y5⟩⟩
    ·have hq := Y3O hxy
     have HXY := hid hxy
     clear hxy
     go_wp2_with (go_quiet (fail))
     go_roundg (n - (i + 1))
     case measure => have := HG.out; omega
     case rel => exact ⟨i + 1, by omega, rfl, by go_num, ⟨_, rfl⟩, hid (by rw [← HI'.out]; simp only [List.cons.injEq, HXY.out, true_and])⟩
    ·have hq := Y3P hxy
     have HXY := hid hxy
     clear hxy
     go_wp2_with (go_quiet (fail))
     go_ret
     exact ⟨Z0g (by rw [← HI'.out]; exact (decide_eq_false fun e => HXY.out (List.cons.inj e).1).symm), _, World.drewN_drewN _ _ _⟩
   ·go_wp2_with (fail)
    go_ret
    exact ⟨Z0g (by rw [← HI.out, List.drop_eq_nil_of_le (by have := N.out; omega), List.drop_eq_nil_of_le (by have := M.out; omega)]; rfl), _, rfl⟩
 ·have hne : ((n : Int) == m) = false := beq_eq_false_iff_ne.2 hnm
  go_enter Tryz.func227, Tryz.ntmps227
  go_wp2_with (fail)
  go_ret
  refine ⟨Z0g ?_, 0, rfl⟩
  rw [← HR.out]
  refine (decide_eq_false fun e => ?_).symm
  have h3 := N.out
  have h4 := M.out
  rw [e] at h3
  omega
theorem Z7X (A B : Option Addr) (n m c d : Nat) (l k : List Ch) (w : World) (hn : n = l.length) (hm : m = k.length) (h1 : RdCh w w.heap.size A l) (h2 : RdCh w w.heap.size B k) (hb : n ≤ 140737488355328) (hb2 : m ≤ 140737488355328) :
 Calls Tryz.prog 141 #[.slice A n c, .slice B m d] w (Z84 (.bool (decide (l = k))) w) := by
 have N := hid hn
 have M := hid hm
 clear hn hm
 go_enter Tryz.func141, Tryz.ntmps141
 go_wp2_with (go_at_call 227; refine (Y0R A B n m c d l k _ N.out M.out h1 h2 hb hb2).mono ?_; rintro e w' ⟨rfl, q, rfl⟩)
 go_ret
 exact ⟨rfl, _, rfl⟩
open Go.RowKit Go.MapKept
structure Ky where
 id : Int
 block : Bool
 kind : Int
 after : Bool
 before : Bool
 group : Int
deriving DecidableEq
def Ky.enc (k : Ky) : List Value := [.int .i64 k.id, .bool k.block, .int .u8 k.kind, .bool k.after, .bool k.before, .int .i64 k.group]
def Ky.val (k : Ky) : Value := .agg #[.int .i64 k.id, .bool k.block, .int .u8 k.kind, .bool k.after, .bool k.before, .int .i64 k.group]
def Ky.zero : Ky := ⟨0, false, 0, false, false, 0⟩
theorem Ky.enc_len (k : Ky) : k.enc.length = 6 := rfl
theorem Ky.enc_one (k : Ky) : ∀ u ∈ k.enc, u.oneCell' = true := by intro u hu; simp [Ky.enc] at hu; rcases hu with rfl | rfl | rfl | rfl | rfl | rfl <;> rfl
abbrev RdKy := @Rd Ky Ky.enc 6
abbrev OwKy := @Ow Ky Ky.enc 6 78
theorem Tryz.infoKy : (Tryz.prog.info? 78).map (fun i => (i.zero, i.size, i.bytes)) = some (some (Ky.val Ky.zero), 6, 24) := by kernel_rfl
theorem Tryz.slKy : Tryz.prog.underlying 22 = some (.slice 78) := by kernel_rfl
theorem Tryz.mpKy : Tryz.prog.underlying 91 = some (.map 3 78) := by kernel_rfl
theorem Tryz.mpInt : Tryz.prog.underlying 3 = some (.int .i64) := by kernel_rfl
theorem Tryz.zeroKy (w : World) : (zeroValue 78).run Tryz.prog w = .ok (Ky.val Ky.zero) w := by kernel_rfl
section
variable {w : World} {p : Addr}
theorem Z9P {i g n : Int} {b a f : Bool} (h : CellsAt w p (Ky.enc ⟨i, b, n, a, f, g⟩)) :
 w.cell? p = some (.int .i64 i) ∧ w.cell? { block := p.block, off := p.off + 1 } = some (.bool b) ∧ w.cell? { block := p.block, off := p.off + 2 } = some (.int .u8 n) ∧ w.cell? { block := p.block, off := p.off + 3 } = some (.bool a) ∧ w.cell? { block := p.block, off := p.off + 4 } = some (.bool f) ∧ w.cell? { block := p.block, off := p.off + 5 } = some (.int .i64 g) := by
 have h0 := h 0 _ rfl
 rw [Z0o] at h0
 exact ⟨h0, Z0r h 0 rfl, Z0r h 1 rfl, Z0r h 2 rfl, Z0r h 3 rfl, Z0r h 4 rfl⟩
theorem Z6K {b : Nat} {t : TypeId} {c0 c1 c2 c3 c4 c5 : Value} (h : w.heap[b]? = some (.cells #[c0, c1, c2, c3, c4, c5] t (0, 0))) :
 w.cell? ⟨b, 0, none⟩ = some c0 ∧ w.cell? ⟨b, 1, none⟩ = some c1 ∧ w.cell? ⟨b, 2, none⟩ = some c2 ∧ w.cell? ⟨b, 3, none⟩ = some c3 ∧ w.cell? ⟨b, 4, none⟩ = some c4 ∧ w.cell? ⟨b, 5, none⟩ = some c5 := by
 simp [World.cell?, h]
theorem Y0S {b : Nat} {t : TypeId} {c0 c1 : Value} (h : w.heap[b]? = some (.cells #[c0, c1] t (0, 0))) : w.cell? ⟨b, 0, none⟩ = some c0 ∧ w.cell? ⟨b, 1, none⟩ = some c1 := by
 simp [World.cell?, h]
theorem Z2u {b : Nat} {t : TypeId} {c0 : Value} (h : w.heap[b]? = some (.cells #[c0] t (0, 0))) : w.cell? ⟨b, 0, none⟩ = some c0 := by
 simp [World.cell?, h]
end
section
variable {ops : Array Oper} {rest : List Oper} {o : Oper} {a : Act} {Q : Exit → Act → World → Prop} {w : World} {base : Nat} {v : Value}
theorem Y6G {l m : List Ky} (hgd : o.guard = none) (s x : Operand)
 (ho : o.op = .call { callee := .builtin .append, args := #[s, x], argTypes := #[22, 22] })
 (hsv : a.eval s = v) (hown : OwKy w base v l) (B : Nat) (A : Option Addr) (c n : Nat) (hx : a.eval x = .slice A n c) (hn : n = m.length) (hr : RdKy w B A m)
 (hb : l.length + m.length ≤ 2000000000000) (hbase : base ≤ w.heap.size)
 (h : ∀ v' w', OwKy w' base v' (l ++ m) → w.grownBy w' (wb v) → (v' = v ∧ w' = w ∨ wb v' = wb v ∨ wb v' = some w.heap.size) → wpList Tryz.prog ops Q rest (a.put o.dst v') w') : wpList Tryz.prog ops Q (o :: rest) a w := by
 obtain ⟨i0, hi0, hz0, hz1, hz2⟩ := info_parts Tryz.infoKy
 exact Z1Q hgd s x _ ho i0 _ 24 Tryz.slKy hi0 hz0 hz1 hz2 rfl (by omega) Ky.enc_len Ky.enc_one hsv hown B A c n hx hn hr (by simp only [maxLen]; omega) (by omega) hbase h
end
def NewKy (r : List Ky) (w : World) (e : Ending) (w' : World) : Prop :=
 ∃ A c, e = .returned (.slice A r.length c) ∧ OwKy w' w.heap.size (.slice A r.length c) r ∧ Below w.heap.size w w'
def Z0N (l : List Ky) (id : Int) : Option Ky := l.find? (fun k => decide (k.id = id))
def kvOf (k : Ky) : Value × Value := (.int .i64 k.id, k.val)
def MapK (w : World) (b : Nat) (l : List Ky) : Prop := ∃ es clock, w.heap[b]? = some (.map es clock) ∧ es.toList.map (fun e => (e.key, e.val)) = l.map kvOf
theorem Z3j (id : Int) : ∀ (l : List Ky) (es : List MapEntry) (i : Nat), es.map (fun e => (e.key, e.val)) = l.map kvOf →
 ∃ r, Instr.findNow (.int .i64) (.int .i64 id) es i = some r ∧ r.map (·.2) = (Z0N l id).map Ky.val
 | [], [], i, _ => ⟨none, rfl, rfl⟩
 | [], e :: es, i, h => by simp at h
 | k :: l, [], i, h => by simp at h
 | k :: l, e :: es, i, h => by
   simp only [List.map_cons, List.cons.injEq, kvOf, Prod.mk.injEq] at h
   obtain ⟨⟨h1, h2⟩, h3⟩ := h
   by_cases hk : k.id = id
   ·refine ⟨some (i, e.val), ?_, ?_⟩
    ·simp [Instr.findNow, Instr.sameNow, h1, hk]
    ·simp [Z0N, hk, h2]
   ·obtain ⟨r, hr, he⟩ := Z3j id l es (i + 1) h3
    refine ⟨r, ?_, ?_⟩
    ·have : (id == k.id) = false := by simp; omega
     simp [Instr.findNow, Instr.sameNow, h1, this, hr]
    ·rw [he]; simp [Z0N, hk]
theorem MapK.look {w : World} {b : Nat} {l : List Ky} (h : MapK w b l) (id : Int) :
 (Instr.lookup 91 (.map (some b)) (.int .i64 id) true).run Tryz.prog w = .ok (.tuple #[((Z0N l id).getD Ky.zero).val, .bool (Z0N l id).isSome]) w := by
 obtain ⟨es, clock, hb, he⟩ := h
 obtain ⟨r, hr, hv⟩ := Z3j id l es.toList 0 he
 have hf := run_findKey (P := Tryz.prog) (w := w) Tryz.mpInt hr
 have hc := fun e => run_checkKey (P := Tryz.prog) (w := w) (k := .int .i64 id) Tryz.mpInt (by simp [IsKey]) e 9999
 cases r with
 | none =>
   have : Z0N l id = none := by cases hq : Z0N l id with
    | none => rfl
    | some k => rw [hq] at hv; simp at hv
   simp [Instr.lookup, run_underlying Tryz.mpKy, MapKept.run_getObj_map hb, hc, hf, Tryz.zeroKy, Result.andThen, this]; rfl
 | some q =>
   obtain ⟨i, v⟩ := q
   cases hq : Z0N l id with
   | none => rw [hq] at hv; simp at hv
   | some k =>
     rw [hq] at hv
     simp at hv
     simp [Instr.lookup, run_underlying Tryz.mpKy, MapKept.run_getObj_map hb, hc, hf, Result.andThen, hv]
theorem MapK.store {w : World} {b : Nat} {l : List Ky} (h : MapK w b l) (k : Ky) (hn : Z0N l k.id = none) :
 ∃ w', (Instr.mapUpdate 91 (.map (some b)) (.int .i64 k.id) k.val).run Tryz.prog w = .ok () w' ∧ MapK w' b (l ++ [k]) ∧ (∀ j, j ≠ b → w'.heap[j]? = w.heap[j]?) ∧ w'.heap.size = w.heap.size ∧ w'.os = w.os ∧ w'.tape = w.tape ∧ w'.output = w.output := by
 obtain ⟨es, clock, hb, he⟩ := h
 obtain ⟨r, hr, hv⟩ := Z3j k.id l es.toList 0 he
 have hf := run_findKey (P := Tryz.prog) (w := w) Tryz.mpInt hr
 have hc := fun e => run_checkKey (P := Tryz.prog) (w := w) (k := .int .i64 k.id) Tryz.mpInt (by simp [IsKey]) e 9999
 rw [hn] at hv
 cases r with
 | some q => simp at hv
 | none =>
   obtain ⟨h1, h2⟩ := heap_set (o' := .map (es.push ⟨.int .i64 k.id, k.val, clock⟩) (clock + 1)) hb
   refine ⟨{ w with heap := w.heap.setIfInBounds b (.map (es.push ⟨.int .i64 k.id, k.val, clock⟩) (clock + 1)) }, ?_, ⟨_, _, h1, ?_⟩, h2, by simp, rfl, rfl, rfl⟩
   ·simp [Instr.mapUpdate, run_underlying Tryz.mpKy, MapKept.run_getObj_map hb, hc, hf, MapKept.run_setObj_map _ hb, Result.andThen]
   ·rw [Array.toList_push, List.map_append, he]; simp [kvOf]
theorem MapK.keep {w w' : World} {b : Nat} {l : List Ky} (h : MapK w b l) (e : w'.heap[b]? = w.heap[b]?) : MapK w' b l := by
 obtain ⟨es, clock, hb, he⟩ := h
 exact ⟨es, clock, e.trans hb, he⟩
open Go.RowKit
set_option linter.unusedVariables false
set_option linter.unusedSimpArgs false
def nanF (f : Int) : Bool := decide (9218868437227405312 < f % 9223372036854775808)
def Z3O (f : Int) : V := ⟨3, 0, if nanF f = true then 9221120237041090560 else f, ⟨#[]⟩⟩
def Y5N (b : Bool) : V := ⟨1, if b = true then 1 else 0, 0, ⟨#[]⟩⟩
def intV (n : Int) : V := ⟨2, n, 0, ⟨#[]⟩⟩
def textV (s : ByteArray) : V := ⟨4, 0, 0, s⟩
@[go_sem high] theorem run_frombits (n : Int) (w : World) : (callFunc 217 #[.int .u64 n]).run Tryz.prog w = .ok (.value (.float .f64 n.toNat)) w := by
  rw [run_callFunc_extern (fn := Tryz.f217) (e := Extern.MathFloatBits.float64frombits) Tryz.func217 (by kernel_rfl) (by kernel_rfl) (by kernel_rfl) (by kernel_rfl)]
  rfl
@[go_sem high] theorem run_bits (n : Nat) (w : World) : (callFunc 287 #[.float .f64 n]).run Tryz.prog w = .ok (.value (.int .u64 (n : Int))) w := by
  rw [run_callFunc_extern (fn := Tryz.f287) (e := Extern.MathFloatBits.float64bits) Tryz.func287 (by kernel_rfl) (by kernel_rfl) (by kernel_rfl) (by kernel_rfl)]
  rfl
theorem Y3Q (b : Bool) (w : World) : Calls Tryz.prog 214 #[.bool b] w fun e w' => e = .returned (.agg #[.int .u8 1, .int .i64 (if b = true then 1 else 0), .int .u64 0, .string ⟨#[]⟩]) ∧ Below w.heap.size w w' := by
 cases b
 ·go_enter Tryz.func214, Tryz.ntmps214
  go_wp2_with (fail)
  refine bodyPost_ret (v := .agg #[.int .u8 1, .int .i64 0, .int .u64 0, .string ⟨#[]⟩]) (by simp [results, Tryz.results214, go_sem]) rfl ?_
  exact ⟨rfl, Z0a (Z0c w _) (Z0c _ _)⟩
 ·go_enter Tryz.func214, Tryz.ntmps214
  go_wp2_with (fail)
  refine bodyPost_ret (v := .agg #[.int .u8 1, .int .i64 1, .int .u64 0, .string ⟨#[]⟩]) (by simp [results, Tryz.results214, go_sem]) rfl ?_
  exact ⟨rfl, Z0a (Z0c w _) (Z0c _ _)⟩
theorem Y5O (n : Int) (w : World) : Calls Tryz.prog 215 #[.int .i64 n] w fun e w' => e = .returned (.agg #[.int .u8 2, .int .i64 n, .int .u64 0, .string ⟨#[]⟩]) ∧ Below w.heap.size w w' := by
 go_enter Tryz.func215, Tryz.ntmps215
 go_wp2_with (fail)
 refine bodyPost_ret (v := .agg #[.int .u8 2, .int .i64 n, .int .u64 0, .string ⟨#[]⟩]) (by simp [results, Tryz.results215, go_sem]) rfl ?_
 exact ⟨rfl, Z0c w _⟩
open Ieee
theorem Z86 (w : Nat) : Ieee.double.read w =
 if w % 9223372036854775808 < 4503599627370496 then .number (w / 9223372036854775808 % 2 == 1) (w % 9223372036854775808) (-1074)
 else if w % 9223372036854775808 < 9218868437227405312 then
  .number (w / 9223372036854775808 % 2 == 1) (4503599627370496 + w % 9223372036854775808 % 4503599627370496) (-1074 + (w % 9223372036854775808 / 4503599627370496 - 1 : Nat))
 else if w % 9223372036854775808 = 9218868437227405312 then .infinity (w / 9223372036854775808 % 2 == 1)
 else .nan (w / 9223372036854775808 % 2 == 1) (w % 9223372036854775808 - 9218868437227405312) := rfl
def magF (r : Nat) : Nat := if r < 4503599627370496 then r else (4503599627370496 + r % 4503599627370496) * 2 ^ (r / 4503599627370496 - 1)
theorem Z7Y (r : Nat) : magF r < magF (r + 1) := by
 unfold magF
 by_cases h : r + 1 < 4503599627370496
 ·rw [if_pos h, if_pos (by omega)]; omega
 ·by_cases h2 : r < 4503599627370496
  ·have e : r = 4503599627370495 := by omega
   subst e
   decide
  ·rw [if_neg h2, if_neg h]
   by_cases h3 : (r + 1) % 4503599627370496 = 0
   ·have e1 : r % 4503599627370496 = 4503599627370495 := by omega
    have e2 : (r + 1) / 4503599627370496 - 1 = (r / 4503599627370496 - 1) + 1 := by omega
    rw [h3, e1, e2, Nat.pow_succ]
    have hp : 0 < 2 ^ (r / 4503599627370496 - 1) := Nat.two_pow_pos _
    generalize 2 ^ (r / 4503599627370496 - 1) = p at *
    omega
   ·have e1 : (r + 1) % 4503599627370496 = r % 4503599627370496 + 1 := by omega
    have e2 : (r + 1) / 4503599627370496 = r / 4503599627370496 := by omega
    rw [e1, e2]
    exact Nat.mul_lt_mul_of_pos_right (by omega) (Nat.two_pow_pos _)
theorem Y1X {a b : Nat} (h : a < b) : magF a < magF b := by
 obtain ⟨k, rfl⟩ : ∃ k, b = a + 1 + k := ⟨b - (a + 1), by omega⟩
 clear h
 induction k with
 | zero => exact Z7Y a
 | succ k ih => exact Nat.lt_trans ih (Z7Y _)
theorem Y1Y : magF 0 = 0 := rfl
def sgn (s : Bool) (m : Nat) : Int := if s then -(m : Int) else (m : Int)
theorem Z7Z (s : Bool) (m u : Nat) : signed s m u = sgn s (m * 2 ^ u) := by
 unfold signed sgn
 rw [Nat.shiftLeft_eq]
theorem Y1Z (s : Bool) (m c : Nat) : sgn s (m * c) = sgn s m * c := by
 unfold sgn
 cases s <;> simp [Int.neg_mul]
theorem Y5P {x y : Int} {c : Nat} (h : 0 < c) : compare (x * c) (y * c) = compare x y := by
 have hc : (0 : Int) < c := by omega
 rcases Int.lt_trichotomy x y with hx | hx | hx
 ·rw [Int.compare_eq_lt.2 hx, Int.compare_eq_lt.2 (Int.mul_lt_mul_of_pos_right hx hc)]
 ·subst hx; simp
 ·rw [Int.compare_eq_gt.2 hx, Int.compare_eq_gt.2 (Int.mul_lt_mul_of_pos_right hx hc)]
theorem Y3R (s t : Bool) (a b : Nat) : compare (sgn s (magF a)) (sgn t (magF b)) = compare (sgn s a) (sgn t b) := by
 have key : ∀ x y : Nat, (magF x < magF y ↔ x < y) ∧ (magF x = magF y ↔ x = y) := fun x y => by
  rcases Nat.lt_trichotomy x y with h | h | h
  ·have := Y1X h; constructor <;> constructor <;> intro _ <;> omega
  ·subst h; simp
  ·have := Y1X h; constructor <;> constructor <;> intro _ <;> omega
 have k0 := key a b
 have ka := key 0 a
 have kb := key 0 b
 rw [Y1Y] at ka kb
 generalize magF a = ma at *
 generalize magF b = mb at *
 have hh : ∀ x y x' y' : Int, (x < y ↔ x' < y') → (x = y ↔ x' = y') → compare x y = compare x' y' := fun x y x' y' h1 h2 => by
  rcases Int.lt_trichotomy x y with h | h | h
  ·rw [Int.compare_eq_lt.2 h, Int.compare_eq_lt.2 (h1.1 h)]
  ·rw [Int.compare_eq_eq.2 h, Int.compare_eq_eq.2 (h2.1 h)]
  ·have h3 : ¬ x' < y' := fun c => by have := h1.2 c; omega
   have h4 : ¬ x' = y' := fun c => by have := h2.2 c; omega
   rw [Int.compare_eq_gt.2 h, Int.compare_eq_gt.2 (by omega)]
 apply hh <;> cases s <;> cases t <;> simp only [sgn, Bool.false_eq_true, if_false, if_true] <;> constructor <;> intro _ <;> omega
theorem Z5m {w : Nat} (h : w % 9223372036854775808 < 9218868437227405312) :
 ∃ m p, Ieee.double.read w = .number (w / 9223372036854775808 % 2 == 1) m p ∧ -1074 ≤ p ∧ m * 2 ^ (p + 1074).toNat = magF (w % 9223372036854775808) := by
 rw [Z86]
 unfold magF
 by_cases h1 : w % 9223372036854775808 < 4503599627370496
 ·rw [if_pos h1, if_pos h1]
  exact ⟨_, _, rfl, by omega, by simp⟩
 ·rw [if_neg h1, if_neg h1, if_pos h]
  refine ⟨_, _, rfl, by omega, ?_⟩
  congr 2
  omega
def keyF (w : Nat) : Int := sgn (w / 9223372036854775808 % 2 == 1) (w % 9223372036854775808)
def Z3k (w : Nat) : Bool := decide (9218868437227405312 < w % 9223372036854775808)
theorem Y11 {a b : Nat} (h : Z3k a = true ∨ Z3k b = true) : Ieee.double.order a b = none := by
 have hn : ∀ w, Z3k w = true → ∃ s t, Ieee.double.read w = .nan s t := fun w hw => by
  have := of_decide_eq_true hw
  rw [Z86, if_neg (by omega), if_neg (by omega), if_neg (by omega)]
  exact ⟨_, _, rfl⟩
 unfold Format.order
 rcases h with h | h
 ·obtain ⟨s, t, e⟩ := hn a h
  rw [e]
  cases Ieee.double.read b <;> rfl
 ·obtain ⟨s, t, e⟩ := hn b h
  rw [e]
  cases Ieee.double.read a <;> rfl
theorem Z7m {w : Nat} (h : w % 9223372036854775808 = 9218868437227405312) : Ieee.double.read w = .infinity (w / 9223372036854775808 % 2 == 1) := by
 rw [Z86, if_neg (by omega), if_neg (by omega), if_pos h]
theorem Y12 {a b : Nat} (ha : Z3k a = false) (hb : Z3k b = false) : Ieee.double.order a b = some (compare (keyF a) (keyF b)) := by
 have ha := of_decide_eq_false ha
 have hb := of_decide_eq_false hb
 unfold Format.order keyF
 generalize hs : (a / 9223372036854775808 % 2 == 1) = s
 generalize ht : (b / 9223372036854775808 % 2 == 1) = t
 by_cases ia : a % 9223372036854775808 = 9218868437227405312
 ·rw [Z7m ia, hs, ia]
  by_cases ib : b % 9223372036854775808 = 9218868437227405312
  ·rw [Z7m ib, ht, ib]
   cases s <;> cases t <;> rfl
  ·obtain ⟨m, p, e, _, _⟩ := Z5m (w := b) (by omega)
   rw [e]
   generalize b % 9223372036854775808 = r at *
   simp only [Datum.order]
   cases s
   ·simp only [Bool.false_eq_true, if_false]
    rw [Int.compare_eq_gt.2 (by unfold sgn; cases t <;> simp <;> omega)]
   ·simp only [if_true]
    rw [Int.compare_eq_lt.2 (by unfold sgn; cases t <;> simp <;> omega)]
 ·by_cases ib : b % 9223372036854775808 = 9218868437227405312
  ·obtain ⟨m, p, e, _, _⟩ := Z5m (w := a) (by omega)
   rw [Z7m ib, ht, ib, e]
   generalize a % 9223372036854775808 = r at *
   simp only [Datum.order]
   cases t
   ·simp only [Bool.false_eq_true, if_false]
    rw [Int.compare_eq_lt.2 (by unfold sgn; cases s <;> simp <;> omega)]
   ·simp only [if_true]
    rw [Int.compare_eq_gt.2 (by unfold sgn; cases s <;> simp <;> omega)]
  ·obtain ⟨m, p, e, hp, hm⟩ := Z5m (w := a) (by omega)
   obtain ⟨n, q, e2, hq, hn⟩ := Z5m (w := b) (by omega)
   rw [e, e2, hs, ht]
   simp only [Datum.order]
   congr 1
   rw [Z7Z, Z7Z, ← Y3R s t (a % 9223372036854775808) (b % 9223372036854775808), ← hm, ← hn]
   have hb1 : (p + 1074).toNat = (p - min p q).toNat + (min p q + 1074).toNat := by omega
   have hb2 : (q + 1074).toNat = (q - min p q).toNat + (min p q + 1074).toNat := by omega
   rw [hb1, hb2, Nat.pow_add, Nat.pow_add, ← Nat.mul_assoc, ← Nat.mul_assoc, Y1Z s (m * 2 ^ (p - min p q).toNat) (2 ^ (min p q + 1074).toNat), Y1Z t (n * 2 ^ (q - min p q).toNat) (2 ^ (min p q + 1074).toNat), Y5P (Nat.two_pow_pos _)]
theorem Y0T (a : Nat) : (Ieee.double.order a a != some .eq) = Z3k a := by
 cases h : Z3k a with
 | true => rw [Y11 (.inl h)]; rfl
 | false =>
   rw [Y12 h h, Int.compare_eq_eq.2 rfl]
   rfl
/-! ### whole numbers -/
def nlR (l : List Int) : Nat := l.countP (fun r => r == 10)
theorem Y3S {l : List Int} {i : Nat} {r : Int} (h : l[i]? = some r) : nlR (l.take (i + 1)) = nlR (l.take i) + (if r = 10 then 1 else 0) := by
 obtain ⟨hi, he⟩ := List.getElem?_eq_some_iff.1 h
 rw [List.take_succ_eq_append_getElem hi, he]
 simp [nlR, List.countP_append, List.countP_cons]
theorem Y6H (l : List Int) (i : Nat) : nlR (l.take i) ≤ l.length := by
 have h1 := List.countP_le_length (p := fun r => r == (10 : Int)) (l := l.take i)
 have h2 := List.length_take (i := i) (l := l)
 unfold nlR
 omega
theorem Z41 (A : Option Addr) (n c : Nat) (l : List Int) (w : World) (hn : n = l.length) (h : Z3i w w.heap.size A l) (hb : n ≤ 9223372036854775806) :
 Calls Tryz.prog 259 #[.slice A n c] w fun e w' => e = .returned (.int .i64 (nlR l : Nat)) ∧ w = w' := by
 have N := hid hn
 clear hn
 go_enter Tryz.func259, Tryz.ntmps259
 go_wp2_with (fail)
 go_loopg [3, 8] n (fun g kv iv wr => ∃ i k : Nat, i ≤ n ∧ g = n - i ∧ kv = .int .i64 (k : Int) ∧ iv = .int .i64 (i : Int) ∧ w = wr ∧ Hid (nlR (l.take i) = k))
 case atStart => exact ⟨0, 0, by omega, rfl, rfl, rfl, rfl, hid rfl⟩
 case round =>
  obtain ⟨i, k, hi, hg, rfl, rfl, rfl, HK⟩ := hrel
  have HG := hid hg
  clear hg
  by_cases hlt : i < n
  ·obtain ⟨ad, r, rfl, _, _, hri, hc1⟩ := h.el (i := i) (by have := N.out; omega)
   have r0 : w.cell? (ad.add (i * 1)) = some (.int .i32 r) := by have := hc1 0 _ rfl; rwa [Z0o] at this
   rw [Nat.mul_one] at r0
   have hk1 := Y3S hri
   have hk2 := Y6H l i
   rw [HK.out] at hk1 hk2
   have hkb : k ≤ n := by rw [N.out]; exact hk2
   clear hk2 hri hc1
   by_cases h10 : r = 10
   ·rw [if_pos h10] at hk1
    subst h10
    have HK1 := hid hk1
    clear hk1
    go_wp2_with (fail)
    go_roundg (n - (i + 1))
    case measure => have := HG.out; omega
    case rel => exact ⟨i + 1, k + 1, by omega, rfl, by go_num, by go_num, rfl, HK1⟩
   ·rw [if_neg h10] at hk1
    have HK1 := hid hk1
    clear hk1
    go_wp2_with (fail)
    go_roundg (n - (i + 1))
    case measure => have := HG.out; omega
    case rel => exact ⟨i + 1, k, by omega, rfl, rfl, by go_num, rfl, HK1⟩
  ·have hl : nlR l = k := by rw [← HK.out, List.take_of_length_le (by have := N.out; omega)]
   have HL := hid hl
   clear hl
   go_wp2_with (fail)
   go_ret
   exact ⟨by rw [HL.out]; rfl, rfl⟩
theorem Y3T (r : Int) : 1 ≤ (encR r).length ∧ (encR r).length ≤ 4 := by
 unfold encR
 split
 ·simp
 ·split
  ·simp
  ·split <;> simp
theorem Z4D {r : Int} (h : mayR r = true) : 0 ≤ r ∧ r ≤ 1114111 := by have := of_decide_eq_true h; omega
end Go.Proofs.YtnmedachaeanbaaGreatDoor
