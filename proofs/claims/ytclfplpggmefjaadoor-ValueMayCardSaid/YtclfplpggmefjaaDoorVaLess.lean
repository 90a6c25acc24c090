/- The walks of what tells of values: Signbit, Number, Less, and the document's. -/
import Derived.Test.YtclfplpggmefjaaDoorVaRef
import Derived.Laws.Cover2
namespace Go.Proofs.YtclfplpggmefjaaDoor
open Go.RowKit
set_option linter.unusedVariables false
set_option linter.unusedSimpArgs false

/-- the fields' ranges -/
def okV (v : V) : Prop := 0 ≤ v.k ∧ v.k ≤ 255 ∧ -9223372036854775808 ≤ v.n ∧ v.n ≤ 9223372036854775807 ∧ 0 ≤ v.f ∧ v.f ≤ 18446744073709551615
theorem okV.f0 {v : V} (h : okV v) : 0 ≤ v.f := h.2.2.2.2.1
theorem okV.f1 {v : V} (h : okV v) : v.f < 18446744073709551616 := by have := h.2.2.2.2.2; omega
def signB (b : Nat) : Bool := decide (9223372036854775808 ≤ b)
theorem wrap_hi {x : Int} (h : 9223372036854775808 ≤ x) (h2 : x < 18446744073709551616) : wrap64 x = x - 18446744073709551616 := by unfold wrap64; omega
theorem wrap_lo {x : Int} (h0 : 0 ≤ x) (h : x < 9223372036854775808) : wrap64 x = x := by unfold wrap64; omega
theorem signbit_any (b : Nat) (w : World) (hb : b < 18446744073709551616) : Calls Tryd.prog 52 #[.float .f64 b] w fun e w' => e = .returned (.bool (signB b)) ∧ w = w' := by
  cases hS : signB b with
  | true =>
    have h := of_decide_eq_true hS
    obtain ⟨z, hz⟩ : ∃ z : Int, z = (b : Int) - 18446744073709551616 := ⟨_, rfl⟩
    have hw := wrap_hi (x := (b : Int)) (by omega) (by omega)
    rw [← hz] at hw
    have hw2 := (IntWalk.i64_left (b : Int)).trans hw
    have hz0 : z < 0 := by omega
    clear hS h hz hb
    go_enter Tryd.func52, Tryd.ntmps52
    go_wp2_with (fail)
    go_ret
    exact ⟨rfl, rfl⟩
  | false =>
    have h := of_decide_eq_false hS
    have hw := wrap_lo (x := (b : Int)) (by omega) (by omega)
    have hw2 := (IntWalk.i64_left (b : Int)).trans hw
    clear hS h hb
    go_enter Tryd.func52, Tryd.ntmps52
    go_wp2_with (fail)
    go_ret
    exact ⟨rfl, rfl⟩

/-- a value's number, by its bits -/
def numV (v : V) : Option Nat := if mayV v = true then (if v.k = 3 then some v.f.toNat else if v.k = 2 then some (ofIntF v.n) else none) else none
def NumOut (v : V) (w : World) (e : Ending) (w' : World) : Prop := e = .returned (.tuple #[.float .f64 ((numV v).getD 0), .bool (numV v).isSome]) ∧ Below w.heap.size w w'
def NumOutR (v : V) (w : World) (e : Ending) (w' : World) : Prop := e = .returned (.tuple #[.int .u64 (((numV v).getD 0 : Nat) : Int), .bool (numV v).isSome]) ∧ Below w.heap.size w w'

set_option maxHeartbeats 1600000 in
theorem numV_any (k n f : Int) (s : ByteArray) (w : World) (hv : okV ⟨k, n, f, s⟩) (hT : Lib.Utf8Tabs 1 2 w) :
    Calls Tryd.prog 13 #[.agg #[.int .u8 k, .int .i64 n, .int .u64 f, .string s]] w (NumOut ⟨k, n, f, s⟩ w) := by
  have hf0 : 0 ≤ f := hv.f0
  have hf1 : f < 18446744073709551616 := hv.f1
  obtain ⟨O, hO⟩ : ∃ X, numV ⟨k, n, f, s⟩ = X := ⟨_, rfl⟩
  unfold NumOut
  rw [hO]
  have y1 : Below w.heap.size w (w.alloc (.cells #[.int .u8 k, .int .i64 n, .int .u64 f, .string s] 24)) := ext_alloc w _
  have HBX := Lib.hid (heap_alloc_new w (.cells #[.int .u8 k, .int .i64 n, .int .u64 f, .string s] 24))
  have hlt : w.heap.size < (w.alloc (.cells #[.int .u8 k, .int .i64 n, .int .u64 f, .string s] 24)).heap.size := by simp
  clear hv
  go_enter Tryd.func13, Tryd.ntmps13
  go_wp2_with (go_at_call 16; refine Hid.out ?_)
  refine Lib.hid ?_
  generalize w.alloc (.cells #[.int .u8 k, .int .i64 n, .int .u64 f, .string s] 24) = w1 at *
  refine (mayV_any k n f s w1 hf0 hf1 (Utf8Tabs_below hT y1)).mono ?_
  rintro e w2 ⟨rfl, y⟩
  have x2 := ext_trans y1 y
  obtain ⟨b0, b1, b2, b3⟩ := box_v ((y.block w.heap.size hlt).trans HBX.out)
  clear y y1
  cases hm : mayV ⟨k, n, f, s⟩ with
  | false =>
    have e : O = none := by rw [← hO]; unfold numV; rw [if_neg (by rw [hm]; simp)]
    subst e
    clear hO hm
    go_wp2_with (fail)
    refine bodyPost_ret (v := .tuple #[.float .f64 0, .bool false]) (by simp [results, Tryd.results13, go_sem]; try rfl) rfl ?_
    exact ⟨rfl, x2⟩
  | true =>
    by_cases h3 : k = 3
    · subst h3
      have e : O = some f.toNat := by rw [← hO]; unfold numV; rw [if_pos hm, if_pos rfl]
      subst e
      have HN := Lib.hid (Int.toNat_of_nonneg hf0)
      clear hO hm
      go_wp2_with (fail)
      refine bodyPost_ret (v := .tuple #[.float .f64 f.toNat, .bool true]) (by simp [results, Tryd.results13, go_sem]; try rfl) rfl ?_
      exact ⟨rfl, x2⟩
    · by_cases h2 : k = 2
      · subst h2
        have e : O = some (ofIntF n) := by rw [← hO]; unfold numV; rw [if_pos hm, if_neg (by simp), if_pos rfl]
        subst e
        clear hO hm
        go_wp2_with (fail)
        refine bodyPost_ret (v := .tuple #[.float .f64 (ofIntF n), .bool true]) (by simp [results, Tryd.results13, go_sem]; try rfl) rfl ?_
        exact ⟨rfl, x2⟩
      · have e : O = none := by rw [← hO]; unfold numV; rw [if_pos hm, if_neg h3, if_neg h2]
        subst e
        have z2 : (k == 2) = false := beq_eq_false_iff_ne.2 h2
        have z3 : (k == 3) = false := beq_eq_false_iff_ne.2 h3
        clear hO hm h2 h3
        go_wp2_with (fail)
        refine bodyPost_ret (v := .tuple #[.float .f64 0, .bool false]) (by simp [results, Tryd.results13, go_sem]; try rfl) rfl ?_
        exact ⟨rfl, x2⟩
set_option maxHeartbeats 1600000 in
theorem refNumV_any (k n f : Int) (s : ByteArray) (w : World) (hv : okV ⟨k, n, f, s⟩) (hs : s.size ≤ 100000000) (hT : Lib.Utf8Tabs 1 2 w) :
    Calls Tryd.prog 14 #[.agg #[.int .u8 k, .int .i64 n, .int .u64 f, .string s]] w (NumOutR ⟨k, n, f, s⟩ w) := by
  have hf0 : 0 ≤ f := hv.f0
  have hf1 : f < 18446744073709551616 := hv.f1
  obtain ⟨O, hO⟩ : ∃ X, numV ⟨k, n, f, s⟩ = X := ⟨_, rfl⟩
  unfold NumOutR
  rw [hO]
  have y1 : Below w.heap.size w (w.alloc (.cells #[.int .u8 k, .int .i64 n, .int .u64 f, .string s] 24)) := ext_alloc w _
  have HBX := Lib.hid (heap_alloc_new w (.cells #[.int .u8 k, .int .i64 n, .int .u64 f, .string s] 24))
  have hlt : w.heap.size < (w.alloc (.cells #[.int .u8 k, .int .i64 n, .int .u64 f, .string s] 24)).heap.size := by simp
  clear hv
  go_enter Tryd.func14, Tryd.ntmps14
  go_wp2_with (go_at_call 12; refine Hid.out ?_)
  refine Lib.hid ?_
  generalize w.alloc (.cells #[.int .u8 k, .int .i64 n, .int .u64 f, .string s] 24) = w1 at *
  refine (refMayV_any k n f s w1 hf0 hf1 hs (Utf8Tabs_below hT y1)).mono ?_
  rintro e w2 ⟨rfl, y⟩
  have x2 := ext_trans y1 y
  obtain ⟨b0, b1, b2, b3⟩ := box_v ((y.block w.heap.size hlt).trans HBX.out)
  clear y y1
  cases hm : mayV ⟨k, n, f, s⟩ with
  | false =>
    have e : O = none := by rw [← hO]; unfold numV; rw [if_neg (by rw [hm]; simp)]
    subst e
    clear hO hm
    go_wp2_with (fail)
    refine bodyPost_ret (v := .tuple #[.int .u64 0, .bool false]) (by simp [results, Tryd.results14, go_sem]; try rfl) rfl ?_
    exact ⟨rfl, x2⟩
  | true =>
    by_cases h3 : k = 3
    · subst h3
      have e : O = some f.toNat := by rw [← hO]; unfold numV; rw [if_pos hm, if_pos rfl]
      subst e
      have HN := Lib.hid (Int.toNat_of_nonneg hf0)
      clear hO hm
      go_wp2_with (fail)
      refine bodyPost_ret (v := .tuple #[.int .u64 f, .bool true]) (by simp [results, Tryd.results14, go_sem]; try rfl) rfl ?_
      exact ⟨by rw [show (((some f.toNat).getD 0 : Nat) : Int) = f from HN.out]; rfl, x2⟩
    · by_cases h2 : k = 2
      · subst h2
        have e : O = some (ofIntF n) := by rw [← hO]; unfold numV; rw [if_pos hm, if_neg (by simp), if_pos rfl]
        subst e
        clear hO hm
        go_wp2_with (fail)
        refine bodyPost_ret (v := .tuple #[.int .u64 ((ofIntF n : Nat) : Int), .bool true]) (by simp [results, Tryd.results14, go_sem]; try rfl) rfl ?_
        exact ⟨rfl, x2⟩
      · have e : O = none := by rw [← hO]; unfold numV; rw [if_pos hm, if_neg h3, if_neg h2]
        subst e
        have z2 : (k == 2) = false := beq_eq_false_iff_ne.2 h2
        have z3 : (k == 3) = false := beq_eq_false_iff_ne.2 h3
        clear hO hm h2 h3
        go_wp2_with (fail)
        refine bodyPost_ret (v := .tuple #[.int .u64 0, .bool false]) (by simp [results, Tryd.results14, go_sem]; try rfl) rfl ?_
        exact ⟨rfl, x2⟩

/-- the order of two floats' bits -/
def lessF (x y : Nat) : Bool :=
  if isNanF x = true then false else if isNanF y = true then true
  else if (Ieee.double.order x y != some .eq) = true then (Ieee.double.order x y == some .lt) else signB x && !signB y
def lessV (a b : V) : Bool :=
  if (mayV a && mayV b) = false then false
  else if a.k ≠ b.k then decide (a.k < b.k)
  else if a.k = 4 then Op.bytesLess a.s.toList b.s.toList
  else if a.k ≠ 3 then decide (a.n < b.n)
  else lessF a.f.toNat b.f.toNat
def LessOut (a b : V) (w : World) (e : Ending) (w' : World) : Prop := e = .returned (.bool (lessV a b)) ∧ Below w.heap.size w w'
/-- the document's -/
def rankF (f : Int) : Int := if f = 9221120237041090560 then 18446744073709551615 else if 9223372036854775808 ≤ f then 9223372036854775807 - f % 9223372036854775808 else 9223372036854775808 + f
def lessR (a b : V) : Bool :=
  if (mayV a && mayV b) = false then false
  else if a.k ≠ b.k then decide (a.k < b.k)
  else if a.k = 3 then decide (rankF a.f < rankF b.f)
  else if a.k = 4 then Op.bytesLess a.s.toList b.s.toList
  else decide (a.n < b.n)
def LessOutR (a b : V) (w : World) (e : Ending) (w' : World) : Prop := e = .returned (.bool (lessR a b)) ∧ Below w.heap.size w w'

theorem rank_any (f : Int) (w : World) (hf0 : 0 ≤ f) (hf1 : f < 18446744073709551616) : Calls Tryd.prog 53 #[.int .u64 f] w fun e w' => e = .returned (.int .u64 (rankF f)) ∧ w = w' := by
  by_cases h1 : f = 9221120237041090560
  · subst h1
    go_enter Tryd.func53, Tryd.ntmps53
    go_wp2_with (fail)
    go_ret
    exact ⟨rfl, rfl⟩
  · have hb : (f == 9221120237041090560) = false := beq_eq_false_iff_ne.2 h1
    by_cases h2 : 9223372036854775808 ≤ f
    · have hr : rankF f = 9223372036854775807 - f % 9223372036854775808 := by unfold rankF; rw [if_neg h1, if_pos h2]
      have HR := Lib.hid hr
      clear hr h1
      go_enter Tryd.func53, Tryd.ntmps53
      go_wp2_with (fail)
      go_ret
      exact ⟨by rw [HR.out]; rfl, rfl⟩
    · have hr : rankF f = 9223372036854775808 + f := by unfold rankF; rw [if_neg h1, if_neg h2]
      have HR := Lib.hid hr
      clear hr h1
      go_enter Tryd.func53, Tryd.ntmps53
      go_wp2_with (fail)
      go_ret
      exact ⟨by rw [HR.out]; rfl, rfl⟩
end Go.Proofs.YtclfplpggmefjaaDoor
