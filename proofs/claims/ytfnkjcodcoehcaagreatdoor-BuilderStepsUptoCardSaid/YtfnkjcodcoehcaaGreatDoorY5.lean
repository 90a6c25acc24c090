/- Merged texts: Op, Den, MkFn, Canon, Cell, PatchFn. -/
import Derived.Deep.LoopGhost
import Derived.Deep.DeepMust
import Derived.Test.YtfnkjcodcoehcaaGreatDoorY1
import Derived.Test.YtfnkjcodcoehcaaGreatDoorY4
namespace Go.Proofs.YtfnkjcodcoehcaaGreatDoor
open Go.RowKit
set_option linter.unusedVariables false
set_option linter.unusedSimpArgs false

structure Opd where
  k : Int
  n : Int
  r : List Int
  s : List At
  p : List Ch
structure OpS where
  o : Opd
  Ar : Option Addr
  cr : Nat
  As : Option Addr
  cs : Nat
  Ap : Option Addr
  cp : Nat
def OpS.enc (x : OpS) : List Value := [.int .u8 x.o.k, .int .i64 x.o.n, .slice x.Ar x.o.r.length x.cr, .slice x.As x.o.s.length x.cs, .slice x.Ap x.o.p.length x.cp]
theorem OpS.enc_len (x : OpS) : x.enc.length = 5 := rfl
abbrev RdOs := @Rd OpS OpS.enc 5
def Sub (w : World) (B : Nat) (l : List OpS) : Prop := ∀ x ∈ l, RdI32 w B x.Ar x.o.r ∧ RdAt w B x.As x.o.s ∧ RdCh w B x.Ap x.o.p
def RdOp (w : World) (B : Nat) (A : Option Addr) (l : List OpS) : Prop := RdOs w B A l ∧ Sub w B l
theorem Sub.ext {w w' : World} {l : List OpS} (h : Sub w w.heap.size l) (y : Below w.heap.size w w') : Sub w' w'.heap.size l := fun x hx => ⟨(h x hx).1.ext y, (h x hx).2.1.ext y, (h x hx).2.2.ext y⟩
theorem RdOp.ext {w w' : World} {A : Option Addr} {l : List OpS} (h : RdOp w w.heap.size A l) (y : Below w.heap.size w w') : RdOp w' w'.heap.size A l := ⟨h.1.ext y, h.2.ext y⟩
theorem op_cells {w : World} {p : Addr} {k n : Int} {r s q : Value} (h : CellsAt w p [.int .u8 k, .int .i64 n, r, s, q]) :
    w.cell? p = some (.int .u8 k) ∧ w.cell? { block := p.block, off := p.off + 1 } = some (.int .i64 n) ∧ w.cell? { block := p.block, off := p.off + 2 } = some r ∧ w.cell? { block := p.block, off := p.off + 3 } = some s ∧ w.cell? { block := p.block, off := p.off + 4 } = some q := by
  have h0 := h 0 _ rfl
  rw [add_zero'] at h0
  exact ⟨h0, cellsAt_lit h 0 rfl, cellsAt_lit h 1 rfl, cellsAt_lit h 2 rfl, cellsAt_lit h 3 rfl⟩

def sizeO (o : Opd) : Int := if o.k = 2 then o.r.length else o.n
def takeStep (a : Int) (x : OpS) : Int := if x.o.k = 2 then a else IntKind.i64.wrap (a + x.o.n)
def makeStep (a : Int) (x : OpS) : Int := if x.o.k = 3 then a else IntKind.i64.wrap (a + sizeO x.o)
def takesP (l : List OpS) : Int := l.foldl takeStep 0
def makesP (l : List OpS) : Int := l.foldl makeStep 0

set_option maxHeartbeats 800000 in
theorem sizeO_any (k n : Int) (Ar As Ap : Option Addr) (r s p cr cs cp : Nat) (w : World) :
    Calls Tryz.prog 173 #[.agg #[.int .u8 k, .int .i64 n, .slice Ar r cr, .slice As s cs, .slice Ap p cp]] w fun e w' => e = .returned (.int .i64 (if k = 2 then (r : Int) else n)) ∧ Below w.heap.size w w' := by
  by_cases hk : k = 2
  · subst hk
    go_enter Tryz.func173, Tryz.ntmps173
    go_wp2_with (fail)
    go_ret
    exact ⟨by simp, ext_alloc w _⟩
  · have hb : (k == 2) = false := beq_eq_false_iff_ne.2 hk
    have HK := Lib.hid hk
    clear hk
    go_enter Tryz.func173, Tryz.ntmps173
    go_wp2_with (fail)
    go_ret
    exact ⟨by first | rfl | simp [HK.out], ext_alloc w _⟩

theorem fold_drop {f : Int → OpS → Int} {l : List OpS} {m : Nat} {x : OpS} {a R : Int} (hd : l.drop m = x :: l.drop (m + 1)) (h : (l.drop m).foldl f a = R) : (l.drop (m + 1)).foldl f (f a x) = R := by
  rw [hd] at h; exact h

set_option maxRecDepth 100000 in
set_option maxHeartbeats 800000 in
theorem takes_any (A : Option Addr) (n c : Nat) (l : List OpS) (w : World) (hn : n = l.length) (h : RdOs w w.heap.size A l) (hb : n ≤ 140737488355328) :
    Calls Tryz.prog 104 #[.slice A n c] w fun e w' => e = .returned (.int .i64 (takesP l)) ∧ Below w.heap.size w w' := by
  have N := Lib.hid hn
  generalize hR : takesP l = R
  have HR := Lib.hid hR
  clear hn hR
  go_enter Tryz.func104, Tryz.ntmps104
  go_wp2_with (fail)
  go_loopg [3, 8] n (fun g av iv wr => ∃ (m : Nat) (a : Int), m ≤ n ∧ g = n - m ∧ av = .int .i64 a ∧ iv = .int .i64 (m : Int) ∧ Below w.heap.size w wr ∧ Hid ((l.drop m).foldl takeStep a = R))
  case atStart => exact ⟨0, 0, by omega, rfl, rfl, rfl, Below.refl _ _, Lib.hid (by rw [List.drop_zero]; exact HR.out)⟩
  case round =>
    obtain ⟨m, a, hm, hg, rfl, rfl, y, HI⟩ := hrel
    have HG := Lib.hid hg
    clear hg HR
    by_cases hlt : m < n
    · have hl1 : m < l.length := by have := N.out; omega
      obtain ⟨ad, x, rfl, had, hd1, _, hc0⟩ := (h.below y (Nat.le_refl _)).el hl1
      have HI2 := Lib.hid (fold_drop hd1 HI.out)
      obtain ⟨⟨k, nn, r, s, p⟩, Ar, cr, As, cs, Ap, cp⟩ := x
      obtain ⟨r0, r1, r2, r3, r4⟩ := op_cells hc0
      clear hc0 hd1 HI
      have y2 := ext_trans y (ext_alloc wr (.cells #[.int .u8 k, .int .i64 nn, .slice Ar r.length cr, .slice As s.length cs, .slice Ap p.length cp] 50))
      have hw2 : IntKind.i64.wrap ((m:Int) + 1) = (m : Int) + 1 := IntWalk.i64_in _ (by omega)
      by_cases hk : k = 2
      · subst hk
        go_wp2_with (fail)
        go_roundg (n - (m + 1))
        case measure => have := HG.out; omega
        case rel => exact ⟨m + 1, a, by omega, rfl, rfl, by go_num, y2, Lib.hid (by rw [← HI2.out]; simp [takeStep])⟩
      · have hb : (k == 2) = false := beq_eq_false_iff_ne.2 hk
        have HK := Lib.hid hk
        obtain ⟨W, hW⟩ : ∃ W, IntKind.i64.wrap (a + nn) = W := ⟨_, rfl⟩
        clear hk
        go_wp2_with (fail)
        go_roundg (n - (m + 1))
        case measure => have := HG.out; omega
        case rel => exact ⟨m + 1, W, by omega, rfl, by first | rfl | (rw [← hW]; rfl) | trace_state, by go_num, y2, Lib.hid (by rw [← HI2.out]; simp only [takeStep]; rw [if_neg HK.out, hW])⟩
    · go_wp2_with (fail)
      go_ret
      refine ⟨ret_int ?_, y⟩
      rw [← HI.out, List.drop_eq_nil_of_le (by have := N.out; omega)]
      rfl
set_option maxRecDepth 100000 in
set_option maxHeartbeats 800000 in
theorem makes_any (A : Option Addr) (n c : Nat) (l : List OpS) (w : World) (hn : n = l.length) (h : RdOs w w.heap.size A l) (hb : n ≤ 140737488355328) :
    Calls Tryz.prog 105 #[.slice A n c] w fun e w' => e = .returned (.int .i64 (makesP l)) ∧ Below w.heap.size w w' := by
  have N := Lib.hid hn
  generalize hR : makesP l = R
  have HR := Lib.hid hR
  clear hn hR
  go_enter Tryz.func105, Tryz.ntmps105
  go_wp2_with (fail)
  go_loopg [3, 8] n (fun g av iv wr => ∃ (m : Nat) (a : Int), m ≤ n ∧ g = n - m ∧ av = .int .i64 a ∧ iv = .int .i64 (m : Int) ∧ Below w.heap.size w wr ∧ Hid ((l.drop m).foldl makeStep a = R))
  case atStart => exact ⟨0, 0, by omega, rfl, rfl, rfl, Below.refl _ _, Lib.hid (by rw [List.drop_zero]; exact HR.out)⟩
  case round =>
    obtain ⟨m, a, hm, hg, rfl, rfl, y, HI⟩ := hrel
    have HG := Lib.hid hg
    clear hg HR
    by_cases hlt : m < n
    · have hl1 : m < l.length := by have := N.out; omega
      obtain ⟨ad, x, rfl, had, hd1, _, hc0⟩ := (h.below y (Nat.le_refl _)).el hl1
      have HI2 := Lib.hid (fold_drop hd1 HI.out)
      obtain ⟨⟨k, nn, r, s, p⟩, Ar, cr, As, cs, Ap, cp⟩ := x
      obtain ⟨r0, r1, r2, r3, r4⟩ := op_cells hc0
      clear hc0 hd1 HI
      have y2 := ext_trans y (ext_alloc wr (.cells #[.int .u8 k, .int .i64 nn, .slice Ar r.length cr, .slice As s.length cs, .slice Ap p.length cp] 50))
      have hw2 : IntKind.i64.wrap ((m:Int) + 1) = (m : Int) + 1 := IntWalk.i64_in _ (by omega)
      have hbx := heap_alloc_new wr (.cells #[.int .u8 k, .int .i64 nn, .slice Ar r.length cr, .slice As s.length cs, .slice Ap p.length cp] 50)
      by_cases hk : k = 3
      · subst hk
        go_wp2_with (fail)
        go_roundg (n - (m + 1))
        case measure => have := HG.out; omega
        case rel => exact ⟨m + 1, a, by omega, rfl, rfl, by go_num, y2, Lib.hid (by rw [← HI2.out]; simp [makeStep])⟩
      · have hb : (k == 3) = false := beq_eq_false_iff_ne.2 hk
        have HK := Lib.hid hk
        clear hk
        go_wp2_with (go_at_call 173; refine Hid.out ?_)
        refine Lib.hid ?_
        refine (sizeO_any k nn Ar As Ap r.length s.length p.length cr cs cp _).mono ?_
        rintro e w3 ⟨rfl, y3⟩
        have y4 := ext_trans y2 y3
        obtain ⟨Z, hZ⟩ : ∃ Z : Int, (if k = 2 then (r.length : Int) else nn) = Z := ⟨_, rfl⟩
        rw [hZ]
        have HZ : Hid (sizeO ⟨k, nn, r, s, p⟩ = Z) := Lib.hid hZ
        clear hZ
        obtain ⟨W, hW⟩ : ∃ W, IntKind.i64.wrap (a + Z) = W := ⟨_, rfl⟩
        go_wp2_with (fail)
        go_roundg (n - (m + 1))
        case measure => have := HG.out; omega
        case rel => exact ⟨m + 1, W, by omega, rfl, by first | rfl | (rw [← hW]; rfl), by go_num, y4, Lib.hid (by rw [← HI2.out]; simp only [makeStep]; rw [if_neg HK.out, HZ.out, hW])⟩
    · go_wp2_with (fail)
      go_ret
      refine ⟨ret_int ?_, y⟩
      rw [← HI.out, List.drop_eq_nil_of_le (by have := N.out; omega)]
      rfl
def finalStep (n : Int) (st : Bool × Int) (x : OpS) : Bool × Int :=
  if st.1 = false then st else
  if x.o.k = 2 then (decide (¬ st.2 = n), st.2) else
  if x.o.k = 3 ∧ IntKind.i64.wrap (st.2 + x.o.n) = n then (false, st.2) else (true, IntKind.i64.wrap (st.2 + x.o.n))
def finalP (n : Int) (l : List OpS) : Bool := (l.foldl (finalStep n) (true, 0)).1
theorem final_false (n : Int) (a : Int) : ∀ l : List OpS, (l.foldl (finalStep n) (false, a)) = (false, a)
  | [] => rfl
  | x :: l => by rw [List.foldl_cons]; unfold finalStep; simp only [if_true]; exact final_false n a l
theorem fin_drop {n : Int} {l : List OpS} {m : Nat} {x : OpS} {a : Int} {R : Bool} (hd : l.drop m = x :: l.drop (m + 1)) (h : ((l.drop m).foldl (finalStep n) (true, a)).1 = R) : ((l.drop (m + 1)).foldl (finalStep n) (finalStep n (true, a) x)).1 = R := by
  rw [hd] at h; exact h
set_option maxRecDepth 100000 in
set_option maxHeartbeats 1600000 in
theorem final_any (A : Option Addr) (n c : Nat) (l : List OpS) (lim : Int) (w : World) (hn : n = l.length) (h : RdOs w w.heap.size A l) (hb : n ≤ 140737488355328) :
    Calls Tryz.prog 162 #[.slice A n c, .int .i64 lim] w fun e w' => e = .returned (.bool (finalP lim l)) ∧ Below w.heap.size w w' := by
  have N := Lib.hid hn
  generalize hR : finalP lim l = R
  have HR := Lib.hid hR
  clear hn hR
  go_enter Tryz.func162, Tryz.ntmps162
  go_wp2
  go_step3
  go_wp2
  go_step3
  go_wp2
  go_loopg [5, 10] n (fun g av iv wr => ∃ (m : Nat) (a : Int), m ≤ n ∧ g = n - m ∧ av = .int .i64 a ∧ iv = .int .i64 (m : Int) ∧ Below w.heap.size w wr ∧ Hid (((l.drop m).foldl (finalStep lim) (true, a)).1 = R))
  case atStart => exact ⟨0, 0, by omega, rfl, rfl, rfl, Below.refl _ _, Lib.hid (by rw [List.drop_zero]; exact HR.out)⟩
  case round =>
    obtain ⟨m, a, hm, hg, rfl, rfl, y, HI⟩ := hrel
    have HG := Lib.hid hg
    clear hg HR
    by_cases hlt : m < n
    · have hl1 : m < l.length := by have := N.out; omega
      obtain ⟨ad, x, rfl, had, hd1, _, hc0⟩ := (h.below y (Nat.le_refl _)).el hl1
      have HI2 := Lib.hid (fin_drop hd1 HI.out)
      obtain ⟨⟨k, nn, r, s, p⟩, Ar, cr, As, cs, Ap, cp⟩ := x
      obtain ⟨r0, r1, r2, r3, r4⟩ := op_cells hc0
      clear hc0 hd1 HI
      have y2 := ext_trans y (ext_alloc wr (.cells #[.int .u8 k, .int .i64 nn, .slice Ar r.length cr, .slice As s.length cs, .slice Ap p.length cp] 50))
      have hw2 : IntKind.i64.wrap ((m:Int) + 1) = (m : Int) + 1 := IntWalk.i64_in _ (by omega)
      obtain ⟨W, hW⟩ : ∃ W, IntKind.i64.wrap (a + nn) = W := ⟨_, rfl⟩
      have HW := Lib.hid hW
      by_cases hk : k = 2
      · subst hk
        by_cases ha : a = lim
        · subst ha
          go_wp2_with (fail)
          go_ret
          refine ⟨ret_bool ?_, y2⟩
          rw [← HI2.out]
          simp [finalStep, final_false]
        · have hb2 : (a == lim) = false := beq_eq_false_iff_ne.2 ha
          have HA := Lib.hid ha
          clear ha
          go_wp2_with (fail)
          go_roundg (n - (m + 1))
          case measure => have := HG.out; omega
          case rel => exact ⟨m + 1, a, by omega, rfl, rfl, by go_num, y2, Lib.hid (by rw [← HI2.out]; simp [finalStep, HA.out])⟩
      · have hb : (k == 2) = false := beq_eq_false_iff_ne.2 hk
        have HK := Lib.hid hk
        clear hk
        by_cases hk3 : k = 3
        · subst hk3
          by_cases ha : W = lim
          · subst ha
            go_wp2_with (fail)
            go_ret
            refine ⟨ret_bool ?_, y2⟩
            rw [← HI2.out]
            simp [finalStep, final_false, HW.out]
          · have hb2 : (W == lim) = false := beq_eq_false_iff_ne.2 ha
            have HA := Lib.hid ha
            clear ha
            go_wp2_with (fail)
            go_roundg (n - (m + 1))
            case measure => have := HG.out; omega
            case rel => exact ⟨m + 1, W, by omega, rfl, by first | rfl | (rw [← HW.out]; rfl), by go_num, y2, Lib.hid (by rw [← HI2.out]; simp [finalStep, HW.out, HA.out])⟩
        · have hb3 : (k == 3) = false := beq_eq_false_iff_ne.2 hk3
          have HK3 := Lib.hid hk3
          clear hk3
          go_wp2_with (fail)
          go_roundg (n - (m + 1))
          case measure => have := HG.out; omega
          case rel => exact ⟨m + 1, W, by omega, rfl, by first | rfl | (rw [← HW.out]; rfl), by go_num, y2, Lib.hid (by rw [← HI2.out]; simp [finalStep, HW.out, HK.out, HK3.out])⟩
    · go_wp2_with (fail)
      unfold Exit.noGoto
      go_ret
      refine ⟨ret_bool ?_, y⟩
      rw [← HI.out, List.drop_eq_nil_of_le (by have := N.out; omega)]
      rfl

instance : DecidableEq Opd := fun a b =>
  if h : a.k = b.k ∧ a.n = b.n ∧ a.r = b.r ∧ a.s = b.s ∧ a.p = b.p then isTrue (by cases a; cases b; simp only at h; obtain ⟨rfl, rfl, rfl, rfl, rfl⟩ := h; rfl)
  else isFalse (fun e => h (by subst e; exact ⟨rfl, rfl, rfl, rfl, rfl⟩))

inductive Un where
  | ins (r : Int) (s : List At)
  | del
  | ret (p : List Ch)
deriving DecidableEq

def opI (r : List Int) (s : List At) : Opd := ⟨2, 0, r, s, []⟩
def opD (n : Int) : Opd := ⟨3, n, [], [], []⟩
def opR (n : Int) (p : List Ch) : Opd := ⟨1, n, [], [], p⟩
def op1 : Un → Opd
  | .ins r s => opI [r] s
  | .del => opD 1
  | .ret p => opR 1 p
def canMerge (a b : Opd) : Bool :=
  (decide (a.k = 2) && decide (b.k = 2) && decide (a.s = b.s)) || (decide (a.k = 3) && decide (b.k = 3)) || (decide (a.k = 1) && decide (b.k = 1) && decide (a.p = b.p))
def into (u : Un) (b : Opd) : Opd :=
  match u with
  | .ins r s => { b with r := r :: b.r }
  | _ => { b with n := b.n + 1 }
def cons1 (u : Un) : List Opd → List Opd
  | [] => [op1 u]
  | b :: t => if canMerge (op1 u) b = true then into u b :: t else op1 u :: b :: t
def enc : List Un → List Opd
  | [] => []
  | u :: us => cons1 u (enc us)
def unitsO (o : Opd) : List Un :=
  if o.k = 2 then o.r.map (fun r => Un.ins r o.s) else if o.k = 1 then List.replicate o.n.toNat (.ret o.p) else List.replicate o.n.toNat .del
def units (x : List Opd) : List Un := x.flatMap unitsO

theorem units_nil : units [] = [] := rfl
theorem units_cons (o : Opd) (x : List Opd) : units (o :: x) = unitsO o ++ units x := rfl
theorem units_append (x y : List Opd) : units (x ++ y) = units x ++ units y := by simp [units]

def isOp (o : Opd) : Prop :=
  (o.k = 2 ∧ o.n = 0 ∧ o.r ≠ [] ∧ o.p = []) ∨ (o.k = 3 ∧ 1 ≤ o.n ∧ o.r = [] ∧ o.s = [] ∧ o.p = []) ∨ (o.k = 1 ∧ 1 ≤ o.n ∧ o.r = [] ∧ o.s = [])
def tight : List Opd → Prop
  | [] => True
  | a :: x => isOp a ∧ (match x with | [] => True | b :: _ => canMerge a b = false) ∧ tight x
theorem cons1_new {u : Un} {x : List Opd} (h : ∀ b t, x = b :: t → canMerge (op1 u) b = false) : cons1 u x = op1 u :: x := by
  cases x with
  | nil => rfl
  | cons b t => rw [cons1, if_neg (by rw [h b t rfl]; simp)]
theorem cons1_ins_old {r : Int} {rs : List Int} {s : List At} {t : List Opd} : cons1 (.ins r s) (opI rs s :: t) = opI (r :: rs) s :: t := by
  rw [cons1, if_pos (by simp [canMerge, op1, opI])]; rfl
theorem cons1_del_old {n : Int} {t : List Opd} : cons1 .del (opD n :: t) = opD (n + 1) :: t := by
  rw [cons1, if_pos (by simp [canMerge, op1, opD])]; rfl
theorem cons1_ret_old {n : Int} {p : List Ch} {t : List Opd} : cons1 (.ret p) (opR n p :: t) = opR (n + 1) p :: t := by
  rw [cons1, if_pos (by simp [canMerge, op1, opR])]; rfl
theorem opI_of {o : Opd} (h : isOp o) (hk : o.k = 2) : o = opI o.r o.s ∧ o.r ≠ [] := by
  obtain ⟨k, n, r, s, p⟩ := o
  simp only at hk
  subst hk
  rcases h with ⟨_, h2, h3, h4⟩ | ⟨h1, _⟩ | ⟨h1, _⟩
  · simp only at h2 h3 h4; subst h2 h4; exact ⟨rfl, h3⟩
  · cases h1
  · cases h1
theorem opD_of {o : Opd} (h : isOp o) (hk : o.k = 3) : o = opD o.n ∧ 1 ≤ o.n := by
  obtain ⟨k, n, r, s, p⟩ := o
  simp only at hk
  subst hk
  rcases h with ⟨h1, _⟩ | ⟨_, h2, h3, h4, h5⟩ | ⟨h1, _⟩
  · cases h1
  · simp only at h2 h3 h4 h5; subst h3 h4 h5; exact ⟨rfl, h2⟩
  · cases h1
theorem opR_of {o : Opd} (h : isOp o) (hk : o.k = 1) : o = opR o.n o.p ∧ 1 ≤ o.n := by
  obtain ⟨k, n, r, s, p⟩ := o
  simp only at hk
  subst hk
  rcases h with ⟨h1, _⟩ | ⟨h1, _⟩ | ⟨_, h2, h3, h4⟩
  · cases h1
  · cases h1
  · simp only at h2 h3 h4; subst h3 h4; exact ⟨rfl, h2⟩
theorem isOp_kind {o : Opd} (h : isOp o) : o.k = 2 ∨ o.k = 3 ∨ o.k = 1 := by
  rcases h with h | h | h
  · exact .inl h.1
  · exact .inr (.inl h.1)
  · exact .inr (.inr h.1)

theorem enc_op {o : Opd} {us : List Un} (ho : isOp o) (hx : tight (enc us)) (h : ∀ b t, enc us = b :: t → canMerge o b = false) : enc (unitsO o ++ us) = o :: enc us := by
  rcases isOp_kind ho with hk | hk | hk
  · obtain ⟨e, hr⟩ := opI_of ho hk
    obtain ⟨k, n, r, s, p⟩ := o
    simp only at e hr hk
    rw [e] at h ⊢
    clear e ho hk
    have hu : unitsO (opI r s) = r.map (fun r => Un.ins r s) := rfl
    rw [hu]
    induction r with
    | nil => exact absurd rfl hr
    | cons a r ih =>
      cases r with
      | nil =>
        show cons1 (.ins a s) (enc us) = _
        exact cons1_new (u := .ins a s) (fun b t hb => h b t hb)
      | cons b r =>
        have ih' := ih (fun c t hc => h c t hc) (by simp) rfl
        show cons1 (.ins a s) (enc (((b :: r).map (fun r => Un.ins r s)) ++ us)) = _
        rw [ih', cons1_ins_old]
  · obtain ⟨e, hn⟩ := opD_of ho hk
    obtain ⟨k, n, r, s, p⟩ := o
    simp only at e hn hk
    rw [e] at h ⊢
    clear e ho hk
    have hu : unitsO (opD n) = List.replicate n.toNat .del := rfl
    rw [hu]
    obtain ⟨m, rfl⟩ : ∃ m : Nat, n = (m : Int) + 1 := ⟨(n - 1).toNat, by omega⟩
    have hm : ((m : Int) + 1).toNat = m + 1 := by omega
    rw [hm]
    clear hn hu hm
    induction m with
    | zero => exact cons1_new (u := .del) (fun b t hb => h b t hb)
    | succ m ih =>
      show cons1 .del (enc (List.replicate (m + 1) .del ++ us)) = _
      rw [ih (fun b t hb => h b t hb), cons1_del_old]
      congr 2
      all_goals omega
  · obtain ⟨e, hn⟩ := opR_of ho hk
    obtain ⟨k, n, r, s, p⟩ := o
    simp only at e hn hk
    rw [e] at h ⊢
    clear e ho hk
    have hu : unitsO (opR n p) = List.replicate n.toNat (.ret p) := rfl
    rw [hu]
    obtain ⟨m, rfl⟩ : ∃ m : Nat, n = (m : Int) + 1 := ⟨(n - 1).toNat, by omega⟩
    have hm : ((m : Int) + 1).toNat = m + 1 := by omega
    rw [hm]
    clear hn hu hm
    induction m with
    | zero => exact cons1_new (u := .ret p) (fun b t hb => h b t hb)
    | succ m ih =>
      show cons1 (.ret p) (enc (List.replicate (m + 1) (.ret p) ++ us)) = _
      rw [ih (fun b t hb => h b t hb), cons1_ret_old]
      congr 2
      all_goals omega
theorem enc_units {x : List Opd} (h : tight x) : enc (units x) = x := by
  induction x with
  | nil => rfl
  | cons a x ih =>
    obtain ⟨h1, h2, h3⟩ := h
    have e := ih h3
    rw [units_cons, enc_op h1 (by rw [e]; exact h3) (fun b t hb => by rw [e] at hb; subst hb; exact h2), e]
theorem tight_ext {x y : List Opd} (hx : tight x) (hy : tight y) (h : units x = units y) : x = y := by rw [← enc_units hx, h, enc_units hy]

structure Mk where
  done : List Opd
  ins : List Opd
  gone : Int
def Mk.new : Mk := ⟨[], [], 0⟩
def mkGap (m : Mk) : List Opd := m.ins ++ (if 0 < m.gone then [opD m.gone] else [])
def addR (d : List Opd) (n : Int) (p : List Ch) : List Opd :=
  match d.getLast? with
  | some o => if o.k = 1 ∧ o.p = p then d.dropLast ++ [{ o with n := IntKind.i64.wrap (o.n + n) }] else d ++ [opR n p]
  | none => d ++ [opR n p]
def mkRetain (m : Mk) (n : Int) (p : List Ch) : Mk := if n < 1 then m else ⟨addR (m.done ++ mkGap m) n p, [], 0⟩
def addI (d : List Opd) (l : List Int) (s : List At) : List Opd :=
  match d.getLast? with
  | some o => if o.s = s then d.dropLast ++ [{ o with r := o.r ++ l }] else d ++ [opI l s]
  | none => d ++ [opI l s]
def mkInsert (m : Mk) (l : List Int) (s : List At) : Mk := if l = [] then m else { m with ins := addI m.ins l s }
def mkDelete (m : Mk) (n : Int) : Mk := { m with gone := IntKind.i64.wrap (m.gone + (if n < 0 then 0 else n)) }
def cutR (d : List Opd) : List Opd :=
  match d.getLast? with
  | some o => if o.k = 1 ∧ o.p = [] then d.dropLast else d
  | none => d
def mkOps (m : Mk) : List Opd := cutR (m.done ++ mkGap m)

def trim : List Un → List Un
  | [] => []
  | u :: us => match trim us with
    | [] => if u = .ret [] then [] else [u]
    | v :: vs => u :: v :: vs
theorem trim_cons_ne {u : Un} {us : List Un} (h : trim us ≠ [] ∨ u ≠ .ret []) : trim (u :: us) = u :: trim us := by
  rw [trim]
  cases ht : trim us with
  | nil =>
    rcases h with h | h
    · exact absurd ht h
    · simp only; rw [if_neg h]
  | cons v vs => rfl
theorem trim_snoc_ne {us : List Un} {u : Un} (h : u ≠ .ret []) : trim (us ++ [u]) = us ++ [u] := by
  induction us with
  | nil => show trim [u] = [u]; rw [trim_cons_ne (.inr h)]; rfl
  | cons a us ih => show trim (a :: (us ++ [u])) = _; rw [trim_cons_ne (.inl (by rw [ih]; simp)), ih]; rfl
theorem trim_snoc {us : List Un} : trim (us ++ [.ret []]) = trim us := by
  induction us with
  | nil => rfl
  | cons a us ih => show trim (a :: (us ++ [.ret []])) = _; rw [trim, ih]; rfl
theorem trim_reps {us : List Un} (n : Nat) : trim (us ++ List.replicate n (.ret [])) = trim us := by
  induction n with
  | zero => simp
  | succ n ih => rw [List.replicate_succ', ← List.append_assoc, trim_snoc, ih]
theorem trim_last {us : List Un} (h : ∀ u, us.getLast? = some u → u ≠ .ret []) : trim us = us := by
  rcases List.eq_nil_or_concat us with rfl | ⟨t, u, rfl⟩
  · rfl
  · rw [List.concat_eq_append] at h ⊢
    exact trim_snoc_ne (h u (by simp))

theorem tight_append {x y : List Opd} (hx : tight x) (hy : tight y) (h : ∀ a b t, x.getLast? = some a → y = b :: t → canMerge a b = false) : tight (x ++ y) := by
  induction x with
  | nil => exact hy
  | cons a x ih =>
    obtain ⟨h1, h2, h3⟩ := hx
    refine ⟨h1, ?_, ih h3 (fun c b t hc hb => h c b t ?_ hb)⟩
    · cases x with
      | nil =>
        cases y with
        | nil => trivial
        | cons b t => exact h a b t rfl rfl
      | cons c x => exact h2
    · cases x with
      | nil => cases hc
      | cons d x => simpa using hc
theorem tight_front {x y : List Opd} (h : tight (x ++ y)) : tight x := by
  induction x with
  | nil => trivial
  | cons a x ih =>
    obtain ⟨h1, h2, h3⟩ := h
    refine ⟨h1, ?_, ih h3⟩
    cases x with
    | nil => trivial
    | cons b x => exact h2
theorem tight_mem {x : List Opd} (h : tight x) : ∀ o ∈ x, isOp o := by
  induction x with
  | nil => intro o ho; cases ho
  | cons a x ih =>
    intro o ho
    rcases List.mem_cons.1 ho with rfl | ho
    · exact h.1
    · exact ih h.2.2 o ho
theorem tight_lastIs {x : List Opd} {a b : Opd} (h : tight (x ++ [a])) (hb : isOp b) (hm : ∀ c, canMerge c a = false → canMerge c b = false) : tight (x ++ [b]) := by
  refine tight_append (tight_front h) ⟨hb, trivial, trivial⟩ (fun c d t hc hd => ?_)
  injection hd with hd _
  subst hd
  refine hm c ?_
  clear hm hb
  induction x with
  | nil => cases hc
  | cons e x ih =>
    obtain ⟨h1, h2, h3⟩ := h
    cases x with
    | nil => simp at hc; subst hc; exact h2
    | cons f x => exact ih h3 (by simpa using hc)
theorem last_split {x : List Opd} {o : Opd} (h : x.getLast? = some o) : x = x.dropLast ++ [o] := by
  rcases List.eq_nil_or_concat x with rfl | ⟨t, u, rfl⟩
  · cases h
  · rw [List.concat_eq_append] at h ⊢
    simp at h
    subst h
    simp
theorem isOp_opR {n : Int} {p : List Ch} (h : 1 ≤ n) : isOp (opR n p) := .inr (.inr ⟨rfl, h, rfl, rfl⟩)
theorem isOp_opD {n : Int} (h : 1 ≤ n) : isOp (opD n) := .inr (.inl ⟨rfl, h, rfl, rfl, rfl⟩)
theorem isOp_opI {l : List Int} {s : List At} (h : l ≠ []) : isOp (opI l s) := .inl ⟨rfl, rfl, h, rfl⟩
theorem unitsO_R (n : Int) (p : List Ch) : unitsO (opR n p) = List.replicate n.toNat (.ret p) := rfl
theorem unitsO_D (n : Int) : unitsO (opD n) = List.replicate n.toNat .del := rfl
theorem unitsO_I (l : List Int) (s : List At) : unitsO (opI l s) = l.map (fun r => Un.ins r s) := rfl
theorem units_one (o : Opd) : units [o] = unitsO o := by simp [units]
theorem units_len_ge {x : List Opd} (h : tight x) {o : Opd} (ho : o ∈ x) (hk : o.k ≠ 2) : o.n ≤ (units x).length := by
  induction x with
  | nil => cases ho
  | cons a x ih =>
    rw [units_cons, List.length_append]
    rcases List.mem_cons.1 ho with rfl | hm
    · have : (unitsO o).length = o.n.toNat := by
        unfold unitsO
        rw [if_neg hk]
        split <;> simp
      have := h.1
      rcases this with h1 | h1 | h1 <;> omega
    · have := ih h.2.2 hm; omega

theorem addR_ok {d : List Opd} {n : Int} {p : List Ch} (hd : tight d) (hn : 1 ≤ n) (hb : (units d).length + n ≤ 4611686018427387904) :
    tight (addR d n p) ∧ units (addR d n p) = units d ++ List.replicate n.toNat (.ret p) ∧ (∃ o, (addR d n p).getLast? = some o ∧ o.k = 1) := by
  unfold addR
  cases hl : d.getLast? with
  | none =>
    have : d = [] := by simpa using hl
    subst this
    refine ⟨⟨isOp_opR hn, trivial, trivial⟩, ?_, opR n p, rfl, rfl⟩
    simp [units_one, units_nil, unitsO_R]
  | some o =>
    have e := last_split hl
    have hmem : o ∈ d := by rw [e]; simp
    have hop := tight_mem hd o hmem
    simp only
    by_cases hc : o.k = 1 ∧ o.p = p
    · rw [if_pos hc]
      obtain ⟨e1, h1⟩ := opR_of hop hc.1
      have hge := units_len_ge hd hmem (by rw [hc.1]; decide)
      have hw : IntKind.i64.wrap (o.n + n) = o.n + n := IntWalk.i64_in _ (by omega)
      have e2 : ({ o with n := IntKind.i64.wrap (o.n + n) } : Opd) = opR (o.n + n) p := by rw [hw, e1, hc.2]; rfl
      rw [e2]
      rw [e1, hc.2] at e
      refine ⟨tight_lastIs (a := opR o.n p) (by rw [← e]; exact hd) (isOp_opR (by omega)) (fun c h => h), ?_, opR (o.n + n) p, by simp, rfl⟩
      rw [units_append, units_one, unitsO_R]
      have : units d = units d.dropLast ++ List.replicate o.n.toNat (.ret p) := by
        conv => lhs; rw [e]
        rw [units_append, units_one, unitsO_R]
      rw [this, List.append_assoc, List.replicate_append_replicate]
      congr 2
      omega
    · rw [if_neg hc]
      refine ⟨tight_append hd ⟨isOp_opR hn, trivial, trivial⟩ (fun a b t ha hb => ?_), by rw [units_append, units_one, unitsO_R], opR n p, by simp, rfl⟩
      injection hb with hb _
      subst hb
      rw [hl] at ha; injection ha with ha; subst ha
      cases hm : canMerge o (opR n p) with
      | false => rfl
      | true =>
        exfalso
        refine hc ?_
        simp [canMerge, opR] at hm
        exact ⟨hm.1, of_decide_eq_true hm.2⟩
theorem addI_ok {d : List Opd} {l : List Int} {s : List At} (hd : tight d) (h2 : ∀ o ∈ d, o.k = 2) (hl : l ≠ []) :
    tight (addI d l s) ∧ (∀ o ∈ addI d l s, o.k = 2) ∧ units (addI d l s) = units d ++ l.map (fun r => Un.ins r s) := by
  unfold addI
  cases hg : d.getLast? with
  | none =>
    have : d = [] := by simpa using hg
    subst this
    exact ⟨⟨isOp_opI hl, trivial, trivial⟩, by intro o ho; simp at ho; subst ho; rfl, by simp [units_one, units_nil, unitsO_I]⟩
  | some o =>
    have e := last_split hg
    have hmem : o ∈ d := by rw [e]; simp
    have hop := tight_mem hd o hmem
    have hk := h2 o hmem
    obtain ⟨e1, h1⟩ := opI_of hop hk
    simp only
    by_cases hc : o.s = s
    · rw [if_pos hc]
      have e2 : ({ o with r := o.r ++ l } : Opd) = opI (o.r ++ l) s := by rw [e1, hc]; rfl
      rw [e2]
      rw [e1, hc] at e
      refine ⟨tight_lastIs (a := opI o.r s) (by rw [← e]; exact hd) (isOp_opI (by simp [hl])) (fun c h => h), fun x hx => ?_, ?_⟩
      · rcases List.mem_append.1 hx with hx | hx
        · exact h2 x ((List.dropLast_sublist _).subset hx)
        · simp at hx; subst hx; rfl
      · rw [units_append, units_one, unitsO_I]
        have : units d = units d.dropLast ++ o.r.map (fun r => Un.ins r s) := by
          conv => lhs; rw [e]
          rw [units_append, units_one, unitsO_I]
        rw [this, List.append_assoc, List.map_append]
    · rw [if_neg hc]
      refine ⟨tight_append hd ⟨isOp_opI hl, trivial, trivial⟩ (fun a b t ha hb => ?_), fun x hx => ?_, by rw [units_append, units_one, unitsO_I]⟩
      · injection hb with hb _
        subst hb
        rw [hg] at ha; injection ha with ha; subst ha
        cases hm : canMerge o (opI l s) with
        | false => rfl
        | true =>
          exfalso
          refine hc ?_
          simp [canMerge, opI] at hm
          exact of_decide_eq_true hm.2
      · rcases List.mem_append.1 hx with hx | hx
        · exact h2 x hx
        · simp at hx; subst hx; rfl

structure MkAt (m : Mk) (K : List Un) (I : List Un) (g : Nat) : Prop where
  d1 : tight m.done
  d2 : units m.done = K
  d3 : ∀ o, m.done.getLast? = some o → o.k = 1
  i1 : tight m.ins
  i2 : units m.ins = I
  i3 : ∀ o ∈ m.ins, o.k = 2
  g1 : m.gone = g
theorem MkAt.new : MkAt Mk.new [] [] 0 := ⟨trivial, rfl, (by intro o h; cases h), trivial, rfl, (by intro o h; cases h), rfl⟩
theorem merge_kinds {a b : Opd} (h : a.k ≠ b.k) : canMerge a b = false := by
  cases hm : canMerge a b with
  | false => rfl
  | true =>
    exfalso; apply h
    simp [canMerge] at hm
    rcases hm with (⟨⟨h1, h2⟩, _⟩ | ⟨h1, h2⟩) | ⟨⟨h1, h2⟩, _⟩ <;> rw [h1, h2]
theorem MkAt.all {m : Mk} {K I : List Un} {g : Nat} (h : MkAt m K I g) : tight (m.done ++ mkGap m) ∧ units (m.done ++ mkGap m) = K ++ I ++ List.replicate g .del := by
  have hgap : tight (mkGap m) ∧ units (mkGap m) = I ++ List.replicate g .del ∧ ∀ b t, mkGap m = b :: t → b.k ≠ 1 := by
    unfold mkGap
    by_cases hg : 0 < m.gone
    · rw [if_pos hg]
      refine ⟨tight_append h.i1 ⟨isOp_opD (by omega), trivial, trivial⟩ (fun a b t ha hb => ?_), ?_, fun b t hb => ?_⟩
      · injection hb with hb _; subst hb
        exact merge_kinds (by rw [h.i3 a (List.mem_of_getLast? ha)]; exact (show (2 : Int) ≠ 3 by decide))
      · rw [units_append, units_one, unitsO_D, h.i2, h.g1]; simp
      · cases hi : m.ins with
        | nil => rw [hi] at hb; injection hb with hb _; subst hb; exact (show (3 : Int) ≠ 1 by decide)
        | cons c x =>
          rw [hi] at hb; injection hb with hb _; subst hb
          rw [h.i3 c (by rw [hi]; simp)]; decide
    · rw [if_neg hg]
      have hg0 : g = 0 := by have := h.g1; omega
      subst hg0
      refine ⟨by rw [List.append_nil]; exact h.i1, by rw [List.append_nil, h.i2]; simp, fun b t hb => ?_⟩
      rw [List.append_nil] at hb
      rw [h.i3 b (by rw [hb]; simp)]; decide
  obtain ⟨h1, h2, h3⟩ := hgap
  refine ⟨tight_append h.d1 h1 (fun a b t ha hb => merge_kinds (by rw [h.d3 a ha]; exact fun e => h3 b t hb e.symm)), by rw [units_append, h.d2, h2, List.append_assoc]⟩
theorem MkAt.retain {m : Mk} {K I : List Un} {g : Nat} (h : MkAt m K I g) {n : Int} {p : List Ch} (hn : 1 ≤ n) (hb : (K.length + I.length + g : Nat) + n ≤ 4611686018427387904) :
    MkAt (mkRetain m n p) (K ++ I ++ List.replicate g .del ++ List.replicate n.toNat (.ret p)) [] 0 := by
  obtain ⟨h1, h2⟩ := h.all
  obtain ⟨g1, g2, o, g3, g4⟩ := addR_ok (p := p) h1 hn (by rw [h2]; simp only [List.length_append, List.length_replicate]; exact hb)
  unfold mkRetain
  rw [if_neg (by omega)]
  refine ⟨g1, by rw [g2, h2], fun x hx => ?_, trivial, rfl, (by intro o ho; cases ho), rfl⟩
  rw [g3] at hx; injection hx with hx; subst hx; exact g4
theorem MkAt.retain0 {m : Mk} {K I : List Un} {g : Nat} (h : MkAt m K I g) {n : Int} {p : List Ch} (hn : n < 1) : MkAt (mkRetain m n p) K I g := by
  unfold mkRetain; rw [if_pos hn]; exact h
theorem MkAt.insert {m : Mk} {K I : List Un} {g : Nat} (h : MkAt m K I g) (l : List Int) (s : List At) :
    MkAt (mkInsert m l s) K (I ++ l.map (fun r => Un.ins r s)) g := by
  unfold mkInsert
  by_cases hl : l = []
  · rw [if_pos hl, hl]; simpa using h
  · rw [if_neg hl]
    obtain ⟨g1, g2, g3⟩ := addI_ok (s := s) h.i1 h.i3 hl
    exact ⟨h.d1, h.d2, h.d3, g1, by rw [g3, h.i2], g2, h.g1⟩
theorem MkAt.delete {m : Mk} {K I : List Un} {g : Nat} (h : MkAt m K I g) {n : Int} (hb : (g : Int) + n ≤ 4611686018427387904) (hg : g ≤ 4611686018427387904) :
    MkAt (mkDelete m n) K I (g + n.toNat) := by
  refine ⟨h.d1, h.d2, h.d3, h.i1, h.i2, h.i3, ?_⟩
  show IntKind.i64.wrap (m.gone + (if n < 0 then 0 else n)) = _
  rw [h.g1]
  have : (if n < 0 then 0 else n) = (n.toNat : Int) := by split <;> omega
  rw [this, IntWalk.i64_in _ (by omega)]
  omega
theorem MkAt.ops {m : Mk} {K I : List Un} {g : Nat} (h : MkAt m K I g) : tight (mkOps m) ∧ units (mkOps m) = trim (K ++ I ++ List.replicate g .del) := by
  obtain ⟨h1, h2⟩ := h.all
  unfold mkOps cutR
  rw [← h2]
  generalize m.done ++ mkGap m = x at *
  cases hl : x.getLast? with
  | none =>
    have : x = [] := by simpa using hl
    subst this
    exact ⟨trivial, rfl⟩
  | some o =>
    have e := last_split hl
    have hop := tight_mem h1 o (by rw [e]; simp)
    simp only
    have hT : tight (x.dropLast ++ [o]) := by rw [← e]; exact h1
    by_cases hc : o.k = 1 ∧ o.p = []
    · rw [if_pos hc]
      obtain ⟨e1, hn⟩ := opR_of hop hc.1
      rw [hc.2] at e1
      refine ⟨tight_front hT, ?_⟩
      have e2 : units x = units x.dropLast ++ List.replicate o.n.toNat (.ret []) := by
        conv => lhs; rw [e, e1]
        rw [units_append, units_one, unitsO_R]
      rw [e2, trim_reps]
      symm
      refine trim_last (fun u hu hr => ?_)
      subst hr
      -- the op ahead would be one with the last
      rcases List.eq_nil_or_concat x.dropLast with h0 | ⟨t, c, h0⟩
      · rw [h0] at hu; cases hu
      · rw [List.concat_eq_append] at h0
        rw [h0] at hu hT
        rw [units_append, units_one] at hu
        have hc1 := tight_mem hT c (by simp)
        have hcm : canMerge c o = false := by
          have : ∀ (t : List Opd), tight (t ++ [c] ++ [o]) → canMerge c o = false := by
            intro t
            induction t with
            | nil => intro h; exact h.2.1
            | cons d t ih => intro h; exact ih h.2.2
          exact this t hT
        rcases isOp_kind hc1 with hk | hk | hk
        · obtain ⟨ec, hr⟩ := opI_of hc1 hk
          rw [ec, unitsO_I] at hu
          rcases List.eq_nil_or_concat c.r with h5 | ⟨q, z, h5⟩
          · exact hr h5
          · rw [h5, List.concat_eq_append, List.map_append] at hu
            simp at hu
        · obtain ⟨ec, hr⟩ := opD_of hc1 hk
          rw [ec, unitsO_D] at hu
          obtain ⟨q, hq⟩ : ∃ q, c.n.toNat = q + 1 := ⟨c.n.toNat - 1, by omega⟩
          rw [hq, List.replicate_succ'] at hu
          simp at hu
        · obtain ⟨ec, hr⟩ := opR_of hc1 hk
          rw [ec, unitsO_R] at hu
          obtain ⟨q, hq⟩ : ∃ q, c.n.toNat = q + 1 := ⟨c.n.toNat - 1, by omega⟩
          rw [hq, List.replicate_succ'] at hu
          simp at hu
          rw [ec, e1, hu] at hcm
          simp [canMerge, opR] at hcm
    · rw [if_neg hc]
      refine ⟨h1, ?_⟩
      symm
      refine trim_last (fun u hu hr => ?_)
      subst hr
      rw [e, units_append, units_one] at hu
      rcases isOp_kind hop with hk | hk | hk
      · obtain ⟨ec, hr⟩ := opI_of hop hk
        rw [ec, unitsO_I] at hu
        rcases List.eq_nil_or_concat o.r with h5 | ⟨q, z, h5⟩
        · exact hr h5
        · rw [h5, List.concat_eq_append, List.map_append] at hu
          simp at hu
      · obtain ⟨ec, hr⟩ := opD_of hop hk
        rw [ec, unitsO_D] at hu
        obtain ⟨q, hq⟩ : ∃ q, o.n.toNat = q + 1 := ⟨o.n.toNat - 1, by omega⟩
        rw [hq, List.replicate_succ'] at hu
        simp at hu
      · obtain ⟨ec, hr⟩ := opR_of hop hk
        rw [ec, unitsO_R] at hu
        obtain ⟨q, hq⟩ : ∃ q, o.n.toNat = q + 1 := ⟨o.n.toNat - 1, by omega⟩
        rw [hq, List.replicate_succ'] at hu
        simp at hu
        exact hc ⟨hk, hu⟩

def cn : List Un → List Un → Nat → List Un
  | [], I, g => I ++ List.replicate g .del
  | .ins r s :: us, I, g => cn us (I ++ [.ins r s]) g
  | .del :: us, I, g => cn us I (g + 1)
  | .ret p :: us, I, g => I ++ List.replicate g .del ++ .ret p :: cn us [] 0
def canon (us : List Un) : List Un := cn us [] 0
def nf (us : List Un) : List Un := trim (canon us)

def takesU : List Un → Nat
  | [] => 0
  | .ins _ _ :: us => takesU us
  | _ :: us => takesU us + 1
def makesU : List Un → Nat
  | [] => 0
  | .del :: us => makesU us
  | _ :: us => makesU us + 1
theorem takesU_r (p : List Ch) (us : List Un) : takesU (.ret p :: us) = takesU us + 1 := rfl
theorem takesU_d (us : List Un) : takesU (.del :: us) = takesU us + 1 := rfl
theorem takesU_i (r : Int) (s : List At) (us : List Un) : takesU (.ins r s :: us) = takesU us := rfl
theorem makesU_r (p : List Ch) (us : List Un) : makesU (.ret p :: us) = makesU us + 1 := rfl
theorem makesU_d (us : List Un) : makesU (.del :: us) = makesU us := rfl
theorem takesU_append (a b : List Un) : takesU (a ++ b) = takesU a + takesU b := by
  induction a with
  | nil => simp [takesU]
  | cons u a ih => cases u <;> simp [takesU, ih] <;> omega
theorem makesU_append (a b : List Un) : makesU (a ++ b) = makesU a + makesU b := by
  induction a with
  | nil => simp [makesU]
  | cons u a ih => cases u <;> simp [makesU, ih] <;> omega
theorem takesU_del (g : Nat) : takesU (List.replicate g .del) = g := by induction g with | zero => rfl | succ g ih => rw [List.replicate_succ, takesU_d, ih]
theorem makesU_del (g : Nat) : makesU (List.replicate g .del) = 0 := by induction g with | zero => rfl | succ g ih => rw [List.replicate_succ, makesU_d, ih]
theorem cn_takes (us : List Un) : ∀ (I : List Un) (g : Nat), takesU (cn us I g) = takesU I + g + takesU us := by
  induction us with
  | nil => intro I g; simp [cn, takesU_append, takesU_del, takesU]
  | cons u us ih =>
    intro I g
    cases u with
    | ins r s => rw [cn, ih, takesU_append]; simp [takesU]
    | del => rw [cn, ih]; simp [takesU]; omega
    | ret p => rw [cn, takesU_append, takesU_append, takesU_del, takesU_r, takesU_r, ih]; simp [takesU]; try omega
theorem cn_makes (us : List Un) : ∀ (I : List Un) (g : Nat), makesU (cn us I g) = makesU I + makesU us := by
  induction us with
  | nil => intro I g; simp [cn, makesU_append, makesU_del, makesU]
  | cons u us ih =>
    intro I g
    cases u with
    | ins r s => rw [cn, ih, makesU_append]; simp [makesU]; omega
    | del => rw [cn, ih]; simp [makesU]
    | ret p => rw [cn, makesU_append, makesU_append, makesU_del, makesU_r, makesU_r, ih]; simp [makesU]; try omega
theorem canon_takes (us : List Un) : takesU (canon us) = takesU us := by rw [canon, cn_takes]; simp [takesU]
theorem canon_makes (us : List Un) : makesU (canon us) = makesU us := by rw [canon, cn_makes]; simp [makesU]

theorem cn_del (k : Nat) (us : List Un) : ∀ (I : List Un) (g : Nat), cn (List.replicate k .del ++ us) I g = cn us I (g + k) := by
  induction k with
  | zero => intro I g; simp
  | succ k ih => intro I g; rw [List.replicate_succ]; show cn (List.replicate k .del ++ us) I (g + 1) = _; rw [ih]; congr 1; omega
theorem cn_ret (k : Nat) (p : List Ch) (us : List Un) (I : List Un) (g : Nat) : cn (List.replicate (k + 1) (.ret p) ++ us) I g = I ++ List.replicate g .del ++ List.replicate (k + 1) (.ret p) ++ cn us [] 0 := by
  have h : ∀ k, cn (List.replicate k (.ret p) ++ us) [] 0 = List.replicate k (.ret p) ++ cn us [] 0 := by
    intro k
    induction k with
    | zero => rfl
    | succ k ih => rw [List.replicate_succ]; show [] ++ List.replicate 0 .del ++ .ret p :: cn (List.replicate k (.ret p) ++ us) [] 0 = _; rw [ih]; simp
  rw [List.replicate_succ]
  show I ++ List.replicate g .del ++ .ret p :: cn (List.replicate k (.ret p) ++ us) [] 0 = _
  rw [h]; simp

def Told (m : Mk) (us : List Un) : Prop :=
  ∃ K I g, MkAt m K I g ∧ (∀ rest, canon (us ++ rest) = K ++ cn rest I g) ∧ K.length + I.length + g = us.length
theorem Told.new : Told Mk.new [] := ⟨[], [], 0, MkAt.new, fun rest => rfl, rfl⟩
theorem Told.retain {m : Mk} {us : List Un} (h : Told m us) (n : Int) (p : List Ch) (hb : (us.length : Int) + n ≤ 4611686018427387904) : Told (mkRetain m n p) (us ++ List.replicate n.toNat (.ret p)) := by
  obtain ⟨K, I, g, h1, h2, h3⟩ := h
  by_cases hn : n < 1
  · have : n.toNat = 0 := by omega
    rw [this]
    exact ⟨K, I, g, h1.retain0 hn, fun rest => by rw [List.replicate_zero, List.append_nil]; exact h2 rest, by simpa using h3⟩
  · obtain ⟨k, hk⟩ : ∃ k, n.toNat = k + 1 := ⟨n.toNat - 1, by omega⟩
    refine ⟨_, [], 0, h1.retain (p := p) (by omega) (by rw [h3]; exact hb), fun rest => ?_, ?_⟩
    · rw [List.append_assoc, h2, hk, cn_ret]; simp only [List.append_assoc]
    · simp only [List.length_append, List.length_replicate, List.length_nil]; omega
theorem Told.delete {m : Mk} {us : List Un} (h : Told m us) (n : Int) (hb : (us.length : Int) + n ≤ 4611686018427387904) (hb2 : us.length ≤ 4611686018427387904) : Told (mkDelete m n) (us ++ List.replicate n.toNat .del) := by
  obtain ⟨K, I, g, h1, h2, h3⟩ := h
  refine ⟨K, I, _, h1.delete (n := n) (by omega) (by omega), fun rest => by rw [List.append_assoc, h2, cn_del], by simp; omega⟩
theorem Told.ops {m : Mk} {us : List Un} (h : Told m us) : tight (mkOps m) ∧ units (mkOps m) = nf us := by
  obtain ⟨K, I, g, h1, h2, h3⟩ := h
  obtain ⟨g1, g2⟩ := h1.ops
  refine ⟨g1, ?_⟩
  rw [g2, nf]
  have := h2 []
  rw [List.append_nil] at this
  rw [this]
  simp [cn, List.append_assoc]

def osOf (x : List OpS) : List Opd := x.map (·.o)
structure Cl where
  r : Int
  s : List At
deriving DecidableEq
structure ClS where
  c : Cl
  As : Option Addr
  cs : Nat
def ClS.enc (x : ClS) : List Value := [.int .i32 x.c.r, .slice x.As x.c.s.length x.cs]
theorem ClS.enc_len (x : ClS) : x.enc.length = 2 := rfl
theorem ClS.enc_one (x : ClS) : ∀ u ∈ x.enc, u.oneCell' = true := by intro u hu; simp [ClS.enc] at hu; rcases hu with rfl | rfl <;> rfl
abbrev RdCs := @Rd ClS ClS.enc 2
def SubC (w : World) (B : Nat) (l : List ClS) : Prop := ∀ x ∈ l, RdAt w B x.As x.c.s
def RdCl (w : World) (B : Nat) (A : Option Addr) (l : List ClS) : Prop := RdCs w B A l ∧ SubC w B l
theorem SubC.ext {w w' : World} {l : List ClS} (h : SubC w w.heap.size l) (y : Below w.heap.size w w') : SubC w' w'.heap.size l := fun x hx => (h x hx).ext y
theorem RdCl.ext {w w' : World} {A : Option Addr} {l : List ClS} (h : RdCl w w.heap.size A l) (y : Below w.heap.size w w') : RdCl w' w'.heap.size A l := ⟨h.1.ext y, h.2.ext y⟩
theorem cl_cells {w : World} {p : Addr} {r s : Value} (h : CellsAt w p [r, s]) : w.cell? p = some r ∧ w.cell? { block := p.block, off := p.off + 1 } = some s := by
  have h0 := h 0 _ rfl
  rw [add_zero'] at h0
  exact ⟨h0, cellsAt_lit h 0 rfl⟩
theorem box_cl {w : World} {b : Nat} {t : TypeId} {c0 c1 : Value} (h : w.heap[b]? = some (.cells #[c0, c1] t (0, 0))) : w.cell? ⟨b, 0, none⟩ = some c0 ∧ w.cell? ⟨b, 1, none⟩ = some c1 := by
  simp [World.cell?, h]

def put1 (c : Ch) : List At := if c.gone then [] else [⟨c.key, c.v⟩]
def drop1 (k : Int) : List At → List At
  | [] => []
  | a :: s => if a.key = k then s else a :: s
def applyP : List Ch → List At → List At
  | [], s => s
  | c :: p, s => s.takeWhile (fun a => decide (a.key < c.key)) ++ (put1 c ++ applyP p (drop1 c.key (s.dropWhile (fun a => decide (a.key < c.key)))))
def applyAt (c : Ch) (p : List Ch) (s : List At) : List At :=
  s.takeWhile (fun a => decide (a.key < c.key)) ++ (put1 c ++ applyP p (drop1 c.key (s.dropWhile (fun a => decide (a.key < c.key)))))

theorem applyAt_less (c : Ch) (p : List Ch) (a : At) (s : List At) (h : a.key < c.key) : applyAt c p (a :: s) = a :: applyAt c p s := by
  simp [applyAt, h]
theorem applyAt_eq (c : Ch) (p : List Ch) (a : At) (s : List At) (h : a.key = c.key) : applyAt c p (a :: s) = put1 c ++ applyP p s := by
  simp [applyAt, h, drop1]
theorem applyAt_more (c : Ch) (p : List Ch) (a : At) (s : List At) (h : c.key < a.key) : applyAt c p (a :: s) = put1 c ++ applyP p (a :: s) := by
  have h1 : ¬ a.key < c.key := by omega
  have h2 : ¬ a.key = c.key := by omega
  simp [applyAt, h1, h2, drop1]
theorem applyAt_nil (c : Ch) (p : List Ch) : applyAt c p [] = put1 c ++ applyP p [] := by
  simp [applyAt, drop1]
def chg (a : At) : Ch := ⟨a.key, false, a.v⟩
def goneC (a : At) : Ch := ⟨a.key, true, V.zero⟩
def diffMid (rest : List At → List Ch) (x : At) : List At → List Ch
  | [] => chg x :: rest []
  | y :: t => if y.key = x.key then (if y.v = x.v then rest t else chg x :: rest t) else chg x :: rest (y :: t)
def diffP : List At → List At → List Ch
  | a, [] => a.map goneC
  | a, x :: b => (a.takeWhile (fun y => decide (y.key < x.key))).map goneC ++ diffMid (fun r => diffP r b) x (a.dropWhile (fun y => decide (y.key < x.key)))
def diffAt (a : List At) (x : At) (b : List At) : List Ch :=
  (a.takeWhile (fun y => decide (y.key < x.key))).map goneC ++ diffMid (fun r => diffP r b) x (a.dropWhile (fun y => decide (y.key < x.key)))
theorem diffP_cons (a : List At) (x : At) (b : List At) : diffP a (x :: b) = diffAt a x b := by simp [diffP, diffAt]
theorem diffAt_nil (x : At) (b : List At) : diffAt [] x b = chg x :: diffP [] b := by simp [diffAt, diffMid]

def composeP : List Ch → List Ch → List Ch
  | p, [] => p
  | p, c :: q => (p.takeWhile (fun a => decide (a.key ≤ c.key))).filter (fun a => decide (a.key < c.key)) ++ c :: composeP (p.dropWhile (fun a => decide (a.key ≤ c.key))) q
def composeAt (p : List Ch) (c : Ch) (q : List Ch) : List Ch :=
  (p.takeWhile (fun a => decide (a.key ≤ c.key))).filter (fun a => decide (a.key < c.key)) ++ c :: composeP (p.dropWhile (fun a => decide (a.key ≤ c.key))) q
theorem composeP_cons (p : List Ch) (c : Ch) (q : List Ch) : composeP p (c :: q) = composeAt p c q := by simp [composeP, composeAt]
theorem composeP_nil (p : List Ch) : composeP p [] = p := by simp [composeP]
def getA (l : List At) (key : Int) : Option V := (l.find? (fun a => decide (a.key = key))).map (·.v)
end Go.Proofs.YtfnkjcodcoehcaaGreatDoor
