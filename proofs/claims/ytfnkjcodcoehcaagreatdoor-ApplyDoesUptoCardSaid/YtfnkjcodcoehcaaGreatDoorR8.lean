/- Merged texts: Op, Den. -/
import Derived.Deep.LoopGhost
import Derived.Deep.DeepMust
import Derived.Test.YtfnkjcodcoehcaaGreatDoorR1
import Derived.Test.YtfnkjcodcoehcaaGreatDoorR2
import Derived.Test.YtfnkjcodcoehcaaGreatDoorR7
namespace Go.Proofs.YtfnkjcodcoehcaaGreatDoor
open Go.RowKit
set_option linter.unusedVariables false
set_option linter.unusedSimpArgs false

/-- an op: its kind, its number, its runes, its set, its patch -/
structure Opd where
  k : Int
  n : Int
  r : List Int
  s : List At
  p : List Ch
/-- an op and where its parts lie -/
structure OpS where
  o : Opd
  Ar : Option Addr
  cr : Nat
  As : Option Addr
  cs : Nat
  Ap : Option Addr
  cp : Nat
def OpS.enc (x : OpS) : List Value := [.int .u8 x.o.k, .int .i64 x.o.n, .slice x.Ar x.o.r.length x.cr, .slice x.As x.o.s.length x.cs, .slice x.Ap x.o.p.length x.cp]
theorem OpS.enc_len (x : OpS) : x.enc.length = 5 := rfl
abbrev RdOs := @Rd OpS OpS.enc 5
/-- the parts of ops read so -/
def Sub (w : World) (B : Nat) (l : List OpS) : Prop := ∀ x ∈ l, RdI32 w B x.Ar x.o.r ∧ RdAt w B x.As x.o.s ∧ RdCh w B x.Ap x.o.p
/-- the slice at A reads as the delta l -/
def RdOp (w : World) (B : Nat) (A : Option Addr) (l : List OpS) : Prop := RdOs w B A l ∧ Sub w B l
theorem Sub.ext {w w' : World} {l : List OpS} (h : Sub w w.heap.size l) (y : Below w.heap.size w w') : Sub w' w'.heap.size l := fun x hx => ⟨(h x hx).1.ext y, (h x hx).2.1.ext y, (h x hx).2.2.ext y⟩
theorem RdOp.ext {w w' : World} {A : Option Addr} {l : List OpS} (h : RdOp w w.heap.size A l) (y : Below w.heap.size w w') : RdOp w' w'.heap.size A l := ⟨h.1.ext y, h.2.ext y⟩
theorem op_cells {w : World} {p : Addr} {k n : Int} {r s q : Value} (h : CellsAt w p [.int .u8 k, .int .i64 n, r, s, q]) :
    w.cell? p = some (.int .u8 k) ∧ w.cell? { block := p.block, off := p.off + 1 } = some (.int .i64 n) ∧ w.cell? { block := p.block, off := p.off + 2 } = some r ∧ w.cell? { block := p.block, off := p.off + 3 } = some s ∧ w.cell? { block := p.block, off := p.off + 4 } = some q := by
  have h0 := h 0 _ rfl
  rw [add_zero'] at h0
  exact ⟨h0, cellsAt_lit h 0 rfl, cellsAt_lit h 1 rfl, cellsAt_lit h 2 rfl, cellsAt_lit h 3 rfl⟩

/-- an op's length -/
def sizeO (o : Opd) : Int := if o.k = 2 then o.r.length else o.n
def takeStep (a : Int) (x : OpS) : Int := if x.o.k = 2 then a else IntKind.i64.wrap (a + x.o.n)
def makeStep (a : Int) (x : OpS) : Int := if x.o.k = 3 then a else IntKind.i64.wrap (a + sizeO x.o)
def takesP (l : List OpS) : Int := l.foldl takeStep 0
def makesP (l : List OpS) : Int := l.foldl makeStep 0

set_option maxHeartbeats 800000 in
theorem sizeO_any (k n : Int) (Ar As Ap : Option Addr) (r s p cr cs cp : Nat) (w : World) :
    Calls Tryz.prog 173 #[.agg #[.int .u8 k, .int .i64 n, .slice Ar r cr, .slice As s cs, .slice Ap p cp]] w fun e w' => e = .returned (.int .i64 (if k = 2 then (r : Int) else n)) ∧ Below w.heap.size w w' := by
  by_cases hk : k = 2
  · subst hk
    go_enter Tryz.func173, Tryz.ntmps173
    go_wp2_with (fail)
    go_ret
    exact ⟨by simp, ext_alloc w _⟩
  · have hb : (k == 2) = false := beq_eq_false_iff_ne.2 hk
    have HK := Lib.hid hk
    clear hk
    go_enter Tryz.func173, Tryz.ntmps173
    go_wp2_with (fail)
    go_ret
    exact ⟨by first | rfl | simp [HK.out], ext_alloc w _⟩

theorem fold_drop {f : Int → OpS → Int} {l : List OpS} {m : Nat} {x : OpS} {a R : Int} (hd : l.drop m = x :: l.drop (m + 1)) (h : (l.drop m).foldl f a = R) : (l.drop (m + 1)).foldl f (f a x) = R := by
  rw [hd] at h; exact h

set_option maxRecDepth 100000 in
set_option maxHeartbeats 800000 in
theorem takes_any (A : Option Addr) (n c : Nat) (l : List OpS) (w : World) (hn : n = l.length) (h : RdOs w w.heap.size A l) (hb : n ≤ 140737488355328) :
    Calls Tryz.prog 104 #[.slice A n c] w fun e w' => e = .returned (.int .i64 (takesP l)) ∧ Below w.heap.size w w' := by
  have N := Lib.hid hn
  generalize hR : takesP l = R
  have HR := Lib.hid hR
  clear hn hR
  go_enter Tryz.func104, Tryz.ntmps104
  go_wp2_with (fail)
  go_loopg [3, 8] n (fun g av iv wr => ∃ (m : Nat) (a : Int), m ≤ n ∧ g = n - m ∧ av = .int .i64 a ∧ iv = .int .i64 (m : Int) ∧ Below w.heap.size w wr ∧ Hid ((l.drop m).foldl takeStep a = R))
  case atStart => exact ⟨0, 0, by omega, rfl, rfl, rfl, Below.refl _ _, Lib.hid (by rw [List.drop_zero]; exact HR.out)⟩
  case round =>
    obtain ⟨m, a, hm, hg, rfl, rfl, y, HI⟩ := hrel
    have HG := Lib.hid hg
    clear hg HR
    by_cases hlt : m < n
    · have hl1 : m < l.length := by have := N.out; omega
      obtain ⟨ad, x, rfl, had, hd1, _, hc0⟩ := (h.below y (Nat.le_refl _)).el hl1
      have HI2 := Lib.hid (fold_drop hd1 HI.out)
      obtain ⟨⟨k, nn, r, s, p⟩, Ar, cr, As, cs, Ap, cp⟩ := x
      obtain ⟨r0, r1, r2, r3, r4⟩ := op_cells hc0
      clear hc0 hd1 HI
      have y2 := ext_trans y (ext_alloc wr (.cells #[.int .u8 k, .int .i64 nn, .slice Ar r.length cr, .slice As s.length cs, .slice Ap p.length cp] 50))
      have hw2 : IntKind.i64.wrap ((m:Int) + 1) = (m : Int) + 1 := IntWalk.i64_in _ (by omega)
      by_cases hk : k = 2
      · subst hk
        go_wp2_with (fail)
        go_roundg (n - (m + 1))
        case measure => have := HG.out; omega
        case rel => exact ⟨m + 1, a, by omega, rfl, rfl, by go_num, y2, Lib.hid (by rw [← HI2.out]; simp [takeStep])⟩
      · have hb : (k == 2) = false := beq_eq_false_iff_ne.2 hk
        have HK := Lib.hid hk
        obtain ⟨W, hW⟩ : ∃ W, IntKind.i64.wrap (a + nn) = W := ⟨_, rfl⟩
        clear hk
        go_wp2_with (fail)
        go_roundg (n - (m + 1))
        case measure => have := HG.out; omega
        case rel => exact ⟨m + 1, W, by omega, rfl, by first | rfl | (rw [← hW]; rfl) | trace_state, by go_num, y2, Lib.hid (by rw [← HI2.out]; simp only [takeStep]; rw [if_neg HK.out, hW])⟩
    · go_wp2_with (fail)
      go_ret
      refine ⟨ret_int ?_, y⟩
      rw [← HI.out, List.drop_eq_nil_of_le (by have := N.out; omega)]
      rfl
set_option maxRecDepth 100000 in
set_option maxHeartbeats 800000 in
theorem makes_any (A : Option Addr) (n c : Nat) (l : List OpS) (w : World) (hn : n = l.length) (h : RdOs w w.heap.size A l) (hb : n ≤ 140737488355328) :
    Calls Tryz.prog 105 #[.slice A n c] w fun e w' => e = .returned (.int .i64 (makesP l)) ∧ Below w.heap.size w w' := by
  have N := Lib.hid hn
  generalize hR : makesP l = R
  have HR := Lib.hid hR
  clear hn hR
  go_enter Tryz.func105, Tryz.ntmps105
  go_wp2_with (fail)
  go_loopg [3, 8] n (fun g av iv wr => ∃ (m : Nat) (a : Int), m ≤ n ∧ g = n - m ∧ av = .int .i64 a ∧ iv = .int .i64 (m : Int) ∧ Below w.heap.size w wr ∧ Hid ((l.drop m).foldl makeStep a = R))
  case atStart => exact ⟨0, 0, by omega, rfl, rfl, rfl, Below.refl _ _, Lib.hid (by rw [List.drop_zero]; exact HR.out)⟩
  case round =>
    obtain ⟨m, a, hm, hg, rfl, rfl, y, HI⟩ := hrel
    have HG := Lib.hid hg
    clear hg HR
    by_cases hlt : m < n
    · have hl1 : m < l.length := by have := N.out; omega
      obtain ⟨ad, x, rfl, had, hd1, _, hc0⟩ := (h.below y (Nat.le_refl _)).el hl1
      have HI2 := Lib.hid (fold_drop hd1 HI.out)
      obtain ⟨⟨k, nn, r, s, p⟩, Ar, cr, As, cs, Ap, cp⟩ := x
      obtain ⟨r0, r1, r2, r3, r4⟩ := op_cells hc0
      clear hc0 hd1 HI
      have y2 := ext_trans y (ext_alloc wr (.cells #[.int .u8 k, .int .i64 nn, .slice Ar r.length cr, .slice As s.length cs, .slice Ap p.length cp] 50))
      have hw2 : IntKind.i64.wrap ((m:Int) + 1) = (m : Int) + 1 := IntWalk.i64_in _ (by omega)
      have hbx := heap_alloc_new wr (.cells #[.int .u8 k, .int .i64 nn, .slice Ar r.length cr, .slice As s.length cs, .slice Ap p.length cp] 50)
      by_cases hk : k = 3
      · subst hk
        go_wp2_with (fail)
        go_roundg (n - (m + 1))
        case measure => have := HG.out; omega
        case rel => exact ⟨m + 1, a, by omega, rfl, rfl, by go_num, y2, Lib.hid (by rw [← HI2.out]; simp [makeStep])⟩
      · have hb : (k == 3) = false := beq_eq_false_iff_ne.2 hk
        have HK := Lib.hid hk
        clear hk
        go_wp2_with (go_at_call 173; refine Hid.out ?_)
        refine Lib.hid ?_
        refine (sizeO_any k nn Ar As Ap r.length s.length p.length cr cs cp _).mono ?_
        rintro e w3 ⟨rfl, y3⟩
        have y4 := ext_trans y2 y3
        obtain ⟨Z, hZ⟩ : ∃ Z : Int, (if k = 2 then (r.length : Int) else nn) = Z := ⟨_, rfl⟩
        rw [hZ]
        have HZ : Hid (sizeO ⟨k, nn, r, s, p⟩ = Z) := Lib.hid hZ
        clear hZ
        obtain ⟨W, hW⟩ : ∃ W, IntKind.i64.wrap (a + Z) = W := ⟨_, rfl⟩
        go_wp2_with (fail)
        go_roundg (n - (m + 1))
        case measure => have := HG.out; omega
        case rel => exact ⟨m + 1, W, by omega, rfl, by first | rfl | (rw [← hW]; rfl), by go_num, y4, Lib.hid (by rw [← HI2.out]; simp only [makeStep]; rw [if_neg HK.out, HZ.out, hW])⟩
    · go_wp2_with (fail)
      go_ret
      refine ⟨ret_int ?_, y⟩
      rw [← HI.out, List.drop_eq_nil_of_le (by have := N.out; omega)]
      rfl
/-- does a delta leave the last of n cells the last one? -/
def finalStep (n : Int) (st : Bool × Int) (x : OpS) : Bool × Int :=
  if st.1 = false then st else
  if x.o.k = 2 then (decide (¬ st.2 = n), st.2) else
  if x.o.k = 3 ∧ IntKind.i64.wrap (st.2 + x.o.n) = n then (false, st.2) else (true, IntKind.i64.wrap (st.2 + x.o.n))
def finalP (n : Int) (l : List OpS) : Bool := (l.foldl (finalStep n) (true, 0)).1
theorem final_false (n : Int) (a : Int) : ∀ l : List OpS, (l.foldl (finalStep n) (false, a)) = (false, a)
  | [] => rfl
  | x :: l => by rw [List.foldl_cons]; unfold finalStep; simp only [if_true]; exact final_false n a l
theorem fin_drop {n : Int} {l : List OpS} {m : Nat} {x : OpS} {a : Int} {R : Bool} (hd : l.drop m = x :: l.drop (m + 1)) (h : ((l.drop m).foldl (finalStep n) (true, a)).1 = R) : ((l.drop (m + 1)).foldl (finalStep n) (finalStep n (true, a) x)).1 = R := by
  rw [hd] at h; exact h
set_option maxRecDepth 100000 in
set_option maxHeartbeats 1600000 in
theorem final_any (A : Option Addr) (n c : Nat) (l : List OpS) (lim : Int) (w : World) (hn : n = l.length) (h : RdOs w w.heap.size A l) (hb : n ≤ 140737488355328) :
    Calls Tryz.prog 162 #[.slice A n c, .int .i64 lim] w fun e w' => e = .returned (.bool (finalP lim l)) ∧ Below w.heap.size w w' := by
  have N := Lib.hid hn
  generalize hR : finalP lim l = R
  have HR := Lib.hid hR
  clear hn hR
  go_enter Tryz.func162, Tryz.ntmps162
  go_wp2
  go_step3
  go_wp2
  go_step3
  go_wp2
  go_loopg [5, 10] n (fun g av iv wr => ∃ (m : Nat) (a : Int), m ≤ n ∧ g = n - m ∧ av = .int .i64 a ∧ iv = .int .i64 (m : Int) ∧ Below w.heap.size w wr ∧ Hid (((l.drop m).foldl (finalStep lim) (true, a)).1 = R))
  case atStart => exact ⟨0, 0, by omega, rfl, rfl, rfl, Below.refl _ _, Lib.hid (by rw [List.drop_zero]; exact HR.out)⟩
  case round =>
    obtain ⟨m, a, hm, hg, rfl, rfl, y, HI⟩ := hrel
    have HG := Lib.hid hg
    clear hg HR
    by_cases hlt : m < n
    · have hl1 : m < l.length := by have := N.out; omega
      obtain ⟨ad, x, rfl, had, hd1, _, hc0⟩ := (h.below y (Nat.le_refl _)).el hl1
      have HI2 := Lib.hid (fin_drop hd1 HI.out)
      obtain ⟨⟨k, nn, r, s, p⟩, Ar, cr, As, cs, Ap, cp⟩ := x
      obtain ⟨r0, r1, r2, r3, r4⟩ := op_cells hc0
      clear hc0 hd1 HI
      have y2 := ext_trans y (ext_alloc wr (.cells #[.int .u8 k, .int .i64 nn, .slice Ar r.length cr, .slice As s.length cs, .slice Ap p.length cp] 50))
      have hw2 : IntKind.i64.wrap ((m:Int) + 1) = (m : Int) + 1 := IntWalk.i64_in _ (by omega)
      obtain ⟨W, hW⟩ : ∃ W, IntKind.i64.wrap (a + nn) = W := ⟨_, rfl⟩
      have HW := Lib.hid hW
      by_cases hk : k = 2
      · subst hk
        by_cases ha : a = lim
        · subst ha
          go_wp2_with (fail)
          go_ret
          refine ⟨ret_bool ?_, y2⟩
          rw [← HI2.out]
          simp [finalStep, final_false]
        · have hb2 : (a == lim) = false := beq_eq_false_iff_ne.2 ha
          have HA := Lib.hid ha
          clear ha
          go_wp2_with (fail)
          go_roundg (n - (m + 1))
          case measure => have := HG.out; omega
          case rel => exact ⟨m + 1, a, by omega, rfl, rfl, by go_num, y2, Lib.hid (by rw [← HI2.out]; simp [finalStep, HA.out])⟩
      · have hb : (k == 2) = false := beq_eq_false_iff_ne.2 hk
        have HK := Lib.hid hk
        clear hk
        by_cases hk3 : k = 3
        · subst hk3
          by_cases ha : W = lim
          · subst ha
            go_wp2_with (fail)
            go_ret
            refine ⟨ret_bool ?_, y2⟩
            rw [← HI2.out]
            simp [finalStep, final_false, HW.out]
          · have hb2 : (W == lim) = false := beq_eq_false_iff_ne.2 ha
            have HA := Lib.hid ha
            clear ha
            go_wp2_with (fail)
            go_roundg (n - (m + 1))
            case measure => have := HG.out; omega
            case rel => exact ⟨m + 1, W, by omega, rfl, by first | rfl | (rw [← HW.out]; rfl), by go_num, y2, Lib.hid (by rw [← HI2.out]; simp [finalStep, HW.out, HA.out])⟩
        · have hb3 : (k == 3) = false := beq_eq_false_iff_ne.2 hk3
          have HK3 := Lib.hid hk3
          clear hk3
          go_wp2_with (fail)
          go_roundg (n - (m + 1))
          case measure => have := HG.out; omega
          case rel => exact ⟨m + 1, W, by omega, rfl, by first | rfl | (rw [← HW.out]; rfl), by go_num, y2, Lib.hid (by rw [← HI2.out]; simp [finalStep, HW.out, HK.out, HK3.out])⟩
    · go_wp2_with (fail)
      unfold Exit.noGoto
      go_ret
      refine ⟨ret_bool ?_, y⟩
      rw [← HI.out, List.drop_eq_nil_of_le (by have := N.out; omega)]
      rfl
end Go.Proofs.YtfnkjcodcoehcaaGreatDoor
namespace Go.Proofs.YtfnkjcodcoehcaaGreatDoor
set_option linter.unusedVariables false
set_option linter.unusedSimpArgs false

instance : DecidableEq Opd := fun a b =>
  if h : a.k = b.k ∧ a.n = b.n ∧ a.r = b.r ∧ a.s = b.s ∧ a.p = b.p then isTrue (by cases a; cases b; simp only at h; obtain ⟨rfl, rfl, rfl, rfl, rfl⟩ := h; rfl)
  else isFalse (fun e => h (by subst e; exact ⟨rfl, rfl, rfl, rfl, rfl⟩))

/-- a unit of a delta -/
inductive Un where
  | ins (r : Int) (s : List At)
  | del
  | ret (p : List Ch)
deriving DecidableEq

def opI (r : List Int) (s : List At) : Opd := ⟨2, 0, r, s, []⟩
def opD (n : Int) : Opd := ⟨3, n, [], [], []⟩
def opR (n : Int) (p : List Ch) : Opd := ⟨1, n, [], [], p⟩
/-- the op of one unit -/
def op1 : Un → Opd
  | .ins r s => opI [r] s
  | .del => opD 1
  | .ret p => opR 1 p
def canMerge (a b : Opd) : Bool :=
  (decide (a.k = 2) && decide (b.k = 2) && decide (a.s = b.s)) || (decide (a.k = 3) && decide (b.k = 3)) || (decide (a.k = 1) && decide (b.k = 1) && decide (a.p = b.p))
/-- a unit taken into the op behind it -/
def into (u : Un) (b : Opd) : Opd :=
  match u with
  | .ins r s => { b with r := r :: b.r }
  | _ => { b with n := b.n + 1 }
/-- a unit set ahead of ops -/
def cons1 (u : Un) : List Opd → List Opd
  | [] => [op1 u]
  | b :: t => if canMerge (op1 u) b = true then into u b :: t else op1 u :: b :: t
/-- the ops of units -/
def enc : List Un → List Opd
  | [] => []
  | u :: us => cons1 u (enc us)
/-- the units of an op, of ops -/
def unitsO (o : Opd) : List Un :=
  if o.k = 2 then o.r.map (fun r => Un.ins r o.s) else if o.k = 1 then List.replicate o.n.toNat (.ret o.p) else List.replicate o.n.toNat .del
def units (x : List Opd) : List Un := x.flatMap unitsO

theorem units_nil : units [] = [] := rfl
theorem units_cons (o : Opd) (x : List Opd) : units (o :: x) = unitsO o ++ units x := rfl
theorem units_append (x y : List Opd) : units (x ++ y) = units x ++ units y := by simp [units]

/-- ops that units can be told by: each has its kind's form -/
def isOp (o : Opd) : Prop :=
  (o.k = 2 ∧ o.n = 0 ∧ o.r ≠ [] ∧ o.p = []) ∨ (o.k = 3 ∧ 1 ≤ o.n ∧ o.r = [] ∧ o.s = [] ∧ o.p = []) ∨ (o.k = 1 ∧ 1 ≤ o.n ∧ o.r = [] ∧ o.s = [])
/-- no two neighbours are one -/
def tight : List Opd → Prop
  | [] => True
  | a :: x => isOp a ∧ (match x with | [] => True | b :: _ => canMerge a b = false) ∧ tight x
theorem cons1_new {u : Un} {x : List Opd} (h : ∀ b t, x = b :: t → canMerge (op1 u) b = false) : cons1 u x = op1 u :: x := by
  cases x with
  | nil => rfl
  | cons b t => rw [cons1, if_neg (by rw [h b t rfl]; simp)]
theorem cons1_ins_old {r : Int} {rs : List Int} {s : List At} {t : List Opd} : cons1 (.ins r s) (opI rs s :: t) = opI (r :: rs) s :: t := by
  rw [cons1, if_pos (by simp [canMerge, op1, opI])]; rfl
theorem cons1_del_old {n : Int} {t : List Opd} : cons1 .del (opD n :: t) = opD (n + 1) :: t := by
  rw [cons1, if_pos (by simp [canMerge, op1, opD])]; rfl
theorem cons1_ret_old {n : Int} {p : List Ch} {t : List Opd} : cons1 (.ret p) (opR n p :: t) = opR (n + 1) p :: t := by
  rw [cons1, if_pos (by simp [canMerge, op1, opR])]; rfl
theorem opI_of {o : Opd} (h : isOp o) (hk : o.k = 2) : o = opI o.r o.s ∧ o.r ≠ [] := by
  obtain ⟨k, n, r, s, p⟩ := o
  simp only at hk
  subst hk
  rcases h with ⟨_, h2, h3, h4⟩ | ⟨h1, _⟩ | ⟨h1, _⟩
  · simp only at h2 h3 h4; subst h2 h4; exact ⟨rfl, h3⟩
  · cases h1
  · cases h1
theorem opD_of {o : Opd} (h : isOp o) (hk : o.k = 3) : o = opD o.n ∧ 1 ≤ o.n := by
  obtain ⟨k, n, r, s, p⟩ := o
  simp only at hk
  subst hk
  rcases h with ⟨h1, _⟩ | ⟨_, h2, h3, h4, h5⟩ | ⟨h1, _⟩
  · cases h1
  · simp only at h2 h3 h4 h5; subst h3 h4 h5; exact ⟨rfl, h2⟩
  · cases h1
theorem opR_of {o : Opd} (h : isOp o) (hk : o.k = 1) : o = opR o.n o.p ∧ 1 ≤ o.n := by
  obtain ⟨k, n, r, s, p⟩ := o
  simp only at hk
  subst hk
  rcases h with ⟨h1, _⟩ | ⟨h1, _⟩ | ⟨_, h2, h3, h4⟩
  · cases h1
  · cases h1
  · simp only at h2 h3 h4; subst h3 h4; exact ⟨rfl, h2⟩
theorem isOp_kind {o : Opd} (h : isOp o) : o.k = 2 ∨ o.k = 3 ∨ o.k = 1 := by
  rcases h with h | h | h
  · exact .inl h.1
  · exact .inr (.inl h.1)
  · exact .inr (.inr h.1)

/-- units of one op set ahead of ops that do not merge with it -/
theorem enc_op {o : Opd} {us : List Un} (ho : isOp o) (hx : tight (enc us)) (h : ∀ b t, enc us = b :: t → canMerge o b = false) : enc (unitsO o ++ us) = o :: enc us := by
  rcases isOp_kind ho with hk | hk | hk
  · obtain ⟨e, hr⟩ := opI_of ho hk
    obtain ⟨k, n, r, s, p⟩ := o
    simp only at e hr hk
    rw [e] at h ⊢
    clear e ho hk
    have hu : unitsO (opI r s) = r.map (fun r => Un.ins r s) := rfl
    rw [hu]
    induction r with
    | nil => exact absurd rfl hr
    | cons a r ih =>
      cases r with
      | nil =>
        show cons1 (.ins a s) (enc us) = _
        exact cons1_new (u := .ins a s) (fun b t hb => h b t hb)
      | cons b r =>
        have ih' := ih (fun c t hc => h c t hc) (by simp) rfl
        show cons1 (.ins a s) (enc (((b :: r).map (fun r => Un.ins r s)) ++ us)) = _
        rw [ih', cons1_ins_old]
  · obtain ⟨e, hn⟩ := opD_of ho hk
    obtain ⟨k, n, r, s, p⟩ := o
    simp only at e hn hk
    rw [e] at h ⊢
    clear e ho hk
    have hu : unitsO (opD n) = List.replicate n.toNat .del := rfl
    rw [hu]
    obtain ⟨m, rfl⟩ : ∃ m : Nat, n = (m : Int) + 1 := ⟨(n - 1).toNat, by omega⟩
    have hm : ((m : Int) + 1).toNat = m + 1 := by omega
    rw [hm]
    clear hn hu hm
    induction m with
    | zero => exact cons1_new (u := .del) (fun b t hb => h b t hb)
    | succ m ih =>
      show cons1 .del (enc (List.replicate (m + 1) .del ++ us)) = _
      rw [ih (fun b t hb => h b t hb), cons1_del_old]
      congr 2
      all_goals omega
  · obtain ⟨e, hn⟩ := opR_of ho hk
    obtain ⟨k, n, r, s, p⟩ := o
    simp only at e hn hk
    rw [e] at h ⊢
    clear e ho hk
    have hu : unitsO (opR n p) = List.replicate n.toNat (.ret p) := rfl
    rw [hu]
    obtain ⟨m, rfl⟩ : ∃ m : Nat, n = (m : Int) + 1 := ⟨(n - 1).toNat, by omega⟩
    have hm : ((m : Int) + 1).toNat = m + 1 := by omega
    rw [hm]
    clear hn hu hm
    induction m with
    | zero => exact cons1_new (u := .ret p) (fun b t hb => h b t hb)
    | succ m ih =>
      show cons1 (.ret p) (enc (List.replicate (m + 1) (.ret p) ++ us)) = _
      rw [ih (fun b t hb => h b t hb), cons1_ret_old]
      congr 2
      all_goals omega
/-- ops no two neighbours of which are one are told by their units -/
theorem enc_units {x : List Opd} (h : tight x) : enc (units x) = x := by
  induction x with
  | nil => rfl
  | cons a x ih =>
    obtain ⟨h1, h2, h3⟩ := h
    have e := ih h3
    rw [units_cons, enc_op h1 (by rw [e]; exact h3) (fun b t hb => by rw [e] at hb; subst hb; exact h2), e]
theorem tight_ext {x y : List Opd} (hx : tight x) (hy : tight y) (h : units x = units y) : x = y := by rw [← enc_units hx, h, enc_units hy]
end Go.Proofs.YtfnkjcodcoehcaaGreatDoor
