/- Merged texts: Op, PatchMayFn, OpForm. -/
import Derived.Test.YtnhmbocgopjbjaaDoorPk1
import Derived.Test.YtnhmbocgopjbjaaDoorPk2
import Derived.Test.YtnhmbocgopjbjaaDoorPk7
import Derived.Deep.LoopGhost
import Derived.Deep.DeepMust
import Derived.Test.YtnhmbocgopjbjaaDoorPk9
import Derived.Test.YtnhmbocgopjbjaaDoorPk10
/- Deltas as plain data: ops, how they lie, and the walks of what only reads their heads: size, Takes, Makes, final. -/
namespace Go.Proofs.YtnhmbocgopjbjaaDoor
open Go.RowKit
set_option linter.unusedVariables false
set_option linter.unusedSimpArgs false

/-- an op: its kind, its number, its runes, its set, its patch -/
structure Opd where
  k : Int
  n : Int
  r : List Int
  s : List At
  p : List Ch
/-- an op and where its parts lie -/
structure OpS where
  o : Opd
  Ar : Option Addr
  cr : Nat
  As : Option Addr
  cs : Nat
  Ap : Option Addr
  cp : Nat
def OpS.enc (x : OpS) : List Value := [.int .u8 x.o.k, .int .i64 x.o.n, .slice x.Ar x.o.r.length x.cr, .slice x.As x.o.s.length x.cs, .slice x.Ap x.o.p.length x.cp]
theorem OpS.enc_len (x : OpS) : x.enc.length = 5 := rfl
abbrev RdOs := @Rd OpS OpS.enc 5
/-- the parts of ops read so -/
def Sub (w : World) (B : Nat) (l : List OpS) : Prop := ∀ x ∈ l, RdI32 w B x.Ar x.o.r ∧ RdAt w B x.As x.o.s ∧ RdCh w B x.Ap x.o.p
/-- the slice at A reads as the delta l -/
def RdOp (w : World) (B : Nat) (A : Option Addr) (l : List OpS) : Prop := RdOs w B A l ∧ Sub w B l
theorem Sub.ext {w w' : World} {l : List OpS} (h : Sub w w.heap.size l) (y : Below w.heap.size w w') : Sub w' w'.heap.size l := fun x hx => ⟨(h x hx).1.ext y, (h x hx).2.1.ext y, (h x hx).2.2.ext y⟩
theorem RdOp.ext {w w' : World} {A : Option Addr} {l : List OpS} (h : RdOp w w.heap.size A l) (y : Below w.heap.size w w') : RdOp w' w'.heap.size A l := ⟨h.1.ext y, h.2.ext y⟩
theorem op_cells {w : World} {p : Addr} {k n : Int} {r s q : Value} (h : CellsAt w p [.int .u8 k, .int .i64 n, r, s, q]) :
    w.cell? p = some (.int .u8 k) ∧ w.cell? { block := p.block, off := p.off + 1 } = some (.int .i64 n) ∧ w.cell? { block := p.block, off := p.off + 2 } = some r ∧ w.cell? { block := p.block, off := p.off + 3 } = some s ∧ w.cell? { block := p.block, off := p.off + 4 } = some q := by
  have h0 := h 0 _ rfl
  rw [add_zero'] at h0
  exact ⟨h0, cellsAt_lit h 0 rfl, cellsAt_lit h 1 rfl, cellsAt_lit h 2 rfl, cellsAt_lit h 3 rfl⟩

/-- an op's length -/
def sizeO (o : Opd) : Int := if o.k = 2 then o.r.length else o.n
def wr64 (x : Int) : Int := IntKind.i64.wrap x
def takeStep (a : Int) (x : OpS) : Int := if x.o.k = 2 then a else IntKind.i64.wrap (a + x.o.n)
def makeStep (a : Int) (x : OpS) : Int := if x.o.k = 3 then a else IntKind.i64.wrap (a + sizeO x.o)
def takesP (l : List OpS) : Int := l.foldl takeStep 0
def makesP (l : List OpS) : Int := l.foldl makeStep 0

set_option maxHeartbeats 800000 in
theorem sizeO_any (k n : Int) (Ar As Ap : Option Addr) (r s p cr cs cp : Nat) (w : World) :
    Calls Tryd.prog 50 #[.agg #[.int .u8 k, .int .i64 n, .slice Ar r cr, .slice As s cs, .slice Ap p cp]] w fun e w' => e = .returned (.int .i64 (if k = 2 then (r : Int) else n)) ∧ Below w.heap.size w w' := by
  by_cases hk : k = 2
  · subst hk
    go_enter Tryd.func50, Tryd.ntmps50
    go_wp2_with (fail)
    go_ret
    exact ⟨by simp, ext_alloc w _⟩
  · have hb : (k == 2) = false := beq_eq_false_iff_ne.2 hk
    have HK := Lib.hid hk
    clear hk
    go_enter Tryd.func50, Tryd.ntmps50
    go_wp2_with (fail)
    go_ret
    exact ⟨by first | rfl | simp [HK.out], ext_alloc w _⟩

theorem fold_drop {f : Int → OpS → Int} {l : List OpS} {m : Nat} {x : OpS} {a R : Int} (hd : l.drop m = x :: l.drop (m + 1)) (h : (l.drop m).foldl f a = R) : (l.drop (m + 1)).foldl f (f a x) = R := by
  rw [hd] at h; exact h

set_option maxRecDepth 100000 in
set_option maxHeartbeats 800000 in
theorem takes_any (A : Option Addr) (n c : Nat) (l : List OpS) (w : World) (hn : n = l.length) (h : RdOs w w.heap.size A l) (hb : n ≤ 140737488355328) :
    Calls Tryd.prog 14 #[.slice A n c] w fun e w' => e = .returned (.int .i64 (takesP l)) ∧ Below w.heap.size w w' := by
  have N := Lib.hid hn
  generalize hR : takesP l = R
  have HR := Lib.hid hR
  clear hn hR
  go_enter Tryd.func14, Tryd.ntmps14
  go_wp2_with (fail)
  go_loopg [3, 8] n (fun g av iv wr => ∃ (m : Nat) (a : Int), m ≤ n ∧ g = n - m ∧ av = .int .i64 a ∧ iv = .int .i64 (m : Int) ∧ Below w.heap.size w wr ∧ Hid ((l.drop m).foldl takeStep a = R))
  case atStart => exact ⟨0, 0, by omega, rfl, rfl, rfl, Below.refl _ _, Lib.hid (by rw [List.drop_zero]; exact HR.out)⟩
  case round =>
    obtain ⟨m, a, hm, hg, rfl, rfl, y, HI⟩ := hrel
    have HG := Lib.hid hg
    clear hg HR
    by_cases hlt : m < n
    · have hl1 : m < l.length := by have := N.out; omega
      obtain ⟨ad, x, rfl, had, hd1, _, hc0⟩ := (h.below y (Nat.le_refl _)).el hl1
      have HI2 := Lib.hid (fold_drop hd1 HI.out)
      obtain ⟨⟨k, nn, r, s, p⟩, Ar, cr, As, cs, Ap, cp⟩ := x
      obtain ⟨r0, r1, r2, r3, r4⟩ := op_cells hc0
      clear hc0 hd1 HI
      have y2 := ext_trans y (ext_alloc wr (.cells #[.int .u8 k, .int .i64 nn, .slice Ar r.length cr, .slice As s.length cs, .slice Ap p.length cp] 41))
      have hw2 : IntKind.i64.wrap ((m:Int) + 1) = (m : Int) + 1 := IntWalk.i64_in _ (by omega)
      by_cases hk : k = 2
      · subst hk
        go_wp2_with (fail)
        go_roundg (n - (m + 1))
        case measure => have := HG.out; omega
        case rel => exact ⟨m + 1, a, by omega, rfl, rfl, by go_num, y2, Lib.hid (by rw [← HI2.out]; simp [takeStep])⟩
      · have hb : (k == 2) = false := beq_eq_false_iff_ne.2 hk
        have HK := Lib.hid hk
        obtain ⟨W, hW⟩ : ∃ W, IntKind.i64.wrap (a + nn) = W := ⟨_, rfl⟩
        clear hk
        go_wp2_with (fail)
        go_roundg (n - (m + 1))
        case measure => have := HG.out; omega
        case rel => exact ⟨m + 1, W, by omega, rfl, by first | rfl | (rw [← hW]; rfl) | trace_state, by go_num, y2, Lib.hid (by rw [← HI2.out]; simp only [takeStep]; rw [if_neg HK.out, hW])⟩
    · go_wp2_with (fail)
      go_ret
      refine ⟨ret_int ?_, y⟩
      rw [← HI.out, List.drop_eq_nil_of_le (by have := N.out; omega)]
      rfl
set_option maxRecDepth 100000 in
set_option maxHeartbeats 800000 in
theorem makes_any (A : Option Addr) (n c : Nat) (l : List OpS) (w : World) (hn : n = l.length) (h : RdOs w w.heap.size A l) (hb : n ≤ 140737488355328) :
    Calls Tryd.prog 15 #[.slice A n c] w fun e w' => e = .returned (.int .i64 (makesP l)) ∧ Below w.heap.size w w' := by
  have N := Lib.hid hn
  generalize hR : makesP l = R
  have HR := Lib.hid hR
  clear hn hR
  go_enter Tryd.func15, Tryd.ntmps15
  go_wp2_with (fail)
  go_loopg [3, 8] n (fun g av iv wr => ∃ (m : Nat) (a : Int), m ≤ n ∧ g = n - m ∧ av = .int .i64 a ∧ iv = .int .i64 (m : Int) ∧ Below w.heap.size w wr ∧ Hid ((l.drop m).foldl makeStep a = R))
  case atStart => exact ⟨0, 0, by omega, rfl, rfl, rfl, Below.refl _ _, Lib.hid (by rw [List.drop_zero]; exact HR.out)⟩
  case round =>
    obtain ⟨m, a, hm, hg, rfl, rfl, y, HI⟩ := hrel
    have HG := Lib.hid hg
    clear hg HR
    by_cases hlt : m < n
    · have hl1 : m < l.length := by have := N.out; omega
      obtain ⟨ad, x, rfl, had, hd1, _, hc0⟩ := (h.below y (Nat.le_refl _)).el hl1
      have HI2 := Lib.hid (fold_drop hd1 HI.out)
      obtain ⟨⟨k, nn, r, s, p⟩, Ar, cr, As, cs, Ap, cp⟩ := x
      obtain ⟨r0, r1, r2, r3, r4⟩ := op_cells hc0
      clear hc0 hd1 HI
      have y2 := ext_trans y (ext_alloc wr (.cells #[.int .u8 k, .int .i64 nn, .slice Ar r.length cr, .slice As s.length cs, .slice Ap p.length cp] 41))
      have hw2 : IntKind.i64.wrap ((m:Int) + 1) = (m : Int) + 1 := IntWalk.i64_in _ (by omega)
      have hbx := heap_alloc_new wr (.cells #[.int .u8 k, .int .i64 nn, .slice Ar r.length cr, .slice As s.length cs, .slice Ap p.length cp] 41)
      by_cases hk : k = 3
      · subst hk
        go_wp2_with (fail)
        go_roundg (n - (m + 1))
        case measure => have := HG.out; omega
        case rel => exact ⟨m + 1, a, by omega, rfl, rfl, by go_num, y2, Lib.hid (by rw [← HI2.out]; simp [makeStep])⟩
      · have hb : (k == 3) = false := beq_eq_false_iff_ne.2 hk
        have HK := Lib.hid hk
        clear hk
        go_wp2_with (go_at_call 50; refine Hid.out ?_)
        refine Lib.hid ?_
        refine (sizeO_any k nn Ar As Ap r.length s.length p.length cr cs cp _).mono ?_
        rintro e w3 ⟨rfl, y3⟩
        have y4 := ext_trans y2 y3
        obtain ⟨Z, hZ⟩ : ∃ Z : Int, (if k = 2 then (r.length : Int) else nn) = Z := ⟨_, rfl⟩
        rw [hZ]
        have HZ : Hid (sizeO ⟨k, nn, r, s, p⟩ = Z) := Lib.hid hZ
        clear hZ
        obtain ⟨W, hW⟩ : ∃ W, IntKind.i64.wrap (a + Z) = W := ⟨_, rfl⟩
        go_wp2_with (fail)
        go_roundg (n - (m + 1))
        case measure => have := HG.out; omega
        case rel => exact ⟨m + 1, W, by omega, rfl, by first | rfl | (rw [← hW]; rfl), by go_num, y4, Lib.hid (by rw [← HI2.out]; simp only [makeStep]; rw [if_neg HK.out, HZ.out, hW])⟩
    · go_wp2_with (fail)
      go_ret
      refine ⟨ret_int ?_, y⟩
      rw [← HI.out, List.drop_eq_nil_of_le (by have := N.out; omega)]
      rfl
/-- does a delta leave the last of n cells the last one? -/
def finalStep (n : Int) (st : Bool × Int) (x : OpS) : Bool × Int :=
  if st.1 = false then st else
  if x.o.k = 2 then (decide (¬ st.2 = n), st.2) else
  if x.o.k = 3 ∧ IntKind.i64.wrap (st.2 + x.o.n) = n then (false, st.2) else (true, IntKind.i64.wrap (st.2 + x.o.n))
def finalP (n : Int) (l : List OpS) : Bool := (l.foldl (finalStep n) (true, 0)).1
theorem final_false (n : Int) (a : Int) : ∀ l : List OpS, (l.foldl (finalStep n) (false, a)) = (false, a)
  | [] => rfl
  | x :: l => by rw [List.foldl_cons]; unfold finalStep; simp only [if_true]; exact final_false n a l
theorem fin_drop {n : Int} {l : List OpS} {m : Nat} {x : OpS} {a : Int} {R : Bool} (hd : l.drop m = x :: l.drop (m + 1)) (h : ((l.drop m).foldl (finalStep n) (true, a)).1 = R) : ((l.drop (m + 1)).foldl (finalStep n) (finalStep n (true, a) x)).1 = R := by
  rw [hd] at h; exact h
set_option maxRecDepth 100000 in
set_option maxHeartbeats 1600000 in
theorem final_any (A : Option Addr) (n c : Nat) (l : List OpS) (lim : Int) (w : World) (hn : n = l.length) (h : RdOs w w.heap.size A l) (hb : n ≤ 140737488355328) :
    Calls Tryd.prog 49 #[.slice A n c, .int .i64 lim] w fun e w' => e = .returned (.bool (finalP lim l)) ∧ Below w.heap.size w w' := by
  have N := Lib.hid hn
  generalize hR : finalP lim l = R
  have HR := Lib.hid hR
  clear hn hR
  go_enter Tryd.func49, Tryd.ntmps49
  go_wp2
  go_step3
  go_wp2
  go_step3
  go_wp2
  go_loopg [5, 10] n (fun g av iv wr => ∃ (m : Nat) (a : Int), m ≤ n ∧ g = n - m ∧ av = .int .i64 a ∧ iv = .int .i64 (m : Int) ∧ Below w.heap.size w wr ∧ Hid (((l.drop m).foldl (finalStep lim) (true, a)).1 = R))
  case atStart => exact ⟨0, 0, by omega, rfl, rfl, rfl, Below.refl _ _, Lib.hid (by rw [List.drop_zero]; exact HR.out)⟩
  case round =>
    obtain ⟨m, a, hm, hg, rfl, rfl, y, HI⟩ := hrel
    have HG := Lib.hid hg
    clear hg HR
    by_cases hlt : m < n
    · have hl1 : m < l.length := by have := N.out; omega
      obtain ⟨ad, x, rfl, had, hd1, _, hc0⟩ := (h.below y (Nat.le_refl _)).el hl1
      have HI2 := Lib.hid (fin_drop hd1 HI.out)
      obtain ⟨⟨k, nn, r, s, p⟩, Ar, cr, As, cs, Ap, cp⟩ := x
      obtain ⟨r0, r1, r2, r3, r4⟩ := op_cells hc0
      clear hc0 hd1 HI
      have y2 := ext_trans y (ext_alloc wr (.cells #[.int .u8 k, .int .i64 nn, .slice Ar r.length cr, .slice As s.length cs, .slice Ap p.length cp] 41))
      have hw2 : IntKind.i64.wrap ((m:Int) + 1) = (m : Int) + 1 := IntWalk.i64_in _ (by omega)
      obtain ⟨W, hW⟩ : ∃ W, IntKind.i64.wrap (a + nn) = W := ⟨_, rfl⟩
      have HW := Lib.hid hW
      by_cases hk : k = 2
      · subst hk
        by_cases ha : a = lim
        · subst ha
          go_wp2_with (fail)
          go_ret
          refine ⟨ret_bool ?_, y2⟩
          rw [← HI2.out]
          simp [finalStep, final_false]
        · have hb2 : (a == lim) = false := beq_eq_false_iff_ne.2 ha
          have HA := Lib.hid ha
          clear ha
          go_wp2_with (fail)
          go_roundg (n - (m + 1))
          case measure => have := HG.out; omega
          case rel => exact ⟨m + 1, a, by omega, rfl, rfl, by go_num, y2, Lib.hid (by rw [← HI2.out]; simp [finalStep, HA.out])⟩
      · have hb : (k == 2) = false := beq_eq_false_iff_ne.2 hk
        have HK := Lib.hid hk
        clear hk
        by_cases hk3 : k = 3
        · subst hk3
          by_cases ha : W = lim
          · subst ha
            go_wp2_with (fail)
            go_ret
            refine ⟨ret_bool ?_, y2⟩
            rw [← HI2.out]
            simp [finalStep, final_false, HW.out]
          · have hb2 : (W == lim) = false := beq_eq_false_iff_ne.2 ha
            have HA := Lib.hid ha
            clear ha
            go_wp2_with (fail)
            go_roundg (n - (m + 1))
            case measure => have := HG.out; omega
            case rel => exact ⟨m + 1, W, by omega, rfl, by first | rfl | (rw [← HW.out]; rfl), by go_num, y2, Lib.hid (by rw [← HI2.out]; simp [finalStep, HW.out, HA.out])⟩
        · have hb3 : (k == 3) = false := beq_eq_false_iff_ne.2 hk3
          have HK3 := Lib.hid hk3
          clear hk3
          go_wp2_with (fail)
          go_roundg (n - (m + 1))
          case measure => have := HG.out; omega
          case rel => exact ⟨m + 1, W, by omega, rfl, by first | rfl | (rw [← HW.out]; rfl), by go_num, y2, Lib.hid (by rw [← HI2.out]; simp [finalStep, HW.out, HK.out, HK3.out])⟩
    · go_wp2_with (fail)
      unfold Exit.noGoto
      go_ret
      refine ⟨ret_bool ?_, y⟩
      rw [← HI.out, List.drop_eq_nil_of_le (by have := N.out; omega)]
      rfl
end Go.Proofs.YtnhmbocgopjbjaaDoor
/- The walk of patch.May. -/
namespace Go.Proofs.YtnhmbocgopjbjaaDoor
open Go.RowKit
set_option linter.unusedVariables false
set_option linter.unusedSimpArgs false

theorem Sch.at_ {v W w' : World} {s : Nat} {l : List Ky} (h : Sch v s l) (y : Below W.heap.size W w') (e : W.heap = v.heap) : Sch w' s l := by
  have hc : ∀ p, W.cell? p = v.cell? p := fun p => by simp only [World.cell?, e]
  have h' : Sch W s l := by
    obtain ⟨bm, A, n, c, ls, hb, ⟨es, clock, hm, hk⟩, hn, hp, hs, hr⟩ := h
    exact ⟨bm, A, n, c, ls, by rw [e]; exact hb, ⟨es, clock, by rw [e]; exact hm, hk⟩, hn, hp, hs, by rw [e]; exact hr.keep fun p _ => hc p⟩
  exact h'.ext y

/-- may a change's value be? -/
def okC (c : Ch) : Bool := if c.gone = true then beqV c.v V.zero else mayV c.v
/-- is a change's key there, and does its value fit? -/
def thereC (l : List Ky) (c : Ch) : Bool := (findK l c.key).isSome && (c.gone || fitsK l c.key c.v)
def mayP (l : List Ky) (p : List Ch) : Int := if 64 < p.length then 3 else if riseC p = true ∧ p.all okC = true then (if p.all (thereC l) = true then 0 else 4) else 3
def loopP (l : List Ky) : Option Int → Int → List Ch → Int
  | _, e, [] => e
  | prev, e, c :: r => if (prev.all (fun k => decide (k < c.key)) && okC c) = true then loopP l (some c.key) (if thereC l c = true then e else 4) r else 3
theorem loopP_some (l : List Ky) : ∀ (p : List Ch) (k : Int) (e : Int), loopP l (some k) e p = if rise (k :: p.map (·.key)) = true ∧ p.all okC = true then (if p.all (thereC l) = true then e else 4) else 3
  | [], k, e => by simp [loopP, rise]
  | c :: r, k, e => by
    unfold loopP
    rw [loopP_some l r c.key]
    by_cases h1 : k < c.key
    · by_cases h2 : okC c = true
      · by_cases h3 : thereC l c = true
        · simp [h1, h2, h3, rise]
        · have h3 : thereC l c = false := by simpa using h3
          simp [h1, h2, h3, rise]
      · have h2 : okC c = false := by simpa using h2
        simp [h1, h2]
    · simp [h1, rise]
theorem loopP_none (l : List Ky) (p : List Ch) (h : p.length ≤ 64) : loopP l none 0 p = mayP l p := by
  unfold mayP
  rw [if_neg (by omega)]
  cases p with
  | nil => simp [loopP, riseC, rise]
  | cons c r =>
    unfold loopP
    rw [loopP_some]
    by_cases h2 : okC c = true
    · by_cases h3 : thereC l c = true
      · simp [h2, h3, riseC]
      · have h3 : thereC l c = false := by simpa using h3
        simp [h2, h3, riseC]
    · have h2 : okC c = false := by simpa using h2
      simp [h2]
/-- the fields' ranges of the changes' values -/
def okVc (p : List Ch) : Prop := ∀ c ∈ p, okV c.v
def okVs (p : List Ch) : Prop := ∀ c ∈ p, okV c.v ∧ c.v.s.size ≤ 100000000

set_option maxRecDepth 100000 in
set_option maxHeartbeats 3200000 in
theorem mayPc_any (s : Nat) (l : List Ky) (A : Option Addr) (n c : Nat) (p : List Ch) (w : World) (hn : n = p.length) (h : RdCh w w.heap.size A p) (hb : n ≤ 140737488355328) (hS : Sch w s l) (hv : okVc p) (hT : Lib.Utf8Tabs 1 2 w) :
    Calls Tryd.prog 38 #[.pointer (some ⟨s, 0, none⟩), .slice A n c] w fun e w' => e = .returned (.int .i64 (mayP l p)) ∧ Below w.heap.size w w' := by
  have N := Lib.hid hn
  generalize hR : mayP l p = R
  have HR := Lib.hid hR
  clear hn hR
  by_cases h64 : (64 : Int) < (n : Int)
  · go_enter Tryd.func38, Tryd.ntmps38
    go_wp2_with (fail)
    go_ret
    refine ⟨ret_int ?_, Below.refl _ _⟩
    rw [← HR.out]
    have := N.out
    unfold mayP
    rw [if_pos (by omega)]
  have HP : Hid (loopP l none 0 p = R) := Lib.hid (by rw [← HR.out]; exact loopP_none l p (by have := N.out; omega))
  go_enter Tryd.func38, Tryd.ntmps38
  go_wp2_with (fail)
  go_loopg [5, 15] n (fun g ev iv wr => ∃ (m : Nat) (ei : Int), m ≤ n ∧ g = n - m ∧ ev = .int .i64 ei ∧ iv = .int .i64 (m : Int) ∧ Below w.heap.size w wr ∧ Hid (loopP l (if m = 0 then none else (p[m - 1]?).map (·.key)) ei (p.drop m) = R))
  case atStart => exact ⟨0, 0, by omega, rfl, rfl, rfl, Below.refl _ _, Lib.hid (by rw [List.drop_zero]; exact HP.out)⟩
  case round =>
    obtain ⟨m, ei, hm, hg, rfl, rfl, y, HI⟩ := hrel
    have HG := Lib.hid hg
    clear hg HR HP
    by_cases hlt : m < n
    · have hl1 : m < p.length := by have := N.out; omega
      obtain ⟨ad, x, rfl, had, hd1, hx1, hc0⟩ := (h.below y (Nat.le_refl _)).el hl1
      have hxv := hv x (List.mem_of_getElem? hx1)
      obtain ⟨x1, g, x2, x3, x4, x5⟩ := x
      obtain ⟨r0, r1, r2, r3, r4, r5⟩ := ch_cells hc0
      obtain ⟨f0, f1⟩ : 0 ≤ x4 ∧ x4 < 18446744073709551616 := ⟨hxv.f0, hxv.f1⟩
      have HI2 : Hid ((if ((if m = 0 then none else (p[m - 1]?).map (·.key)).all (fun k => decide (k < x1)) && okC ⟨x1, g, x2, x3, x4, x5⟩) = true then loopP l (some x1) (if thereC l ⟨x1, g, x2, x3, x4, x5⟩ = true then ei else 4) (p.drop (m + 1)) else 3) = R) := Lib.hid (by
        rw [← HI.out, hd1]; rfl)
      have HX := Lib.hid hx1
      have y2 := ext_alloc wr (.cells #[.int .i64 x1, .bool g, .int .u8 x2, .int .i64 x3, .int .u64 x4, .string x5] 70)
      have hk2 := heap_alloc_new wr (.cells #[.int .i64 x1, .bool g, .int .u8 x2, .int .i64 x3, .int .u64 x4, .string x5] 70)
      have HK2 := Lib.hid hk2
      have HS2 := Lib.hid ((hS.ext y).ext y2)
      have HT2 := Lib.hid (Utf8Tabs_below (Utf8Tabs_below hT y) y2)
      clear hc0 hd1 hx1 HI hk2 hxv
      have hw2 : IntKind.i64.wrap ((m:Int) + 1) = (m : Int) + 1 := IntWalk.i64_in _ (by omega)
      go_wp2_with (go_at_call 54; refine Hid.out ?_)
      refine Lib.hid ?_
      generalize hw0 : wr.alloc _ = w0 at *
      clear hw0
      refine (findS_any s l x1 w0 HS2.out).mono ?_
      rintro e w3 ⟨k1, k2, k3, k4, k5, k6, q, rfl, hq1, hq2, y3⟩
      have HQ2 := Lib.hid hq2
      have y4 := ext_alloc w3 (.cells #[.int .i64 k1, .bool k2, .int .u8 k3, .bool k4, .bool k5, .int .i64 k6] 76)
      have hk5 := (y4.block _ (lt_of_some ((y3.block _ (lt_of_some HK2.out)).trans HK2.out))).trans ((y3.block _ (lt_of_some HK2.out)).trans HK2.out)
      have y5 := ext_trans y (ext_trans y2 (ext_trans y3 y4))
      have HS5 := Lib.hid (HS2.out.ext (ext_trans y3 y4))
      have HT5 := Lib.hid (Utf8Tabs_below HT2.out (ext_trans y3 y4))
      have hh5 := h.below y5 (Nat.le_refl _)
      obtain ⟨b0, b1, b2, b3, b4, b5⟩ := box_ch hk5
      have HK5 := Lib.hid hk5
      clear hk5 hq1 hq2 r0 r1 r2 r3 r4 r5 HK2 HS2 HT2
      cases m with
      | zero =>
        have HI3 : Hid ((if okC ⟨x1, g, x2, x3, x4, x5⟩ = true then loopP l (some x1) (if thereC l ⟨x1, g, x2, x3, x4, x5⟩ = true then ei else 4) (p.drop (0 + 1)) else 3) = R) := Lib.hid (by rw [← HI2.out]; simp)
        clear HI2
        go_wp2_with (fail)
        go_quiet (fail)
        cases g with
        | true =>
          cases hz : beqV ⟨x2, x3, x4, x5⟩ ⟨0, 0, 0, ⟨#[]⟩⟩ with
          | false =>
            have hok : okC ⟨x1, true, x2, x3, x4, x5⟩ = false := hz
            have HOK := Lib.hid hok
            clear hok
            go_wp2_with (fail)
            go_ret
            exact ⟨ret_int (by rw [← HI3.out]; rw [HOK.out]; rfl), y5.trans (ext_drew _ _ |>.mono (y5.size))⟩
          | true =>
            have hok : okC ⟨x1, true, x2, x3, x4, x5⟩ = true := hz
            have HOK := Lib.hid hok
            clear hok
            have HTH : Hid (thereC l ⟨x1, true, x2, x3, x4, x5⟩ = q) := Lib.hid (by unfold thereC; rw [HQ2.out]; simp)
            cases q with
            | false =>
              go_wp2_with (fail)
              go_roundg (n - (0 + 1))
              case measure => have := HG.out; omega
              case rel => exact ⟨0 + 1, 4, by omega, rfl, rfl, by go_num, y5.trans ((ext_drew _ _).mono y5.size), Lib.hid (by rw [← HI3.out, if_neg (show ¬ (0 + 1 = 0) by omega), Nat.add_sub_cancel, HX.out]; rw [HOK.out, HTH.out]; rfl)⟩
            | true =>
              go_wp2_with (fail)
              go_roundg (n - (0 + 1))
              case measure => have := HG.out; omega
              case rel => exact ⟨0 + 1, ei, by omega, rfl, rfl, by go_num, y5.trans ((ext_drew _ _).mono y5.size), Lib.hid (by rw [← HI3.out, if_neg (show ¬ (0 + 1 = 0) by omega), Nat.add_sub_cancel, HX.out]; rw [HOK.out, HTH.out]; rfl)⟩
        | false =>
          go_wp2_with (go_at_call 53; refine Hid.out ?_)
          refine Lib.hid ?_
          refine (mayV_any x2 x3 x4 x5 _ f0 f1 ?tb).mono ?_
          case tb => exact tabs_at hT y5 rfl
          rintro e w6 ⟨rfl, y6⟩
          have HOK : Hid (okC ⟨x1, false, x2, x3, x4, x5⟩ = mayV ⟨x2, x3, x4, x5⟩) := Lib.hid rfl
          generalize mayV ⟨x2, x3, x4, x5⟩ = M at HOK ⊢
          have yy6 := below_at y5 y6 rfl rfl rfl rfl
          have hk6 := kept1 HK5.out y6 rfl
          have HS6 := Lib.hid (Sch.at_ HS5.out y6 rfl)
          clear b0 b1 b2 b3 b4 b5
          obtain ⟨b0, b1, b2, b3, b4, b5⟩ := box_ch hk6
          clear hk6
          cases M with
          | false =>
            go_wp2_with (fail)
            go_ret
            exact ⟨ret_int (by rw [← HI3.out]; rw [HOK.out]; rfl), yy6⟩
          | true =>
            cases q with
            | false =>
              have HTH : Hid (thereC l ⟨x1, false, x2, x3, x4, x5⟩ = false) := Lib.hid (by unfold thereC; rw [HQ2.out]; rfl)
              go_wp2_with (fail)
              go_roundg (n - (0 + 1))
              case measure => have := HG.out; omega
              case rel => exact ⟨0 + 1, 4, by omega, rfl, rfl, by go_num, yy6, Lib.hid (by rw [← HI3.out, if_neg (show ¬ (0 + 1 = 0) by omega), Nat.add_sub_cancel, HX.out]; rw [HOK.out, HTH.out]; rfl)⟩
            | true =>
              have HTH : Hid (thereC l ⟨x1, false, x2, x3, x4, x5⟩ = fitsK l x1 ⟨x2, x3, x4, x5⟩) := Lib.hid (by unfold thereC; rw [HQ2.out]; rfl)
              go_wp2_with (go_at_call 21; refine Hid.out ?_)
              refine Lib.hid ?_
              refine (fitsS_any s l x1 x2 x3 x4 x5 _ ?sc f0 f1 ?tb).mono ?_
              case sc => exact HS6.out
              case tb => exact tabs_at hT yy6 rfl
              rintro e w7 ⟨rfl, y7⟩
              have yy7 := below_at yy6 y7 rfl rfl rfl rfl
              generalize fitsK l x1 ⟨x2, x3, x4, x5⟩ = F at HTH ⊢
              cases F with
              | false =>
                go_wp2_with (fail)
                go_roundg (n - (0 + 1))
                case measure => have := HG.out; omega
                case rel => exact ⟨0 + 1, 4, by omega, rfl, rfl, by go_num, yy7, Lib.hid (by rw [← HI3.out, if_neg (show ¬ (0 + 1 = 0) by omega), Nat.add_sub_cancel, HX.out]; rw [HOK.out, HTH.out]; rfl)⟩
              | true =>
                go_wp2_with (fail)
                go_roundg (n - (0 + 1))
                case measure => have := HG.out; omega
                case rel => exact ⟨0 + 1, ei, by omega, rfl, rfl, by go_num, yy7, Lib.hid (by rw [← HI3.out, if_neg (show ¬ (0 + 1 = 0) by omega), Nat.add_sub_cancel, HX.out]; rw [HOK.out, HTH.out]; rfl)⟩
      | succ k =>
        obtain ⟨ad', z, e, _, _, hz1, hz0⟩ := hh5.el (show k < p.length by omega)
        injection e with e; subst e
        obtain ⟨z1, zg, z2, z3, z4, z5⟩ := z
        obtain ⟨s0, -⟩ := ch_cells hz0
        have HI4 : Hid ((if (decide (z1 < x1) && okC ⟨x1, g, x2, x3, x4, x5⟩) = true then loopP l (some x1) (if thereC l ⟨x1, g, x2, x3, x4, x5⟩ = true then ei else 4) (p.drop (k + 1 + 1)) else 3) = R) := Lib.hid (by
          rw [← HI2.out, if_neg (show ¬ (k + 1 = 0) by omega), Nat.add_sub_cancel, hz1]; simp)
        clear HI2 hz1 hz0
        have hkn : k < n := by omega
        have hw1 : IntKind.i64.wrap (k:Int) = (k : Int) := IntWalk.i64_in _ (by omega)
        by_cases hle : x1 ≤ z1
        · have HI3 : Hid ((3 : Int) = R) := Lib.hid (by rw [← HI4.out, show decide (z1 < x1) = false from decide_eq_false (by omega)]; simp)
          clear HI4
          go_wp2_with (fail)
          go_quiet (fail)
          go_wp2_with (fail)
          go_ret
          exact ⟨ret_int HI3.out, y5.trans ((ext_drew _ _).mono y5.size)⟩
        · have HI3 : Hid ((if okC ⟨x1, g, x2, x3, x4, x5⟩ = true then loopP l (some x1) (if thereC l ⟨x1, g, x2, x3, x4, x5⟩ = true then ei else 4) (p.drop (k + 1 + 1)) else 3) = R) := Lib.hid (by rw [← HI4.out, show decide (z1 < x1) = true from decide_eq_true (by omega)]; simp)
          clear HI4
          go_wp2_with (fail)
          go_quiet (fail)
          cases g with
          | true =>
            cases hz : beqV ⟨x2, x3, x4, x5⟩ ⟨0, 0, 0, ⟨#[]⟩⟩ with
            | false =>
              have hok : okC ⟨x1, true, x2, x3, x4, x5⟩ = false := hz
              have HOK := Lib.hid hok
              clear hok
              go_wp2_with (fail)
              go_ret
              exact ⟨ret_int (by rw [← HI3.out]; rw [HOK.out]; rfl), y5.trans (ext_drew _ _ |>.mono (y5.size))⟩
            | true =>
              have hok : okC ⟨x1, true, x2, x3, x4, x5⟩ = true := hz
              have HOK := Lib.hid hok
              clear hok
              have HTH : Hid (thereC l ⟨x1, true, x2, x3, x4, x5⟩ = q) := Lib.hid (by unfold thereC; rw [HQ2.out]; simp)
              cases q with
              | false =>
                go_wp2_with (fail)
                go_roundg (n - ((k + 1) + 1))
                case measure => have := HG.out; omega
                case rel => exact ⟨(k + 1) + 1, 4, by omega, rfl, rfl, by go_num, y5.trans ((ext_drew _ _).mono y5.size), Lib.hid (by rw [← HI3.out, if_neg (show ¬ ((k + 1) + 1 = 0) by omega), Nat.add_sub_cancel, HX.out]; rw [HOK.out, HTH.out]; rfl)⟩
              | true =>
                go_wp2_with (fail)
                go_roundg (n - ((k + 1) + 1))
                case measure => have := HG.out; omega
                case rel => exact ⟨(k + 1) + 1, ei, by omega, rfl, rfl, by go_num, y5.trans ((ext_drew _ _).mono y5.size), Lib.hid (by rw [← HI3.out, if_neg (show ¬ ((k + 1) + 1 = 0) by omega), Nat.add_sub_cancel, HX.out]; rw [HOK.out, HTH.out]; rfl)⟩
          | false =>
            go_wp2_with (go_at_call 53; refine Hid.out ?_)
            refine Lib.hid ?_
            refine (mayV_any x2 x3 x4 x5 _ f0 f1 ?tb).mono ?_
            case tb => exact tabs_at hT y5 rfl
            rintro e w6 ⟨rfl, y6⟩
            have HOK : Hid (okC ⟨x1, false, x2, x3, x4, x5⟩ = mayV ⟨x2, x3, x4, x5⟩) := Lib.hid rfl
            generalize mayV ⟨x2, x3, x4, x5⟩ = M at HOK ⊢
            have yy6 := below_at y5 y6 rfl rfl rfl rfl
            have hk6 := kept1 HK5.out y6 rfl
            have HS6 := Lib.hid (Sch.at_ HS5.out y6 rfl)
            clear b0 b1 b2 b3 b4 b5
            obtain ⟨b0, b1, b2, b3, b4, b5⟩ := box_ch hk6
            clear hk6
            cases M with
            | false =>
              go_wp2_with (fail)
              go_ret
              exact ⟨ret_int (by rw [← HI3.out]; rw [HOK.out]; rfl), yy6⟩
            | true =>
              cases q with
              | false =>
                have HTH : Hid (thereC l ⟨x1, false, x2, x3, x4, x5⟩ = false) := Lib.hid (by unfold thereC; rw [HQ2.out]; rfl)
                go_wp2_with (fail)
                go_roundg (n - ((k + 1) + 1))
                case measure => have := HG.out; omega
                case rel => exact ⟨(k + 1) + 1, 4, by omega, rfl, rfl, by go_num, yy6, Lib.hid (by rw [← HI3.out, if_neg (show ¬ ((k + 1) + 1 = 0) by omega), Nat.add_sub_cancel, HX.out]; rw [HOK.out, HTH.out]; rfl)⟩
              | true =>
                have HTH : Hid (thereC l ⟨x1, false, x2, x3, x4, x5⟩ = fitsK l x1 ⟨x2, x3, x4, x5⟩) := Lib.hid (by unfold thereC; rw [HQ2.out]; rfl)
                go_wp2_with (go_at_call 21; refine Hid.out ?_)
                refine Lib.hid ?_
                refine (fitsS_any s l x1 x2 x3 x4 x5 _ ?sc f0 f1 ?tb).mono ?_
                case sc => exact HS6.out
                case tb => exact tabs_at hT yy6 rfl
                rintro e w7 ⟨rfl, y7⟩
                have yy7 := below_at yy6 y7 rfl rfl rfl rfl
                generalize fitsK l x1 ⟨x2, x3, x4, x5⟩ = F at HTH ⊢
                cases F with
                | false =>
                  go_wp2_with (fail)
                  go_roundg (n - ((k + 1) + 1))
                  case measure => have := HG.out; omega
                  case rel => exact ⟨(k + 1) + 1, 4, by omega, rfl, rfl, by go_num, yy7, Lib.hid (by rw [← HI3.out, if_neg (show ¬ ((k + 1) + 1 = 0) by omega), Nat.add_sub_cancel, HX.out]; rw [HOK.out, HTH.out]; rfl)⟩
                | true =>
                  go_wp2_with (fail)
                  go_roundg (n - ((k + 1) + 1))
                  case measure => have := HG.out; omega
                  case rel => exact ⟨(k + 1) + 1, ei, by omega, rfl, rfl, by go_num, yy7, Lib.hid (by rw [← HI3.out, if_neg (show ¬ ((k + 1) + 1 = 0) by omega), Nat.add_sub_cancel, HX.out]; rw [HOK.out, HTH.out]; rfl)⟩
    · have hmn : m = n := by omega
      go_wp2_with (fail)
      go_ret
      refine ⟨ret_int ?_, y⟩
      rw [← HI.out, List.drop_eq_nil_of_le (by have := N.out; omega)]
      rfl
theorem mayP_any (s : Nat) (l : List Ky) (A : Option Addr) (n c : Nat) (p : List Ch) (w : World) (hn : n = p.length) (h : RdCh w w.heap.size A p) (hb : n ≤ 140737488355328) (hS : Sch w s l) (hv : okVs p) (hT : Lib.Utf8Tabs 1 2 w) :
    Calls Tryd.prog 38 #[.pointer (some ⟨s, 0, none⟩), .slice A n c] w fun e w' => e = .returned (.int .i64 (mayP l p)) ∧ Below w.heap.size w w' :=
  mayPc_any s l A n c p w hn h hb hS (fun c hc => (hv c hc).1) hT
end Go.Proofs.YtnhmbocgopjbjaaDoor
/- The walks of ops.form, ops.one and ops.May. -/
namespace Go.Proofs.YtnhmbocgopjbjaaDoor
open Go.RowKit
set_option linter.unusedVariables false
set_option linter.unusedSimpArgs false

set_option maxHeartbeats 400000 in
theorem formCl_any (r : Int) (w : World) : Calls Tryd.prog 101 #[.int .i32 r] w fun e w' => e = .returned (.bool (!mayR r)) ∧ w = w' := by
  go_enter Tryd.func101, Tryd.ntmps101
  go_wp2_with (go_at_call 102; refine Hid.out ?_)
  refine Lib.hid ?_
  refine (may_any r w).mono ?_
  rintro e w' ⟨rfl, rfl⟩
  go_wp2_with (fail)
  go_ret
  exact ⟨rfl, rfl⟩

set_option maxRecDepth 100000 in
set_option maxHeartbeats 400000 in
theorem indexR_any (A : Option Addr) (n c : Nat) (l : List Int) (w : World) (hn : n = l.length) (h : RdI32 w w.heap.size A l) (hb : n ≤ 140737488355328) :
    Calls Tryd.prog 114 #[.slice A n c, .func (.func 101) #[] #[]] w fun e w' => ∃ i : Int, e = .returned (.int .i64 i) ∧ IdxOut (fun r => !mayR r) l i ∧ w = w' := by
  have N := Lib.hid hn
  clear hn
  go_enter Tryd.func114, Tryd.ntmps114
  go_wp2_with (fail)
  go_loopg [8] n (fun g iv wr => ∃ i : Nat, i ≤ n ∧ g = n - i ∧ iv = .int .i64 i ∧ w = wr ∧ Hid (∀ x ∈ l.take i, (!mayR x) = false))
  case atStart => exact ⟨0, by omega, rfl, rfl, rfl, Lib.hid (by simp)⟩
  case round =>
    obtain ⟨i, hi, hg, rfl, rfl, HI⟩ := hrel
    have HG := Lib.hid hg
    clear hg
    by_cases hlt : i < n
    · have hil : i < l.length := by have := N.out; omega
      obtain ⟨ad, x, rfl, _, _, hx, hc1⟩ := h.el hil
      have HT : Hid (l.take (i + 1) = l.take i ++ [x]) := Lib.hid (by rw [List.take_add_one, hx]; rfl)
      have HX := Lib.hid hx
      have r0 := hc1 0 _ rfl
      rw [add_zero', Nat.mul_one] at r0
      clear hx hil hc1
      have hw2 : IntKind.i64.wrap ((i:Int) + 1) = (i : Int) + 1 := IntWalk.i64_in _ (by omega)
      cases hp : mayR x with
      | false =>
        have HP := Lib.hid hp
        clear hp
        go_wp2_with (go_at_call 101; refine Hid.out ?_)
        refine Lib.hid ?_
        refine (formCl_any x w).mono ?_
        rintro e w' ⟨rfl, rfl⟩
        rw [HP.out]
        go_wp2_with (fail)
        go_ret
        exact ⟨i, rfl, .inr ⟨i, rfl, by have := N.out; omega, HI.out, _, HX.out, by show (!mayR x) = true; rw [HP.out]; rfl⟩, rfl⟩
      | true =>
        have HP := Lib.hid hp
        clear hp
        go_wp2_with (go_at_call 101; refine Hid.out ?_)
        refine Lib.hid ?_
        refine (formCl_any x w).mono ?_
        rintro e w' ⟨rfl, rfl⟩
        rw [HP.out]
        go_wp2_with (fail)
        go_roundg (n - (i + 1))
        case measure => have := HG.out; omega
        case rel =>
          refine ⟨i + 1, by omega, rfl, by go_num, rfl, Lib.hid ?_⟩
          intro y hy
          rw [HT.out] at hy
          rcases List.mem_append.1 hy with hy | hy
          · exact HI.out y hy
          · simp at hy; rw [hy, HP.out]; rfl
    · go_wp2_with (fail)
      go_ret
      refine ⟨-1, rfl, .inl ⟨rfl, ?_⟩, rfl⟩
      have h1 := HI.out
      rw [List.take_of_length_le (by have := N.out; omega)] at h1
      exact h1

theorem idx_any {α : Type} {pr : α → Bool} {l : List α} {i : Int} (h : IdxOut pr l i) : decide (0 ≤ i) = l.any pr := by
  rcases h with ⟨rfl, h⟩ | ⟨j, rfl, hj, _, x, hx, hp⟩
  · have : l.any pr = false := List.any_eq_false.2 (fun x hx => by simp [h x hx])
    rw [this]; rfl
  · have : l.any pr = true := List.any_eq_true.2 ⟨x, List.mem_of_getElem? hx, hp⟩
    rw [this]
    simp
set_option maxHeartbeats 400000 in
theorem containsR_any (A : Option Addr) (n c : Nat) (l : List Int) (w : World) (hn : n = l.length) (h : RdI32 w w.heap.size A l) (hb : n ≤ 140737488355328) :
    Calls Tryd.prog 100 #[.slice A n c, .func (.func 101) #[] #[]] w fun e w' => e = .returned (.bool (l.any (fun r => !mayR r))) ∧ w = w' := by
  have N := Lib.hid hn
  clear hn
  generalize hr : l.any (fun r => !mayR r) = r
  have HR := Lib.hid hr
  clear hr
  go_enter Tryd.func100, Tryd.ntmps100
  go_wp2_with (go_at_call 114; refine Hid.out ?_)
  refine Lib.hid ?_
  refine (indexR_any A n c l w N.out h hb).mono ?_
  rintro e w1 ⟨i, rfl, hi, rfl⟩
  have hd := idx_any hi
  rw [HR.out] at hd
  clear hi
  go_wp2_with (fail)
  go_ret
  exact ⟨by first | rfl | exact ret_bool hd, rfl⟩

/-- has an op the form of its kind? -/
def formO (o : Opd) : Bool :=
  if o.k = 1 then decide (o.r.length = 0 ∧ o.s.length = 0)
  else if o.k = 3 then decide ((o.r.length = 0 ∧ o.s.length = 0) ∧ o.p.length = 0)
  else if o.k = 2 then decide (o.n = 0 ∧ o.p.length = 0) && !o.r.any (fun r => !mayR r)
  else false

set_option maxRecDepth 100000 in
set_option maxHeartbeats 1600000 in
theorem formO_any (k n : Int) (Ar As Ap : Option Addr) (r : List Int) (s : List At) (p : List Ch) (cr cs cp : Nat) (w : World) (h : RdI32 w w.heap.size Ar r) (hb : r.length ≤ 140737488355328) :
    Calls Tryd.prog 72 #[.agg #[.int .u8 k, .int .i64 n, .slice Ar r.length cr, .slice As s.length cs, .slice Ap p.length cp]] w fun e w' => e = .returned (.bool (formO ⟨k, n, r, s, p⟩)) ∧ Below w.heap.size w w' := by
  have y0 := ext_alloc w (.cells #[.int .u8 k, .int .i64 n, .slice Ar r.length cr, .slice As s.length cs, .slice Ap p.length cp] 41)
  have HH := Lib.hid (h.ext y0)
  obtain ⟨R, hR⟩ : ∃ X, formO ⟨k, n, r, s, p⟩ = X := ⟨_, rfl⟩
  rw [hR]
  unfold formO at hR
  have HR := Lib.hid hR
  obtain ⟨nr, hnr⟩ : ∃ X, r.length = X := ⟨_, rfl⟩
  obtain ⟨ns, hns⟩ : ∃ X, s.length = X := ⟨_, rfl⟩
  obtain ⟨np, hnp⟩ : ∃ X, p.length = X := ⟨_, rfl⟩
  have NR := Lib.hid hnr
  have NS := Lib.hid hns
  have NP := Lib.hid hnp
  rw [hnr, hns, hnp]
  rw [hnr, hns, hnp] at y0 HH
  rw [hnr] at hb
  clear hR hnr hns hnp h
  rcases Nat.eq_zero_or_pos nr with e1 | e1
  · subst e1
    rcases Nat.eq_zero_or_pos ns with e2 | e2
    · subst e2
      by_cases k1 : k = 1
      · subst k1
        go_enter Tryd.func72, Tryd.ntmps72
        go_wp2_with (fail)
        go_ret
        exact ⟨ret_bool (by rw [← HR.out]; simp only [NR.out, NS.out, NP.out]; first | (simp; done) | (simp <;> omega)), y0⟩
      have kb1 : (k == 1) = false := beq_eq_false_iff_ne.2 k1
      by_cases k3 : k = 3
      · subst k3
        by_cases hp : np = 0
        · subst hp
          go_enter Tryd.func72, Tryd.ntmps72
          go_wp2_with (fail)
          go_ret
          exact ⟨ret_bool (by rw [← HR.out]; simp only [NR.out, NS.out, NP.out]; first | (simp; done) | (simp <;> omega)), y0⟩
        · have hpb : ((np : Int) == 0) = false := beq_eq_false_iff_ne.2 (by omega)
          go_enter Tryd.func72, Tryd.ntmps72
          go_wp2_with (fail)
          go_ret
          exact ⟨ret_bool (by rw [← HR.out]; simp only [NR.out, NS.out, NP.out]; first | (simp [hp]; done) | (simp [hp] <;> omega)), y0⟩
      have kb3 : (k == 3) = false := beq_eq_false_iff_ne.2 k3
      by_cases k2 : k = 2
      · subst k2
        by_cases hn : n = 0
        · subst hn
          by_cases hp : np = 0
          · subst hp
            go_enter Tryd.func72, Tryd.ntmps72
            go_wp2_with (go_at_call 100; refine Hid.out ?_)
            refine Lib.hid ?_
            refine (containsR_any Ar _ cr r _ ?hn HH.out (by omega)).mono ?_
            case hn => first | exact NR.out.symm | (have := NR.out; omega)
            rintro e w' ⟨rfl, rfl⟩
            generalize hca : r.any (fun r => !mayR r) = C
            have HCA := Lib.hid hca
            clear hca
            go_wp2_with (fail)
            go_ret
            exact ⟨ret_bool (by rw [← HR.out]; simp [NP.out, HCA.out]), y0⟩
          · have hpb : ((np : Int) == 0) = false := beq_eq_false_iff_ne.2 (by omega)
            go_enter Tryd.func72, Tryd.ntmps72
            go_wp2_with (fail)
            go_ret
            exact ⟨ret_bool (by rw [← HR.out]; simp only [NR.out, NS.out, NP.out]; first | (simp [hp]; done) | (simp [hp] <;> omega)), y0⟩
        · have hnb : (n == 0) = false := beq_eq_false_iff_ne.2 hn
          go_enter Tryd.func72, Tryd.ntmps72
          go_wp2_with (fail)
          go_ret
          exact ⟨ret_bool (by rw [← HR.out]; simp only [NR.out, NS.out, NP.out]; first | (simp [hn]; done) | (simp [hn] <;> omega)), y0⟩
      have kb2 : (k == 2) = false := beq_eq_false_iff_ne.2 k2
      have HK1 := Lib.hid k1
      have HK2 := Lib.hid k2
      have HK3 := Lib.hid k3
      clear k1 k2 k3
      go_enter Tryd.func72, Tryd.ntmps72
      go_wp2_with (fail)
      go_ret
      exact ⟨ret_bool (by rw [← HR.out]; simp [HK1.out, HK2.out, HK3.out]), y0⟩
    · have hs0 : (0 : Int) < (ns : Int) := by omega
      by_cases k1 : k = 1
      · subst k1
        go_enter Tryd.func72, Tryd.ntmps72
        go_wp2_with (fail)
        go_ret
        exact ⟨ret_bool (by rw [← HR.out]; simp only [NR.out, NS.out, NP.out]; first | (simp; done) | (simp <;> omega)), y0⟩
      have kb1 : (k == 1) = false := beq_eq_false_iff_ne.2 k1
      by_cases k3 : k = 3
      · subst k3
        by_cases hp : np = 0
        · subst hp
          go_enter Tryd.func72, Tryd.ntmps72
          go_wp2_with (fail)
          go_ret
          exact ⟨ret_bool (by rw [← HR.out]; simp only [NR.out, NS.out, NP.out]; first | (simp; done) | (simp <;> omega)), y0⟩
        · have hpb : ((np : Int) == 0) = false := beq_eq_false_iff_ne.2 (by omega)
          go_enter Tryd.func72, Tryd.ntmps72
          go_wp2_with (fail)
          go_ret
          exact ⟨ret_bool (by rw [← HR.out]; simp only [NR.out, NS.out, NP.out]; first | (simp [hp]; done) | (simp [hp] <;> omega)), y0⟩
      have kb3 : (k == 3) = false := beq_eq_false_iff_ne.2 k3
      by_cases k2 : k = 2
      · subst k2
        by_cases hn : n = 0
        · subst hn
          by_cases hp : np = 0
          · subst hp
            go_enter Tryd.func72, Tryd.ntmps72
            go_wp2_with (go_at_call 100; refine Hid.out ?_)
            refine Lib.hid ?_
            refine (containsR_any Ar _ cr r _ ?hn HH.out (by omega)).mono ?_
            case hn => first | exact NR.out.symm | (have := NR.out; omega)
            rintro e w' ⟨rfl, rfl⟩
            generalize hca : r.any (fun r => !mayR r) = C
            have HCA := Lib.hid hca
            clear hca
            go_wp2_with (fail)
            go_ret
            exact ⟨ret_bool (by rw [← HR.out]; simp [NP.out, HCA.out]), y0⟩
          · have hpb : ((np : Int) == 0) = false := beq_eq_false_iff_ne.2 (by omega)
            go_enter Tryd.func72, Tryd.ntmps72
            go_wp2_with (fail)
            go_ret
            exact ⟨ret_bool (by rw [← HR.out]; simp only [NR.out, NS.out, NP.out]; first | (simp [hp]; done) | (simp [hp] <;> omega)), y0⟩
        · have hnb : (n == 0) = false := beq_eq_false_iff_ne.2 hn
          go_enter Tryd.func72, Tryd.ntmps72
          go_wp2_with (fail)
          go_ret
          exact ⟨ret_bool (by rw [← HR.out]; simp only [NR.out, NS.out, NP.out]; first | (simp [hn]; done) | (simp [hn] <;> omega)), y0⟩
      have kb2 : (k == 2) = false := beq_eq_false_iff_ne.2 k2
      have HK1 := Lib.hid k1
      have HK2 := Lib.hid k2
      have HK3 := Lib.hid k3
      clear k1 k2 k3
      go_enter Tryd.func72, Tryd.ntmps72
      go_wp2_with (fail)
      go_ret
      exact ⟨ret_bool (by rw [← HR.out]; simp [HK1.out, HK2.out, HK3.out]), y0⟩
  · have hr0 : (0 : Int) < (nr : Int) := by omega
    by_cases k1 : k = 1
    · subst k1
      go_enter Tryd.func72, Tryd.ntmps72
      go_wp2_with (fail)
      go_ret
      exact ⟨ret_bool (by rw [← HR.out]; simp only [NR.out, NS.out, NP.out]; first | (simp; done) | (simp <;> omega)), y0⟩
    have kb1 : (k == 1) = false := beq_eq_false_iff_ne.2 k1
    by_cases k3 : k = 3
    · subst k3
      by_cases hp : np = 0
      · subst hp
        go_enter Tryd.func72, Tryd.ntmps72
        go_wp2_with (fail)
        go_ret
        exact ⟨ret_bool (by rw [← HR.out]; simp only [NR.out, NS.out, NP.out]; first | (simp; done) | (simp <;> omega)), y0⟩
      · have hpb : ((np : Int) == 0) = false := beq_eq_false_iff_ne.2 (by omega)
        go_enter Tryd.func72, Tryd.ntmps72
        go_wp2_with (fail)
        go_ret
        exact ⟨ret_bool (by rw [← HR.out]; simp only [NR.out, NS.out, NP.out]; first | (simp [hp]; done) | (simp [hp] <;> omega)), y0⟩
    have kb3 : (k == 3) = false := beq_eq_false_iff_ne.2 k3
    by_cases k2 : k = 2
    · subst k2
      by_cases hn : n = 0
      · subst hn
        by_cases hp : np = 0
        · subst hp
          go_enter Tryd.func72, Tryd.ntmps72
          go_wp2_with (go_at_call 100; refine Hid.out ?_)
          refine Lib.hid ?_
          refine (containsR_any Ar _ cr r _ ?hn HH.out (by omega)).mono ?_
          case hn => first | exact NR.out.symm | (have := NR.out; omega)
          rintro e w' ⟨rfl, rfl⟩
          generalize hca : r.any (fun r => !mayR r) = C
          have HCA := Lib.hid hca
          clear hca
          go_wp2_with (fail)
          go_ret
          exact ⟨ret_bool (by rw [← HR.out]; simp [NP.out, HCA.out]), y0⟩
        · have hpb : ((np : Int) == 0) = false := beq_eq_false_iff_ne.2 (by omega)
          go_enter Tryd.func72, Tryd.ntmps72
          go_wp2_with (fail)
          go_ret
          exact ⟨ret_bool (by rw [← HR.out]; simp only [NR.out, NS.out, NP.out]; first | (simp [hp]; done) | (simp [hp] <;> omega)), y0⟩
      · have hnb : (n == 0) = false := beq_eq_false_iff_ne.2 hn
        go_enter Tryd.func72, Tryd.ntmps72
        go_wp2_with (fail)
        go_ret
        exact ⟨ret_bool (by rw [← HR.out]; simp only [NR.out, NS.out, NP.out]; first | (simp [hn]; done) | (simp [hn] <;> omega)), y0⟩
    have kb2 : (k == 2) = false := beq_eq_false_iff_ne.2 k2
    have HK1 := Lib.hid k1
    have HK2 := Lib.hid k2
    have HK3 := Lib.hid k3
    clear k1 k2 k3
    go_enter Tryd.func72, Tryd.ntmps72
    go_wp2_with (fail)
    go_ret
    exact ⟨ret_bool (by rw [← HR.out]; simp [HK1.out, HK2.out, HK3.out]), y0⟩
end Go.Proofs.YtnhmbocgopjbjaaDoor
