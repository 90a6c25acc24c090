/- Merged texts: Schema1, Op, Cell, PatchFn, Apply, Base2. -/
import Derived.Test.YtipoeidmblnbbaaDoorPk2
import Derived.Test.YtipoeidmblnbbaaDoorPk5
import Derived.Test.YtipoeidmblnbbaaDoorPk1
import Derived.Deep.LoopGhost
import Derived.Deep.DeepMust
/- The walks of schema.may, Find, Fits and of the document's Find and Fits. -/
namespace Go.Proofs.YtipoeidmblnbbaaDoor
open Go.RowKit
set_option linter.unusedVariables false
set_option linter.unusedSimpArgs false

/-- may a key be by itself? -/
def mayK (k : Ky) : Bool :=
  decide (1 ≤ k.id ∧ k.id ≤ 1000 ∧ 1 ≤ k.kind ∧ k.kind ≤ 4) && (if k.block = true then !k.before && decide (0 ≤ k.group ∧ k.group ≤ 8) else decide (k.group = 0))

theorem ky_eq (k : Ky) : k.val = .agg #[.int .i64 k.id, .bool k.block, .int .u8 k.kind, .bool k.after, .bool k.before, .int .i64 k.group] := rfl

set_option maxHeartbeats 1600000 in
theorem mayK_any (i g n : Int) (b a f : Bool) (w : World) :
    Calls Tryd.prog 25 #[.agg #[.int .i64 i, .bool b, .int .u8 n, .bool a, .bool f, .int .i64 g]] w fun e w' => e = .returned (.bool (mayK ⟨i, b, n, a, f, g⟩)) ∧ Below w.heap.size w w' := by
  obtain ⟨R, hR⟩ : ∃ X, mayK ⟨i, b, n, a, f, g⟩ = X := ⟨_, rfl⟩
  rw [hR]
  unfold mayK at hR
  have HR := Lib.hid hR
  clear hR
  by_cases h1 : i < 1
  · go_enter Tryd.func25, Tryd.ntmps25
    go_wp2_with (fail)
    go_ret
    exact ⟨ret_bool (by rw [← HR.out]; simp; omega), ext_alloc w _⟩
  by_cases h2 : 1000 < i
  · go_enter Tryd.func25, Tryd.ntmps25
    go_wp2_with (fail)
    go_ret
    exact ⟨ret_bool (by rw [← HR.out]; simp; omega), ext_alloc w _⟩
  by_cases h3 : n < 1
  · go_enter Tryd.func25, Tryd.ntmps25
    go_wp2_with (fail)
    go_ret
    exact ⟨ret_bool (by rw [← HR.out]; simp; omega), ext_alloc w _⟩
  by_cases h4 : 4 < n
  · go_enter Tryd.func25, Tryd.ntmps25
    go_wp2_with (fail)
    go_ret
    exact ⟨ret_bool (by rw [← HR.out]; simp; omega), ext_alloc w _⟩
  have E4 := Lib.hid (show decide (1 ≤ i ∧ i ≤ 1000 ∧ 1 ≤ n ∧ n ≤ 4) = true by simp; omega)
  cases b with
  | false =>
    go_enter Tryd.func25, Tryd.ntmps25
    go_wp2_with (fail)
    go_ret
    exact ⟨ret_bool (by have h := HR.out; rw [E4.out] at h; rw [← h]; simp; rfl), ext_alloc w _⟩
  | true =>
    cases f with
    | true =>
      go_enter Tryd.func25, Tryd.ntmps25
      go_wp2_with (fail)
      go_ret
      exact ⟨ret_bool (by have h := HR.out; rw [E4.out] at h; rw [← h]; simp), ext_alloc w _⟩
    | false =>
      by_cases h5 : 0 ≤ g
      · go_enter Tryd.func25, Tryd.ntmps25
        go_wp2_with (fail)
        go_ret
        exact ⟨ret_bool (by have h := HR.out; rw [E4.out] at h; rw [← h]; simp [h5] <;> omega), ext_alloc w _⟩
      · go_enter Tryd.func25, Tryd.ntmps25
        go_wp2_with (fail)
        go_ret
        exact ⟨ret_bool (by have h := HR.out; rw [E4.out] at h; rw [← h]; simp [h5] <;> omega), ext_alloc w _⟩

/-- a schema's struct at block s: its map holds just these keys; its slice holds them by rising IDs -/
def Sch (w : World) (s : Nat) (l : List Ky) : Prop :=
  ∃ bm A n c ls, w.heap[s]? = some (.cells #[.slice A n c, .map (some bm)] 65 (0, 0)) ∧ MapK w bm l ∧ n = ls.length ∧ ls.Perm l ∧ ls.Pairwise (fun a b => a.id ≤ b.id) ∧ RdKy w w.heap.size A ls
theorem lt_of_some {w : World} {b : Nat} {o : Obj} (h : w.heap[b]? = some o) : b < w.heap.size := (Array.getElem?_eq_some_iff.1 h).1
theorem MapK.ext {w w' : World} {b : Nat} {l : List Ky} (h : MapK w b l) (y : Below w.heap.size w w') : MapK w' b l := by
  obtain ⟨es, clock, he, hk⟩ := h
  exact ⟨es, clock, (y.block b (lt_of_some he)).trans he, hk⟩
theorem Sch.ext {w w' : World} {s : Nat} {l : List Ky} (h : Sch w s l) (y : Below w.heap.size w w') : Sch w' s l := by
  obtain ⟨bm, A, n, c, ls, hb, hm, hn, hp, hs, hr⟩ := h
  exact ⟨bm, A, n, c, ls, (y.block s (lt_of_some hb)).trans hb, hm.ext y, hn, hp, hs, hr.ext y⟩
theorem Sch.parts {w : World} {s : Nat} {l : List Ky} (h : Sch w s l) : ∃ bm sl, w.heap[s]? = some (.cells #[sl, .map (some bm)] 65 (0, 0)) ∧ MapK w bm l := by
  obtain ⟨bm, A, n, c, ls, hb, hm, _⟩ := h
  exact ⟨bm, _, hb, hm⟩

section
variable {ops : Array Oper} {rest : List Oper} {o : Oper} {a : Act} {Q : Exit → Act → World → Prop} {w : World}
theorem wpList_lookKy (hg : o.guard = none) (m x : Operand) (hop : o.op = Op.lookup 63 m x true) (b : Nat) (l : List Ky) (hm : a.eval m = .map (some b)) (hM : MapK w b l) (id : Int) (hx : a.eval x = .int .i64 id)
    (hK : ∀ i c n d f g q, (findK l id).getD Ky.zero = ⟨i, c, n, d, f, g⟩ → (findK l id).isSome = q → wpList Tryd.prog ops Q rest (a.put o.dst (.tuple #[.agg #[.int .i64 i, .bool c, .int .u8 n, .bool d, .bool f, .int .i64 g], .bool q])) w) : wpList Tryd.prog ops Q (o :: rest) a w := by
  refine wpList_plain hg fun K' hK' => ?_
  unfold Oper.wp
  simp [execOp, hop, hm, hx, hM.look id, Result.andThen]
  have h := hK ((findK l id).getD Ky.zero).id _ _ _ _ _ _ rfl rfl
  exact hK' _ _ h
end

/-- what Find answers -/
def FindOutK (l : List Ky) (id : Int) (w : World) (e : Ending) (w' : World) : Prop :=
  ∃ i c n d f g q, e = .returned (.tuple #[.agg #[.int .i64 i, .bool c, .int .u8 n, .bool d, .bool f, .int .i64 g], .bool q]) ∧ (findK l id).getD Ky.zero = ⟨i, c, n, d, f, g⟩ ∧ (findK l id).isSome = q ∧ Below w.heap.size w w'

set_option maxHeartbeats 1600000 in
theorem findS_any (s : Nat) (l : List Ky) (id : Int) (w : World) (h : Sch w s l) :
    Calls Tryd.prog 68 #[.pointer (some ⟨s, 0, none⟩), .int .i64 id] w (FindOutK l id w) := by
  obtain ⟨bm, sl, hb, hm⟩ := h.parts
  have y := ext_alloc w (.cells #[.int .i64 0, .bool false, .int .u8 0, .bool false, .bool false, .int .i64 0] 60)
  have hb' := (y.block s (lt_of_some hb)).trans hb
  obtain ⟨es, clock, he, hk⟩ := hm
  have hm' : MapK (w.alloc (.cells #[.int .i64 0, .bool false, .int .u8 0, .bool false, .bool false, .int .i64 0] 60)) bm l := ⟨es, clock, (y.block bm (lt_of_some he)).trans he, hk⟩
  obtain ⟨c0, c1⟩ := box_2 hb'
  have HM := Lib.hid hm'
  clear hb hb' he hk hm'
  go_enter Tryd.func68, Tryd.ntmps68
  go_wp2_with (at_lookup; refine wpList_lookKy rfl _ _ rfl bm l rfl HM.out id rfl ?_; intro i c n d f g q hq1 hq2; have HQ1 := Lib.hid hq1; have HQ2 := Lib.hid hq2; clear hq1 hq2)
  refine bodyPost_ret (v := .tuple #[.agg #[.int .i64 i, .bool c, .int .u8 n, .bool d, .bool f, .int .i64 g], .bool q]) (by simp [results, Tryd.results68, go_sem]) rfl ?_
  exact ⟨i, c, n, d, f, g, q, rfl, HQ1.out, HQ2.out, by first | exact ext_trans (ext_alloc w _) (ext_alloc _ _) | trace_state⟩

set_option maxHeartbeats 1600000 in
theorem findNil_any (id : Int) (w : World) :
    Calls Tryd.prog 68 #[.pointer none, .int .i64 id] w (FindOutK [] id w) := by
  go_enter Tryd.func68, Tryd.ntmps68
  go_wp2_with (fail)
  refine bodyPost_ret (v := .tuple #[.agg #[.int .i64 0, .bool false, .int .u8 0, .bool false, .bool false, .int .i64 0], .bool false]) (by simp [results, Tryd.results68, go_sem]) rfl ?_
  exact ⟨0, false, 0, false, false, 0, false, rfl, rfl, rfl, ext_alloc w _⟩

/-- fits: may the key with an ID have a value? -/
def fitsK (l : List Ky) (id : Int) (v : V) : Bool :=
  match findK l id with
  | none => false
  | some k => decide (k.kind = v.k) && mayV v

set_option maxHeartbeats 1600000 in
theorem fitsS_any (s : Nat) (l : List Ky) (id k n f : Int) (t : ByteArray) (w : World) (h : Sch w s l) (h0 : 0 ≤ f) (h1 : f < 18446744073709551616)
    (hT : Lib.Utf8Tabs 1 2 w) :
    Calls Tryd.prog 64 #[.pointer (some ⟨s, 0, none⟩), .int .i64 id, .agg #[.int .u8 k, .int .i64 n, .int .u64 f, .string t]] w fun e w' => e = .returned (.bool (fitsK l id ⟨k, n, f, t⟩)) ∧ Below w.heap.size w w' := by
  obtain ⟨R, hR⟩ : ∃ X, fitsK l id ⟨k, n, f, t⟩ = X := ⟨_, rfl⟩
  obtain ⟨m, hm⟩ : ∃ X, mayV ⟨k, n, f, t⟩ = X := ⟨_, rfl⟩
  rw [hR]
  unfold fitsK at hR
  rw [hm] at hR
  have HR := Lib.hid hR
  have HMV := Lib.hid hm
  have y0 := ext_alloc w (.cells #[.int .u8 k, .int .i64 n, .int .u64 f, .string t] 56)
  have hv0 := heap_alloc_new w (.cells #[.int .u8 k, .int .i64 n, .int .u64 f, .string t] 56)
  have hs0 := h.ext y0
  have hT0 := Utf8Tabs_below hT y0
  clear hR hm h
  go_enter Tryd.func64, Tryd.ntmps64
  go_wp2_with (go_at_call 68; refine Hid.out ?_)
  refine Lib.hid ?_
  have H0 := Lib.hid hv0
  clear hv0
  generalize hw0 : w.alloc _ = w0 at *
  clear hw0
  refine (findS_any s l id w0 hs0).mono ?_
  rintro e w1 ⟨i, c, kd, d, g, q, b, rfl, hk, hb, y1⟩
  have hv1 := (y1.block w.heap.size (lt_of_some H0.out)).trans H0.out
  have y1' := ext_trans y0 y1
  have y2 := ext_alloc w1 (.cells #[.int .i64 i, .bool c, .int .u8 kd, .bool d, .bool g, .int .i64 q] 60)
  have hv2 := (y2.block w.heap.size (lt_of_some hv1)).trans hv1
  have hT2 := Utf8Tabs_below hT0 (ext_trans y1 y2)
  have yy := ext_trans y1' y2
  obtain ⟨a0, a1, a2, a3⟩ := box_v hv2
  have HB := Lib.hid hb
  have HK := Lib.hid hk
  clear hv1 hv2 H0 hb hk hT hT0 hs0
  cases b with
  | false =>
    go_wp2_with (fail)
    go_ret
    refine ⟨ret_bool ?_, yy⟩
    have h := HR.out
    have hb := HB.out
    cases hq : findK l id with
    | none => rw [hq] at h; exact h
    | some k => rw [hq] at hb; simp at hb
  | true =>
    obtain ⟨K, hK⟩ : ∃ K, findK l id = some K := Option.isSome_iff_exists.1 HB.out
    have hR := HR.out
    have hk := HK.out
    rw [hK] at hR hk
    simp only [Option.getD_some] at hk
    subst hk
    simp only at hR
    have HR := Lib.hid hR
    clear hR
    by_cases hkk : kd = k
    · subst hkk
      go_wp2_with (go_at_call 63; refine Hid.out ?_)
      refine Lib.hid ?_
      refine (mayV_any kd n f t _ h0 h1 hT2).mono ?_
      rintro e w3 ⟨rfl, y3⟩
      rw [HMV.out]
      go_wp2_with (fail)
      go_ret
      refine ⟨ret_bool ?_, below_at yy y3 rfl rfl rfl rfl⟩
      rw [← HR.out]; simp
    · go_wp2_with (fail)
      go_ret
      refine ⟨ret_bool ?_, yy⟩
      rw [← HR.out]; simp [hkk]
end Go.Proofs.YtipoeidmblnbbaaDoor
/- Deltas as plain data: ops, how they lie, and the walks of what only reads their heads: size, Takes, Makes, final. -/
namespace Go.Proofs.YtipoeidmblnbbaaDoor
open Go.RowKit
set_option linter.unusedVariables false
set_option linter.unusedSimpArgs false

/-- an op: its kind, its number, its runes, its set, its patch -/
structure Opd where
  k : Int
  n : Int
  r : List Int
  s : List At
  p : List Ch
/-- an op and where its parts lie -/
structure OpS where
  o : Opd
  Ar : Option Addr
  cr : Nat
  As : Option Addr
  cs : Nat
  Ap : Option Addr
  cp : Nat
def OpS.enc (x : OpS) : List Value := [.int .u8 x.o.k, .int .i64 x.o.n, .slice x.Ar x.o.r.length x.cr, .slice x.As x.o.s.length x.cs, .slice x.Ap x.o.p.length x.cp]
theorem OpS.enc_len (x : OpS) : x.enc.length = 5 := rfl
abbrev RdOs := @Rd OpS OpS.enc 5
/-- the parts of ops read so -/
def Sub (w : World) (B : Nat) (l : List OpS) : Prop := ∀ x ∈ l, RdI32 w B x.Ar x.o.r ∧ RdAt w B x.As x.o.s ∧ RdCh w B x.Ap x.o.p
/-- the slice at A reads as the delta l -/
def RdOp (w : World) (B : Nat) (A : Option Addr) (l : List OpS) : Prop := RdOs w B A l ∧ Sub w B l
theorem Sub.ext {w w' : World} {l : List OpS} (h : Sub w w.heap.size l) (y : Below w.heap.size w w') : Sub w' w'.heap.size l := fun x hx => ⟨(h x hx).1.ext y, (h x hx).2.1.ext y, (h x hx).2.2.ext y⟩
theorem RdOp.ext {w w' : World} {A : Option Addr} {l : List OpS} (h : RdOp w w.heap.size A l) (y : Below w.heap.size w w') : RdOp w' w'.heap.size A l := ⟨h.1.ext y, h.2.ext y⟩
theorem op_cells {w : World} {p : Addr} {k n : Int} {r s q : Value} (h : CellsAt w p [.int .u8 k, .int .i64 n, r, s, q]) :
    w.cell? p = some (.int .u8 k) ∧ w.cell? { block := p.block, off := p.off + 1 } = some (.int .i64 n) ∧ w.cell? { block := p.block, off := p.off + 2 } = some r ∧ w.cell? { block := p.block, off := p.off + 3 } = some s ∧ w.cell? { block := p.block, off := p.off + 4 } = some q := by
  have h0 := h 0 _ rfl
  rw [add_zero'] at h0
  exact ⟨h0, cellsAt_lit h 0 rfl, cellsAt_lit h 1 rfl, cellsAt_lit h 2 rfl, cellsAt_lit h 3 rfl⟩

/-- an op's length -/
def sizeO (o : Opd) : Int := if o.k = 2 then o.r.length else o.n
def wr64 (x : Int) : Int := IntKind.i64.wrap x
def takeStep (a : Int) (x : OpS) : Int := if x.o.k = 2 then a else IntKind.i64.wrap (a + x.o.n)
def makeStep (a : Int) (x : OpS) : Int := if x.o.k = 3 then a else IntKind.i64.wrap (a + sizeO x.o)
def takesP (l : List OpS) : Int := l.foldl takeStep 0
def makesP (l : List OpS) : Int := l.foldl makeStep 0

set_option maxHeartbeats 800000 in
theorem sizeO_any (k n : Int) (Ar As Ap : Option Addr) (r s p cr cs cp : Nat) (w : World) :
    Calls Tryd.prog 109 #[.agg #[.int .u8 k, .int .i64 n, .slice Ar r cr, .slice As s cs, .slice Ap p cp]] w fun e w' => e = .returned (.int .i64 (if k = 2 then (r : Int) else n)) ∧ Below w.heap.size w w' := by
  by_cases hk : k = 2
  · subst hk
    go_enter Tryd.func109, Tryd.ntmps109
    go_wp2_with (fail)
    go_ret
    exact ⟨by simp, ext_alloc w _⟩
  · have hb : (k == 2) = false := beq_eq_false_iff_ne.2 hk
    have HK := Lib.hid hk
    clear hk
    go_enter Tryd.func109, Tryd.ntmps109
    go_wp2_with (fail)
    go_ret
    exact ⟨by first | rfl | simp [HK.out], ext_alloc w _⟩

theorem fold_drop {f : Int → OpS → Int} {l : List OpS} {m : Nat} {x : OpS} {a R : Int} (hd : l.drop m = x :: l.drop (m + 1)) (h : (l.drop m).foldl f a = R) : (l.drop (m + 1)).foldl f (f a x) = R := by
  rw [hd] at h; exact h

set_option maxRecDepth 100000 in
set_option maxHeartbeats 800000 in
theorem takes_any (A : Option Addr) (n c : Nat) (l : List OpS) (w : World) (hn : n = l.length) (h : RdOs w w.heap.size A l) (hb : n ≤ 140737488355328) :
    Calls Tryd.prog 81 #[.slice A n c] w fun e w' => e = .returned (.int .i64 (takesP l)) ∧ Below w.heap.size w w' := by
  have N := Lib.hid hn
  generalize hR : takesP l = R
  have HR := Lib.hid hR
  clear hn hR
  go_enter Tryd.func81, Tryd.ntmps81
  go_wp2_with (fail)
  go_loopg [3, 8] n (fun g av iv wr => ∃ (m : Nat) (a : Int), m ≤ n ∧ g = n - m ∧ av = .int .i64 a ∧ iv = .int .i64 (m : Int) ∧ Below w.heap.size w wr ∧ Hid ((l.drop m).foldl takeStep a = R))
  case atStart => exact ⟨0, 0, by omega, rfl, rfl, rfl, Below.refl _ _, Lib.hid (by rw [List.drop_zero]; exact HR.out)⟩
  case round =>
    obtain ⟨m, a, hm, hg, rfl, rfl, y, HI⟩ := hrel
    have HG := Lib.hid hg
    clear hg HR
    by_cases hlt : m < n
    · have hl1 : m < l.length := by have := N.out; omega
      obtain ⟨ad, x, rfl, had, hd1, _, hc0⟩ := (h.below y (Nat.le_refl _)).el hl1
      have HI2 := Lib.hid (fold_drop hd1 HI.out)
      obtain ⟨⟨k, nn, r, s, p⟩, Ar, cr, As, cs, Ap, cp⟩ := x
      obtain ⟨r0, r1, r2, r3, r4⟩ := op_cells hc0
      clear hc0 hd1 HI
      have y2 := ext_trans y (ext_alloc wr (.cells #[.int .u8 k, .int .i64 nn, .slice Ar r.length cr, .slice As s.length cs, .slice Ap p.length cp] 45))
      have hw2 : IntKind.i64.wrap ((m:Int) + 1) = (m : Int) + 1 := IntWalk.i64_in _ (by omega)
      by_cases hk : k = 2
      · subst hk
        go_wp2_with (fail)
        go_roundg (n - (m + 1))
        case measure => have := HG.out; omega
        case rel => exact ⟨m + 1, a, by omega, rfl, rfl, by go_num, y2, Lib.hid (by rw [← HI2.out]; simp [takeStep])⟩
      · have hb : (k == 2) = false := beq_eq_false_iff_ne.2 hk
        have HK := Lib.hid hk
        obtain ⟨W, hW⟩ : ∃ W, IntKind.i64.wrap (a + nn) = W := ⟨_, rfl⟩
        clear hk
        go_wp2_with (fail)
        go_roundg (n - (m + 1))
        case measure => have := HG.out; omega
        case rel => exact ⟨m + 1, W, by omega, rfl, by first | rfl | (rw [← hW]; rfl) | trace_state, by go_num, y2, Lib.hid (by rw [← HI2.out]; simp only [takeStep]; rw [if_neg HK.out, hW])⟩
    · go_wp2_with (fail)
      go_ret
      refine ⟨ret_int ?_, y⟩
      rw [← HI.out, List.drop_eq_nil_of_le (by have := N.out; omega)]
      rfl
set_option maxRecDepth 100000 in
set_option maxHeartbeats 800000 in
theorem makes_any (A : Option Addr) (n c : Nat) (l : List OpS) (w : World) (hn : n = l.length) (h : RdOs w w.heap.size A l) (hb : n ≤ 140737488355328) :
    Calls Tryd.prog 82 #[.slice A n c] w fun e w' => e = .returned (.int .i64 (makesP l)) ∧ Below w.heap.size w w' := by
  have N := Lib.hid hn
  generalize hR : makesP l = R
  have HR := Lib.hid hR
  clear hn hR
  go_enter Tryd.func82, Tryd.ntmps82
  go_wp2_with (fail)
  go_loopg [3, 8] n (fun g av iv wr => ∃ (m : Nat) (a : Int), m ≤ n ∧ g = n - m ∧ av = .int .i64 a ∧ iv = .int .i64 (m : Int) ∧ Below w.heap.size w wr ∧ Hid ((l.drop m).foldl makeStep a = R))
  case atStart => exact ⟨0, 0, by omega, rfl, rfl, rfl, Below.refl _ _, Lib.hid (by rw [List.drop_zero]; exact HR.out)⟩
  case round =>
    obtain ⟨m, a, hm, hg, rfl, rfl, y, HI⟩ := hrel
    have HG := Lib.hid hg
    clear hg HR
    by_cases hlt : m < n
    · have hl1 : m < l.length := by have := N.out; omega
      obtain ⟨ad, x, rfl, had, hd1, _, hc0⟩ := (h.below y (Nat.le_refl _)).el hl1
      have HI2 := Lib.hid (fold_drop hd1 HI.out)
      obtain ⟨⟨k, nn, r, s, p⟩, Ar, cr, As, cs, Ap, cp⟩ := x
      obtain ⟨r0, r1, r2, r3, r4⟩ := op_cells hc0
      clear hc0 hd1 HI
      have y2 := ext_trans y (ext_alloc wr (.cells #[.int .u8 k, .int .i64 nn, .slice Ar r.length cr, .slice As s.length cs, .slice Ap p.length cp] 45))
      have hw2 : IntKind.i64.wrap ((m:Int) + 1) = (m : Int) + 1 := IntWalk.i64_in _ (by omega)
      have hbx := heap_alloc_new wr (.cells #[.int .u8 k, .int .i64 nn, .slice Ar r.length cr, .slice As s.length cs, .slice Ap p.length cp] 45)
      by_cases hk : k = 3
      · subst hk
        go_wp2_with (fail)
        go_roundg (n - (m + 1))
        case measure => have := HG.out; omega
        case rel => exact ⟨m + 1, a, by omega, rfl, rfl, by go_num, y2, Lib.hid (by rw [← HI2.out]; simp [makeStep])⟩
      · have hb : (k == 3) = false := beq_eq_false_iff_ne.2 hk
        have HK := Lib.hid hk
        clear hk
        go_wp2_with (go_at_call 109; refine Hid.out ?_)
        refine Lib.hid ?_
        refine (sizeO_any k nn Ar As Ap r.length s.length p.length cr cs cp _).mono ?_
        rintro e w3 ⟨rfl, y3⟩
        have y4 := ext_trans y2 y3
        obtain ⟨Z, hZ⟩ : ∃ Z : Int, (if k = 2 then (r.length : Int) else nn) = Z := ⟨_, rfl⟩
        rw [hZ]
        have HZ : Hid (sizeO ⟨k, nn, r, s, p⟩ = Z) := Lib.hid hZ
        clear hZ
        obtain ⟨W, hW⟩ : ∃ W, IntKind.i64.wrap (a + Z) = W := ⟨_, rfl⟩
        go_wp2_with (fail)
        go_roundg (n - (m + 1))
        case measure => have := HG.out; omega
        case rel => exact ⟨m + 1, W, by omega, rfl, by first | rfl | (rw [← hW]; rfl), by go_num, y4, Lib.hid (by rw [← HI2.out]; simp only [makeStep]; rw [if_neg HK.out, HZ.out, hW])⟩
    · go_wp2_with (fail)
      go_ret
      refine ⟨ret_int ?_, y⟩
      rw [← HI.out, List.drop_eq_nil_of_le (by have := N.out; omega)]
      rfl
/-- does a delta leave the last of n cells the last one? -/
def finalStep (n : Int) (st : Bool × Int) (x : OpS) : Bool × Int :=
  if st.1 = false then st else
  if x.o.k = 2 then (decide (¬ st.2 = n), st.2) else
  if x.o.k = 3 ∧ IntKind.i64.wrap (st.2 + x.o.n) = n then (false, st.2) else (true, IntKind.i64.wrap (st.2 + x.o.n))
def finalP (n : Int) (l : List OpS) : Bool := (l.foldl (finalStep n) (true, 0)).1
theorem final_false (n : Int) (a : Int) : ∀ l : List OpS, (l.foldl (finalStep n) (false, a)) = (false, a)
  | [] => rfl
  | x :: l => by rw [List.foldl_cons]; unfold finalStep; simp only [if_true]; exact final_false n a l
theorem fin_drop {n : Int} {l : List OpS} {m : Nat} {x : OpS} {a : Int} {R : Bool} (hd : l.drop m = x :: l.drop (m + 1)) (h : ((l.drop m).foldl (finalStep n) (true, a)).1 = R) : ((l.drop (m + 1)).foldl (finalStep n) (finalStep n (true, a) x)).1 = R := by
  rw [hd] at h; exact h
set_option maxRecDepth 100000 in
set_option maxHeartbeats 1600000 in
theorem final_any (A : Option Addr) (n c : Nat) (l : List OpS) (lim : Int) (w : World) (hn : n = l.length) (h : RdOs w w.heap.size A l) (hb : n ≤ 140737488355328) :
    Calls Tryd.prog 83 #[.slice A n c, .int .i64 lim] w fun e w' => e = .returned (.bool (finalP lim l)) ∧ Below w.heap.size w w' := by
  have N := Lib.hid hn
  generalize hR : finalP lim l = R
  have HR := Lib.hid hR
  clear hn hR
  go_enter Tryd.func83, Tryd.ntmps83
  go_wp2
  go_step3
  go_wp2
  go_step3
  go_wp2
  go_loopg [5, 10] n (fun g av iv wr => ∃ (m : Nat) (a : Int), m ≤ n ∧ g = n - m ∧ av = .int .i64 a ∧ iv = .int .i64 (m : Int) ∧ Below w.heap.size w wr ∧ Hid (((l.drop m).foldl (finalStep lim) (true, a)).1 = R))
  case atStart => exact ⟨0, 0, by omega, rfl, rfl, rfl, Below.refl _ _, Lib.hid (by rw [List.drop_zero]; exact HR.out)⟩
  case round =>
    obtain ⟨m, a, hm, hg, rfl, rfl, y, HI⟩ := hrel
    have HG := Lib.hid hg
    clear hg HR
    by_cases hlt : m < n
    · have hl1 : m < l.length := by have := N.out; omega
      obtain ⟨ad, x, rfl, had, hd1, _, hc0⟩ := (h.below y (Nat.le_refl _)).el hl1
      have HI2 := Lib.hid (fin_drop hd1 HI.out)
      obtain ⟨⟨k, nn, r, s, p⟩, Ar, cr, As, cs, Ap, cp⟩ := x
      obtain ⟨r0, r1, r2, r3, r4⟩ := op_cells hc0
      clear hc0 hd1 HI
      have y2 := ext_trans y (ext_alloc wr (.cells #[.int .u8 k, .int .i64 nn, .slice Ar r.length cr, .slice As s.length cs, .slice Ap p.length cp] 45))
      have hw2 : IntKind.i64.wrap ((m:Int) + 1) = (m : Int) + 1 := IntWalk.i64_in _ (by omega)
      obtain ⟨W, hW⟩ : ∃ W, IntKind.i64.wrap (a + nn) = W := ⟨_, rfl⟩
      have HW := Lib.hid hW
      by_cases hk : k = 2
      · subst hk
        by_cases ha : a = lim
        · subst ha
          go_wp2_with (fail)
          go_ret
          refine ⟨ret_bool ?_, y2⟩
          rw [← HI2.out]
          simp [finalStep, final_false]
        · have hb2 : (a == lim) = false := beq_eq_false_iff_ne.2 ha
          have HA := Lib.hid ha
          clear ha
          go_wp2_with (fail)
          go_roundg (n - (m + 1))
          case measure => have := HG.out; omega
          case rel => exact ⟨m + 1, a, by omega, rfl, rfl, by go_num, y2, Lib.hid (by rw [← HI2.out]; simp [finalStep, HA.out])⟩
      · have hb : (k == 2) = false := beq_eq_false_iff_ne.2 hk
        have HK := Lib.hid hk
        clear hk
        by_cases hk3 : k = 3
        · subst hk3
          by_cases ha : W = lim
          · subst ha
            go_wp2_with (fail)
            go_ret
            refine ⟨ret_bool ?_, y2⟩
            rw [← HI2.out]
            simp [finalStep, final_false, HW.out]
          · have hb2 : (W == lim) = false := beq_eq_false_iff_ne.2 ha
            have HA := Lib.hid ha
            clear ha
            go_wp2_with (fail)
            go_roundg (n - (m + 1))
            case measure => have := HG.out; omega
            case rel => exact ⟨m + 1, W, by omega, rfl, by first | rfl | (rw [← HW.out]; rfl), by go_num, y2, Lib.hid (by rw [← HI2.out]; simp [finalStep, HW.out, HA.out])⟩
        · have hb3 : (k == 3) = false := beq_eq_false_iff_ne.2 hk3
          have HK3 := Lib.hid hk3
          clear hk3
          go_wp2_with (fail)
          go_roundg (n - (m + 1))
          case measure => have := HG.out; omega
          case rel => exact ⟨m + 1, W, by omega, rfl, by first | rfl | (rw [← HW.out]; rfl), by go_num, y2, Lib.hid (by rw [← HI2.out]; simp [finalStep, HW.out, HK.out, HK3.out])⟩
    · go_wp2_with (fail)
      unfold Exit.noGoto
      go_ret
      refine ⟨ret_bool ?_, y⟩
      rw [← HI.out, List.drop_eq_nil_of_le (by have := N.out; omega)]
      rfl
end Go.Proofs.YtipoeidmblnbbaaDoor
/- Documents as plain data: cells, and how they lie. -/
namespace Go.Proofs.YtipoeidmblnbbaaDoor
open Go.RowKit
set_option linter.unusedVariables false
set_option linter.unusedSimpArgs false

def osOf (x : List OpS) : List Opd := x.map (·.o)
/-- a cell: its rune, its set -/
structure Cl where
  r : Int
  s : List At
deriving DecidableEq
/-- a cell and where its set lies -/
structure ClS where
  c : Cl
  As : Option Addr
  cs : Nat
def ClS.enc (x : ClS) : List Value := [.int .i32 x.c.r, .slice x.As x.c.s.length x.cs]
theorem ClS.enc_len (x : ClS) : x.enc.length = 2 := rfl
theorem ClS.enc_one (x : ClS) : ∀ u ∈ x.enc, u.oneCell' = true := by intro u hu; simp [ClS.enc] at hu; rcases hu with rfl | rfl <;> rfl
abbrev RdCs := @Rd ClS ClS.enc 2
/-- the sets of cells read so -/
def SubC (w : World) (B : Nat) (l : List ClS) : Prop := ∀ x ∈ l, RdAt w B x.As x.c.s
/-- the slice at A reads as the cells l -/
def RdCl (w : World) (B : Nat) (A : Option Addr) (l : List ClS) : Prop := RdCs w B A l ∧ SubC w B l
theorem SubC.ext {w w' : World} {l : List ClS} (h : SubC w w.heap.size l) (y : Below w.heap.size w w') : SubC w' w'.heap.size l := fun x hx => (h x hx).ext y
theorem RdCl.ext {w w' : World} {A : Option Addr} {l : List ClS} (h : RdCl w w.heap.size A l) (y : Below w.heap.size w w') : RdCl w' w'.heap.size A l := ⟨h.1.ext y, h.2.ext y⟩
theorem cl_cells {w : World} {p : Addr} {r s : Value} (h : CellsAt w p [r, s]) : w.cell? p = some r ∧ w.cell? { block := p.block, off := p.off + 1 } = some s := by
  have h0 := h 0 _ rfl
  rw [add_zero'] at h0
  exact ⟨h0, cellsAt_lit h 0 rfl⟩
theorem box_cl {w : World} {b : Nat} {t : TypeId} {c0 c1 : Value} (h : w.heap[b]? = some (.cells #[c0, c1] t (0, 0))) : w.cell? ⟨b, 0, none⟩ = some c0 ∧ w.cell? ⟨b, 1, none⟩ = some c1 := by
  simp [World.cell?, h]
end Go.Proofs.YtipoeidmblnbbaaDoor
/- The patch layer as plain functions on lists. -/
namespace Go.Proofs.YtipoeidmblnbbaaDoor

def put1 (c : Ch) : List At := if c.gone then [] else [⟨c.key, c.v⟩]
def drop1 (k : Int) : List At → List At
  | [] => []
  | a :: s => if a.key = k then s else a :: s
def applyP : List Ch → List At → List At
  | [], s => s
  | c :: p, s => s.takeWhile (fun a => decide (a.key < c.key)) ++ (put1 c ++ applyP p (drop1 c.key (s.dropWhile (fun a => decide (a.key < c.key)))))
/-- what is left to do at a change -/
def applyAt (c : Ch) (p : List Ch) (s : List At) : List At :=
  s.takeWhile (fun a => decide (a.key < c.key)) ++ (put1 c ++ applyP p (drop1 c.key (s.dropWhile (fun a => decide (a.key < c.key)))))

theorem applyP_cons (c : Ch) (p : List Ch) (s : List At) : applyP (c :: p) s = applyAt c p s := rfl
theorem applyAt_less (c : Ch) (p : List Ch) (a : At) (s : List At) (h : a.key < c.key) : applyAt c p (a :: s) = a :: applyAt c p s := by
  simp [applyAt, h]
theorem applyAt_eq (c : Ch) (p : List Ch) (a : At) (s : List At) (h : a.key = c.key) : applyAt c p (a :: s) = put1 c ++ applyP p s := by
  simp [applyAt, h, drop1]
theorem applyAt_more (c : Ch) (p : List Ch) (a : At) (s : List At) (h : c.key < a.key) : applyAt c p (a :: s) = put1 c ++ applyP p (a :: s) := by
  have h1 : ¬ a.key < c.key := by omega
  have h2 : ¬ a.key = c.key := by omega
  simp [applyAt, h1, h2, drop1]
theorem applyAt_nil (c : Ch) (p : List Ch) : applyAt c p [] = put1 c ++ applyP p [] := by
  simp [applyAt, drop1]
theorem put1_gone (c : Ch) (h : c.gone = true) : put1 c = [] := by simp [put1, h]
theorem put1_set (c : Ch) (h : c.gone = false) : put1 c = [⟨c.key, c.v⟩] := by simp [put1, h]

def chg (a : At) : Ch := ⟨a.key, false, a.v⟩
def goneC (a : At) : Ch := ⟨a.key, true, V.zero⟩
def diffMid (rest : List At → List Ch) (x : At) : List At → List Ch
  | [] => chg x :: rest []
  | y :: t => if y.key = x.key then (if y.v = x.v then rest t else chg x :: rest t) else chg x :: rest (y :: t)
def diffP : List At → List At → List Ch
  | a, [] => a.map goneC
  | a, x :: b => (a.takeWhile (fun y => decide (y.key < x.key))).map goneC ++ diffMid (fun r => diffP r b) x (a.dropWhile (fun y => decide (y.key < x.key)))
/-- what is left to do at an attribute of the second set -/
def diffAt (a : List At) (x : At) (b : List At) : List Ch :=
  (a.takeWhile (fun y => decide (y.key < x.key))).map goneC ++ diffMid (fun r => diffP r b) x (a.dropWhile (fun y => decide (y.key < x.key)))
theorem diffP_cons (a : List At) (x : At) (b : List At) : diffP a (x :: b) = diffAt a x b := by simp [diffP, diffAt]
theorem diffP_nil (a : List At) : diffP a [] = a.map goneC := by simp [diffP]
theorem diffAt_less (y : At) (a : List At) (x : At) (b : List At) (h : y.key < x.key) : diffAt (y :: a) x b = goneC y :: diffAt a x b := by simp [diffAt, h]
theorem diffAt_same (y : At) (a : List At) (x : At) (b : List At) (h : y.key = x.key) (hv : y.v = x.v) : diffAt (y :: a) x b = diffP a b := by
  have : ¬ y.key < x.key := by omega
  simp [diffAt, diffMid, h, hv]
theorem diffAt_other (y : At) (a : List At) (x : At) (b : List At) (h : y.key = x.key) (hv : ¬ y.v = x.v) : diffAt (y :: a) x b = chg x :: diffP a b := by
  have : ¬ y.key < x.key := by omega
  simp [diffAt, diffMid, h, hv]
theorem diffAt_more (y : At) (a : List At) (x : At) (b : List At) (h : x.key < y.key) : diffAt (y :: a) x b = chg x :: diffP (y :: a) b := by
  have h1 : ¬ y.key < x.key := by omega
  have h2 : ¬ y.key = x.key := by omega
  simp [diffAt, diffMid, h1, h2]
theorem diffAt_nil (x : At) (b : List At) : diffAt [] x b = chg x :: diffP [] b := by simp [diffAt, diffMid]

def composeP : List Ch → List Ch → List Ch
  | p, [] => p
  | p, c :: q => (p.takeWhile (fun a => decide (a.key ≤ c.key))).filter (fun a => decide (a.key < c.key)) ++ c :: composeP (p.dropWhile (fun a => decide (a.key ≤ c.key))) q
def composeAt (p : List Ch) (c : Ch) (q : List Ch) : List Ch :=
  (p.takeWhile (fun a => decide (a.key ≤ c.key))).filter (fun a => decide (a.key < c.key)) ++ c :: composeP (p.dropWhile (fun a => decide (a.key ≤ c.key))) q
theorem composeP_cons (p : List Ch) (c : Ch) (q : List Ch) : composeP p (c :: q) = composeAt p c q := by simp [composeP, composeAt]
theorem composeP_nil (p : List Ch) : composeP p [] = p := by simp [composeP]
theorem composeAt_less (a : Ch) (p : List Ch) (c : Ch) (q : List Ch) (h : a.key < c.key) : composeAt (a :: p) c q = a :: composeAt p c q := by
  have : a.key ≤ c.key := by omega
  simp [composeAt, h, this]
theorem composeAt_eq (a : Ch) (p : List Ch) (c : Ch) (q : List Ch) (h : a.key = c.key) : composeAt (a :: p) c q = composeAt p c q := by
  simp [composeAt, h]
theorem composeAt_more (a : Ch) (p : List Ch) (c : Ch) (q : List Ch) (h : c.key < a.key) : composeAt (a :: p) c q = c :: composeP (a :: p) q := by
  have : ¬ a.key ≤ c.key := by omega
  simp [composeAt, this]
theorem composeAt_nil (c : Ch) (q : List Ch) : composeAt [] c q = c :: composeP [] q := by simp [composeAt]

def getA (l : List At) (key : Int) : Option V := (l.find? (fun a => decide (a.key = key))).map (·.v)
def inv1 (set : List At) (c : Ch) : List Ch :=
  match getA set c.key with
  | some v => if c.gone = true ∨ ¬ v = c.v then [⟨c.key, false, v⟩] else []
  | none => if c.gone = true then [] else [⟨c.key, true, V.zero⟩]
def invertP (set : List At) (p : List Ch) : List Ch := p.flatMap (inv1 set)
end Go.Proofs.YtipoeidmblnbbaaDoor
/- The walk of patch.Apply: it returns, in new memory, what applyP computes. -/
namespace Go.Proofs.YtipoeidmblnbbaaDoor
open Go.RowKit
set_option linter.unusedVariables false
set_option linter.unusedSimpArgs false

/-- what a call hands back that makes a list in new memory -/
def NewAt (r : List At) (w : World) (e : Ending) (w' : World) : Prop :=
  ∃ A c, e = .returned (.slice A r.length c) ∧ OwAt w' w.heap.size (.slice A r.length c) r ∧ Below w.heap.size w w'
def NewCh (r : List Ch) (w : World) (e : Ending) (w' : World) : Prop :=
  ∃ A c, e = .returned (.slice A r.length c) ∧ OwCh w' w.heap.size (.slice A r.length c) r ∧ Below w.heap.size w w'

set_option maxRecDepth 100000 in
set_option maxHeartbeats 400000 in
theorem apply_any (A1 A2 : Option Addr) (n1 n2 c1 c2 : Nat) (set : List At) (p : List Ch) (w : World)
    (hn1 : n1 = set.length) (hn2 : n2 = p.length) (h1 : RdAt w w.heap.size A1 set) (h2 : RdCh w w.heap.size A2 p)
    (hb1 : n1 ≤ 100000000) (hb2 : n2 ≤ 100000000) (hc1 : n1 ≤ c1) (hcm : c1 ≤ maxLen) :
    Calls Tryd.prog 112 #[.slice A1 n1 c1, .slice A2 n2 c2] w (NewAt (applyP p set) w) := by
  unfold maxLen at hcm
  have N1 := Lib.hid hn1
  have N2 := Lib.hid hn2
  generalize hR : applyP p set = R
  have HR := Lib.hid hR
  clear hn1 hn2 hR
  go_enter Tryd.func112, Tryd.ntmps112
  go_wp2
  go_step3
  go_wp2
  go_step3
  go_wp2
  go_loopg [5, 6, 11] n2 (fun g ov iv kv wr => ∃ (k i : Nat) (o : List At), k ≤ n2 ∧ i ≤ n1 ∧ g = n2 - k ∧ iv = .int .i64 i ∧ kv = .int .i64 k ∧ OwAt wr w.heap.size ov o ∧ o.length ≤ i + k ∧
    Below w.heap.size w wr ∧ Hid (o ++ applyP (p.drop k) (set.drop i) = R))
  case atStart => exact ⟨0, 0, [], by omega, by omega, rfl, rfl, rfl, Ow.nil _ _, by simp, Below.refl _ _, Lib.hid (by simpa using HR.out)⟩
  case round =>
    obtain ⟨k, i, o, hk, hi, hg, rfl, rfl, hown, hol, hbw, HI⟩ := hrel
    have HG := Lib.hid hg
    clear hg HR
    by_cases hlt : k < n2
    · have hkp : k < p.length := by have := N2.out; omega
      obtain ⟨ad2, c, rfl, _, hd2, _, hc2⟩ := (h2.below hbw (Nat.le_refl _)).el hkp
      have HI' : Hid (o ++ applyAt c (p.drop (k+1)) (set.drop i) = R) := Lib.hid (by rw [← HI.out, hd2]; rfl)
      clear HI hkp hd2
      obtain ⟨ck, cg, va, vn, vf, vs⟩ := c
      obtain ⟨q0, q1, q2, q3, q4, q5⟩ := ch_cells hc2
      clear hc2
      go_wp2_with (fail)
      obtain ⟨wo, rfl⟩ : ∃ wo : World, wo = wr := ⟨_, rfl⟩
      go_loopg [5, 6] (n1 - i) (fun g ov iv wi => ∃ (i : Nat) (o : List At), i ≤ n1 ∧ g = n1 - i ∧ iv = .int .i64 i ∧ OwAt wi w.heap.size ov o ∧ o.length ≤ i + k ∧
        Below w.heap.size w wi ∧ wi.heap[wo.heap.size]? = some (.cells #[.int .i64 ck, .bool cg, .int .u8 va, .int .i64 vn, .int .u64 vf, .string vs] 111 (0, 0)) ∧ wb ov ≠ some wo.heap.size ∧
        Hid (o ++ applyAt ⟨ck, cg, ⟨va, vn, vf, vs⟩⟩ (p.drop (k+1)) (set.drop i) = R))
      case atStart =>
        refine ⟨i, o, hi, rfl, rfl, hown.alloc _, hol, hbw.alloc hbw.size _, heap_alloc_new _ _, fun e => ?_, HI'⟩
        have := (hown.wb_lt _ e).2; omega
      case round =>
        clear q0 q1 q2 q3 q4 q5 hi hown hol hbw HI'
        obtain ⟨i, o, hi, hg, rfl, hown, hol, hbw, hbx, hwb, HI⟩ := hrel
        have HG2 := Lib.hid hg
        clear hg
        obtain ⟨b0, b1, b2, b3, b4, b5⟩ := box_ch hbx
        have HBX := Lib.hid hbx
        have HWB := Lib.hid hwb
        clear hbx hwb
        by_cases hil : i < n1
        · have hip : i < set.length := by have := N1.out; omega
          obtain ⟨ad1, a, rfl, _, hd1, _, hc1⟩ := (h1.below hbw (Nat.le_refl _)).el hip
          obtain ⟨ek, ea, en, ef, es⟩ := a
          obtain ⟨r0, r1, r2, r3, r4⟩ := at_cells hc1
          by_cases hak : ek < ck
          · go_wp2_with (first
              | go_quiet (fail)
              | (at_builtin; refine app_at (m := [⟨ek, ⟨ea, en, ef, es⟩⟩]) rfl (.tmp 30) (.tmp 35) rfl rfl (by first | exact (hown.drewN _).alloc _ | exact hown.alloc _) _ _ 1 1 rfl rfl (by exact rd_one _ _ _ rfl) (by simp only [List.length_singleton]; omega) (by have := hbw.size; simp; omega) ?_; intro v' w' hown' hgr hv'))
            obtain ⟨s1, s2, s3⟩ := app_step hown hbw (Nat.le_refl _) hgr hv'
            go_roundg (n1 - (i + 1))
            case measure => have := HG2.out; omega
            case rel =>
              exact ⟨i + 1, o ++ [⟨ek, ⟨ea, en, ef, es⟩⟩], by omega, rfl, by go_num, hown', by simp; omega, s1, s2 _ _ HBX.out HWB.out, s3 _ (blk_lt HBX.out) HWB.out,
                Lib.hid (by rw [← HI.out, hd1, applyAt_less _ _ _ _ hak, List.append_assoc]; rfl)⟩
          · by_cases hek : ek = ck
            · subst hek
              cases cg
              · go_wp2_with (first
                  | go_quiet (fail)
                  | (at_builtin; refine app_at (m := [⟨ek, ⟨va, vn, vf, vs⟩⟩]) rfl (.tmp 51) (.tmp 57) rfl rfl (by first | exact (hown.drewN _).alloc _ | exact hown.alloc _) _ _ 1 1 rfl rfl (by exact rd_one _ _ _ rfl) (by simp only [List.length_singleton]; omega) (by have := hbw.size; simp; omega) ?_; intro v' w' hown' hgr hv'))
                obtain ⟨s1, s2, s3⟩ := app_step hown hbw (Nat.le_refl _) hgr hv'
                go_roundg (n2 - (k + 1))
                case measure => have := HG.out; omega
                case rel =>
                  exact ⟨k + 1, i + 1, o ++ [⟨ek, ⟨va, vn, vf, vs⟩⟩], by omega, by omega, rfl, by go_num, by go_num, hown', by simp; omega, s1,
                    Lib.hid (by rw [← HI.out, hd1, applyAt_eq _ _ _ _ rfl, List.append_assoc]; rfl)⟩
              · go_wp2_with (go_quiet (fail))
                go_roundg (n2 - (k + 1))
                case measure => have := HG.out; omega
                case rel =>
                  exact ⟨k + 1, i + 1, o, by omega, by omega, rfl, by go_num, by go_num, hown, by omega, below_drewN hbw _,
                    Lib.hid (by rw [← HI.out, hd1, applyAt_eq _ _ _ _ rfl]; rfl)⟩
            · have hek' : (ek == ck) = false := beq_eq_false_iff_ne.2 hek
              cases cg
              · go_wp2_with (first
                  | go_quiet (fail)
                  | (at_builtin; refine app_at (m := [⟨ck, ⟨va, vn, vf, vs⟩⟩]) rfl (.tmp 51) (.tmp 57) rfl rfl (by first | exact (hown.drewN _).alloc _ | exact hown.alloc _) _ _ 1 1 rfl rfl (by exact rd_one _ _ _ rfl) (by simp only [List.length_singleton]; omega) (by have := hbw.size; simp; omega) ?_; intro v' w' hown' hgr hv'))
                obtain ⟨s1, s2, s3⟩ := app_step hown hbw (Nat.le_refl _) hgr hv'
                go_roundg (n2 - (k + 1))
                case measure => have := HG.out; omega
                case rel =>
                  exact ⟨k + 1, i, o ++ [⟨ck, ⟨va, vn, vf, vs⟩⟩], by omega, by omega, rfl, rfl, by go_num, hown', by simp; omega, s1,
                    Lib.hid (by rw [← HI.out, hd1, applyAt_more _ _ _ _ (by show ck < ek; omega), List.append_assoc]; rfl)⟩
              · go_wp2_with (go_quiet (fail))
                go_roundg (n2 - (k + 1))
                case measure => have := HG.out; omega
                case rel =>
                  exact ⟨k + 1, i, o, by omega, by omega, rfl, rfl, by go_num, hown, by omega, below_drewN hbw _,
                    Lib.hid (by rw [← HI.out, hd1, applyAt_more _ _ _ _ (by show ck < ek; omega)]; rfl)⟩
        · have hd1 : set.drop i = [] := List.drop_eq_nil_of_le (by have := N1.out; omega)
          have HD1 := Lib.hid hd1
          clear hd1
          cases cg
          · go_wp2_with (first
              | go_quiet (fail)
              | (at_builtin; refine app_at (m := [⟨ck, ⟨va, vn, vf, vs⟩⟩]) rfl (.tmp 62) (.tmp 68) rfl rfl (by first | exact (hown.drewN _).alloc _ | exact hown.alloc _) _ _ 1 1 rfl rfl (by exact rd_one _ _ _ rfl) (by simp only [List.length_singleton]; omega) (by have := hbw.size; simp; omega) ?_; intro v' w' hown' hgr hv'))
            obtain ⟨s1, s2, s3⟩ := app_step (nq := 0) hown hbw (Nat.le_refl _) hgr hv'
            go_roundg (n2 - (k + 1))
            case measure => have := HG.out; omega
            case rel =>
              exact ⟨k + 1, i, o ++ [⟨ck, ⟨va, vn, vf, vs⟩⟩], by omega, by omega, rfl, rfl, by go_num, hown', by simp; omega, s1,
                Lib.hid (by rw [← HI.out, HD1.out, applyAt_nil, List.append_assoc]; rfl)⟩
          · go_wp2_with (go_quiet (fail))
            go_roundg (n2 - (k + 1))
            case measure => have := HG.out; omega
            case rel =>
              exact ⟨k + 1, i, o, by omega, by omega, rfl, rfl, by go_num, hown, by omega, hbw,
                Lib.hid (by rw [← HI.out, HD1.out, applyAt_nil]; rfl)⟩
    · have hkn : k = n2 := by omega
      have hdp : p.drop k = [] := List.drop_eq_nil_of_le (by have := N2.out; omega)
      have HDP := Lib.hid hdp
      clear hdp hkn
      go_wp2_with (first
        | (at_builtin; refine app_at (m := set.drop i) rfl (.tmp 71) (.tmp 74) rfl rfl (by exact hown) _ _ _ _ rfl (by rw [List.length_drop, ← N1.out]) (by have hx := (h1.below hbw (Nat.le_refl _)).cut (k := i) (cap := c1) (by have := N1.out; omega) (by have := N1.out; omega); exact hx) (by have := N1.out; rw [List.length_drop]; omega) (by exact hbw.size) ?_; intro v' w' hown' hgr hv'))
      all_goals
        have e : o ++ set.drop i = R := by have := HI.out; rw [HDP.out] at this; exact this
        rw [e] at hown'
        obtain ⟨A', c', rfl, _, _⟩ := hown'.form
        go_ret
        exact ⟨A', c', rfl, hown', below_app hbw hbw.size hown (Nat.le_refl _) hgr⟩
end Go.Proofs.YtipoeidmblnbbaaDoor
/- More small laws on lists in memory. -/
namespace Go.Proofs.YtipoeidmblnbbaaDoor
open Go.RowKit

section
variable {α : Type} {enc : α → List Value} {size : Nat} {e : TypeId} {w : World} {base n c : Nat} {A : Option Addr} {l : List α}
theorem Ow.cap (h : Ow enc size e w base (.slice A n c) l) : l.length ≤ c ∧ c ≤ maxLen := by
  obtain ⟨_, _, ev, hle, hcm⟩ := h.form
  injection ev with _ _ ev
  exact ⟨by omega, by omega⟩
end
end Go.Proofs.YtipoeidmblnbbaaDoor
