/- Merged texts: AttrsOps, PartALaw, PartA, OpUnits, CellsMay, StayLaw, ApplyLaw. -/
import Derived.Test.YtfnkjcodcoehcaaGreatDoorP13
import Derived.Test.YtfnkjcodcoehcaaGreatDoorP2
import Derived.Test.YtfnkjcodcoehcaaGreatDoorP12
import Derived.Test.YtfnkjcodcoehcaaGreatDoorP10
import Derived.Test.YtfnkjcodcoehcaaGreatDoorP11
import Derived.Deep.RegionHeld3
import Derived.Test.YtfnkjcodcoehcaaGreatDoorP3
import Derived.Test.YtfnkjcodcoehcaaGreatDoorP9
namespace Go.Proofs.YtfnkjcodcoehcaaGreatDoor
open Go.RowKit
set_option linter.unusedVariables false
set_option linter.unusedSimpArgs false

set_option maxRecDepth 100000 in
set_option maxHeartbeats 400000 in
theorem equalA_any (A B : Option Addr) (n m c d : Nat) (l k : List At) (w : World) (hn : n = l.length) (hm : m = k.length) (h1 : RdAt w w.heap.size A l) (h2 : RdAt w w.heap.size B k) (hb : n ≤ 140737488355328) (hb2 : m ≤ 140737488355328) :
    Calls Tryz.prog 192 #[.slice A n c, .slice B m d] w (Quiet (.bool (decide (l = k))) w) := by
  have N := Lib.hid hn
  have M := Lib.hid hm
  generalize hR : decide (l = k) = R
  have HR := Lib.hid hR
  clear hn hR hm
  by_cases hnm : (n : Int) = m
  · have hnm' : n = m := by omega
    subst hnm'
    clear hnm
    go_enter Tryz.func192, Tryz.ntmps192
    go_wp2_with (fail)
    go_loopg [13] n (fun g iv wr => ∃ i : Nat, i ≤ n ∧ g = n - i ∧ iv = .int .i64 (i : Int) ∧ (∃ d, wr = w.drewN d) ∧ Hid (decide (l.drop i = k.drop i) = R))
    case atStart => exact ⟨0, by omega, rfl, rfl, ⟨0, rfl⟩, Lib.hid (by rw [List.drop_zero, List.drop_zero]; exact HR.out)⟩
    case round =>
      obtain ⟨i, hi, hg, rfl, ⟨q, rfl⟩, HI⟩ := hrel
      have HG := Lib.hid hg
      clear hg HR
      by_cases hlt : i < n
      · have hl1 : i < l.length := by have := N.out; omega
        have hl2 : i < k.length := by have := M.out; omega
        obtain ⟨ad, x, rfl, _, hd1, _, hc1⟩ := h1.el hl1
        obtain ⟨ad2, y, rfl, _, hd2, _, hc2⟩ := h2.el hl2
        have HI' : Hid (decide (x :: l.drop (i + 1) = y :: k.drop (i + 1)) = R) := Lib.hid (by rw [← HI.out, hd1, hd2])
        clear HI hd1 hd2
        obtain ⟨x1, x2, x3, x4, x5⟩ := x
        obtain ⟨y1, y2, y3, y4, y5⟩ := y
        obtain ⟨r0, r1, r2, r3, r4⟩ := at_cells hc1
        obtain ⟨s0, s1, s2, s3, s4⟩ := at_cells hc2
        by_cases hxy : (⟨x1, ⟨x2, x3, x4, x5⟩⟩ : At) = ⟨y1, ⟨y2, y3, y4, y5⟩⟩
        · have hq := beqAt_eq hxy
          have HXY := Lib.hid hxy
          clear hxy
          go_wp2_with (go_quiet (fail))
          go_roundg (n - (i + 1))
          case measure => have := HG.out; omega
          case rel => exact ⟨i + 1, by omega, rfl, by go_num, ⟨_, rfl⟩, Lib.hid (by rw [← HI'.out]; simp only [List.cons.injEq, HXY.out, true_and])⟩
        · have hq := beqAt_ne hxy
          have HXY := Lib.hid hxy
          clear hxy
          go_wp2_with (go_quiet (fail))
          go_ret
          exact ⟨ret_bool (by rw [← HI'.out]; exact (decide_eq_false fun e => HXY.out (List.cons.inj e).1).symm), _, World.drewN_drewN _ _ _⟩
      · go_wp2_with (fail)
        go_ret
        exact ⟨ret_bool (by rw [← HI.out, List.drop_eq_nil_of_le (by have := N.out; omega), List.drop_eq_nil_of_le (by have := M.out; omega)]; rfl), _, rfl⟩
  · have hne : ((n : Int) == m) = false := beq_eq_false_iff_ne.2 hnm
    go_enter Tryz.func192, Tryz.ntmps192
    go_wp2_with (fail)
    go_ret
    refine ⟨ret_bool ?_, 0, rfl⟩
    rw [← HR.out]
    refine (decide_eq_false fun e => ?_).symm
    have h3 := N.out
    have h4 := M.out
    rw [e] at h3
    omega

set_option maxHeartbeats 400000 in
theorem attrsSame_any (A B : Option Addr) (n m c d : Nat) (l k : List At) (w : World) (hn : n = l.length) (hm : m = k.length) (h1 : RdAt w w.heap.size A l) (h2 : RdAt w w.heap.size B k) (hb : n ≤ 140737488355328) (hb2 : m ≤ 140737488355328) :
    Calls Tryz.prog 141 #[.slice A n c, .slice B m d] w (Quiet (.bool (decide (l = k))) w) := by
  have N := Lib.hid hn
  have M := Lib.hid hm
  clear hn hm
  go_enter Tryz.func141, Tryz.ntmps141
  go_wp2_with (go_at_call 192; refine (equalA_any A B n m c d l k _ N.out M.out h1 h2 hb hb2).mono ?_; rintro e w' ⟨rfl, q, rfl⟩)
  go_ret
  exact ⟨rfl, _, rfl⟩

set_option maxHeartbeats 400000 in
theorem copy_any (A : Option Addr) (n c : Nat) (l : List At) (w : World) (hn : n = l.length) (h : RdAt w w.heap.size A l) (hb : n ≤ 100000000) :
    Calls Tryz.prog 143 #[.slice A n c] w (NewAt l w) := by
  have N := Lib.hid hn
  clear hn
  go_enter Tryz.func143, Tryz.ntmps143
  go_wp2_with (go_at_call 187; refine Hid.out ?_)
  refine Lib.hid ?_
  refine (cloneAt_any A n c l w N.out h hb).mono ?_
  rintro e w2 ⟨A2, c2, rfl, ho, hb2⟩
  generalize hq : l.length = q at *
  go_wp2_with (fail)
  go_ret
  exact ⟨A2, c2, by rw [hq]; rfl, by rw [hq]; exact ho, hb2⟩

end Go.Proofs.YtfnkjcodcoehcaaGreatDoor
namespace Go.Proofs.YtfnkjcodcoehcaaGreatDoor
set_option linter.unusedVariables false
set_option linter.unusedSimpArgs false

/-- the attributes of block keys, or of inline ones -/
def partS (l : List Ky) (b : Bool) (p : List At) : List At := p.filter (fun c => keepK l b c.key)
end Go.Proofs.YtfnkjcodcoehcaaGreatDoor
namespace Go.Proofs.YtfnkjcodcoehcaaGreatDoor
open Go.RowKit
set_option linter.unusedVariables false
set_option linter.unusedSimpArgs false

set_option maxHeartbeats 1600000 in
theorem partClA_any (s b1 b2 : Nat) (l : List Ky) (b : Bool) (x1 x2 x3 x4 : Int) (x5 : ByteArray) (w : World) (hS : Sch w s l)
    (h1 : w.heap[b1]? = some (.cells #[.pointer (some ⟨s, 0, none⟩)] 26 (0, 0))) (h2 : w.heap[b2]? = some (.cells #[.bool b] 4 (0, 0))) :
    Calls Tryz.prog 188 #[.agg #[.int .i64 x1, .int .u8 x2, .int .i64 x3, .int .u64 x4, .string x5], .pointer (some ⟨b1, 0, none⟩), .pointer (some ⟨b2, 0, none⟩)] w fun e w' => e = .returned (.bool (!keepK l b x1)) ∧ Below w.heap.size w w' := by
  have y0 := ext_alloc w (.cells #[.int .i64 x1, .int .u8 x2, .int .i64 x3, .int .u64 x4, .string x5] 43)
  have c1 := box_1 ((y0.block b1 (lt_of_some h1)).trans h1)
  have g2 := (y0.block b2 (lt_of_some h2)).trans h2
  have HS := Lib.hid (hS.ext y0)
  have G2 := Lib.hid g2
  clear g2 hS
  go_enter Tryz.func188, Tryz.ntmps188
  go_wp2_with (go_at_call 62; refine Hid.out ?_)
  refine Lib.hid ?_
  generalize hw0 : w.alloc _ = w0 at *
  clear hw0
  refine (findS_any s l x1 w0 HS.out).mono ?_
  rintro e w1 ⟨i, c, kd, d, g, q, ok, rfl, hk, hb, y1⟩
  have y2 := ext_alloc w1 (.cells #[.int .i64 i, .bool c, .int .u8 kd, .bool d, .bool g, .int .i64 q] 97)
  have g3 := (y1.block b2 (lt_of_some G2.out)).trans G2.out
  have c2 := box_1 ((y2.block b2 (lt_of_some g3)).trans g3)
  have yy := ext_trans y0 (ext_trans y1 y2)
  have HB := Lib.hid hb
  have HK := Lib.hid hk
  clear g3 hk hb
  cases ok with
  | false =>
    have HE : Hid (keepK l b x1 = false) := Lib.hid (by
      have h := HB.out
      unfold keepK
      cases hq : findK l x1 with
      | none => rfl
      | some k => rw [hq] at h; cases h)
    go_wp2_with (fail)
    go_ret
    exact ⟨ret_bool (by rw [HE.out]; rfl), yy⟩
  | true =>
    have HE : Hid (keepK l b x1 = (c == b)) := Lib.hid (by
      have h := HB.out
      have h2 := HK.out
      unfold keepK
      cases hq : findK l x1 with
      | none => rw [hq] at h; cases h
      | some k => rw [hq] at h2; simp at h2; subst h2; rfl)
    go_wp2_with (fail)
    go_ret
    exact ⟨ret_bool (by rw [HE.out] <;> (cases c <;> cases b <;> rfl)), yy⟩

set_option maxRecDepth 100000 in
set_option maxHeartbeats 1600000 in
theorem partA_any (s : Nat) (l : List Ky) (b : Bool) (A : Option Addr) (n c : Nat) (p : List At) (w : World) (hn : n = p.length) (h : RdAt w w.heap.size A p) (hb : n ≤ 100000000) (hS : Sch w s l) :
    Calls Tryz.prog 134 #[.pointer (some ⟨s, 0, none⟩), .slice A n c, .bool b] w (NewAt (partS l b p) w) := by
  have N := Lib.hid hn
  have ya := ext_alloc w (.cells #[.pointer (some ⟨s, 0, none⟩)] 26)
  have yb := ext_alloc (w.alloc (.cells #[.pointer (some ⟨s, 0, none⟩)] 26)) (.cells #[.bool b] 4)
  have g1 := heap_alloc_new w (.cells #[.pointer (some ⟨s, 0, none⟩)] 26)
  have g2 := heap_alloc_new (w.alloc (.cells #[.pointer (some ⟨s, 0, none⟩)] 26)) (.cells #[.bool b] 4)
  have G1 := Lib.hid ((yb.block w.heap.size (by simp)).trans g1)
  rw [World.size_alloc] at g2
  have G2 := Lib.hid g2
  have y := ext_trans ya yb
  have hh := h.ext y
  have HS := Lib.hid (hS.ext y)
  clear hn g1 g2 ya yb h hS
  go_enter Tryz.func134, Tryz.ntmps134
  go_wp2_with (go_at_call 187; refine Hid.out ?_)
  refine Lib.hid ?_
  refine (cloneAt_any A n c p _ N.out hh hb).mono ?_
  rintro e w1 ⟨A', c', rfl, hown, y1⟩
  have HOW := Lib.hid hown
  have hsz2 : ((w.alloc (.cells #[.pointer (some ⟨s, 0, none⟩)] 26)).alloc (.cells #[.bool b] 4)).heap.size = w.heap.size + 2 := by simp
  have G1' := Lib.hid ((y1.block w.heap.size (by rw [hsz2]; omega)).trans G1.out)
  have G2' := Lib.hid ((y1.block (w.heap.size + 1) (by rw [hsz2]; omega)).trans G2.out)
  have hb1 : w.heap.size + 2 ≤ w1.heap.size := by have := y1.size; omega
  have HSZ := Lib.hid hsz2
  clear hown hsz2
  go_wp2_with (go_at_call 186; refine Hid.out ?_)
  refine Lib.hid ?_
  refine (deletePartA_any w.heap.size (w.heap.size + 1) (fun c => !keepK l b c.key) A' p.length c' _ p w1 HOW.out (by rw [HSZ.out]; exact hb1) (by have := N.out; omega) rfl ?cl).mono ?_
  case cl =>
    intro x1 x2 x3 x4 x5 w' hb'
    refine partClA_any s _ _ l b x1 x2 x3 x4 x5 w' (HS.out.ext (y1.trans hb')) ?_ ?_
    · exact (hb'.block _ (by rw [HSZ.out]; omega)).trans G1'.out
    · exact (hb'.block _ (by rw [HSZ.out]; omega)).trans G2'.out
  rintro e w2 ⟨A2, c2, rfl, hown2, y2⟩
  have yy : Below w.heap.size w w2 := ext_trans y (y1.trans y2)
  have hf : p.filter (fun x => !!keepK l b x.key) = partS l b p := by simp [partS]
  rw [hf] at hown2 ⊢
  have HO2 := Lib.hid (hown2.base_le (B := w.heap.size) (by rw [HSZ.out]; omega))
  clear hown2 hf
  go_wp2_with (fail)
  go_ret
  exact ⟨A2, c2, rfl, HO2.out, yy⟩
end Go.Proofs.YtfnkjcodcoehcaaGreatDoor
namespace Go.Proofs.YtfnkjcodcoehcaaGreatDoor
set_option linter.unusedVariables false
set_option linter.unusedSimpArgs false

/-- may a cell be, and has it its kind of attributes? -/
def okCl (l : List Ky) (c : Cl) : Prop := mayR c.r = true ∧ mayS l c.s = 0 ∧ partS l (!(c.r == 10)) c.s = []
/-- may a unit be, and is it in its place? -/
def vU (l : List Ky) : Un → Prop
  | .ins r s => okCl l ⟨r, s⟩
  | .del => True
  | .ret p => mayP l p = 0
/-- does the last of n cells stay the last one, from cell a on? -/
def finU (n : Nat) : Nat → List Un → Bool
  | _, [] => true
  | a, .ins _ _ :: us => decide (a ≠ n) && finU n a us
  | a, .del :: us => decide (a + 1 ≠ n) && finU n (a + 1) us
  | a, .ret _ :: us => finU n (a + 1) us
theorem units_mem {x : List OpS} {u : Un} : u ∈ units (osOf x) ↔ ∃ o ∈ x, u ∈ unitsO o.o := by
  unfold units osOf
  rw [List.mem_flatMap]
  constructor
  · rintro ⟨a, ha, hu⟩; obtain ⟨o, ho, rfl⟩ := List.mem_map.1 ha; exact ⟨o, ho, hu⟩
  · rintro ⟨o, ho, hu⟩; exact ⟨o.o, List.mem_map.2 ⟨o, ho, rfl⟩, hu⟩
/-- fits, told by units -/
structure FitU (l : List Ky) (us : List Un) (n most : Nat) : Prop where
  v : ∀ u ∈ us, vU l u
  t : takesU us ≤ n
  n1 : 1 ≤ n
  nm : n ≤ most
  f : finU n 0 us = true
  m : n + makesU us ≤ most + takesU us
  tb : takesU us ≤ 536870912
  mb : makesU us ≤ 536870912
end Go.Proofs.YtfnkjcodcoehcaaGreatDoor
namespace Go.Proofs.YtfnkjcodcoehcaaGreatDoor
open Go.RowKit
set_option linter.unusedVariables false
set_option linter.unusedSimpArgs false

def badR (l : List Ky) (c : Cl) : Bool := !mayR c.r || decide (mayS l c.s = 3)
def badK (l : List Ky) (c : Cl) : Bool := !decide (mayS l c.s = 0)
def badP (l : List Ky) (c : Cl) : Bool := decide (0 < (partS l (!(c.r == 10)) c.s).length)
/-- may cells be a document? -/
def mayD (l : List Ky) (d : List Cl) : Int :=
  if d.length < 1 ∨ 536870912 < d.length then 3 else if d.any (badR l) = true then 3 else if d.any (badK l) = true then 4
  else if (d.getLast?.map (fun c => decide (c.r = 10))) ≠ some true then 6 else if d.any (badP l) = true then 7 else 0
def clsOf (x : List ClS) : List Cl := x.map (·.c)
/-- a cell that a closure of May is asked of -/
structure ClIn (w : World) (b1 s : Nat) (l : List Ky) (x : ClS) : Prop where
  hS : Sch w s l
  h1 : w.heap[b1]? = some (.cells #[.pointer (some ⟨s, 0, none⟩)] 26 (0, 0))
  rp : RdAt w w.heap.size x.As x.c.s
  hb : x.c.s.length ≤ 100000000
  hv : okVr x.c.s
  hT : Lib.Utf8Tabs 1 2 w
theorem ClIn.ext {w w' : World} {b1 s : Nat} {l : List Ky} {x : ClS} (h : ClIn w b1 s l x) (y : Below w.heap.size w w') : ClIn w' b1 s l x :=
  ⟨h.hS.ext y, (y.block b1 (lt_of_some h.h1)).trans h.h1, h.rp.ext y, h.hb, h.hv, Utf8Tabs_below h.hT y⟩

set_option maxRecDepth 100000 in
set_option maxHeartbeats 800000 in
theorem cmay2_any (b1 s : Nat) (l : List Ky) (r : Int) (p : List At) (As : Option Addr) (cs : Nat) (w : World) (h : ClIn w b1 s l ⟨⟨r, p⟩, As, cs⟩) :
    Calls Tryz.prog 129 #[.agg #[.int .i32 r, .slice As p.length cs], .pointer (some ⟨b1, 0, none⟩)] w fun e w' => e = .returned (.bool (badR l ⟨r, p⟩)) ∧ Below w.heap.size w w' := by
  have y0 := ext_alloc w (.cells #[.int .i32 r, .slice As p.length cs] 38)
  obtain ⟨hS, h1, rp, hb, hv, hT⟩ := h.ext y0
  have c1 := box_1 h1
  have HS := Lib.hid hS
  have HRP := Lib.hid rp
  have HV := Lib.hid hv
  have HT := Lib.hid hT
  generalize hm : mayS l p = ms
  have HM := Lib.hid hm
  have HB : Hid (badR l ⟨r, p⟩ = (!mayR r || decide (ms = 3))) := Lib.hid (by unfold badR; simp only; rw [hm])
  rw [HB.out]
  clear h hS h1 rp hv hT hm
  go_enter Tryz.func129, Tryz.ntmps129
  cases hr : mayR r with
  | false =>
    have HR := Lib.hid hr
    clear hr
    go_wp2_with (go_at_call 130; refine (may_any r _).mono ?_; rintro e w' ⟨rfl, rfl⟩; rw [HR.out])
    go_ret
    exact ⟨rfl, y0⟩
  | true =>
    have HR := Lib.hid hr
    clear hr
    go_wp2_with (first
      | (go_at_call 130; refine (may_any r _).mono ?_; rintro e w' ⟨rfl, rfl⟩; rw [HR.out])
      | (go_at_call 131; refine (mayS_any s l As p.length cs p _ rfl HRP.out (by omega) HS.out HV.out HT.out).mono ?_; rintro e w1 ⟨rfl, y1⟩; rw [HM.out]))
    go_ret
    exact ⟨ret_bool (by by_cases h3 : ms = 3 <;> simp [h3]), ext_trans y0 y1⟩

set_option maxRecDepth 100000 in
set_option maxHeartbeats 800000 in
theorem cmay3_any (b1 s : Nat) (l : List Ky) (r : Int) (p : List At) (As : Option Addr) (cs : Nat) (w : World) (h : ClIn w b1 s l ⟨⟨r, p⟩, As, cs⟩) :
    Calls Tryz.prog 132 #[.agg #[.int .i32 r, .slice As p.length cs], .pointer (some ⟨b1, 0, none⟩)] w fun e w' => e = .returned (.bool (badK l ⟨r, p⟩)) ∧ Below w.heap.size w w' := by
  have y0 := ext_alloc w (.cells #[.int .i32 r, .slice As p.length cs] 38)
  obtain ⟨hS, h1, rp, hb, hv, hT⟩ := h.ext y0
  have c1 := box_1 h1
  have HS := Lib.hid hS
  have HRP := Lib.hid rp
  have HV := Lib.hid hv
  have HT := Lib.hid hT
  generalize hm : mayS l p = ms
  have HM := Lib.hid hm
  have HB : Hid (badK l ⟨r, p⟩ = !decide (ms = 0)) := Lib.hid (by unfold badK; simp only; rw [hm])
  rw [HB.out]
  clear h hS h1 rp hv hT hm
  go_enter Tryz.func132, Tryz.ntmps132
  go_wp2_with (go_at_call 131; refine (mayS_any s l As p.length cs p _ rfl HRP.out (by omega) HS.out HV.out HT.out).mono ?_; rintro e w1 ⟨rfl, y1⟩; rw [HM.out])
  go_ret
  exact ⟨ret_bool (by by_cases h3 : ms = 0 <;> simp [h3]), ext_trans y0 y1⟩

set_option maxRecDepth 100000 in
set_option maxHeartbeats 800000 in
theorem cmay4_any (b1 s : Nat) (l : List Ky) (r : Int) (p : List At) (As : Option Addr) (cs : Nat) (w : World) (h : ClIn w b1 s l ⟨⟨r, p⟩, As, cs⟩) :
    Calls Tryz.prog 133 #[.agg #[.int .i32 r, .slice As p.length cs], .pointer (some ⟨b1, 0, none⟩)] w fun e w' => e = .returned (.bool (badP l ⟨r, p⟩)) ∧ Below w.heap.size w w' := by
  have y0 := ext_alloc w (.cells #[.int .i32 r, .slice As p.length cs] 38)
  obtain ⟨hS, h1, rp, hb, hv, hT⟩ := h.ext y0
  have c1 := box_1 h1
  have HS := Lib.hid hS
  have HRP := Lib.hid rp
  have HV := Lib.hid hv
  have HT := Lib.hid hT
  obtain ⟨c2, c3⟩ := box_cl (heap_alloc_new w (.cells #[.int .i32 r, .slice As p.length cs] 38))
  generalize hm : partS l (!(r == 10)) p = ps
  have HM := Lib.hid hm
  have HB : Hid (badP l ⟨r, p⟩ = decide (0 < ps.length)) := Lib.hid (by unfold badP; simp only; rw [hm])
  have HL := Lib.hid hb
  rw [HB.out]
  clear h hS h1 rp hv hT hm hb
  have hne : (r != 10) = !(r == 10) := rfl
  go_enter Tryz.func133, Tryz.ntmps133
  go_wp2_with (go_at_call 134; refine Hid.out ?_)
  refine Lib.hid ?_
  refine (partA_any s l (!(r == 10)) As p.length cs p _ rfl HRP.out HL.out HS.out).mono ?_
  rw [HM.out]
  rintro e w1 ⟨A1, k1, rfl, _, y1⟩
  go_wp2_with (fail)
  go_ret
  exact ⟨ret_bool (by by_cases h3 : 0 < ps.length <;> simp [h3]), ext_trans y0 y1⟩

set_option maxRecDepth 100000 in
set_option maxHeartbeats 800000 in
theorem cidx2_any (b1 s : Nat) (l : List Ky) (A : Option Addr) (n c : Nat) (d : List ClS) (w : World) (hn : n = d.length) (h : RdCs w w.heap.size A d) (hb : n ≤ 140737488355328) (hc : ∀ x ∈ d, ClIn w b1 s l x) :
    Calls Tryz.prog 182 #[.slice A n c, .func (.func 129) #[] #[.pointer (some ⟨b1, 0, none⟩)]] w fun e w' => ∃ i : Int, e = .returned (.int .i64 i) ∧ IdxOut (badR l) (clsOf d) i ∧ Below w.heap.size w w' := by
  have N := Lib.hid hn
  have HH := Lib.hid h
  have HC := Lib.hid hc
  have HCL : Hid (clsOf d = d.map (·.c)) := Lib.hid rfl
  clear hn h hc
  go_enter Tryz.func182, Tryz.ntmps182
  go_wp2_with (fail)
  go_loopg [8] n (fun g iv wr => ∃ i : Nat, i ≤ n ∧ g = n - i ∧ iv = .int .i64 i ∧ Below w.heap.size w wr ∧ Hid (∀ x ∈ (clsOf d).take i, badR l x = false))
  case atStart => exact ⟨0, by omega, rfl, rfl, Below.refl _ _, Lib.hid (by simp)⟩
  case round =>
    obtain ⟨i, hi, hg, rfl, y, HI⟩ := hrel
    have HG := Lib.hid hg
    clear hg
    by_cases hlt : i < n
    · have hil : i < d.length := by have := N.out; omega
      obtain ⟨ad, x, rfl, _, _, hx, hc1⟩ := (HH.out.ext y).el hil
      have hxc : (clsOf d)[i]? = some x.c := by rw [HCL.out, List.getElem?_map, hx]; rfl
      have HT : Hid ((clsOf d).take (i + 1) = (clsOf d).take i ++ [x.c]) := Lib.hid (by rw [List.take_add_one, hxc]; rfl)
      have HX := Lib.hid hxc
      have hin := Lib.hid ((HC.out x (List.mem_of_getElem? hx)).ext y)
      obtain ⟨⟨r, p⟩, As, cs⟩ := x
      obtain ⟨r0, r1⟩ := cl_cells hc1
      clear hx hil hc1 hxc
      have hw2 : IntKind.i64.wrap ((i:Int) + 1) = (i : Int) + 1 := IntWalk.i64_in _ (by omega)
      cases hp : badR l ⟨r, p⟩ with
      | true =>
        have HP := Lib.hid hp
        clear hp
        go_wp2_with (go_at_call 129; refine Hid.out ?_)
        refine Lib.hid ?_
        refine (cmay2_any b1 s l r p As cs _ hin.out).mono ?_
        rintro e w' ⟨rfl, y2⟩
        rw [HP.out]
        go_wp2_with (fail)
        go_ret
        exact ⟨i, rfl, .inr ⟨i, rfl, by rw [HCL.out, List.length_map]; have := N.out; omega, HI.out, _, HX.out, HP.out⟩, ext_trans y y2⟩
      | false =>
        have HP := Lib.hid hp
        clear hp
        go_wp2_with (go_at_call 129; refine Hid.out ?_)
        refine Lib.hid ?_
        refine (cmay2_any b1 s l r p As cs _ hin.out).mono ?_
        rintro e w' ⟨rfl, y2⟩
        rw [HP.out]
        go_wp2_with (fail)
        go_roundg (n - (i + 1))
        case measure => have := HG.out; omega
        case rel =>
          refine ⟨i + 1, by omega, rfl, by go_num, ext_trans y y2, Lib.hid ?_⟩
          intro z hz
          rw [HT.out] at hz
          rcases List.mem_append.1 hz with hz | hz
          · exact HI.out z hz
          · simp at hz; rw [hz]; exact HP.out
    · go_wp2_with (fail)
      go_ret
      refine ⟨-1, rfl, .inl ⟨rfl, ?_⟩, y⟩
      have h1 := HI.out
      rw [List.take_of_length_le (by rw [HCL.out, List.length_map]; have := N.out; omega)] at h1
      exact h1

set_option maxHeartbeats 800000 in
theorem ccon2_any (b1 s : Nat) (l : List Ky) (A : Option Addr) (n c : Nat) (d : List ClS) (w : World) (hn : n = d.length) (h : RdCs w w.heap.size A d) (hb : n ≤ 140737488355328) (hc : ∀ x ∈ d, ClIn w b1 s l x) :
    Calls Tryz.prog 128 #[.slice A n c, .func (.func 129) #[] #[.pointer (some ⟨b1, 0, none⟩)]] w fun e w' => e = .returned (.bool ((clsOf d).any (badR l))) ∧ Below w.heap.size w w' := by
  have N := Lib.hid hn
  have HH := Lib.hid h
  have HC := Lib.hid hc
  generalize hr : (clsOf d).any (badR l) = r
  have HR := Lib.hid hr
  clear hr hn h hc
  go_enter Tryz.func128, Tryz.ntmps128
  go_wp2_with (go_at_call 182; refine Hid.out ?_)
  refine Lib.hid ?_
  refine (cidx2_any b1 s l A n c d w N.out HH.out hb HC.out).mono ?_
  rintro e w1 ⟨i, rfl, hi, y⟩
  have hd := idx_any hi
  rw [HR.out] at hd
  clear hi
  go_wp2_with (fail)
  go_ret
  exact ⟨by first | rfl | exact ret_bool hd, y⟩

set_option maxHeartbeats 800000 in
theorem csome2_any (b1 b0 s : Nat) (l : List Ky) (A : Option Addr) (n c : Nat) (d : List ClS) (w : World) (hn : n = d.length) (h : RdCs w w.heap.size A d) (hb : n ≤ 140737488355328) (hc : ∀ x ∈ d, ClIn w b1 s l x)
    (h0 : w.heap[b0]? = some (.cells #[.slice A n c] 23 (0, 0))) :
    Calls Tryz.prog 127 #[.func (.func 129) #[] #[.pointer (some ⟨b1, 0, none⟩)], .pointer (some ⟨b0, 0, none⟩)] w fun e w' => e = .returned (.bool ((clsOf d).any (badR l))) ∧ Below w.heap.size w w' := by
  have N := Lib.hid hn
  have HH := Lib.hid h
  have HC := Lib.hid hc
  have c0 := box_1 h0
  generalize hr : (clsOf d).any (badR l) = r
  have HR := Lib.hid hr
  clear hr hn h hc h0
  go_enter Tryz.func127, Tryz.ntmps127
  go_wp2_with (go_at_call 128; refine Hid.out ?_)
  refine Lib.hid ?_
  refine (ccon2_any b1 s l A n c d w N.out HH.out hb HC.out).mono ?_
  rw [HR.out]
  rintro e w1 ⟨rfl, y⟩
  go_wp2_with (fail)
  go_ret
  exact ⟨rfl, y⟩

set_option maxRecDepth 100000 in
set_option maxHeartbeats 800000 in
theorem cidx3_any (b1 s : Nat) (l : List Ky) (A : Option Addr) (n c : Nat) (d : List ClS) (w : World) (hn : n = d.length) (h : RdCs w w.heap.size A d) (hb : n ≤ 140737488355328) (hc : ∀ x ∈ d, ClIn w b1 s l x) :
    Calls Tryz.prog 182 #[.slice A n c, .func (.func 132) #[] #[.pointer (some ⟨b1, 0, none⟩)]] w fun e w' => ∃ i : Int, e = .returned (.int .i64 i) ∧ IdxOut (badK l) (clsOf d) i ∧ Below w.heap.size w w' := by
  have N := Lib.hid hn
  have HH := Lib.hid h
  have HC := Lib.hid hc
  have HCL : Hid (clsOf d = d.map (·.c)) := Lib.hid rfl
  clear hn h hc
  go_enter Tryz.func182, Tryz.ntmps182
  go_wp2_with (fail)
  go_loopg [8] n (fun g iv wr => ∃ i : Nat, i ≤ n ∧ g = n - i ∧ iv = .int .i64 i ∧ Below w.heap.size w wr ∧ Hid (∀ x ∈ (clsOf d).take i, badK l x = false))
  case atStart => exact ⟨0, by omega, rfl, rfl, Below.refl _ _, Lib.hid (by simp)⟩
  case round =>
    obtain ⟨i, hi, hg, rfl, y, HI⟩ := hrel
    have HG := Lib.hid hg
    clear hg
    by_cases hlt : i < n
    · have hil : i < d.length := by have := N.out; omega
      obtain ⟨ad, x, rfl, _, _, hx, hc1⟩ := (HH.out.ext y).el hil
      have hxc : (clsOf d)[i]? = some x.c := by rw [HCL.out, List.getElem?_map, hx]; rfl
      have HT : Hid ((clsOf d).take (i + 1) = (clsOf d).take i ++ [x.c]) := Lib.hid (by rw [List.take_add_one, hxc]; rfl)
      have HX := Lib.hid hxc
      have hin := Lib.hid ((HC.out x (List.mem_of_getElem? hx)).ext y)
      obtain ⟨⟨r, p⟩, As, cs⟩ := x
      obtain ⟨r0, r1⟩ := cl_cells hc1
      clear hx hil hc1 hxc
      have hw2 : IntKind.i64.wrap ((i:Int) + 1) = (i : Int) + 1 := IntWalk.i64_in _ (by omega)
      cases hp : badK l ⟨r, p⟩ with
      | true =>
        have HP := Lib.hid hp
        clear hp
        go_wp2_with (go_at_call 132; refine Hid.out ?_)
        refine Lib.hid ?_
        refine (cmay3_any b1 s l r p As cs _ hin.out).mono ?_
        rintro e w' ⟨rfl, y2⟩
        rw [HP.out]
        go_wp2_with (fail)
        go_ret
        exact ⟨i, rfl, .inr ⟨i, rfl, by rw [HCL.out, List.length_map]; have := N.out; omega, HI.out, _, HX.out, HP.out⟩, ext_trans y y2⟩
      | false =>
        have HP := Lib.hid hp
        clear hp
        go_wp2_with (go_at_call 132; refine Hid.out ?_)
        refine Lib.hid ?_
        refine (cmay3_any b1 s l r p As cs _ hin.out).mono ?_
        rintro e w' ⟨rfl, y2⟩
        rw [HP.out]
        go_wp2_with (fail)
        go_roundg (n - (i + 1))
        case measure => have := HG.out; omega
        case rel =>
          refine ⟨i + 1, by omega, rfl, by go_num, ext_trans y y2, Lib.hid ?_⟩
          intro z hz
          rw [HT.out] at hz
          rcases List.mem_append.1 hz with hz | hz
          · exact HI.out z hz
          · simp at hz; rw [hz]; exact HP.out
    · go_wp2_with (fail)
      go_ret
      refine ⟨-1, rfl, .inl ⟨rfl, ?_⟩, y⟩
      have h1 := HI.out
      rw [List.take_of_length_le (by rw [HCL.out, List.length_map]; have := N.out; omega)] at h1
      exact h1

set_option maxHeartbeats 800000 in
theorem ccon3_any (b1 s : Nat) (l : List Ky) (A : Option Addr) (n c : Nat) (d : List ClS) (w : World) (hn : n = d.length) (h : RdCs w w.heap.size A d) (hb : n ≤ 140737488355328) (hc : ∀ x ∈ d, ClIn w b1 s l x) :
    Calls Tryz.prog 128 #[.slice A n c, .func (.func 132) #[] #[.pointer (some ⟨b1, 0, none⟩)]] w fun e w' => e = .returned (.bool ((clsOf d).any (badK l))) ∧ Below w.heap.size w w' := by
  have N := Lib.hid hn
  have HH := Lib.hid h
  have HC := Lib.hid hc
  generalize hr : (clsOf d).any (badK l) = r
  have HR := Lib.hid hr
  clear hr hn h hc
  go_enter Tryz.func128, Tryz.ntmps128
  go_wp2_with (go_at_call 182; refine Hid.out ?_)
  refine Lib.hid ?_
  refine (cidx3_any b1 s l A n c d w N.out HH.out hb HC.out).mono ?_
  rintro e w1 ⟨i, rfl, hi, y⟩
  have hd := idx_any hi
  rw [HR.out] at hd
  clear hi
  go_wp2_with (fail)
  go_ret
  exact ⟨by first | rfl | exact ret_bool hd, y⟩

set_option maxHeartbeats 800000 in
theorem csome3_any (b1 b0 s : Nat) (l : List Ky) (A : Option Addr) (n c : Nat) (d : List ClS) (w : World) (hn : n = d.length) (h : RdCs w w.heap.size A d) (hb : n ≤ 140737488355328) (hc : ∀ x ∈ d, ClIn w b1 s l x)
    (h0 : w.heap[b0]? = some (.cells #[.slice A n c] 23 (0, 0))) :
    Calls Tryz.prog 127 #[.func (.func 132) #[] #[.pointer (some ⟨b1, 0, none⟩)], .pointer (some ⟨b0, 0, none⟩)] w fun e w' => e = .returned (.bool ((clsOf d).any (badK l))) ∧ Below w.heap.size w w' := by
  have N := Lib.hid hn
  have HH := Lib.hid h
  have HC := Lib.hid hc
  have c0 := box_1 h0
  generalize hr : (clsOf d).any (badK l) = r
  have HR := Lib.hid hr
  clear hr hn h hc h0
  go_enter Tryz.func127, Tryz.ntmps127
  go_wp2_with (go_at_call 128; refine Hid.out ?_)
  refine Lib.hid ?_
  refine (ccon3_any b1 s l A n c d w N.out HH.out hb HC.out).mono ?_
  rw [HR.out]
  rintro e w1 ⟨rfl, y⟩
  go_wp2_with (fail)
  go_ret
  exact ⟨rfl, y⟩

set_option maxRecDepth 100000 in
set_option maxHeartbeats 800000 in
theorem cidx4_any (b1 s : Nat) (l : List Ky) (A : Option Addr) (n c : Nat) (d : List ClS) (w : World) (hn : n = d.length) (h : RdCs w w.heap.size A d) (hb : n ≤ 140737488355328) (hc : ∀ x ∈ d, ClIn w b1 s l x) :
    Calls Tryz.prog 182 #[.slice A n c, .func (.func 133) #[] #[.pointer (some ⟨b1, 0, none⟩)]] w fun e w' => ∃ i : Int, e = .returned (.int .i64 i) ∧ IdxOut (badP l) (clsOf d) i ∧ Below w.heap.size w w' := by
  have N := Lib.hid hn
  have HH := Lib.hid h
  have HC := Lib.hid hc
  have HCL : Hid (clsOf d = d.map (·.c)) := Lib.hid rfl
  clear hn h hc
  go_enter Tryz.func182, Tryz.ntmps182
  go_wp2_with (fail)
  go_loopg [8] n (fun g iv wr => ∃ i : Nat, i ≤ n ∧ g = n - i ∧ iv = .int .i64 i ∧ Below w.heap.size w wr ∧ Hid (∀ x ∈ (clsOf d).take i, badP l x = false))
  case atStart => exact ⟨0, by omega, rfl, rfl, Below.refl _ _, Lib.hid (by simp)⟩
  case round =>
    obtain ⟨i, hi, hg, rfl, y, HI⟩ := hrel
    have HG := Lib.hid hg
    clear hg
    by_cases hlt : i < n
    · have hil : i < d.length := by have := N.out; omega
      obtain ⟨ad, x, rfl, _, _, hx, hc1⟩ := (HH.out.ext y).el hil
      have hxc : (clsOf d)[i]? = some x.c := by rw [HCL.out, List.getElem?_map, hx]; rfl
      have HT : Hid ((clsOf d).take (i + 1) = (clsOf d).take i ++ [x.c]) := Lib.hid (by rw [List.take_add_one, hxc]; rfl)
      have HX := Lib.hid hxc
      have hin := Lib.hid ((HC.out x (List.mem_of_getElem? hx)).ext y)
      obtain ⟨⟨r, p⟩, As, cs⟩ := x
      obtain ⟨r0, r1⟩ := cl_cells hc1
      clear hx hil hc1 hxc
      have hw2 : IntKind.i64.wrap ((i:Int) + 1) = (i : Int) + 1 := IntWalk.i64_in _ (by omega)
      cases hp : badP l ⟨r, p⟩ with
      | true =>
        have HP := Lib.hid hp
        clear hp
        go_wp2_with (go_at_call 133; refine Hid.out ?_)
        refine Lib.hid ?_
        refine (cmay4_any b1 s l r p As cs _ hin.out).mono ?_
        rintro e w' ⟨rfl, y2⟩
        rw [HP.out]
        go_wp2_with (fail)
        go_ret
        exact ⟨i, rfl, .inr ⟨i, rfl, by rw [HCL.out, List.length_map]; have := N.out; omega, HI.out, _, HX.out, HP.out⟩, ext_trans y y2⟩
      | false =>
        have HP := Lib.hid hp
        clear hp
        go_wp2_with (go_at_call 133; refine Hid.out ?_)
        refine Lib.hid ?_
        refine (cmay4_any b1 s l r p As cs _ hin.out).mono ?_
        rintro e w' ⟨rfl, y2⟩
        rw [HP.out]
        go_wp2_with (fail)
        go_roundg (n - (i + 1))
        case measure => have := HG.out; omega
        case rel =>
          refine ⟨i + 1, by omega, rfl, by go_num, ext_trans y y2, Lib.hid ?_⟩
          intro z hz
          rw [HT.out] at hz
          rcases List.mem_append.1 hz with hz | hz
          · exact HI.out z hz
          · simp at hz; rw [hz]; exact HP.out
    · go_wp2_with (fail)
      go_ret
      refine ⟨-1, rfl, .inl ⟨rfl, ?_⟩, y⟩
      have h1 := HI.out
      rw [List.take_of_length_le (by rw [HCL.out, List.length_map]; have := N.out; omega)] at h1
      exact h1

set_option maxHeartbeats 800000 in
theorem ccon4_any (b1 s : Nat) (l : List Ky) (A : Option Addr) (n c : Nat) (d : List ClS) (w : World) (hn : n = d.length) (h : RdCs w w.heap.size A d) (hb : n ≤ 140737488355328) (hc : ∀ x ∈ d, ClIn w b1 s l x) :
    Calls Tryz.prog 128 #[.slice A n c, .func (.func 133) #[] #[.pointer (some ⟨b1, 0, none⟩)]] w fun e w' => e = .returned (.bool ((clsOf d).any (badP l))) ∧ Below w.heap.size w w' := by
  have N := Lib.hid hn
  have HH := Lib.hid h
  have HC := Lib.hid hc
  generalize hr : (clsOf d).any (badP l) = r
  have HR := Lib.hid hr
  clear hr hn h hc
  go_enter Tryz.func128, Tryz.ntmps128
  go_wp2_with (go_at_call 182; refine Hid.out ?_)
  refine Lib.hid ?_
  refine (cidx4_any b1 s l A n c d w N.out HH.out hb HC.out).mono ?_
  rintro e w1 ⟨i, rfl, hi, y⟩
  have hd := idx_any hi
  rw [HR.out] at hd
  clear hi
  go_wp2_with (fail)
  go_ret
  exact ⟨by first | rfl | exact ret_bool hd, y⟩

set_option maxHeartbeats 800000 in
theorem csome4_any (b1 b0 s : Nat) (l : List Ky) (A : Option Addr) (n c : Nat) (d : List ClS) (w : World) (hn : n = d.length) (h : RdCs w w.heap.size A d) (hb : n ≤ 140737488355328) (hc : ∀ x ∈ d, ClIn w b1 s l x)
    (h0 : w.heap[b0]? = some (.cells #[.slice A n c] 23 (0, 0))) :
    Calls Tryz.prog 127 #[.func (.func 133) #[] #[.pointer (some ⟨b1, 0, none⟩)], .pointer (some ⟨b0, 0, none⟩)] w fun e w' => e = .returned (.bool ((clsOf d).any (badP l))) ∧ Below w.heap.size w w' := by
  have N := Lib.hid hn
  have HH := Lib.hid h
  have HC := Lib.hid hc
  have c0 := box_1 h0
  generalize hr : (clsOf d).any (badP l) = r
  have HR := Lib.hid hr
  clear hr hn h hc h0
  go_enter Tryz.func127, Tryz.ntmps127
  go_wp2_with (go_at_call 128; refine Hid.out ?_)
  refine Lib.hid ?_
  refine (ccon4_any b1 s l A n c d w N.out HH.out hb HC.out).mono ?_
  rw [HR.out]
  rintro e w1 ⟨rfl, y⟩
  go_wp2_with (fail)
  go_ret
  exact ⟨rfl, y⟩

end Go.Proofs.YtfnkjcodcoehcaaGreatDoor
namespace Go.Proofs.YtfnkjcodcoehcaaGreatDoor
set_option linter.unusedVariables false
set_option linter.unusedSimpArgs false

section
variable {l : List Ky} {a b : List At} {p q : List Ch}
theorem mem_diff (a1 : riseA a = true) (b1 : riseA b = true) {c : Ch} (hc : c ∈ diffP a b) : (∃ x ∈ a, c = goneC x) ∨ ∃ y ∈ b, c = chg y := by
  obtain ⟨d1, d2, _⟩ := diff_all (riseA_srt.1 b1) (riseA_srt.1 a1)
  have h1 := lk_of_mem Ch.key d1 hc
  rw [d2] at h1
  cases hx : lk At.key a c.key with
  | none =>
    cases hy : lk At.key b c.key with
    | none => rw [hx, hy] at h1; cases h1
    | some y =>
      rw [hx, hy] at h1
      simp only [lkDiff, Option.some.injEq] at h1
      exact .inr ⟨y, lk_mem At.key hy, h1.symm⟩
  | some x =>
    cases hy : lk At.key b c.key with
    | none =>
      rw [hx, hy] at h1
      simp only [lkDiff, Option.some.injEq] at h1
      exact .inl ⟨x, lk_mem At.key hx, h1.symm⟩
    | some y =>
      rw [hx, hy] at h1
      simp only [lkDiff] at h1
      by_cases hv : x.v = y.v
      · rw [if_pos hv] at h1; cases h1
      · rw [if_neg hv] at h1
        simp only [Option.some.injEq] at h1
        exact .inr ⟨y, lk_mem At.key hy, h1.symm⟩
/-- the values stay in their ranges -/
theorem zero_ok : okV V.zero ∧ V.zero.s.size ≤ 100000000 := ⟨⟨by decide, by decide, by decide, by decide, by decide, by decide⟩, by decide⟩
theorem vs_diff (a1 : riseA a = true) (b1 : riseA b = true) (vb : okVa b) : okVs (diffP a b) := fun c hc => by
  rcases mem_diff a1 b1 hc with ⟨x, hx, rfl⟩ | ⟨y, hy, rfl⟩
  · exact zero_ok
  · exact vb y hy
end
end Go.Proofs.YtfnkjcodcoehcaaGreatDoor
namespace Go.Proofs.YtfnkjcodcoehcaaGreatDoor
set_option linter.unusedVariables false
set_option linter.unusedSimpArgs false

theorem mayD_iff {l : List Ky} {d : List Cl} : mayD l d = 0 ↔ d.length ≤ 536870912 ∧ (∀ c ∈ d, okCl l c) ∧ ∃ t c, d = t ++ [c] ∧ c.r = 10 := by
  constructor
  · intro h
    unfold mayD at h
    split at h
    · cases h
    rename_i h0
    split at h
    · cases h
    rename_i h1
    split at h
    · cases h
    rename_i h2
    split at h
    · cases h
    rename_i h3
    split at h
    · cases h
    rename_i h4
    refine ⟨by omega, fun c hc => ?_, ?_⟩
    · have g1 := List.any_eq_false.1 (Bool.eq_false_iff.2 h1) c hc
      have g2 := List.any_eq_false.1 (Bool.eq_false_iff.2 h2) c hc
      have g4 := List.any_eq_false.1 (Bool.eq_false_iff.2 h4) c hc
      unfold badR at g1
      unfold badK at g2
      unfold badP at g4
      simp at g1 g2 g4
      exact ⟨g1.1, g2, g4⟩
    · rcases List.eq_nil_or_concat d with h0 | ⟨t, c, h0⟩
      · subst h0; simp at h3
      · rw [List.concat_eq_append] at h0
        subst h0
        exact ⟨t, c, rfl, by simpa using h3⟩
  · rintro ⟨h0, h1, t, c, rfl, h3⟩
    have g1 : (t ++ [c]).any (badR l) = false := List.any_eq_false.2 fun x hx => by
      obtain ⟨a, b, _⟩ := h1 x hx
      unfold badR
      rw [a, b]; decide
    have g2 : (t ++ [c]).any (badK l) = false := List.any_eq_false.2 fun x hx => by
      obtain ⟨a, b, _⟩ := h1 x hx
      unfold badK
      rw [b]; decide
    have g4 : (t ++ [c]).any (badP l) = false := List.any_eq_false.2 fun x hx => by
      obtain ⟨a, b, e⟩ := h1 x hx
      unfold badP
      rw [e]; simp
    unfold mayD
    rw [if_neg (by simp at h0 ⊢; omega), g1, g2, g4, if_neg (by decide), if_neg (by decide), if_neg (by simp [h3]), if_neg (by decide)]
end Go.Proofs.YtfnkjcodcoehcaaGreatDoor
