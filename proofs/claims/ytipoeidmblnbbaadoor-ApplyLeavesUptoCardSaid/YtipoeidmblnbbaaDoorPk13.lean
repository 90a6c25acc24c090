/- Merged texts: PartA, CellsMay, Tell. -/
import Derived.Test.YtipoeidmblnbbaaDoorPk11
import Derived.Test.YtipoeidmblnbbaaDoorPk7
import Derived.Test.YtipoeidmblnbbaaDoorPk10
import Derived.Test.YtipoeidmblnbbaaDoorPk12
import Derived.Test.YtipoeidmblnbbaaDoorPk6
import Derived.Test.YtipoeidmblnbbaaDoorMkIns3Pd
/- The walks of attrs.Part and of the document's Part of a set. -/
namespace Go.Proofs.YtipoeidmblnbbaaDoor
open Go.RowKit
set_option linter.unusedVariables false
set_option linter.unusedSimpArgs false

set_option maxHeartbeats 1600000 in
theorem partClA_any (s b1 b2 : Nat) (l : List Ky) (b : Bool) (x1 x2 x3 x4 : Int) (x5 : ByteArray) (w : World) (hS : Sch w s l)
    (h1 : w.heap[b1]? = some (.cells #[.pointer (some ⟨s, 0, none⟩)] 26 (0, 0))) (h2 : w.heap[b2]? = some (.cells #[.bool b] 4 (0, 0))) :
    Calls Tryd.prog 67 #[.agg #[.int .i64 x1, .int .u8 x2, .int .i64 x3, .int .u64 x4, .string x5], .pointer (some ⟨b1, 0, none⟩), .pointer (some ⟨b2, 0, none⟩)] w fun e w' => e = .returned (.bool (!keepK l b x1)) ∧ Below w.heap.size w w' := by
  have y0 := ext_alloc w (.cells #[.int .i64 x1, .int .u8 x2, .int .i64 x3, .int .u64 x4, .string x5] 58)
  have c1 := box_1 ((y0.block b1 (lt_of_some h1)).trans h1)
  have g2 := (y0.block b2 (lt_of_some h2)).trans h2
  have HS := Lib.hid (hS.ext y0)
  have G2 := Lib.hid g2
  clear g2 hS
  go_enter Tryd.func67, Tryd.ntmps67
  go_wp2_with (go_at_call 68; refine Hid.out ?_)
  refine Lib.hid ?_
  generalize hw0 : w.alloc _ = w0 at *
  clear hw0
  refine (findS_any s l x1 w0 HS.out).mono ?_
  rintro e w1 ⟨i, c, kd, d, g, q, ok, rfl, hk, hb, y1⟩
  have y2 := ext_alloc w1 (.cells #[.int .i64 i, .bool c, .int .u8 kd, .bool d, .bool g, .int .i64 q] 60)
  have g3 := (y1.block b2 (lt_of_some G2.out)).trans G2.out
  have c2 := box_1 ((y2.block b2 (lt_of_some g3)).trans g3)
  have yy := ext_trans y0 (ext_trans y1 y2)
  have HB := Lib.hid hb
  have HK := Lib.hid hk
  clear g3 hk hb
  cases ok with
  | false =>
    have HE : Hid (keepK l b x1 = false) := Lib.hid (by
      have h := HB.out
      unfold keepK
      cases hq : findK l x1 with
      | none => rfl
      | some k => rw [hq] at h; cases h)
    go_wp2_with (fail)
    go_ret
    exact ⟨ret_bool (by rw [HE.out]; rfl), yy⟩
  | true =>
    have HE : Hid (keepK l b x1 = (c == b)) := Lib.hid (by
      have h := HB.out
      have h2 := HK.out
      unfold keepK
      cases hq : findK l x1 with
      | none => rw [hq] at h; cases h
      | some k => rw [hq] at h2; simp at h2; subst h2; rfl)
    go_wp2_with (fail)
    go_ret
    exact ⟨ret_bool (by rw [HE.out] <;> (cases c <;> cases b <;> rfl)), yy⟩

set_option maxRecDepth 100000 in
set_option maxHeartbeats 1600000 in
theorem partA_any (s : Nat) (l : List Ky) (b : Bool) (A : Option Addr) (n c : Nat) (p : List At) (w : World) (hn : n = p.length) (h : RdAt w w.heap.size A p) (hb : n ≤ 100000000) (hS : Sch w s l) :
    Calls Tryd.prog 36 #[.pointer (some ⟨s, 0, none⟩), .slice A n c, .bool b] w (NewAt (partS l b p) w) := by
  have N := Lib.hid hn
  have ya := ext_alloc w (.cells #[.pointer (some ⟨s, 0, none⟩)] 26)
  have yb := ext_alloc (w.alloc (.cells #[.pointer (some ⟨s, 0, none⟩)] 26)) (.cells #[.bool b] 4)
  have g1 := heap_alloc_new w (.cells #[.pointer (some ⟨s, 0, none⟩)] 26)
  have g2 := heap_alloc_new (w.alloc (.cells #[.pointer (some ⟨s, 0, none⟩)] 26)) (.cells #[.bool b] 4)
  have G1 := Lib.hid ((yb.block w.heap.size (by simp)).trans g1)
  rw [World.size_alloc] at g2
  have G2 := Lib.hid g2
  have y := ext_trans ya yb
  have hh := h.ext y
  have HS := Lib.hid (hS.ext y)
  clear hn g1 g2 ya yb h hS
  go_enter Tryd.func36, Tryd.ntmps36
  go_wp2_with (go_at_call 66; refine Hid.out ?_)
  refine Lib.hid ?_
  refine (cloneAt_any A n c p _ N.out hh hb).mono ?_
  rintro e w1 ⟨A', c', rfl, hown, y1⟩
  have HOW := Lib.hid hown
  have hsz2 : ((w.alloc (.cells #[.pointer (some ⟨s, 0, none⟩)] 26)).alloc (.cells #[.bool b] 4)).heap.size = w.heap.size + 2 := by simp
  have G1' := Lib.hid ((y1.block w.heap.size (by rw [hsz2]; omega)).trans G1.out)
  have G2' := Lib.hid ((y1.block (w.heap.size + 1) (by rw [hsz2]; omega)).trans G2.out)
  have hb1 : w.heap.size + 2 ≤ w1.heap.size := by have := y1.size; omega
  have HSZ := Lib.hid hsz2
  clear hown hsz2
  go_wp2_with (go_at_call 65; refine Hid.out ?_)
  refine Lib.hid ?_
  refine (deletePartA_any w.heap.size (w.heap.size + 1) (fun c => !keepK l b c.key) A' p.length c' _ p w1 HOW.out (by rw [HSZ.out]; exact hb1) (by have := N.out; omega) rfl ?cl).mono ?_
  case cl =>
    intro x1 x2 x3 x4 x5 w' hb'
    refine partClA_any s _ _ l b x1 x2 x3 x4 x5 w' (HS.out.ext (y1.trans hb')) ?_ ?_
    · exact (hb'.block _ (by rw [HSZ.out]; omega)).trans G1'.out
    · exact (hb'.block _ (by rw [HSZ.out]; omega)).trans G2'.out
  rintro e w2 ⟨A2, c2, rfl, hown2, y2⟩
  have yy : Below w.heap.size w w2 := ext_trans y (y1.trans y2)
  have hf : p.filter (fun x => !!keepK l b x.key) = partS l b p := by simp [partS]
  rw [hf] at hown2 ⊢
  have HO2 := Lib.hid (hown2.base_le (B := w.heap.size) (by rw [HSZ.out]; omega))
  clear hown2 hf
  go_wp2_with (fail)
  go_ret
  exact ⟨A2, c2, rfl, HO2.out, yy⟩
end Go.Proofs.YtipoeidmblnbbaaDoor
/- The walk of cells.May. -/
namespace Go.Proofs.YtipoeidmblnbbaaDoor
open Go.RowKit
set_option linter.unusedVariables false
set_option linter.unusedSimpArgs false

def badR (l : List Ky) (c : Cl) : Bool := !mayR c.r || decide (mayS l c.s = 3)
def badK (l : List Ky) (c : Cl) : Bool := !decide (mayS l c.s = 0)
def badP (l : List Ky) (c : Cl) : Bool := decide (0 < (partS l (!(c.r == 10)) c.s).length)
/-- may cells be a document? -/
def mayD (l : List Ky) (d : List Cl) : Int :=
  if d.length < 1 ∨ 536870912 < d.length then 3 else if d.any (badR l) = true then 3 else if d.any (badK l) = true then 4
  else if (d.getLast?.map (fun c => decide (c.r = 10))) ≠ some true then 6 else if d.any (badP l) = true then 7 else 0
def clsOf (x : List ClS) : List Cl := x.map (·.c)
/-- a cell that a closure of May is asked of -/
structure ClIn (w : World) (b1 s : Nat) (l : List Ky) (x : ClS) : Prop where
  hS : Sch w s l
  h1 : w.heap[b1]? = some (.cells #[.pointer (some ⟨s, 0, none⟩)] 26 (0, 0))
  rp : RdAt w w.heap.size x.As x.c.s
  hb : x.c.s.length ≤ 100000000
  hv : okVr x.c.s
  hT : Lib.Utf8Tabs 1 2 w
theorem ClIn.ext {w w' : World} {b1 s : Nat} {l : List Ky} {x : ClS} (h : ClIn w b1 s l x) (y : Below w.heap.size w w') : ClIn w' b1 s l x :=
  ⟨h.hS.ext y, (y.block b1 (lt_of_some h.h1)).trans h.h1, h.rp.ext y, h.hb, h.hv, Utf8Tabs_below h.hT y⟩

set_option maxRecDepth 100000 in
set_option maxHeartbeats 800000 in
theorem cmay2_any (b1 s : Nat) (l : List Ky) (r : Int) (p : List At) (As : Option Addr) (cs : Nat) (w : World) (h : ClIn w b1 s l ⟨⟨r, p⟩, As, cs⟩) :
    Calls Tryd.prog 31 #[.agg #[.int .i32 r, .slice As p.length cs], .pointer (some ⟨b1, 0, none⟩)] w fun e w' => e = .returned (.bool (badR l ⟨r, p⟩)) ∧ Below w.heap.size w w' := by
  have y0 := ext_alloc w (.cells #[.int .i32 r, .slice As p.length cs] 53)
  obtain ⟨hS, h1, rp, hb, hv, hT⟩ := h.ext y0
  have c1 := box_1 h1
  have HS := Lib.hid hS
  have HRP := Lib.hid rp
  have HV := Lib.hid hv
  have HT := Lib.hid hT
  generalize hm : mayS l p = ms
  have HM := Lib.hid hm
  have HB : Hid (badR l ⟨r, p⟩ = (!mayR r || decide (ms = 3))) := Lib.hid (by unfold badR; simp only; rw [hm])
  rw [HB.out]
  clear h hS h1 rp hv hT hm
  go_enter Tryd.func31, Tryd.ntmps31
  cases hr : mayR r with
  | false =>
    have HR := Lib.hid hr
    clear hr
    go_wp2_with (go_at_call 32; refine (may_any r _).mono ?_; rintro e w' ⟨rfl, rfl⟩; rw [HR.out])
    go_ret
    exact ⟨rfl, y0⟩
  | true =>
    have HR := Lib.hid hr
    clear hr
    go_wp2_with (first
      | (go_at_call 32; refine (may_any r _).mono ?_; rintro e w' ⟨rfl, rfl⟩; rw [HR.out])
      | (go_at_call 33; refine (mayS_any s l As p.length cs p _ rfl HRP.out (by omega) HS.out HV.out HT.out).mono ?_; rintro e w1 ⟨rfl, y1⟩; rw [HM.out]))
    go_ret
    exact ⟨ret_bool (by by_cases h3 : ms = 3 <;> simp [h3]), ext_trans y0 y1⟩

set_option maxRecDepth 100000 in
set_option maxHeartbeats 800000 in
theorem cmay3_any (b1 s : Nat) (l : List Ky) (r : Int) (p : List At) (As : Option Addr) (cs : Nat) (w : World) (h : ClIn w b1 s l ⟨⟨r, p⟩, As, cs⟩) :
    Calls Tryd.prog 34 #[.agg #[.int .i32 r, .slice As p.length cs], .pointer (some ⟨b1, 0, none⟩)] w fun e w' => e = .returned (.bool (badK l ⟨r, p⟩)) ∧ Below w.heap.size w w' := by
  have y0 := ext_alloc w (.cells #[.int .i32 r, .slice As p.length cs] 53)
  obtain ⟨hS, h1, rp, hb, hv, hT⟩ := h.ext y0
  have c1 := box_1 h1
  have HS := Lib.hid hS
  have HRP := Lib.hid rp
  have HV := Lib.hid hv
  have HT := Lib.hid hT
  generalize hm : mayS l p = ms
  have HM := Lib.hid hm
  have HB : Hid (badK l ⟨r, p⟩ = !decide (ms = 0)) := Lib.hid (by unfold badK; simp only; rw [hm])
  rw [HB.out]
  clear h hS h1 rp hv hT hm
  go_enter Tryd.func34, Tryd.ntmps34
  go_wp2_with (go_at_call 33; refine (mayS_any s l As p.length cs p _ rfl HRP.out (by omega) HS.out HV.out HT.out).mono ?_; rintro e w1 ⟨rfl, y1⟩; rw [HM.out])
  go_ret
  exact ⟨ret_bool (by by_cases h3 : ms = 0 <;> simp [h3]), ext_trans y0 y1⟩

set_option maxRecDepth 100000 in
set_option maxHeartbeats 800000 in
theorem cmay4_any (b1 s : Nat) (l : List Ky) (r : Int) (p : List At) (As : Option Addr) (cs : Nat) (w : World) (h : ClIn w b1 s l ⟨⟨r, p⟩, As, cs⟩) :
    Calls Tryd.prog 35 #[.agg #[.int .i32 r, .slice As p.length cs], .pointer (some ⟨b1, 0, none⟩)] w fun e w' => e = .returned (.bool (badP l ⟨r, p⟩)) ∧ Below w.heap.size w w' := by
  have y0 := ext_alloc w (.cells #[.int .i32 r, .slice As p.length cs] 53)
  obtain ⟨hS, h1, rp, hb, hv, hT⟩ := h.ext y0
  have c1 := box_1 h1
  have HS := Lib.hid hS
  have HRP := Lib.hid rp
  have HV := Lib.hid hv
  have HT := Lib.hid hT
  obtain ⟨c2, c3⟩ := box_cl (heap_alloc_new w (.cells #[.int .i32 r, .slice As p.length cs] 53))
  generalize hm : partS l (!(r == 10)) p = ps
  have HM := Lib.hid hm
  have HB : Hid (badP l ⟨r, p⟩ = decide (0 < ps.length)) := Lib.hid (by unfold badP; simp only; rw [hm])
  have HL := Lib.hid hb
  rw [HB.out]
  clear h hS h1 rp hv hT hm hb
  have hne : (r != 10) = !(r == 10) := rfl
  go_enter Tryd.func35, Tryd.ntmps35
  go_wp2_with (go_at_call 36; refine Hid.out ?_)
  refine Lib.hid ?_
  refine (partA_any s l (!(r == 10)) As p.length cs p _ rfl HRP.out HL.out HS.out).mono ?_
  rw [HM.out]
  rintro e w1 ⟨A1, k1, rfl, _, y1⟩
  go_wp2_with (fail)
  go_ret
  exact ⟨ret_bool (by by_cases h3 : 0 < ps.length <;> simp [h3]), ext_trans y0 y1⟩

set_option maxRecDepth 100000 in
set_option maxHeartbeats 800000 in
theorem cidx2_any (b1 s : Nat) (l : List Ky) (A : Option Addr) (n c : Nat) (d : List ClS) (w : World) (hn : n = d.length) (h : RdCs w w.heap.size A d) (hb : n ≤ 140737488355328) (hc : ∀ x ∈ d, ClIn w b1 s l x) :
    Calls Tryd.prog 61 #[.slice A n c, .func (.func 31) #[] #[.pointer (some ⟨b1, 0, none⟩)]] w fun e w' => ∃ i : Int, e = .returned (.int .i64 i) ∧ IdxOut (badR l) (clsOf d) i ∧ Below w.heap.size w w' := by
  have N := Lib.hid hn
  have HH := Lib.hid h
  have HC := Lib.hid hc
  have HCL : Hid (clsOf d = d.map (·.c)) := Lib.hid rfl
  clear hn h hc
  go_enter Tryd.func61, Tryd.ntmps61
  go_wp2_with (fail)
  go_loopg [8] n (fun g iv wr => ∃ i : Nat, i ≤ n ∧ g = n - i ∧ iv = .int .i64 i ∧ Below w.heap.size w wr ∧ Hid (∀ x ∈ (clsOf d).take i, badR l x = false))
  case atStart => exact ⟨0, by omega, rfl, rfl, Below.refl _ _, Lib.hid (by simp)⟩
  case round =>
    obtain ⟨i, hi, hg, rfl, y, HI⟩ := hrel
    have HG := Lib.hid hg
    clear hg
    by_cases hlt : i < n
    · have hil : i < d.length := by have := N.out; omega
      obtain ⟨ad, x, rfl, _, _, hx, hc1⟩ := (HH.out.ext y).el hil
      have hxc : (clsOf d)[i]? = some x.c := by rw [HCL.out, List.getElem?_map, hx]; rfl
      have HT : Hid ((clsOf d).take (i + 1) = (clsOf d).take i ++ [x.c]) := Lib.hid (by rw [List.take_add_one, hxc]; rfl)
      have HX := Lib.hid hxc
      have hin := Lib.hid ((HC.out x (List.mem_of_getElem? hx)).ext y)
      obtain ⟨⟨r, p⟩, As, cs⟩ := x
      obtain ⟨r0, r1⟩ := cl_cells hc1
      clear hx hil hc1 hxc
      have hw2 : IntKind.i64.wrap ((i:Int) + 1) = (i : Int) + 1 := IntWalk.i64_in _ (by omega)
      cases hp : badR l ⟨r, p⟩ with
      | true =>
        have HP := Lib.hid hp
        clear hp
        go_wp2_with (go_at_call 31; refine Hid.out ?_)
        refine Lib.hid ?_
        refine (cmay2_any b1 s l r p As cs _ hin.out).mono ?_
        rintro e w' ⟨rfl, y2⟩
        rw [HP.out]
        go_wp2_with (fail)
        go_ret
        exact ⟨i, rfl, .inr ⟨i, rfl, by rw [HCL.out, List.length_map]; have := N.out; omega, HI.out, _, HX.out, HP.out⟩, ext_trans y y2⟩
      | false =>
        have HP := Lib.hid hp
        clear hp
        go_wp2_with (go_at_call 31; refine Hid.out ?_)
        refine Lib.hid ?_
        refine (cmay2_any b1 s l r p As cs _ hin.out).mono ?_
        rintro e w' ⟨rfl, y2⟩
        rw [HP.out]
        go_wp2_with (fail)
        go_roundg (n - (i + 1))
        case measure => have := HG.out; omega
        case rel =>
          refine ⟨i + 1, by omega, rfl, by go_num, ext_trans y y2, Lib.hid ?_⟩
          intro z hz
          rw [HT.out] at hz
          rcases List.mem_append.1 hz with hz | hz
          · exact HI.out z hz
          · simp at hz; rw [hz]; exact HP.out
    · go_wp2_with (fail)
      go_ret
      refine ⟨-1, rfl, .inl ⟨rfl, ?_⟩, y⟩
      have h1 := HI.out
      rw [List.take_of_length_le (by rw [HCL.out, List.length_map]; have := N.out; omega)] at h1
      exact h1

set_option maxHeartbeats 800000 in
theorem ccon2_any (b1 s : Nat) (l : List Ky) (A : Option Addr) (n c : Nat) (d : List ClS) (w : World) (hn : n = d.length) (h : RdCs w w.heap.size A d) (hb : n ≤ 140737488355328) (hc : ∀ x ∈ d, ClIn w b1 s l x) :
    Calls Tryd.prog 30 #[.slice A n c, .func (.func 31) #[] #[.pointer (some ⟨b1, 0, none⟩)]] w fun e w' => e = .returned (.bool ((clsOf d).any (badR l))) ∧ Below w.heap.size w w' := by
  have N := Lib.hid hn
  have HH := Lib.hid h
  have HC := Lib.hid hc
  generalize hr : (clsOf d).any (badR l) = r
  have HR := Lib.hid hr
  clear hr hn h hc
  go_enter Tryd.func30, Tryd.ntmps30
  go_wp2_with (go_at_call 61; refine Hid.out ?_)
  refine Lib.hid ?_
  refine (cidx2_any b1 s l A n c d w N.out HH.out hb HC.out).mono ?_
  rintro e w1 ⟨i, rfl, hi, y⟩
  have hd := idx_any hi
  rw [HR.out] at hd
  clear hi
  go_wp2_with (fail)
  go_ret
  exact ⟨by first | rfl | exact ret_bool hd, y⟩

set_option maxHeartbeats 800000 in
theorem csome2_any (b1 b0 s : Nat) (l : List Ky) (A : Option Addr) (n c : Nat) (d : List ClS) (w : World) (hn : n = d.length) (h : RdCs w w.heap.size A d) (hb : n ≤ 140737488355328) (hc : ∀ x ∈ d, ClIn w b1 s l x)
    (h0 : w.heap[b0]? = some (.cells #[.slice A n c] 23 (0, 0))) :
    Calls Tryd.prog 29 #[.func (.func 31) #[] #[.pointer (some ⟨b1, 0, none⟩)], .pointer (some ⟨b0, 0, none⟩)] w fun e w' => e = .returned (.bool ((clsOf d).any (badR l))) ∧ Below w.heap.size w w' := by
  have N := Lib.hid hn
  have HH := Lib.hid h
  have HC := Lib.hid hc
  have c0 := box_1 h0
  generalize hr : (clsOf d).any (badR l) = r
  have HR := Lib.hid hr
  clear hr hn h hc h0
  go_enter Tryd.func29, Tryd.ntmps29
  go_wp2_with (go_at_call 30; refine Hid.out ?_)
  refine Lib.hid ?_
  refine (ccon2_any b1 s l A n c d w N.out HH.out hb HC.out).mono ?_
  rw [HR.out]
  rintro e w1 ⟨rfl, y⟩
  go_wp2_with (fail)
  go_ret
  exact ⟨rfl, y⟩

set_option maxRecDepth 100000 in
set_option maxHeartbeats 800000 in
theorem cidx3_any (b1 s : Nat) (l : List Ky) (A : Option Addr) (n c : Nat) (d : List ClS) (w : World) (hn : n = d.length) (h : RdCs w w.heap.size A d) (hb : n ≤ 140737488355328) (hc : ∀ x ∈ d, ClIn w b1 s l x) :
    Calls Tryd.prog 61 #[.slice A n c, .func (.func 34) #[] #[.pointer (some ⟨b1, 0, none⟩)]] w fun e w' => ∃ i : Int, e = .returned (.int .i64 i) ∧ IdxOut (badK l) (clsOf d) i ∧ Below w.heap.size w w' := by
  have N := Lib.hid hn
  have HH := Lib.hid h
  have HC := Lib.hid hc
  have HCL : Hid (clsOf d = d.map (·.c)) := Lib.hid rfl
  clear hn h hc
  go_enter Tryd.func61, Tryd.ntmps61
  go_wp2_with (fail)
  go_loopg [8] n (fun g iv wr => ∃ i : Nat, i ≤ n ∧ g = n - i ∧ iv = .int .i64 i ∧ Below w.heap.size w wr ∧ Hid (∀ x ∈ (clsOf d).take i, badK l x = false))
  case atStart => exact ⟨0, by omega, rfl, rfl, Below.refl _ _, Lib.hid (by simp)⟩
  case round =>
    obtain ⟨i, hi, hg, rfl, y, HI⟩ := hrel
    have HG := Lib.hid hg
    clear hg
    by_cases hlt : i < n
    · have hil : i < d.length := by have := N.out; omega
      obtain ⟨ad, x, rfl, _, _, hx, hc1⟩ := (HH.out.ext y).el hil
      have hxc : (clsOf d)[i]? = some x.c := by rw [HCL.out, List.getElem?_map, hx]; rfl
      have HT : Hid ((clsOf d).take (i + 1) = (clsOf d).take i ++ [x.c]) := Lib.hid (by rw [List.take_add_one, hxc]; rfl)
      have HX := Lib.hid hxc
      have hin := Lib.hid ((HC.out x (List.mem_of_getElem? hx)).ext y)
      obtain ⟨⟨r, p⟩, As, cs⟩ := x
      obtain ⟨r0, r1⟩ := cl_cells hc1
      clear hx hil hc1 hxc
      have hw2 : IntKind.i64.wrap ((i:Int) + 1) = (i : Int) + 1 := IntWalk.i64_in _ (by omega)
      cases hp : badK l ⟨r, p⟩ with
      | true =>
        have HP := Lib.hid hp
        clear hp
        go_wp2_with (go_at_call 34; refine Hid.out ?_)
        refine Lib.hid ?_
        refine (cmay3_any b1 s l r p As cs _ hin.out).mono ?_
        rintro e w' ⟨rfl, y2⟩
        rw [HP.out]
        go_wp2_with (fail)
        go_ret
        exact ⟨i, rfl, .inr ⟨i, rfl, by rw [HCL.out, List.length_map]; have := N.out; omega, HI.out, _, HX.out, HP.out⟩, ext_trans y y2⟩
      | false =>
        have HP := Lib.hid hp
        clear hp
        go_wp2_with (go_at_call 34; refine Hid.out ?_)
        refine Lib.hid ?_
        refine (cmay3_any b1 s l r p As cs _ hin.out).mono ?_
        rintro e w' ⟨rfl, y2⟩
        rw [HP.out]
        go_wp2_with (fail)
        go_roundg (n - (i + 1))
        case measure => have := HG.out; omega
        case rel =>
          refine ⟨i + 1, by omega, rfl, by go_num, ext_trans y y2, Lib.hid ?_⟩
          intro z hz
          rw [HT.out] at hz
          rcases List.mem_append.1 hz with hz | hz
          · exact HI.out z hz
          · simp at hz; rw [hz]; exact HP.out
    · go_wp2_with (fail)
      go_ret
      refine ⟨-1, rfl, .inl ⟨rfl, ?_⟩, y⟩
      have h1 := HI.out
      rw [List.take_of_length_le (by rw [HCL.out, List.length_map]; have := N.out; omega)] at h1
      exact h1

set_option maxHeartbeats 800000 in
theorem ccon3_any (b1 s : Nat) (l : List Ky) (A : Option Addr) (n c : Nat) (d : List ClS) (w : World) (hn : n = d.length) (h : RdCs w w.heap.size A d) (hb : n ≤ 140737488355328) (hc : ∀ x ∈ d, ClIn w b1 s l x) :
    Calls Tryd.prog 30 #[.slice A n c, .func (.func 34) #[] #[.pointer (some ⟨b1, 0, none⟩)]] w fun e w' => e = .returned (.bool ((clsOf d).any (badK l))) ∧ Below w.heap.size w w' := by
  have N := Lib.hid hn
  have HH := Lib.hid h
  have HC := Lib.hid hc
  generalize hr : (clsOf d).any (badK l) = r
  have HR := Lib.hid hr
  clear hr hn h hc
  go_enter Tryd.func30, Tryd.ntmps30
  go_wp2_with (go_at_call 61; refine Hid.out ?_)
  refine Lib.hid ?_
  refine (cidx3_any b1 s l A n c d w N.out HH.out hb HC.out).mono ?_
  rintro e w1 ⟨i, rfl, hi, y⟩
  have hd := idx_any hi
  rw [HR.out] at hd
  clear hi
  go_wp2_with (fail)
  go_ret
  exact ⟨by first | rfl | exact ret_bool hd, y⟩

set_option maxHeartbeats 800000 in
theorem csome3_any (b1 b0 s : Nat) (l : List Ky) (A : Option Addr) (n c : Nat) (d : List ClS) (w : World) (hn : n = d.length) (h : RdCs w w.heap.size A d) (hb : n ≤ 140737488355328) (hc : ∀ x ∈ d, ClIn w b1 s l x)
    (h0 : w.heap[b0]? = some (.cells #[.slice A n c] 23 (0, 0))) :
    Calls Tryd.prog 29 #[.func (.func 34) #[] #[.pointer (some ⟨b1, 0, none⟩)], .pointer (some ⟨b0, 0, none⟩)] w fun e w' => e = .returned (.bool ((clsOf d).any (badK l))) ∧ Below w.heap.size w w' := by
  have N := Lib.hid hn
  have HH := Lib.hid h
  have HC := Lib.hid hc
  have c0 := box_1 h0
  generalize hr : (clsOf d).any (badK l) = r
  have HR := Lib.hid hr
  clear hr hn h hc h0
  go_enter Tryd.func29, Tryd.ntmps29
  go_wp2_with (go_at_call 30; refine Hid.out ?_)
  refine Lib.hid ?_
  refine (ccon3_any b1 s l A n c d w N.out HH.out hb HC.out).mono ?_
  rw [HR.out]
  rintro e w1 ⟨rfl, y⟩
  go_wp2_with (fail)
  go_ret
  exact ⟨rfl, y⟩

set_option maxRecDepth 100000 in
set_option maxHeartbeats 800000 in
theorem cidx4_any (b1 s : Nat) (l : List Ky) (A : Option Addr) (n c : Nat) (d : List ClS) (w : World) (hn : n = d.length) (h : RdCs w w.heap.size A d) (hb : n ≤ 140737488355328) (hc : ∀ x ∈ d, ClIn w b1 s l x) :
    Calls Tryd.prog 61 #[.slice A n c, .func (.func 35) #[] #[.pointer (some ⟨b1, 0, none⟩)]] w fun e w' => ∃ i : Int, e = .returned (.int .i64 i) ∧ IdxOut (badP l) (clsOf d) i ∧ Below w.heap.size w w' := by
  have N := Lib.hid hn
  have HH := Lib.hid h
  have HC := Lib.hid hc
  have HCL : Hid (clsOf d = d.map (·.c)) := Lib.hid rfl
  clear hn h hc
  go_enter Tryd.func61, Tryd.ntmps61
  go_wp2_with (fail)
  go_loopg [8] n (fun g iv wr => ∃ i : Nat, i ≤ n ∧ g = n - i ∧ iv = .int .i64 i ∧ Below w.heap.size w wr ∧ Hid (∀ x ∈ (clsOf d).take i, badP l x = false))
  case atStart => exact ⟨0, by omega, rfl, rfl, Below.refl _ _, Lib.hid (by simp)⟩
  case round =>
    obtain ⟨i, hi, hg, rfl, y, HI⟩ := hrel
    have HG := Lib.hid hg
    clear hg
    by_cases hlt : i < n
    · have hil : i < d.length := by have := N.out; omega
      obtain ⟨ad, x, rfl, _, _, hx, hc1⟩ := (HH.out.ext y).el hil
      have hxc : (clsOf d)[i]? = some x.c := by rw [HCL.out, List.getElem?_map, hx]; rfl
      have HT : Hid ((clsOf d).take (i + 1) = (clsOf d).take i ++ [x.c]) := Lib.hid (by rw [List.take_add_one, hxc]; rfl)
      have HX := Lib.hid hxc
      have hin := Lib.hid ((HC.out x (List.mem_of_getElem? hx)).ext y)
      obtain ⟨⟨r, p⟩, As, cs⟩ := x
      obtain ⟨r0, r1⟩ := cl_cells hc1
      clear hx hil hc1 hxc
      have hw2 : IntKind.i64.wrap ((i:Int) + 1) = (i : Int) + 1 := IntWalk.i64_in _ (by omega)
      cases hp : badP l ⟨r, p⟩ with
      | true =>
        have HP := Lib.hid hp
        clear hp
        go_wp2_with (go_at_call 35; refine Hid.out ?_)
        refine Lib.hid ?_
        refine (cmay4_any b1 s l r p As cs _ hin.out).mono ?_
        rintro e w' ⟨rfl, y2⟩
        rw [HP.out]
        go_wp2_with (fail)
        go_ret
        exact ⟨i, rfl, .inr ⟨i, rfl, by rw [HCL.out, List.length_map]; have := N.out; omega, HI.out, _, HX.out, HP.out⟩, ext_trans y y2⟩
      | false =>
        have HP := Lib.hid hp
        clear hp
        go_wp2_with (go_at_call 35; refine Hid.out ?_)
        refine Lib.hid ?_
        refine (cmay4_any b1 s l r p As cs _ hin.out).mono ?_
        rintro e w' ⟨rfl, y2⟩
        rw [HP.out]
        go_wp2_with (fail)
        go_roundg (n - (i + 1))
        case measure => have := HG.out; omega
        case rel =>
          refine ⟨i + 1, by omega, rfl, by go_num, ext_trans y y2, Lib.hid ?_⟩
          intro z hz
          rw [HT.out] at hz
          rcases List.mem_append.1 hz with hz | hz
          · exact HI.out z hz
          · simp at hz; rw [hz]; exact HP.out
    · go_wp2_with (fail)
      go_ret
      refine ⟨-1, rfl, .inl ⟨rfl, ?_⟩, y⟩
      have h1 := HI.out
      rw [List.take_of_length_le (by rw [HCL.out, List.length_map]; have := N.out; omega)] at h1
      exact h1

set_option maxHeartbeats 800000 in
theorem ccon4_any (b1 s : Nat) (l : List Ky) (A : Option Addr) (n c : Nat) (d : List ClS) (w : World) (hn : n = d.length) (h : RdCs w w.heap.size A d) (hb : n ≤ 140737488355328) (hc : ∀ x ∈ d, ClIn w b1 s l x) :
    Calls Tryd.prog 30 #[.slice A n c, .func (.func 35) #[] #[.pointer (some ⟨b1, 0, none⟩)]] w fun e w' => e = .returned (.bool ((clsOf d).any (badP l))) ∧ Below w.heap.size w w' := by
  have N := Lib.hid hn
  have HH := Lib.hid h
  have HC := Lib.hid hc
  generalize hr : (clsOf d).any (badP l) = r
  have HR := Lib.hid hr
  clear hr hn h hc
  go_enter Tryd.func30, Tryd.ntmps30
  go_wp2_with (go_at_call 61; refine Hid.out ?_)
  refine Lib.hid ?_
  refine (cidx4_any b1 s l A n c d w N.out HH.out hb HC.out).mono ?_
  rintro e w1 ⟨i, rfl, hi, y⟩
  have hd := idx_any hi
  rw [HR.out] at hd
  clear hi
  go_wp2_with (fail)
  go_ret
  exact ⟨by first | rfl | exact ret_bool hd, y⟩

set_option maxHeartbeats 800000 in
theorem csome4_any (b1 b0 s : Nat) (l : List Ky) (A : Option Addr) (n c : Nat) (d : List ClS) (w : World) (hn : n = d.length) (h : RdCs w w.heap.size A d) (hb : n ≤ 140737488355328) (hc : ∀ x ∈ d, ClIn w b1 s l x)
    (h0 : w.heap[b0]? = some (.cells #[.slice A n c] 23 (0, 0))) :
    Calls Tryd.prog 29 #[.func (.func 35) #[] #[.pointer (some ⟨b1, 0, none⟩)], .pointer (some ⟨b0, 0, none⟩)] w fun e w' => e = .returned (.bool ((clsOf d).any (badP l))) ∧ Below w.heap.size w w' := by
  have N := Lib.hid hn
  have HH := Lib.hid h
  have HC := Lib.hid hc
  have c0 := box_1 h0
  generalize hr : (clsOf d).any (badP l) = r
  have HR := Lib.hid hr
  clear hr hn h hc h0
  go_enter Tryd.func29, Tryd.ntmps29
  go_wp2_with (go_at_call 30; refine Hid.out ?_)
  refine Lib.hid ?_
  refine (ccon4_any b1 s l A n c d w N.out HH.out hb HC.out).mono ?_
  rw [HR.out]
  rintro e w1 ⟨rfl, y⟩
  go_wp2_with (fail)
  go_ret
  exact ⟨rfl, y⟩

end Go.Proofs.YtipoeidmblnbbaaDoor
/- The walk of cells.tell. -/
namespace Go.Proofs.YtipoeidmblnbbaaDoor
open Go.RowKit
set_option linter.unusedVariables false
set_option linter.unusedSimpArgs false

def tellM (m : Mk) (d : List Cl) : Mk := d.foldl (fun m c => mkInsert m [c.r] c.s) m
/-- how much a maker's inserts hold -/
def InsB (m : Mk) (K : Nat) : Prop := m.ins.length ≤ K ∧ ∀ o ∈ m.ins, o.s.length ≤ 10000000 ∧ o.r.length ≤ K ∧ o.p = []
theorem InsB.insert {m : Mk} {K : Nat} (h : InsB m K) (r : Int) {s : List At} (hs : s.length ≤ 10000000) : InsB (mkInsert m [r] s) (K + 1) := by
  obtain ⟨h1, h2⟩ := h
  unfold mkInsert addI
  rw [if_neg (by simp)]
  have base : ∀ o ∈ m.ins, o.s.length ≤ 10000000 ∧ o.r.length ≤ K + 1 ∧ o.p = [] := fun o ho => ⟨(h2 o ho).1, Nat.le_succ_of_le (h2 o ho).2.1, (h2 o ho).2.2⟩
  have push : InsB { m with ins := m.ins ++ [opI [r] s] } (K + 1) := ⟨by simp; omega, fun o ho => by
    rcases List.mem_append.1 ho with ho | ho
    · exact base o ho
    · simp at ho; subst ho; exact ⟨hs, by simp [opI], rfl⟩⟩
  cases hg : m.ins.getLast? with
  | none => exact push
  | some o =>
    simp only
    by_cases hc : o.s = s
    · rw [if_pos hc]
      have hm := List.mem_of_getLast? hg
      have hpos := List.length_pos_of_mem hm
      refine ⟨by simp; omega, fun x hx => ?_⟩
      rcases List.mem_append.1 hx with hx | hx
      · exact base x ((List.dropLast_sublist _).subset hx)
      · simp at hx; subst hx
        exact ⟨(h2 o hm).1, by have := (h2 o hm).2.1; simp; omega, (h2 o hm).2.2⟩
    · rw [if_neg hc]; exact push
theorem tellM_snoc (m : Mk) (d : List Cl) (c : Cl) : tellM m (d ++ [c]) = mkInsert (tellM m d) [c.r] c.s := by unfold tellM; rw [List.foldl_append]; rfl
theorem InsB.tell {m : Mk} {K : Nat} (h : InsB m K) : ∀ (d : List Cl), (∀ c ∈ d, c.s.length ≤ 10000000) → InsB (tellM m d) (K + d.length) := by
  intro d
  induction d generalizing m K with
  | nil => intro _; exact h
  | cons c d ih =>
    intro hs
    have := ih (h.insert c.r (hs c (by simp))) (fun x hx => hs x (by simp [hx]))
    rw [List.length_cons, show K + (d.length + 1) = K + 1 + d.length by omega]
    exact this

set_option maxRecDepth 100000 in
set_option maxHeartbeats 800000 in
theorem tell_any (b : Nat) (A : Option Addr) (n c : Nat) (d : List ClS) (w : World) (F : Nat → Prop) (m : Mk) (K : Nat) (h : Mkr w F b m) (hn : n = d.length) (hr : RdCl w w.heap.size A d) (ho : OffF F A d.length) (hos : ∀ x ∈ d, OffF F x.As x.c.s.length)
    (hs : ∀ x ∈ d, x.c.s.length ≤ 10000000) (hK : InsB m K) (hKn : K + n ≤ 1000000) :
    Calls Tryd.prog 45 #[.pointer (some ⟨b, 0, none⟩), .slice A n c] w (MkOut (tellM m (clsOf d)) w F b) := by
  have N := Lib.hid hn
  have HR := Lib.hid hr.1
  have HP := Lib.hid hr.2
  have HOS := Lib.hid hos
  have HS := Lib.hid hs
  have HK := Lib.hid (fun i => hK.tell ((clsOf d).take i) (fun c hc => by
    have := List.mem_of_mem_take hc
    unfold clsOf at this
    obtain ⟨x, hx, rfl⟩ := List.mem_map.1 this
    exact hs x hx))
  have H := Lib.hid h
  clear hn hr hos hs h hK
  have HL : Hid ((clsOf d).length = d.length) := Lib.hid (by unfold clsOf; simp)
  go_enter Tryd.func45, Tryd.ntmps45
  go_wp2_with (fail)
  go_loopg [8] n (fun g iv wr => ∃ (i : Nat) (F' : Nat → Prop), i ≤ n ∧ g = n - i ∧ iv = .int .i64 (i : Int) ∧ Mkr wr F' b (tellM m ((clsOf d).take i)) ∧ Grow w F wr F')
  case atStart => exact ⟨0, F, by omega, rfl, rfl, H.out, Grow.refl _ _⟩
  case round =>
    obtain ⟨i, F', hi, hg, rfl, hm, gr⟩ := hrel
    have HG := Lib.hid hg
    have HM := Lib.hid hm
    clear hg hm
    by_cases hlt : i < n
    · have hl1 : i < d.length := by have := N.out; omega
      obtain ⟨ad, x, rfl, had, _, hx, hc1⟩ := (HR.out.grow gr ho).el hl1
      have hxm := List.mem_of_getElem? hx
      have hxc : (clsOf d)[i]? = some x.c := by unfold clsOf; rw [List.getElem?_map, hx]; rfl
      have HT : Hid (tellM m ((clsOf d).take (i + 1)) = mkInsert (tellM m ((clsOf d).take i)) [x.c.r] x.c.s) := Lib.hid (by rw [List.take_add_one, hxc]; exact tellM_snoc _ _ _)
      have RS := Lib.hid ((HP.out x hxm).grow gr (HOS.out x hxm))
      have SL := Lib.hid (HS.out x hxm)
      have KB := Lib.hid (HK.out i)
      have KL := Lib.hid (show ((clsOf d).take i).length ≤ n by rw [List.length_take]; omega)
      obtain ⟨⟨r, s⟩, As, cs⟩ := x
      obtain ⟨z0, z1⟩ := cl_cells hc1
      clear hx hxm hxc hl1 hc1 had
      have ya := ext_alloc wr (.cells #[.int .i32 r, .slice As s.length cs] 53)
      have yb := ext_alloc (wr.alloc (.cells #[.int .i32 r, .slice As s.length cs] 53)) (.cells #[.int .i32 r] 21)
      have Y := Lib.hid (ext_trans ya yb)
      have hw2 : IntKind.i64.wrap ((i:Int) + 1) = (i : Int) + 1 := IntWalk.i64_in _ (by omega)
      clear ya yb
      go_wp2_with (go_at_call 52; refine Hid.out ?_)
      refine Lib.hid ?_
      refine (mkInsert_any b _ As 1 1 s.length cs [r] s _ F' (tellM m ((clsOf d).take i)) (HM.out.below Y.out) rfl rfl (by rw [World.size_alloc]; exact rd_one_at (enc := encI32) (size := 1) (wr.alloc (.cells #[.int .i32 r, .slice As s.length cs] 53)) 21 r rfl (by simp)) (RS.out.ext Y.out) (by omega) SL.out (by have := KB.out.1; have := KL.out; omega) (fun o ho => ⟨(KB.out.2 o ho).1, by have := (KB.out.2 o ho).2.1; have := KL.out; omega⟩)).mono ?_
      rintro e w3 ⟨rfl, F3, hm3, g3⟩
      have gg := gr.trans ((Grow.of Y.out).trans g3)
      rw [← HT.out] at hm3
      have HM3 := Lib.hid hm3
      clear hm3
      go_wp2_with (fail)
      go_roundg (n - (i + 1))
      case measure => have := HG.out; omega
      case rel => exact ⟨i + 1, F3, by omega, rfl, by go_num, HM3.out, gg⟩
    · have hin : i = n := by omega
      subst hin
      go_wp2_with (fail)
      refine bodyPost_ret (results_none rfl _ _ _) rfl ?_
      have e : (clsOf d).take i = clsOf d := List.take_of_length_le (by rw [HL.out]; have := N.out; omega)
      have hm := HM.out
      rw [e] at hm
      exact ⟨rfl, F', hm, gr⟩
end Go.Proofs.YtipoeidmblnbbaaDoor
