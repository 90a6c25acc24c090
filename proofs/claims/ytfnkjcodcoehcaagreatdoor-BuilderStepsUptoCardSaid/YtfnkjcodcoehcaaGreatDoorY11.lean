/- Merged texts: CellsMay, StayLaw, ApplyLaw, EachLaw, InsOps, OpTypes. -/
import Derived.Test.YtfnkjcodcoehcaaGreatDoorY8
import Derived.Test.YtfnkjcodcoehcaaGreatDoorY5
import Derived.Test.YtfnkjcodcoehcaaGreatDoorY9
import Derived.Test.YtfnkjcodcoehcaaGreatDoorY7
import Derived.Test.YtfnkjcodcoehcaaGreatDoorY6
import Derived.Test.YtfnkjcodcoehcaaGreatDoorY10
import Derived.Lib.Overlaps
namespace Go.Proofs.YtfnkjcodcoehcaaGreatDoor
open Go.RowKit
set_option linter.unusedVariables false
set_option linter.unusedSimpArgs false

def badR (l : List Ky) (c : Cl) : Bool := !mayR c.r || decide (mayS l c.s = 3)
def badK (l : List Ky) (c : Cl) : Bool := !decide (mayS l c.s = 0)
def badP (l : List Ky) (c : Cl) : Bool := decide (0 < (partS l (!(c.r == 10)) c.s).length)
def mayD (l : List Ky) (d : List Cl) : Int :=
  if d.length < 1 ∨ 536870912 < d.length then 3 else if d.any (badR l) = true then 3 else if d.any (badK l) = true then 4
  else if (d.getLast?.map (fun c => decide (c.r = 10))) ≠ some true then 6 else if d.any (badP l) = true then 7 else 0
def clsOf (x : List ClS) : List Cl := x.map (·.c)
structure ClIn (w : World) (b1 s : Nat) (l : List Ky) (x : ClS) : Prop where
  hS : Sch w s l
  h1 : w.heap[b1]? = some (.cells #[.pointer (some ⟨s, 0, none⟩)] 26 (0, 0))
  rp : RdAt w w.heap.size x.As x.c.s
  hb : x.c.s.length ≤ 100000000
  hv : okVr x.c.s
  hT : Lib.Utf8Tabs 1 2 w
theorem ClIn.ext {w w' : World} {b1 s : Nat} {l : List Ky} {x : ClS} (h : ClIn w b1 s l x) (y : Below w.heap.size w w') : ClIn w' b1 s l x :=
  ⟨h.hS.ext y, (y.block b1 (lt_of_some h.h1)).trans h.h1, h.rp.ext y, h.hb, h.hv, Utf8Tabs_below h.hT y⟩

set_option maxRecDepth 100000 in
set_option maxHeartbeats 800000 in
theorem cmay2_any (b1 s : Nat) (l : List Ky) (r : Int) (p : List At) (As : Option Addr) (cs : Nat) (w : World) (h : ClIn w b1 s l ⟨⟨r, p⟩, As, cs⟩) :
    Calls Tryz.prog 129 #[.agg #[.int .i32 r, .slice As p.length cs], .pointer (some ⟨b1, 0, none⟩)] w fun e w' => e = .returned (.bool (badR l ⟨r, p⟩)) ∧ Below w.heap.size w w' := by
  have y0 := ext_alloc w (.cells #[.int .i32 r, .slice As p.length cs] 38)
  obtain ⟨hS, h1, rp, hb, hv, hT⟩ := h.ext y0
  have c1 := box_1 h1
  have HS := Lib.hid hS
  have HRP := Lib.hid rp
  have HV := Lib.hid hv
  have HT := Lib.hid hT
  generalize hm : mayS l p = ms
  have HM := Lib.hid hm
  have HB : Hid (badR l ⟨r, p⟩ = (!mayR r || decide (ms = 3))) := Lib.hid (by unfold badR; simp only; rw [hm])
  rw [HB.out]
  clear h hS h1 rp hv hT hm
  go_enter Tryz.func129, Tryz.ntmps129
  cases hr : mayR r with
  | false =>
    have HR := Lib.hid hr
    clear hr
    go_wp2_with (go_at_call 130; refine (may_any r _).mono ?_; rintro e w' ⟨rfl, rfl⟩; rw [HR.out])
    go_ret
    exact ⟨rfl, y0⟩
  | true =>
    have HR := Lib.hid hr
    clear hr
    go_wp2_with (first
      | (go_at_call 130; refine (may_any r _).mono ?_; rintro e w' ⟨rfl, rfl⟩; rw [HR.out])
      | (go_at_call 131; refine (mayS_any s l As p.length cs p _ rfl HRP.out (by omega) HS.out HV.out HT.out).mono ?_; rintro e w1 ⟨rfl, y1⟩; rw [HM.out]))
    go_ret
    exact ⟨ret_bool (by by_cases h3 : ms = 3 <;> simp [h3]), ext_trans y0 y1⟩

set_option maxRecDepth 100000 in
set_option maxHeartbeats 800000 in
theorem cmay3_any (b1 s : Nat) (l : List Ky) (r : Int) (p : List At) (As : Option Addr) (cs : Nat) (w : World) (h : ClIn w b1 s l ⟨⟨r, p⟩, As, cs⟩) :
    Calls Tryz.prog 132 #[.agg #[.int .i32 r, .slice As p.length cs], .pointer (some ⟨b1, 0, none⟩)] w fun e w' => e = .returned (.bool (badK l ⟨r, p⟩)) ∧ Below w.heap.size w w' := by
  have y0 := ext_alloc w (.cells #[.int .i32 r, .slice As p.length cs] 38)
  obtain ⟨hS, h1, rp, hb, hv, hT⟩ := h.ext y0
  have c1 := box_1 h1
  have HS := Lib.hid hS
  have HRP := Lib.hid rp
  have HV := Lib.hid hv
  have HT := Lib.hid hT
  generalize hm : mayS l p = ms
  have HM := Lib.hid hm
  have HB : Hid (badK l ⟨r, p⟩ = !decide (ms = 0)) := Lib.hid (by unfold badK; simp only; rw [hm])
  rw [HB.out]
  clear h hS h1 rp hv hT hm
  go_enter Tryz.func132, Tryz.ntmps132
  go_wp2_with (go_at_call 131; refine (mayS_any s l As p.length cs p _ rfl HRP.out (by omega) HS.out HV.out HT.out).mono ?_; rintro e w1 ⟨rfl, y1⟩; rw [HM.out])
  go_ret
  exact ⟨ret_bool (by by_cases h3 : ms = 0 <;> simp [h3]), ext_trans y0 y1⟩

set_option maxRecDepth 100000 in
set_option maxHeartbeats 800000 in
theorem cmay4_any (b1 s : Nat) (l : List Ky) (r : Int) (p : List At) (As : Option Addr) (cs : Nat) (w : World) (h : ClIn w b1 s l ⟨⟨r, p⟩, As, cs⟩) :
    Calls Tryz.prog 133 #[.agg #[.int .i32 r, .slice As p.length cs], .pointer (some ⟨b1, 0, none⟩)] w fun e w' => e = .returned (.bool (badP l ⟨r, p⟩)) ∧ Below w.heap.size w w' := by
  have y0 := ext_alloc w (.cells #[.int .i32 r, .slice As p.length cs] 38)
  obtain ⟨hS, h1, rp, hb, hv, hT⟩ := h.ext y0
  have c1 := box_1 h1
  have HS := Lib.hid hS
  have HRP := Lib.hid rp
  have HV := Lib.hid hv
  have HT := Lib.hid hT
  obtain ⟨c2, c3⟩ := box_cl (heap_alloc_new w (.cells #[.int .i32 r, .slice As p.length cs] 38))
  generalize hm : partS l (!(r == 10)) p = ps
  have HM := Lib.hid hm
  have HB : Hid (badP l ⟨r, p⟩ = decide (0 < ps.length)) := Lib.hid (by unfold badP; simp only; rw [hm])
  have HL := Lib.hid hb
  rw [HB.out]
  clear h hS h1 rp hv hT hm hb
  have hne : (r != 10) = !(r == 10) := rfl
  go_enter Tryz.func133, Tryz.ntmps133
  go_wp2_with (go_at_call 134; refine Hid.out ?_)
  refine Lib.hid ?_
  refine (partA_any s l (!(r == 10)) As p.length cs p _ rfl HRP.out HL.out HS.out).mono ?_
  rw [HM.out]
  rintro e w1 ⟨A1, k1, rfl, _, y1⟩
  go_wp2_with (fail)
  go_ret
  exact ⟨ret_bool (by by_cases h3 : 0 < ps.length <;> simp [h3]), ext_trans y0 y1⟩

set_option maxRecDepth 100000 in
set_option maxHeartbeats 800000 in
theorem cidx2_any (b1 s : Nat) (l : List Ky) (A : Option Addr) (n c : Nat) (d : List ClS) (w : World) (hn : n = d.length) (h : RdCs w w.heap.size A d) (hb : n ≤ 140737488355328) (hc : ∀ x ∈ d, ClIn w b1 s l x) :
    Calls Tryz.prog 182 #[.slice A n c, .func (.func 129) #[] #[.pointer (some ⟨b1, 0, none⟩)]] w fun e w' => ∃ i : Int, e = .returned (.int .i64 i) ∧ IdxOut (badR l) (clsOf d) i ∧ Below w.heap.size w w' := by
  have N := Lib.hid hn
  have HH := Lib.hid h
  have HC := Lib.hid hc
  have HCL : Hid (clsOf d = d.map (·.c)) := Lib.hid rfl
  clear hn h hc
  go_enter Tryz.func182, Tryz.ntmps182
  go_wp2_with (fail)
  go_loopg [8] n (fun g iv wr => ∃ i : Nat, i ≤ n ∧ g = n - i ∧ iv = .int .i64 i ∧ Below w.heap.size w wr ∧ Hid (∀ x ∈ (clsOf d).take i, badR l x = false))
  case atStart => exact ⟨0, by omega, rfl, rfl, Below.refl _ _, Lib.hid (by simp)⟩
  case round =>
    obtain ⟨i, hi, hg, rfl, y, HI⟩ := hrel
    have HG := Lib.hid hg
    clear hg
    by_cases hlt : i < n
    · have hil : i < d.length := by have := N.out; omega
      obtain ⟨ad, x, rfl, _, _, hx, hc1⟩ := (HH.out.ext y).el hil
      have hxc : (clsOf d)[i]? = some x.c := by rw [HCL.out, List.getElem?_map, hx]; rfl
      have HT : Hid ((clsOf d).take (i + 1) = (clsOf d).take i ++ [x.c]) := Lib.hid (by rw [List.take_add_one, hxc]; rfl)
      have HX := Lib.hid hxc
      have hin := Lib.hid ((HC.out x (List.mem_of_getElem? hx)).ext y)
      obtain ⟨⟨r, p⟩, As, cs⟩ := x
      obtain ⟨r0, r1⟩ := cl_cells hc1
      clear hx hil hc1 hxc
      have hw2 : IntKind.i64.wrap ((i:Int) + 1) = (i : Int) + 1 := IntWalk.i64_in _ (by omega)
      cases hp : badR l ⟨r, p⟩ with
      | true =>
        have HP := Lib.hid hp
        clear hp
        go_wp2_with (go_at_call 129; refine Hid.out ?_)
        refine Lib.hid ?_
        refine (cmay2_any b1 s l r p As cs _ hin.out).mono ?_
        rintro e w' ⟨rfl, y2⟩
        rw [HP.out]
        go_wp2_with (fail)
        go_ret
        exact ⟨i, rfl, .inr ⟨i, rfl, by rw [HCL.out, List.length_map]; have := N.out; omega, HI.out, _, HX.out, HP.out⟩, ext_trans y y2⟩
      | false =>
        have HP := Lib.hid hp
        clear hp
        go_wp2_with (go_at_call 129; refine Hid.out ?_)
        refine Lib.hid ?_
        refine (cmay2_any b1 s l r p As cs _ hin.out).mono ?_
        rintro e w' ⟨rfl, y2⟩
        rw [HP.out]
        go_wp2_with (fail)
        go_roundg (n - (i + 1))
        case measure => have := HG.out; omega
        case rel =>
          refine ⟨i + 1, by omega, rfl, by go_num, ext_trans y y2, Lib.hid ?_⟩
          intro z hz
          rw [HT.out] at hz
          rcases List.mem_append.1 hz with hz | hz
          · exact HI.out z hz
          · simp at hz; rw [hz]; exact HP.out
    · go_wp2_with (fail)
      go_ret
      refine ⟨-1, rfl, .inl ⟨rfl, ?_⟩, y⟩
      have h1 := HI.out
      rw [List.take_of_length_le (by rw [HCL.out, List.length_map]; have := N.out; omega)] at h1
      exact h1

set_option maxHeartbeats 800000 in
theorem ccon2_any (b1 s : Nat) (l : List Ky) (A : Option Addr) (n c : Nat) (d : List ClS) (w : World) (hn : n = d.length) (h : RdCs w w.heap.size A d) (hb : n ≤ 140737488355328) (hc : ∀ x ∈ d, ClIn w b1 s l x) :
    Calls Tryz.prog 128 #[.slice A n c, .func (.func 129) #[] #[.pointer (some ⟨b1, 0, none⟩)]] w fun e w' => e = .returned (.bool ((clsOf d).any (badR l))) ∧ Below w.heap.size w w' := by
  have N := Lib.hid hn
  have HH := Lib.hid h
  have HC := Lib.hid hc
  generalize hr : (clsOf d).any (badR l) = r
  have HR := Lib.hid hr
  clear hr hn h hc
  go_enter Tryz.func128, Tryz.ntmps128
  go_wp2_with (go_at_call 182; refine Hid.out ?_)
  refine Lib.hid ?_
  refine (cidx2_any b1 s l A n c d w N.out HH.out hb HC.out).mono ?_
  rintro e w1 ⟨i, rfl, hi, y⟩
  have hd := idx_any hi
  rw [HR.out] at hd
  clear hi
  go_wp2_with (fail)
  go_ret
  exact ⟨by first | rfl | exact ret_bool hd, y⟩

set_option maxHeartbeats 800000 in
theorem csome2_any (b1 b0 s : Nat) (l : List Ky) (A : Option Addr) (n c : Nat) (d : List ClS) (w : World) (hn : n = d.length) (h : RdCs w w.heap.size A d) (hb : n ≤ 140737488355328) (hc : ∀ x ∈ d, ClIn w b1 s l x)
    (h0 : w.heap[b0]? = some (.cells #[.slice A n c] 23 (0, 0))) :
    Calls Tryz.prog 127 #[.func (.func 129) #[] #[.pointer (some ⟨b1, 0, none⟩)], .pointer (some ⟨b0, 0, none⟩)] w fun e w' => e = .returned (.bool ((clsOf d).any (badR l))) ∧ Below w.heap.size w w' := by
  have N := Lib.hid hn
  have HH := Lib.hid h
  have HC := Lib.hid hc
  have c0 := box_1 h0
  generalize hr : (clsOf d).any (badR l) = r
  have HR := Lib.hid hr
  clear hr hn h hc h0
  go_enter Tryz.func127, Tryz.ntmps127
  go_wp2_with (go_at_call 128; refine Hid.out ?_)
  refine Lib.hid ?_
  refine (ccon2_any b1 s l A n c d w N.out HH.out hb HC.out).mono ?_
  rw [HR.out]
  rintro e w1 ⟨rfl, y⟩
  go_wp2_with (fail)
  go_ret
  exact ⟨rfl, y⟩

set_option maxRecDepth 100000 in
set_option maxHeartbeats 800000 in
theorem cidx3_any (b1 s : Nat) (l : List Ky) (A : Option Addr) (n c : Nat) (d : List ClS) (w : World) (hn : n = d.length) (h : RdCs w w.heap.size A d) (hb : n ≤ 140737488355328) (hc : ∀ x ∈ d, ClIn w b1 s l x) :
    Calls Tryz.prog 182 #[.slice A n c, .func (.func 132) #[] #[.pointer (some ⟨b1, 0, none⟩)]] w fun e w' => ∃ i : Int, e = .returned (.int .i64 i) ∧ IdxOut (badK l) (clsOf d) i ∧ Below w.heap.size w w' := by
  have N := Lib.hid hn
  have HH := Lib.hid h
  have HC := Lib.hid hc
  have HCL : Hid (clsOf d = d.map (·.c)) := Lib.hid rfl
  clear hn h hc
  go_enter Tryz.func182, Tryz.ntmps182
  go_wp2_with (fail)
  go_loopg [8] n (fun g iv wr => ∃ i : Nat, i ≤ n ∧ g = n - i ∧ iv = .int .i64 i ∧ Below w.heap.size w wr ∧ Hid (∀ x ∈ (clsOf d).take i, badK l x = false))
  case atStart => exact ⟨0, by omega, rfl, rfl, Below.refl _ _, Lib.hid (by simp)⟩
  case round =>
    obtain ⟨i, hi, hg, rfl, y, HI⟩ := hrel
    have HG := Lib.hid hg
    clear hg
    by_cases hlt : i < n
    · have hil : i < d.length := by have := N.out; omega
      obtain ⟨ad, x, rfl, _, _, hx, hc1⟩ := (HH.out.ext y).el hil
      have hxc : (clsOf d)[i]? = some x.c := by rw [HCL.out, List.getElem?_map, hx]; rfl
      have HT : Hid ((clsOf d).take (i + 1) = (clsOf d).take i ++ [x.c]) := Lib.hid (by rw [List.take_add_one, hxc]; rfl)
      have HX := Lib.hid hxc
      have hin := Lib.hid ((HC.out x (List.mem_of_getElem? hx)).ext y)
      obtain ⟨⟨r, p⟩, As, cs⟩ := x
      obtain ⟨r0, r1⟩ := cl_cells hc1
      clear hx hil hc1 hxc
      have hw2 : IntKind.i64.wrap ((i:Int) + 1) = (i : Int) + 1 := IntWalk.i64_in _ (by omega)
      cases hp : badK l ⟨r, p⟩ with
      | true =>
        have HP := Lib.hid hp
        clear hp
        go_wp2_with (go_at_call 132; refine Hid.out ?_)
        refine Lib.hid ?_
        refine (cmay3_any b1 s l r p As cs _ hin.out).mono ?_
        rintro e w' ⟨rfl, y2⟩
        rw [HP.out]
        go_wp2_with (fail)
        go_ret
        exact ⟨i, rfl, .inr ⟨i, rfl, by rw [HCL.out, List.length_map]; have := N.out; omega, HI.out, _, HX.out, HP.out⟩, ext_trans y y2⟩
      | false =>
        have HP := Lib.hid hp
        clear hp
        go_wp2_with (go_at_call 132; refine Hid.out ?_)
        refine Lib.hid ?_
        refine (cmay3_any b1 s l r p As cs _ hin.out).mono ?_
        rintro e w' ⟨rfl, y2⟩
        rw [HP.out]
        go_wp2_with (fail)
        go_roundg (n - (i + 1))
        case measure => have := HG.out; omega
        case rel =>
          refine ⟨i + 1, by omega, rfl, by go_num, ext_trans y y2, Lib.hid ?_⟩
          intro z hz
          rw [HT.out] at hz
          rcases List.mem_append.1 hz with hz | hz
          · exact HI.out z hz
          · simp at hz; rw [hz]; exact HP.out
    · go_wp2_with (fail)
      go_ret
      refine ⟨-1, rfl, .inl ⟨rfl, ?_⟩, y⟩
      have h1 := HI.out
      rw [List.take_of_length_le (by rw [HCL.out, List.length_map]; have := N.out; omega)] at h1
      exact h1

set_option maxHeartbeats 800000 in
theorem ccon3_any (b1 s : Nat) (l : List Ky) (A : Option Addr) (n c : Nat) (d : List ClS) (w : World) (hn : n = d.length) (h : RdCs w w.heap.size A d) (hb : n ≤ 140737488355328) (hc : ∀ x ∈ d, ClIn w b1 s l x) :
    Calls Tryz.prog 128 #[.slice A n c, .func (.func 132) #[] #[.pointer (some ⟨b1, 0, none⟩)]] w fun e w' => e = .returned (.bool ((clsOf d).any (badK l))) ∧ Below w.heap.size w w' := by
  have N := Lib.hid hn
  have HH := Lib.hid h
  have HC := Lib.hid hc
  generalize hr : (clsOf d).any (badK l) = r
  have HR := Lib.hid hr
  clear hr hn h hc
  go_enter Tryz.func128, Tryz.ntmps128
  go_wp2_with (go_at_call 182; refine Hid.out ?_)
  refine Lib.hid ?_
  refine (cidx3_any b1 s l A n c d w N.out HH.out hb HC.out).mono ?_
  rintro e w1 ⟨i, rfl, hi, y⟩
  have hd := idx_any hi
  rw [HR.out] at hd
  clear hi
  go_wp2_with (fail)
  go_ret
  exact ⟨by first | rfl | exact ret_bool hd, y⟩

set_option maxHeartbeats 800000 in
theorem csome3_any (b1 b0 s : Nat) (l : List Ky) (A : Option Addr) (n c : Nat) (d : List ClS) (w : World) (hn : n = d.length) (h : RdCs w w.heap.size A d) (hb : n ≤ 140737488355328) (hc : ∀ x ∈ d, ClIn w b1 s l x)
    (h0 : w.heap[b0]? = some (.cells #[.slice A n c] 23 (0, 0))) :
    Calls Tryz.prog 127 #[.func (.func 132) #[] #[.pointer (some ⟨b1, 0, none⟩)], .pointer (some ⟨b0, 0, none⟩)] w fun e w' => e = .returned (.bool ((clsOf d).any (badK l))) ∧ Below w.heap.size w w' := by
  have N := Lib.hid hn
  have HH := Lib.hid h
  have HC := Lib.hid hc
  have c0 := box_1 h0
  generalize hr : (clsOf d).any (badK l) = r
  have HR := Lib.hid hr
  clear hr hn h hc h0
  go_enter Tryz.func127, Tryz.ntmps127
  go_wp2_with (go_at_call 128; refine Hid.out ?_)
  refine Lib.hid ?_
  refine (ccon3_any b1 s l A n c d w N.out HH.out hb HC.out).mono ?_
  rw [HR.out]
  rintro e w1 ⟨rfl, y⟩
  go_wp2_with (fail)
  go_ret
  exact ⟨rfl, y⟩

set_option maxRecDepth 100000 in
set_option maxHeartbeats 800000 in
theorem cidx4_any (b1 s : Nat) (l : List Ky) (A : Option Addr) (n c : Nat) (d : List ClS) (w : World) (hn : n = d.length) (h : RdCs w w.heap.size A d) (hb : n ≤ 140737488355328) (hc : ∀ x ∈ d, ClIn w b1 s l x) :
    Calls Tryz.prog 182 #[.slice A n c, .func (.func 133) #[] #[.pointer (some ⟨b1, 0, none⟩)]] w fun e w' => ∃ i : Int, e = .returned (.int .i64 i) ∧ IdxOut (badP l) (clsOf d) i ∧ Below w.heap.size w w' := by
  have N := Lib.hid hn
  have HH := Lib.hid h
  have HC := Lib.hid hc
  have HCL : Hid (clsOf d = d.map (·.c)) := Lib.hid rfl
  clear hn h hc
  go_enter Tryz.func182, Tryz.ntmps182
  go_wp2_with (fail)
  go_loopg [8] n (fun g iv wr => ∃ i : Nat, i ≤ n ∧ g = n - i ∧ iv = .int .i64 i ∧ Below w.heap.size w wr ∧ Hid (∀ x ∈ (clsOf d).take i, badP l x = false))
  case atStart => exact ⟨0, by omega, rfl, rfl, Below.refl _ _, Lib.hid (by simp)⟩
  case round =>
    obtain ⟨i, hi, hg, rfl, y, HI⟩ := hrel
    have HG := Lib.hid hg
    clear hg
    by_cases hlt : i < n
    · have hil : i < d.length := by have := N.out; omega
      obtain ⟨ad, x, rfl, _, _, hx, hc1⟩ := (HH.out.ext y).el hil
      have hxc : (clsOf d)[i]? = some x.c := by rw [HCL.out, List.getElem?_map, hx]; rfl
      have HT : Hid ((clsOf d).take (i + 1) = (clsOf d).take i ++ [x.c]) := Lib.hid (by rw [List.take_add_one, hxc]; rfl)
      have HX := Lib.hid hxc
      have hin := Lib.hid ((HC.out x (List.mem_of_getElem? hx)).ext y)
      obtain ⟨⟨r, p⟩, As, cs⟩ := x
      obtain ⟨r0, r1⟩ := cl_cells hc1
      clear hx hil hc1 hxc
      have hw2 : IntKind.i64.wrap ((i:Int) + 1) = (i : Int) + 1 := IntWalk.i64_in _ (by omega)
      cases hp : badP l ⟨r, p⟩ with
      | true =>
        have HP := Lib.hid hp
        clear hp
        go_wp2_with (go_at_call 133; refine Hid.out ?_)
        refine Lib.hid ?_
        refine (cmay4_any b1 s l r p As cs _ hin.out).mono ?_
        rintro e w' ⟨rfl, y2⟩
        rw [HP.out]
        go_wp2_with (fail)
        go_ret
        exact ⟨i, rfl, .inr ⟨i, rfl, by rw [HCL.out, List.length_map]; have := N.out; omega, HI.out, _, HX.out, HP.out⟩, ext_trans y y2⟩
      | false =>
        have HP := Lib.hid hp
        clear hp
        go_wp2_with (go_at_call 133; refine Hid.out ?_)
        refine Lib.hid ?_
        refine (cmay4_any b1 s l r p As cs _ hin.out).mono ?_
        rintro e w' ⟨rfl, y2⟩
        rw [HP.out]
        go_wp2_with (fail)
        go_roundg (n - (i + 1))
        case measure => have := HG.out; omega
        case rel =>
          refine ⟨i + 1, by omega, rfl, by go_num, ext_trans y y2, Lib.hid ?_⟩
          intro z hz
          rw [HT.out] at hz
          rcases List.mem_append.1 hz with hz | hz
          · exact HI.out z hz
          · simp at hz; rw [hz]; exact HP.out
    · go_wp2_with (fail)
      go_ret
      refine ⟨-1, rfl, .inl ⟨rfl, ?_⟩, y⟩
      have h1 := HI.out
      rw [List.take_of_length_le (by rw [HCL.out, List.length_map]; have := N.out; omega)] at h1
      exact h1

set_option maxHeartbeats 800000 in
theorem ccon4_any (b1 s : Nat) (l : List Ky) (A : Option Addr) (n c : Nat) (d : List ClS) (w : World) (hn : n = d.length) (h : RdCs w w.heap.size A d) (hb : n ≤ 140737488355328) (hc : ∀ x ∈ d, ClIn w b1 s l x) :
    Calls Tryz.prog 128 #[.slice A n c, .func (.func 133) #[] #[.pointer (some ⟨b1, 0, none⟩)]] w fun e w' => e = .returned (.bool ((clsOf d).any (badP l))) ∧ Below w.heap.size w w' := by
  have N := Lib.hid hn
  have HH := Lib.hid h
  have HC := Lib.hid hc
  generalize hr : (clsOf d).any (badP l) = r
  have HR := Lib.hid hr
  clear hr hn h hc
  go_enter Tryz.func128, Tryz.ntmps128
  go_wp2_with (go_at_call 182; refine Hid.out ?_)
  refine Lib.hid ?_
  refine (cidx4_any b1 s l A n c d w N.out HH.out hb HC.out).mono ?_
  rintro e w1 ⟨i, rfl, hi, y⟩
  have hd := idx_any hi
  rw [HR.out] at hd
  clear hi
  go_wp2_with (fail)
  go_ret
  exact ⟨by first | rfl | exact ret_bool hd, y⟩

set_option maxHeartbeats 800000 in
theorem csome4_any (b1 b0 s : Nat) (l : List Ky) (A : Option Addr) (n c : Nat) (d : List ClS) (w : World) (hn : n = d.length) (h : RdCs w w.heap.size A d) (hb : n ≤ 140737488355328) (hc : ∀ x ∈ d, ClIn w b1 s l x)
    (h0 : w.heap[b0]? = some (.cells #[.slice A n c] 23 (0, 0))) :
    Calls Tryz.prog 127 #[.func (.func 133) #[] #[.pointer (some ⟨b1, 0, none⟩)], .pointer (some ⟨b0, 0, none⟩)] w fun e w' => e = .returned (.bool ((clsOf d).any (badP l))) ∧ Below w.heap.size w w' := by
  have N := Lib.hid hn
  have HH := Lib.hid h
  have HC := Lib.hid hc
  have c0 := box_1 h0
  generalize hr : (clsOf d).any (badP l) = r
  have HR := Lib.hid hr
  clear hr hn h hc h0
  go_enter Tryz.func127, Tryz.ntmps127
  go_wp2_with (go_at_call 128; refine Hid.out ?_)
  refine Lib.hid ?_
  refine (ccon4_any b1 s l A n c d w N.out HH.out hb HC.out).mono ?_
  rw [HR.out]
  rintro e w1 ⟨rfl, y⟩
  go_wp2_with (fail)
  go_ret
  exact ⟨rfl, y⟩

section
variable {l : List Ky} {a b : List At} {p q : List Ch}
theorem vs_filter (f : Ch → Bool) (vp : okVs p) : okVs (p.filter f) := fun c hc => vp c (List.mem_filter.1 hc).1
theorem stay_filter (f : Ch → Bool) (hp : mayP l p = 0) : mayP l (p.filter f) = 0 := by
  obtain ⟨p0, p1, p2, p3⟩ := mayP_zero hp
  refine mayP_of (by have := List.length_filter_le f p; omega) (riseC_srt.2 ((riseC_srt.1 p1).filter Ch.key f)) (fun c hc => ?_) (fun c hc => ?_)
  · exact List.all_eq_true.1 p2 c (List.mem_filter.1 hc).1
  · exact List.all_eq_true.1 p3 c (List.mem_filter.1 hc).1
theorem stay_apply (hl : l.length ≤ 64) (ha : mayS l a = 0) (hp : mayP l p = 0) : mayS l (applyP p a) = 0 := by
  obtain ⟨_, a1, a2, a3⟩ := mayS_zero ha
  obtain ⟨_, p1, p2, p3⟩ := mayP_zero hp
  obtain ⟨d1, d2, _⟩ := apply_all (riseC_srt.1 p1) (riseA_srt.1 a1)
  refine stayA hl d1 fun c hc => ?_
  have h1 := lk_of_mem At.key d1 hc
  rw [d2] at h1
  cases hy : lk Ch.key p c.key with
  | none =>
    rw [hy] at h1
    have h1 : lk At.key a c.key = some c := h1
    have hm := lk_mem At.key h1
    exact ⟨a2 c hm, a3 c hm⟩
  | some y =>
    have hm := lk_mem Ch.key hy
    rw [hy] at h1
    simp only [lkApply] at h1
    by_cases hg : y.gone = true
    · rw [if_pos hg] at h1; cases h1
    · rw [if_neg hg] at h1
      simp only [Option.some.injEq] at h1
      have hok := List.all_eq_true.1 p2 y hm
      have hth := List.all_eq_true.1 p3 y hm
      have hg' : y.gone = false := by simpa using hg
      unfold okC at hok
      rw [if_neg hg] at hok
      unfold thereC at hth
      rw [hg', Bool.false_or] at hth
      rw [← h1]
      exact ⟨hok, (Bool.and_eq_true_iff.1 hth).2⟩
end
set_option linter.unusedVariables false
set_option linter.unusedSimpArgs false

def tkN (o : Opd) : Nat := if o.k = 2 then 0 else o.n.toNat
def layC (o : Opd) (d : List Cl) : List Cl := if o.k = 2 then o.r.map (fun r => ⟨r, o.s⟩) else if o.k = 1 then d.take o.n.toNat else []
def eachC (l : List Ky) : List Opd → List Cl → List Cl
  | [], d => d
  | o :: x, d => (layC o d).map (fun c => actC l c o.p) ++ eachC l x (d.drop (tkN o))
theorem app_ins (l : List Ky) (r : List Int) (s : List At) (d : List Cl) : app l (r.map (fun r => Un.ins r s)) d = r.map (fun r => (⟨r, s⟩ : Cl)) ++ d := by
  induction r with
  | nil => rfl
  | cons a r ih => show _ :: app l _ d = _; rw [ih]; rfl
theorem app_dels (l : List Ky) (n : Nat) (d : List Cl) : app l (List.replicate n .del) d = d.drop n := by
  induction n generalizing d with
  | zero => rfl
  | succ n ih => rw [List.replicate_succ]; show app l _ (d.drop 1) = _; rw [ih, List.drop_drop, Nat.add_comm 1]
theorem app_rets (l : List Ky) (n : Nat) (p : List Ch) (d : List Cl) : app l (List.replicate n (.ret p)) d = (d.take n).map (fun c => actC l c p) ++ d.drop n := by
  induction n generalizing d with
  | zero => rfl
  | succ n ih =>
    rw [List.replicate_succ]
    show (d.take 1).map _ ++ app l _ (d.drop 1) = _
    rw [ih, List.drop_drop, Nat.add_comm 1, ← List.append_assoc, ← List.map_append]
    congr 2
    cases d with
    | nil => simp
    | cons c d => simp
theorem takesU_ins (r : List Int) (s : List At) : takesU (r.map (fun r => Un.ins r s)) = 0 := by
  induction r with
  | nil => rfl
  | cons a r ih => rw [List.map_cons, takesU_i, ih]
theorem takesU_ret (n : Nat) (p : List Ch) : takesU (List.replicate n (.ret p)) = n := by
  induction n with
  | zero => rfl
  | succ n ih => rw [List.replicate_succ, takesU_r, ih]
theorem makesU_ret (n : Nat) (p : List Ch) : makesU (List.replicate n (.ret p)) = n := by
  induction n with
  | zero => rfl
  | succ n ih => rw [List.replicate_succ, makesU_r, ih]
theorem takesU_tk {o : Opd} (ho : isOp o) : takesU (unitsO o) = tkN o := by
  unfold tkN
  rcases isOp_kind ho with hk | hk | hk
  · obtain ⟨e, hr⟩ := opI_of ho hk
    rw [if_pos hk, e, unitsO_I, takesU_ins]
  · obtain ⟨e, hr⟩ := opD_of ho hk
    rw [if_neg (by rw [hk]; decide), e, unitsO_D, takesU_del]; rfl
  · obtain ⟨e, hr⟩ := opR_of ho hk
    rw [if_neg (by rw [hk]; decide), e, unitsO_R, takesU_ret]; rfl
theorem each_app (l : List Ky) : ∀ (x : List Opd) (d : List Cl), (∀ o ∈ x, isOp o) → eachC l x d = app l (units x) d
  | [], d, _ => rfl
  | o :: x, d, h => by
    have ih := each_app l x (d.drop (tkN o)) (fun a ha => h a (List.mem_cons_of_mem _ ha))
    have ho := h o (by simp)
    rw [units_cons, app_append, eachC, ih, takesU_tk ho]
    congr 1
    unfold layC tkN
    rcases isOp_kind ho with hk | hk | hk
    · obtain ⟨e, hr⟩ := opI_of ho hk
      rw [if_pos hk, if_pos hk]
      have hp : o.p = [] := by rw [e]; rfl
      have hu : unitsO o = o.r.map (fun r => Un.ins r o.s) := by unfold unitsO; rw [if_pos hk]
      rw [hp, hu, app_ins, List.map_map]
      simp [actC_nil, Function.comp_def]
    · obtain ⟨e, hr⟩ := opD_of ho hk
      rw [if_neg (by rw [hk]; decide), if_neg (by rw [hk]; decide), if_neg (by rw [hk]; decide)]
      have hu : unitsO o = List.replicate o.n.toNat .del := by unfold unitsO; rw [if_neg (by rw [hk]; decide), if_neg (by rw [hk]; decide)]
      rw [hu, app_dels]
      simp
    · obtain ⟨e, hr⟩ := opR_of ho hk
      rw [if_neg (by rw [hk]; decide), if_pos hk, if_neg (by rw [hk]; decide)]
      have hu : unitsO o = List.replicate o.n.toNat (.ret o.p) := by unfold unitsO; rw [if_neg (by rw [hk]; decide), if_pos hk]
      rw [hu, app_rets, List.take_take, Nat.min_self]
      simp

theorem keep_not {l : List Ky} {b : Bool} {id : Int} (h : keepK l b id = true) (h' : keepK l (!b) id = true) : False := by
  unfold keepK at h h'
  cases hq : findK l id with
  | none => rw [hq] at h; cases h
  | some k => rw [hq] at h h'; cases b <;> cases hk : k.block <;> simp [hk] at h h'
theorem okCl_act {l : List Ky} {c : Cl} {p : List Ch} (hl : l.length ≤ 64) (hc : okCl l c) (hp : mayP l p = 0) : okCl l (actC l c p) := by
  obtain ⟨h1, h2, h3⟩ := hc
  have hp2 : mayP l (partP l (c.r == 10) p) = 0 := stay_filter _ hp
  refine ⟨h1, stay_apply hl h2 hp2, ?_⟩
  obtain ⟨_, s1, s2, s3⟩ := mayS_zero h2
  obtain ⟨_, p1, p2, p3⟩ := mayP_zero hp2
  obtain ⟨a1, a2, _⟩ := apply_all (riseC_srt.1 p1) (riseA_srt.1 s1)
  show partS l (!(c.r == 10)) (applyP (partP l (c.r == 10) p) c.s) = []
  generalize (c.r == 10) = b at *
  unfold partS
  refine List.filter_eq_nil_iff.2 fun x hx hk => ?_
  have e := lk_of_mem At.key a1 hx
  rw [a2] at e
  cases hq : lk Ch.key (partP l b p) x.key with
  | none =>
    rw [hq] at e
    have e : lk At.key c.s x.key = some x := e
    have hm : x ∈ partS l (!b) c.s := List.mem_filter.2 ⟨lk_mem At.key e, hk⟩
    rw [h3] at hm; cases hm
  | some y =>
    have hy := lk_mem Ch.key hq
    have hyk : y.key = x.key := lk_key Ch.key hq
    have := (List.mem_filter.1 hy).2
    simp only [hyk] at this
    exact keep_not this hk
theorem app_ok {l : List Ky} (hl : l.length ≤ 64) : ∀ (us : List Un) (d : List Cl), (∀ u ∈ us, vU l u) → (∀ c ∈ d, okCl l c) → ∀ c ∈ app l us d, okCl l c
  | [], d, _, hd => hd
  | .ins r s :: us, d, hu, hd => by
    intro c hc
    rcases List.mem_cons.1 hc with rfl | hc
    · exact hu (.ins r s) (by simp)
    · exact app_ok hl us d (fun u h => hu u (List.mem_cons_of_mem _ h)) hd c hc
  | .del :: us, d, hu, hd => app_ok hl us (d.drop 1) (fun u h => hu u (List.mem_cons_of_mem _ h)) (fun c hc => hd c (List.mem_of_mem_drop hc))
  | .ret p :: us, d, hu, hd => by
    intro c hc
    rcases List.mem_append.1 hc with hc | hc
    · obtain ⟨x, hx, rfl⟩ := List.mem_map.1 hc
      exact okCl_act hl (hd x (List.mem_of_mem_take hx)) (hu (.ret p) (by simp))
    · exact app_ok hl us (d.drop 1) (fun u h => hu u (List.mem_cons_of_mem _ h)) (fun c hc => hd c (List.mem_of_mem_drop hc)) c hc

theorem mayD_iff {l : List Ky} {d : List Cl} : mayD l d = 0 ↔ d.length ≤ 536870912 ∧ (∀ c ∈ d, okCl l c) ∧ ∃ t c, d = t ++ [c] ∧ c.r = 10 := by
  constructor
  · intro h
    unfold mayD at h
    split at h
    · cases h
    rename_i h0
    split at h
    · cases h
    rename_i h1
    split at h
    · cases h
    rename_i h2
    split at h
    · cases h
    rename_i h3
    split at h
    · cases h
    rename_i h4
    refine ⟨by omega, fun c hc => ?_, ?_⟩
    · have g1 := List.any_eq_false.1 (Bool.eq_false_iff.2 h1) c hc
      have g2 := List.any_eq_false.1 (Bool.eq_false_iff.2 h2) c hc
      have g4 := List.any_eq_false.1 (Bool.eq_false_iff.2 h4) c hc
      unfold badR at g1
      unfold badK at g2
      unfold badP at g4
      simp at g1 g2 g4
      exact ⟨g1.1, g2, g4⟩
    · rcases List.eq_nil_or_concat d with h0 | ⟨t, c, h0⟩
      · subst h0; simp at h3
      · rw [List.concat_eq_append] at h0
        subst h0
        exact ⟨t, c, rfl, by simpa using h3⟩
  · rintro ⟨h0, h1, t, c, rfl, h3⟩
    have g1 : (t ++ [c]).any (badR l) = false := List.any_eq_false.2 fun x hx => by
      obtain ⟨a, b, _⟩ := h1 x hx
      unfold badR
      rw [a, b]; decide
    have g2 : (t ++ [c]).any (badK l) = false := List.any_eq_false.2 fun x hx => by
      obtain ⟨a, b, _⟩ := h1 x hx
      unfold badK
      rw [b]; decide
    have g4 : (t ++ [c]).any (badP l) = false := List.any_eq_false.2 fun x hx => by
      obtain ⟨a, b, e⟩ := h1 x hx
      unfold badP
      rw [e]; simp
    unfold mayD
    rw [if_neg (by simp at h0 ⊢; omega), g1, g2, g4, if_neg (by decide), if_neg (by decide), if_neg (by simp [h3]), if_neg (by decide)]
theorem finU_end {n : Nat} : ∀ {us : List Un}, finU n n us = true → takesU us = 0 → us = []
  | [], _, _ => rfl
  | .ins r s :: us, h, _ => by simp [finU] at h
  | .del :: us, _, h => by rw [takesU_d] at h; omega
  | .ret p :: us, _, h => by rw [takesU_r] at h; omega
theorem app_last (l : List Ky) : ∀ (us : List Un) (t : List Cl) (c : Cl) (n a : Nat), takesU us ≤ t.length + 1 → finU n a us = true → n = a + (t.length + 1) → ∃ t' c', app l us (t ++ [c]) = t' ++ [c'] ∧ c'.r = c.r
  | [], t, c, n, a, _, _, _ => ⟨t, c, rfl, rfl⟩
  | .ins r s :: us, t, c, n, a, h1, h2, h3 => by
    simp only [finU, Bool.and_eq_true] at h2
    obtain ⟨t', c', e, hr⟩ := app_last l us t c n a (by rw [takesU_i] at h1; exact h1) h2.2 h3
    exact ⟨⟨r, s⟩ :: t', c', by show _ :: app l us _ = _; rw [e]; rfl, hr⟩
  | .del :: us, t, c, n, a, h1, h2, h3 => by
    simp only [finU, Bool.and_eq_true, decide_eq_true_eq] at h2
    rw [takesU_d] at h1
    cases t with
    | nil => simp at h3; omega
    | cons x t =>
      obtain ⟨t', c', e, hr⟩ := app_last l us t c n (a + 1) (by simp at h1; omega) h2.2 (by simp at h3; omega)
      exact ⟨t', c', e, hr⟩
  | .ret p :: us, t, c, n, a, h1, h2, h3 => by
    simp only [finU] at h2
    rw [takesU_r] at h1
    cases t with
    | nil =>
      have e0 : us = [] := finU_end (n := n) (by rw [show a + 1 = n by simp at h3; omega] at h2; exact h2) (by simp at h1; omega)
      subst e0
      exact ⟨[], actC l c p, rfl, rfl⟩
    | cons x t =>
      obtain ⟨t', c', e, hr⟩ := app_last l us t c n (a + 1) (by simp at h1; omega) h2 (by simp at h3; omega)
      exact ⟨actC l x p :: t', c', by show [actC l x p] ++ app l us (t ++ [c]) = _; rw [e]; rfl, hr⟩
theorem app_mayD {l : List Ky} {us : List Un} {d : List Cl} {most : Nat} (hl : l.length ≤ 64) (hd : mayD l d = 0) (hf : FitU l us d.length most) (hb : d.length + makesU us ≤ 536870912 + takesU us) : mayD l (app l us d) = 0 := by
  obtain ⟨h0, h1, t, c, rfl, h3⟩ := mayD_iff.1 hd
  obtain ⟨t', c', e, hr⟩ := app_last l us t c (t ++ [c]).length 0 (by have := hf.t; simpa using this) hf.f (by simp)
  have hlen := app_len l us (t ++ [c]) hf.t
  exact mayD_iff.2 ⟨by omega, app_ok hl us _ hf.v h1, t', c', e, hr.trans h3⟩

def tks : List Opd → Nat
  | [] => 0
  | o :: x => tkN o + tks x
def doneC (l : List Ky) : List Opd → List Cl → List Cl
  | [], _ => []
  | o :: x, d => (layC o d).map (fun c => actC l c o.p) ++ doneC l x (d.drop (tkN o))
theorem tks_append (a b : List Opd) : tks (a ++ b) = tks a + tks b := by
  induction a with
  | nil => simp [tks]
  | cons o a ih => show tkN o + tks (a ++ b) = _; rw [ih]; simp only [tks]; omega
theorem doneC_append (l : List Ky) (a b : List Opd) : ∀ d, doneC l (a ++ b) d = doneC l a d ++ doneC l b (d.drop (tks a)) := by
  induction a with
  | nil => intro d; simp [doneC, tks]
  | cons o a ih =>
    intro d
    show _ ++ doneC l (a ++ b) (d.drop (tkN o)) = _
    rw [ih, List.drop_drop]
    simp only [doneC, tks, List.append_assoc]
theorem each_done (l : List Ky) (x : List Opd) : ∀ d, eachC l x d = doneC l x d ++ d.drop (tks x) := by
  induction x with
  | nil => intro d; simp [eachC, doneC, tks]
  | cons o x ih =>
    intro d
    show _ ++ eachC l x (d.drop (tkN o)) = _
    rw [ih, List.drop_drop]
    simp only [doneC, tks, List.append_assoc]
theorem each_append (l : List Ky) (a b : List Opd) (d : List Cl) : eachC l (a ++ b) d = doneC l a d ++ eachC l b (d.drop (tks a)) := by
  rw [each_done, each_done, doneC_append, tks_append, List.drop_drop, List.append_assoc]
theorem take_at {α : Type} {x : List α} {i : Nat} {o : α} (h : x[i]? = some o) : x.take (i + 1) = x.take i ++ [o] := by rw [List.take_add_one, h]; rfl
theorem doneC_at {l : List Ky} {x : List Opd} {i : Nat} {o : Opd} {d : List Cl} (h : x[i]? = some o) : doneC l (x.take (i + 1)) d = doneC l (x.take i) d ++ (layC o (d.drop (tks (x.take i)))).map (fun c => actC l c o.p) := by
  rw [take_at h, doneC_append]; simp [doneC]
theorem tks_at {x : List Opd} {i : Nat} {o : Opd} (h : x[i]? = some o) : tks (x.take (i + 1)) = tks (x.take i) + tkN o := by
  rw [take_at h, tks_append]; rfl
theorem tks_le {x : List Opd} (i : Nat) : tks (x.take i) ≤ tks x := by
  conv => rhs; rw [← List.take_append_drop i x]
  rw [tks_append]; omega
theorem done_le {l : List Ky} {x : List Opd} {i : Nat} {o : Opd} {d : List Cl} (h : x[i]? = some o) : (doneC l (x.take i) d).length + (layC o (d.drop (tks (x.take i)))).length ≤ (eachC l x d).length := by
  have e : x = x.take (i + 1) ++ x.drop (i + 1) := (List.take_append_drop _ _).symm
  conv => rhs; rw [e]
  rw [each_append, doneC_at h]
  simp
theorem tks_units {x : List Opd} (h : ∀ o ∈ x, isOp o) : tks x = takesU (units x) := by
  induction x with
  | nil => rfl
  | cons o x ih =>
    rw [units_cons, takesU_append, takesU_tk (h o (by simp)), ← ih (fun a ha => h a (List.mem_cons_of_mem _ ha))]; rfl
open Go.RowKit

section
variable {P : Program} (w : World)

theorem run_copy_onto (dT sT ty elem : TypeId) (i0 : TypeInfo) (size : Nat) (hu : P.underlying dT = some (.slice elem)) (hi : P.info? elem = some i0) (hsz : i0.size = size)
    (g o dLen dCap : Nat) (a : Addr) (sLen sCap : Nat) (cur : Array Value) (t : TypeId) (cs : List Value)
    (hg : w.heap[g]? = some (.cells cur t (0, 0))) (hn : cs.length = (Nat.min sLen dLen) * size)
    (hsrc : ∀ j v, cs[j]? = some v → w.cell? (a.add j) = some v) (hfit : o + cs.length ≤ cur.size) (h1 : ∀ v ∈ cs, v.oneCell' = true) :
    (Builtin.copy_ #[dT, sT] ty #[.slice (some ⟨g, o, none⟩) dLen dCap, .slice (some a) sLen sCap]).run P w =
      .ok (goInt (Nat.min sLen dLen)) (w.setRow g (cur.toList.take o ++ cs ++ cur.toList.drop (o + cs.length)).toArray) := by
  have hl := run_loadCells_list (P := P) w a cs hsrc
  have hst := run_storeCells_at P g o t cs 0 cur w hg (by simpa using hfit) h1
  simp [Builtin.copy_, run_underlying hu, Builtin.lenOf, Builtin.firstCells, sizeOf, typeInfo, hi, hsz, ← hn, hl, hst]

theorem run_append_zeros_grow (t tn ty e : TypeId) (i : TypeInfo) (z : Value) (k kn : IntKind) (ht : P.underlying t = some (.slice e)) (htn : P.underlying tn = some (.int kn)) (hi : P.info? e = some i) (hz : i.zero = some z)
    (b : Addr) (sLen sCap n : Nat) (olds : List Value) (hlo : olds.length = sLen * i.size) (holds : ∀ j v, olds[j]? = some v → w.cell? (b.add j) = some v)
    (hg : sCap < sLen + n) (h0 : 0 < n) (hs : 0 < i.size) (hb1 : sLen + n ≤ 1000000000) (hb2 : i.bytes ≤ 1000)  :
    (Builtin.append_ #[t, tn] ty #[.slice (some b) sLen sCap, .int k n]).run P w =
      .ok (.slice (some ⟨w.heap.size, 0, none⟩) (sLen + n) (grownCap w (sLen + n) sCap e))
        (w.drew.alloc (.cells (olds.toArray ++ Builtin.zeroCells z.cells n ++ Builtin.zeroCells z.cells (grownCap w (sLen + n) sCap e - (sLen + n))) e)) := by
  have hmul : (sLen + n) * i.bytes ≤ 1000000000 * 1000 := Nat.mul_le_mul hb1 hb2
  have hmul2 : n * i.bytes ≤ 1000000000 * 1000 := Nat.mul_le_mul (by omega) hb2
  have hfit : Builtin.nextslicecap (sLen + n) sCap * i.bytes ≤ 281474976710656 := growslice_fits hg (by omega)
  have hn : ¬ (sLen + n ≤ sCap) := by omega
  have h63' : ¬ (9223372036854775807 < ((sLen : Int) + (n : Int))) := by omega
  have h48' : ¬ (281474976710656 < Builtin.nextslicecap (sLen + n) sCap * i.bytes) := by omega
  have hw : IntKind.i64.wrap (n : Int) = n := by rw [IntKind.wrap_i64]; omega
  have h48i : ¬ (281474976710656 < (n : Int) * (i.bytes : Int)) := by
    rw [← Int.natCast_mul]
    omega
  have hneg : ¬ ((n : Int) < 0) := by omega
  have hns : ¬ (n * i.size = 0) := Nat.mul_ne_zero (by omega) (by omega)
  have hfo := run_firstCells_some (P := P) w.drew i.size sLen b sLen sCap olds hlo (by simpa using holds)
  simp [Builtin.append_, run_underlying ht, run_underlying htn, sizeOf, typeInfo, zeroValue, hi, hz, asInt, asIntOf, hw, hn, hneg, hns, h63', h48', h48i, Question.forced, hfo, newRow, grownCap]
end

section
variable {P : Program} {w : World} {ops : Array Oper} {rest : List Oper} {o : Oper} {a : Act} {Q : Exit → Act → World → Prop} {K : Act → World → Prop} {E : Prop}
theorem wp_copy_run (d s : Operand) (dT sT : TypeId) (ho : o.op = .call { callee := .builtin .copy, args := #[d, s], argTypes := #[dT, sT] })
    (vd vs : Value) (hd : a.eval d = vd) (hs : a.eval s = vs) (v : Value) (w' : World) (hr : (Builtin.copy_ #[dT, sT] o.type #[vd, vs]).run P w = .ok v w') (h : K (a.put o.dst v) w') : o.wp P a w K Q := by
  unfold Oper.wp execOp
  simp only [ho, resolve, invoke, builtin, Sem.run_bind, Sem.run_pure, Result.andThen_ok, List.map_toArray, List.map_cons, List.map_nil, hd, hs, hr]
  exact h
theorem wpList_copy_run (hgd : o.guard = none) (d s : Operand) (dT sT : TypeId) (ho : o.op = .call { callee := .builtin .copy, args := #[d, s], argTypes := #[dT, sT] })
    (vd vs : Value) (hd : a.eval d = vd) (hs : a.eval s = vs) (v : Value) (w' : World) (hr : (Builtin.copy_ #[dT, sT] o.type #[vd, vs]).run P w = .ok v w') (h : wpList P ops Q rest (a.put o.dst v) w') : wpList P ops Q (o :: rest) a w :=
  wpList_plain hgd fun _ hK => wp_copy_run d s dT sT ho vd vs hd hs v w' hr (hK _ _ h)
theorem step_copy_run (hgd : o.guard = none) (d s : Operand) (dT sT : TypeId) (ho : o.op = .call { callee := .builtin .copy, args := #[d, s], argTypes := #[dT, sT] })
    (vd vs : Value) (hd : a.eval d = vd) (hs : a.eval s = vs) (v : Value) (w' : World) (hr : (Builtin.copy_ #[dT, sT] o.type #[vd, vs]).run P w = .ok v w') (h : K (a.put o.dst v) w') :
    if Region.wanted o (yielded ops a.tmps) = true then Oper.wp P o a w K Q else E := by
  have hw : Region.wanted o (yielded ops a.tmps) = true := by simp [Region.wanted, hgd]
  rw [if_pos hw]
  exact wp_copy_run d s dT sT ho vd vs hd hs v w' hr h
end
open Go.RowKit
set_option linter.unusedVariables false
set_option linter.unusedSimpArgs false

theorem OpS.enc_one (x : OpS) : ∀ u ∈ x.enc, u.oneCell' = true := by intro u hu; simp [OpS.enc] at hu; rcases hu with rfl | rfl | rfl | rfl | rfl <;> rfl
abbrev OwOs := @Ow OpS OpS.enc 5 50
theorem Tryz.infoOp : (Tryz.prog.info? 50).map (fun i => (i.zero, i.size, i.bytes)) = some (some (.agg #[.int .u8 0, .int .i64 0, .slice none 0 0, .slice none 0 0, .slice none 0 0]), 5, 88) := by kernel_rfl
theorem Tryz.slOp : Tryz.prog.underlying 44 = some (.slice 50) := by kernel_rfl
abbrev OwCs := @Ow ClS ClS.enc 2 38
theorem Tryz.infoCl : (Tryz.prog.info? 38).map (fun i => (i.zero, i.size, i.bytes)) = some (some (.agg #[.int .i32 0, .slice none 0 0]), 2, 32) := by kernel_rfl
theorem Tryz.slCl : Tryz.prog.underlying 23 = some (.slice 38) := by kernel_rfl
section
variable {ops : Array Oper} {rest : List Oper} {o : Oper} {a : Act} {Q : Exit → Act → World → Prop} {w : World} {base : Nat} {v : Value} {K : Act → World → Prop} {E : Prop}
theorem app_os {l m : List OpS} (hgd : o.guard = none) (s x : Operand)
    (ho : o.op = .call { callee := .builtin .append, args := #[s, x], argTypes := #[44, 44] })
    (hsv : a.eval s = v) (hown : OwOs w base v l) (B : Nat) (A : Option Addr) (c n : Nat) (hx : a.eval x = .slice A n c) (hn : n = m.length) (hr : RdOs w B A m)
    (hb : l.length + m.length ≤ 1000000000000) (hbase : base ≤ w.heap.size)
    (h : ∀ v' w', OwOs w' base v' (l ++ m) → w.grownBy w' (wb v) → (v' = v ∧ w' = w ∨ wb v' = wb v ∨ wb v' = some w.heap.size) → wpList Tryz.prog ops Q rest (a.put o.dst v') w') : wpList Tryz.prog ops Q (o :: rest) a w := by
  obtain ⟨i0, hi0, hz0, hz1, hz2⟩ := info_parts Tryz.infoOp
  exact wpList_app hgd s x _ ho i0 _ 88 Tryz.slOp hi0 hz0 hz1 hz2 rfl (by omega) OpS.enc_len OpS.enc_one hsv hown B A c n hx hn hr (by simp only [maxLen]; omega) (by omega) hbase h
theorem step_os {l m : List OpS} (hgd : o.guard = none) (s x : Operand)
    (ho : o.op = .call { callee := .builtin .append, args := #[s, x], argTypes := #[44, 44] })
    (hsv : a.eval s = v) (hown : OwOs w base v l) (B : Nat) (A : Option Addr) (c n : Nat) (hx : a.eval x = .slice A n c) (hn : n = m.length) (hr : RdOs w B A m)
    (hb : l.length + m.length ≤ 1000000000000) (hbase : base ≤ w.heap.size)
    (h : ∀ v' w', OwOs w' base v' (l ++ m) → w.grownBy w' (wb v) → (v' = v ∧ w' = w ∨ wb v' = wb v ∨ wb v' = some w.heap.size) → K (a.put o.dst v') w') :
    if Region.wanted o (yielded ops a.tmps) = true then Oper.wp Tryz.prog o a w K Q else E := by
  have hw : Region.wanted o (yielded ops a.tmps) = true := by simp [Region.wanted, hgd]
  rw [if_pos hw]
  obtain ⟨i0, hi0, hz0, hz1, hz2⟩ := info_parts Tryz.infoOp
  exact wp_app s x _ ho i0 _ 88 Tryz.slOp hi0 hz0 hz1 hz2 rfl (by omega) OpS.enc_len OpS.enc_one hsv hown B A c n hx hn hr (by simp only [maxLen]; omega) (by omega) hbase h
theorem app_cs {l m : List ClS} (hgd : o.guard = none) (s x : Operand)
    (ho : o.op = .call { callee := .builtin .append, args := #[s, x], argTypes := #[23, 23] })
    (hsv : a.eval s = v) (hown : OwCs w base v l) (B : Nat) (A : Option Addr) (c n : Nat) (hx : a.eval x = .slice A n c) (hn : n = m.length) (hr : RdCs w B A m)
    (hb : l.length + m.length ≤ 2000000000000) (hbase : base ≤ w.heap.size)
    (h : ∀ v' w', OwCs w' base v' (l ++ m) → w.grownBy w' (wb v) → (v' = v ∧ w' = w ∨ wb v' = wb v ∨ wb v' = some w.heap.size) → wpList Tryz.prog ops Q rest (a.put o.dst v') w') : wpList Tryz.prog ops Q (o :: rest) a w := by
  obtain ⟨i0, hi0, hz0, hz1, hz2⟩ := info_parts Tryz.infoCl
  exact wpList_app hgd s x _ ho i0 _ 32 Tryz.slCl hi0 hz0 hz1 hz2 rfl (by omega) ClS.enc_len ClS.enc_one hsv hown B A c n hx hn hr (by simp only [maxLen]; omega) (by omega) hbase h
end
def NewOs (r : List OpS) (w : World) (e : Ending) (w' : World) : Prop :=
  ∃ A c, e = .returned (.slice A r.length c) ∧ OwOs w' w.heap.size (.slice A r.length c) r ∧ Below w.heap.size w w'
def NewI32 (r : List Int) (w : World) (e : Ending) (w' : World) : Prop :=
  ∃ A c, e = .returned (.slice A r.length c) ∧ OwI32 w' w.heap.size (.slice A r.length c) r ∧ Below w.heap.size w w'
set_option maxRecDepth 100000 in
set_option maxHeartbeats 400000 in
theorem cloneOs_any (A : Option Addr) (n c : Nat) (l : List OpS) (w : World) (hn : n = l.length) (h : RdOs w w.heap.size A l) (hb : n ≤ 100000000) :
    Calls Tryz.prog 205 #[.slice A n c] w (NewOs l w) := by
  cases A with
  | none =>
    have hl : l = [] := by
      cases l with
      | nil => rfl
      | cons a l => obtain ⟨ad, e, _⟩ := h (by simp); cases e
    subst hl
    have hn0 : n = 0 := by simpa using hn
    subst hn0
    clear hn
    have hq := fun (w : World) => Lib.run_eql_slice_nil (P := Tryz.prog) w 44 50 none 0 c 0 0 Tryz.slOp
    go_enter Tryz.func205, Tryz.ntmps205
    go_wp2_with (fail)
    go_ret
    exact ⟨none, 0, rfl, Ow.nil _ _, Below.refl _ _⟩
  | some ad =>
    have N := Lib.hid hn
    clear hn
    have hq := fun (w : World) => Lib.run_eql_slice_nil (P := Tryz.prog) w 44 50 (some ad) n c 0 0 Tryz.slOp
    go_enter Tryz.func205, Tryz.ntmps205
    go_wp2_with (first
      | (at_builtin; refine app_os (m := l) rfl (.tmp 5) (.tmp 6) rfl rfl (by exact Ow.empty _ w.heap.size _) _ _ _ _ rfl N.out (by exact h.ext (ext_alloc w _)) (by have := N.out; simp only [List.length_nil]; omega) (by simp) ?_; intro v' w' hown' hgr hv'))
    rw [List.nil_append] at hown'
    obtain ⟨A', c', rfl, _, _⟩ := hown'.form
    go_ret
    exact ⟨A', c', rfl, hown', (ext_alloc w _).grown hgr (by simp) (fun k hk => by cases hk)⟩

set_option maxRecDepth 100000 in
set_option maxHeartbeats 400000 in
theorem cloneI32_any (A : Option Addr) (n c : Nat) (l : List Int) (w : World) (hn : n = l.length) (h : RdI32 w w.heap.size A l) (hb : n ≤ 100000000) :
    Calls Tryz.prog 155 #[.slice A n c] w (NewI32 l w) := by
  cases A with
  | none =>
    have hl : l = [] := by
      cases l with
      | nil => rfl
      | cons a l => obtain ⟨ad, e, _⟩ := h (by simp); cases e
    subst hl
    have hn0 : n = 0 := by simpa using hn
    subst hn0
    clear hn
    have hq := fun (w : World) => Lib.run_eql_slice_nil (P := Tryz.prog) w 47 21 none 0 c 0 0 Tryz.slI32
    go_enter Tryz.func155, Tryz.ntmps155
    go_wp2_with (fail)
    go_ret
    exact ⟨none, 0, rfl, Ow.nil _ _, Below.refl _ _⟩
  | some ad =>
    have N := Lib.hid hn
    clear hn
    have hq := fun (w : World) => Lib.run_eql_slice_nil (P := Tryz.prog) w 47 21 (some ad) n c 0 0 Tryz.slI32
    go_enter Tryz.func155, Tryz.ntmps155
    go_wp2_with (first
      | (at_builtin; refine app_i32 (m := l) rfl (.tmp 5) (.tmp 6) rfl rfl (by exact Ow.empty _ w.heap.size _) _ _ _ _ rfl N.out (by exact h.ext (ext_alloc w _)) (by have := N.out; simp only [List.length_nil]; omega) (by simp) ?_; intro v' w' hown' hgr hv'))
    rw [List.nil_append] at hown'
    obtain ⟨A', c', rfl, _, _⟩ := hown'.form
    go_ret
    exact ⟨A', c', rfl, hown', (ext_alloc w _).grown hgr (by simp) (fun k hk => by cases hk)⟩

def NewCs (r : List ClS) (w : World) (e : Ending) (w' : World) : Prop :=
  ∃ A c, e = .returned (.slice A r.length c) ∧ OwCs w' w.heap.size (.slice A r.length c) r ∧ Below w.heap.size w w'
set_option maxRecDepth 100000 in
set_option maxHeartbeats 400000 in
theorem cloneCs_any (A : Option Addr) (n c : Nat) (l : List ClS) (w : World) (hn : n = l.length) (h : RdCs w w.heap.size A l) (hb : n ≤ 100000000) :
    Calls Tryz.prog 142 #[.slice A n c] w (NewCs l w) := by
  cases A with
  | none =>
    have hl : l = [] := by
      cases l with
      | nil => rfl
      | cons a l => obtain ⟨ad, e, _⟩ := h (by simp); cases e
    subst hl
    have hn0 : n = 0 := by simpa using hn
    subst hn0
    clear hn
    have hq := fun (w : World) => Lib.run_eql_slice_nil (P := Tryz.prog) w 23 38 none 0 c 0 0 Tryz.slCl
    go_enter Tryz.func142, Tryz.ntmps142
    go_wp2_with (fail)
    go_ret
    exact ⟨none, 0, rfl, Ow.nil _ _, Below.refl _ _⟩
  | some ad =>
    have N := Lib.hid hn
    clear hn
    have hq := fun (w : World) => Lib.run_eql_slice_nil (P := Tryz.prog) w 23 38 (some ad) n c 0 0 Tryz.slCl
    go_enter Tryz.func142, Tryz.ntmps142
    go_wp2_with (first
      | (at_builtin; refine app_cs (m := l) rfl (.tmp 5) (.tmp 6) rfl rfl (by exact Ow.empty _ w.heap.size _) _ _ _ _ rfl N.out (by exact h.ext (ext_alloc w _)) (by have := N.out; simp only [List.length_nil]; omega) (by simp) ?_; intro v' w' hown' hgr hv'))
    rw [List.nil_append] at hown'
    obtain ⟨A', c', rfl, _, _⟩ := hown'.form
    go_ret
    exact ⟨A', c', rfl, hown', (ext_alloc w _).grown hgr (by simp) (fun k hk => by cases hk)⟩

end Go.Proofs.YtfnkjcodcoehcaaGreatDoor
