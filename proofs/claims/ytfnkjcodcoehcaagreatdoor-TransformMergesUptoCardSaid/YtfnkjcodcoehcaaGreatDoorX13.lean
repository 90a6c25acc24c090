/- Merged texts. -/
import Derived.Test.YtfnkjcodcoehcaaGreatDoorX12
import Derived.Lib.Overlaps
namespace Go.Proofs.YtfnkjcodcoehcaaGreatDoor
set_option maxRecDepth 100000
set_option maxHeartbeats 800000
open Go.RowKit
open Go.Lib (hid Utf8Tabs)
set_option linter.unusedVariables false
set_option linter.unusedSimpArgs false
def badR (l : List Ky) (c : Cl) : Bool := !mayR c.r || decide (mayS l c.s = 3)
def badK (l : List Ky) (c : Cl) : Bool := !decide (mayS l c.s = 0)
def badP (l : List Ky) (c : Cl) : Bool := decide (0 < (Z1x l (!(c.r == 10)) c.s).length)
def mayD (l : List Ky) (d : List Cl) : Int :=
 if d.length < 1 ∨ 536870912 < d.length then 3 else if d.any (badR l) = true then 3 else if d.any (badK l) = true then 4
 else if (d.getLast?.map (fun c => decide (c.r = 10))) ≠ some true then 6 else if d.any (badP l) = true then 7 else 0
def Z0e (x : List ClS) : List Cl := x.map (·.c)
structure ClIn (w : World) (b1 s : Nat) (l : List Ky) (x : ClS) : Prop where
 hS : Sch w s l
 h1 : w.heap[b1]? = some (.cells #[.pointer (some ⟨s, 0, none⟩)] 26 (0, 0))
 rp : RdAt w w.heap.size x.As x.c.s
 hb : x.c.s.length ≤ 100000000
 hv : okVr x.c.s
 hT : Utf8Tabs 1 2 w
theorem ClIn.ext {w w' : World} {b1 s : Nat} {l : List Ky} {x : ClS} (h : ClIn w b1 s l x) (y : Below w.heap.size w w') : ClIn w' b1 s l x :=
 ⟨h.hS.ext y, (y.block b1 (Z0c h.h1)).trans h.h1, h.rp.ext y, h.hb, h.hv, Utf8Tabs_below h.hT y⟩
theorem Z8i (b1 s : Nat) (l : List Ky) (r : Int) (p : List At) (As : Option Addr) (cs : Nat) (w : World) (h : ClIn w b1 s l ⟨⟨r, p⟩, As, cs⟩) :
 Calls Tryz.prog 129 #[.agg #[.int .i32 r, .slice As p.length cs], .pointer (some ⟨b1, 0, none⟩)] w fun e w' => e = .returned (.bool (badR l ⟨r, p⟩)) ∧ Below w.heap.size w w' := by
 have y0 := Z0b w (.cells #[.int .i32 r, .slice As p.length cs] 38)
 obtain ⟨hS, h1, rp, hb, hv, hT⟩ := h.ext y0
 have c1 := Z2B h1
 have HS := hid hS
 have HRP := hid rp
 have HV := hid hv
 have HT := hid hT
 generalize hm : mayS l p = ms
 have HM := hid hm
 have HB : Hid (badR l ⟨r, p⟩ = (!mayR r || decide (ms = 3))) := hid (by unfold badR; simp only; rw [hm])
 rw [HB.out]
 clear h hS h1 rp hv hT hm
 go_enter Tryz.func129, Tryz.ntmps129
 cases hr : mayR r with
 | false =>
   have HR := hid hr
   clear hr
   go_wp2_with (go_at_call 130; refine (Z8R r _).mono ?_; rintro e w' ⟨rfl, rfl⟩; rw [HR.out])
   go_ret
   exact ⟨rfl, y0⟩
 | true =>
   have HR := hid hr
   clear hr
   go_wp2_with (first
    | (go_at_call 130; refine (Z8R r _).mono ?_; rintro e w' ⟨rfl, rfl⟩; rw [HR.out])
    | (go_at_call 131; refine (Z7z s l As p.length cs p _ rfl HRP.out (by omega) HS.out HV.out HT.out).mono ?_; rintro e w1 ⟨rfl, y1⟩; rw [HM.out]))
   go_ret
   exact ⟨Z0f (by by_cases h3 : ms = 3 <;> simp [h3]), Z0a y0 y1⟩
theorem Z8j (b1 s : Nat) (l : List Ky) (r : Int) (p : List At) (As : Option Addr) (cs : Nat) (w : World) (h : ClIn w b1 s l ⟨⟨r, p⟩, As, cs⟩) :
 Calls Tryz.prog 132 #[.agg #[.int .i32 r, .slice As p.length cs], .pointer (some ⟨b1, 0, none⟩)] w fun e w' => e = .returned (.bool (badK l ⟨r, p⟩)) ∧ Below w.heap.size w w' := by
 have y0 := Z0b w (.cells #[.int .i32 r, .slice As p.length cs] 38)
 obtain ⟨hS, h1, rp, hb, hv, hT⟩ := h.ext y0
 have c1 := Z2B h1
 have HS := hid hS
 have HRP := hid rp
 have HV := hid hv
 have HT := hid hT
 generalize hm : mayS l p = ms
 have HM := hid hm
 have HB : Hid (badK l ⟨r, p⟩ = !decide (ms = 0)) := hid (by unfold badK; simp only; rw [hm])
 rw [HB.out]
 clear h hS h1 rp hv hT hm
 go_enter Tryz.func132, Tryz.ntmps132
 go_wp2_with (go_at_call 131; refine (Z7z s l As p.length cs p _ rfl HRP.out (by omega) HS.out HV.out HT.out).mono ?_; rintro e w1 ⟨rfl, y1⟩; rw [HM.out])
 go_ret
 exact ⟨Z0f (by by_cases h3 : ms = 0 <;> simp [h3]), Z0a y0 y1⟩
theorem Z8k (b1 s : Nat) (l : List Ky) (r : Int) (p : List At) (As : Option Addr) (cs : Nat) (w : World) (h : ClIn w b1 s l ⟨⟨r, p⟩, As, cs⟩) :
 Calls Tryz.prog 133 #[.agg #[.int .i32 r, .slice As p.length cs], .pointer (some ⟨b1, 0, none⟩)] w fun e w' => e = .returned (.bool (badP l ⟨r, p⟩)) ∧ Below w.heap.size w w' := by
 have y0 := Z0b w (.cells #[.int .i32 r, .slice As p.length cs] 38)
 obtain ⟨hS, h1, rp, hb, hv, hT⟩ := h.ext y0
 have c1 := Z2B h1
 have HS := hid hS
 have HRP := hid rp
 have HV := hid hv
 have HT := hid hT
 obtain ⟨c2, c3⟩ := Z34 (heap_alloc_new w (.cells #[.int .i32 r, .slice As p.length cs] 38))
 generalize hm : Z1x l (!(r == 10)) p = ps
 have HM := hid hm
 have HB : Hid (badP l ⟨r, p⟩ = decide (0 < ps.length)) := hid (by unfold badP; simp only; rw [hm])
 have HL := hid hb
 rw [HB.out]
 clear h hS h1 rp hv hT hm hb
 have hne : (r != 10) = !(r == 10) := rfl
 go_enter Tryz.func133, Tryz.ntmps133
 go_wp2_with (go_at_call 134; refine Hid.out ?_)
 refine hid ?_
 refine (Z8f s l (!(r == 10)) As p.length cs p _ rfl HRP.out HL.out HS.out).mono ?_
 rw [HM.out]
 rintro e w1 ⟨A1, k1, rfl, _, y1⟩
 go_wp2_with (fail)
 go_ret
 exact ⟨Z0f (by by_cases h3 : 0 < ps.length <;> simp [h3]), Z0a y0 y1⟩
theorem Y2n (b1 s : Nat) (l : List Ky) (A : Option Addr) (n c : Nat) (d : List ClS) (w : World) (hn : n = d.length) (h : RdCs w w.heap.size A d) (hb : n ≤ 140737488355328) (hc : ∀ x ∈ d, ClIn w b1 s l x) :
 Calls Tryz.prog 182 #[.slice A n c, .func (.func 129) #[] #[.pointer (some ⟨b1, 0, none⟩)]] w fun e w' => ∃ i : Int, e = .returned (.int .i64 i) ∧ IdxOut (badR l) (Z0e d) i ∧ Below w.heap.size w w' := by
 have N := hid hn
 have HH := hid h
 have HC := hid hc
 have HCL : Hid (Z0e d = d.map (·.c)) := hid rfl
 clear hn h hc
 go_enter Tryz.func182, Tryz.ntmps182
 go_wp2_with (fail)
 go_loopg [8] n (fun g iv wr => ∃ i : Nat, i ≤ n ∧ g = n - i ∧ iv = .int .i64 i ∧ Below w.heap.size w wr ∧ Hid (∀ x ∈ (Z0e d).take i, badR l x = false))
 case atStart => exact ⟨0, by omega, rfl, rfl, Below.refl _ _, hid (by simp)⟩
 case round =>
  obtain ⟨i, hi, hg, rfl, y, HI⟩ := hrel
  have HG := hid hg
  clear hg
  by_cases hlt : i < n
  ·have hil : i < d.length := by have := N.out; omega
   obtain ⟨ad, x, rfl, _, _, hx, hc1⟩ := (HH.out.ext y).el hil
   have hxc : (Z0e d)[i]? = some x.c := by rw [HCL.out, List.getElem?_map, hx]; rfl
   have HT : Hid ((Z0e d).take (i + 1) = (Z0e d).take i ++ [x.c]) := hid (by rw [List.take_add_one, hxc]; rfl)
   have HX := hid hxc
   have hin := hid ((HC.out x (List.mem_of_getElem? hx)).ext y)
   obtain ⟨⟨r, p⟩, As, cs⟩ := x
   obtain ⟨r0, r1⟩ := Z03 hc1
   clear hx hil hc1 hxc
   have hw2 : IntKind.i64.wrap ((i:Int) + 1) = (i : Int) + 1 := IntWalk.i64_in _ (by omega)
   cases hp : badR l ⟨r, p⟩ with
   | true =>
     have HP := hid hp
     clear hp
     go_wp2_with (go_at_call 129; refine Hid.out ?_)
     refine hid ?_
     refine (Z8i b1 s l r p As cs _ hin.out).mono ?_
     rintro e w' ⟨rfl, y2⟩
     rw [HP.out]
     go_wp2_with (fail)
     go_ret
     exact ⟨i, rfl, .inr ⟨i, rfl, by rw [HCL.out, List.length_map]; have := N.out; omega, HI.out, _, HX.out, HP.out⟩, Z0a y y2⟩
   | false =>
     have HP := hid hp
     clear hp
     go_wp2_with (go_at_call 129; refine Hid.out ?_)
     refine hid ?_
     refine (Z8i b1 s l r p As cs _ hin.out).mono ?_
     rintro e w' ⟨rfl, y2⟩
     rw [HP.out]
     go_wp2_with (fail)
     go_roundg (n - (i + 1))
     case measure => have := HG.out; omega
     case rel =>
      refine ⟨i + 1, by omega, rfl, by go_num, Z0a y y2, hid ?_⟩
      intro z hz
      rw [HT.out] at hz
      rcases List.mem_append.1 hz with hz | hz
      ·exact HI.out z hz
      ·simp at hz; rw [hz]; exact HP.out
  ·go_wp2_with (fail)
   go_ret
   refine ⟨-1, rfl, .inl ⟨rfl, ?_⟩, y⟩
   have h1 := HI.out
   rw [List.take_of_length_le (by rw [HCL.out, List.length_map]; have := N.out; omega)] at h1
   exact h1
theorem Y2o (b1 s : Nat) (l : List Ky) (A : Option Addr) (n c : Nat) (d : List ClS) (w : World) (hn : n = d.length) (h : RdCs w w.heap.size A d) (hb : n ≤ 140737488355328) (hc : ∀ x ∈ d, ClIn w b1 s l x) :
 Calls Tryz.prog 128 #[.slice A n c, .func (.func 129) #[] #[.pointer (some ⟨b1, 0, none⟩)]] w fun e w' => e = .returned (.bool ((Z0e d).any (badR l))) ∧ Below w.heap.size w w' := by
 have N := hid hn
 have HH := hid h
 have HC := hid hc
 generalize hr : (Z0e d).any (badR l) = r
 have HR := hid hr
 clear hr hn h hc
 go_enter Tryz.func128, Tryz.ntmps128
 go_wp2_with (go_at_call 182; refine Hid.out ?_)
 refine hid ?_
 refine (Y2n b1 s l A n c d w N.out HH.out hb HC.out).mono ?_
 rintro e w1 ⟨i, rfl, hi, y⟩
 have hd := Z7A hi
 rw [HR.out] at hd
 clear hi
 go_wp2_with (fail)
 go_ret
 exact ⟨by first | rfl | exact Z0f hd, y⟩
theorem Y06 (b1 b0 s : Nat) (l : List Ky) (A : Option Addr) (n c : Nat) (d : List ClS) (w : World) (hn : n = d.length) (h : RdCs w w.heap.size A d) (hb : n ≤ 140737488355328) (hc : ∀ x ∈ d, ClIn w b1 s l x)
 (h0 : w.heap[b0]? = some (.cells #[.slice A n c] 23 (0, 0))) :
 Calls Tryz.prog 127 #[.func (.func 129) #[] #[.pointer (some ⟨b1, 0, none⟩)], .pointer (some ⟨b0, 0, none⟩)] w fun e w' => e = .returned (.bool ((Z0e d).any (badR l))) ∧ Below w.heap.size w w' := by
 have N := hid hn
 have HH := hid h
 have HC := hid hc
 have c0 := Z2B h0
 generalize hr : (Z0e d).any (badR l) = r
 have HR := hid hr
 clear hr hn h hc h0
 go_enter Tryz.func127, Tryz.ntmps127
 go_wp2_with (go_at_call 128; refine Hid.out ?_)
 refine hid ?_
 refine (Y2o b1 s l A n c d w N.out HH.out hb HC.out).mono ?_
 rw [HR.out]
 rintro e w1 ⟨rfl, y⟩
 go_wp2_with (fail)
 go_ret
 exact ⟨rfl, y⟩
theorem Y2p (b1 s : Nat) (l : List Ky) (A : Option Addr) (n c : Nat) (d : List ClS) (w : World) (hn : n = d.length) (h : RdCs w w.heap.size A d) (hb : n ≤ 140737488355328) (hc : ∀ x ∈ d, ClIn w b1 s l x) :
 Calls Tryz.prog 182 #[.slice A n c, .func (.func 132) #[] #[.pointer (some ⟨b1, 0, none⟩)]] w fun e w' => ∃ i : Int, e = .returned (.int .i64 i) ∧ IdxOut (badK l) (Z0e d) i ∧ Below w.heap.size w w' := by
 have N := hid hn
 have HH := hid h
 have HC := hid hc
 have HCL : Hid (Z0e d = d.map (·.c)) := hid rfl
 clear hn h hc
 go_enter Tryz.func182, Tryz.ntmps182
 go_wp2_with (fail)
 go_loopg [8] n (fun g iv wr => ∃ i : Nat, i ≤ n ∧ g = n - i ∧ iv = .int .i64 i ∧ Below w.heap.size w wr ∧ Hid (∀ x ∈ (Z0e d).take i, badK l x = false))
 case atStart => exact ⟨0, by omega, rfl, rfl, Below.refl _ _, hid (by simp)⟩
 case round =>
  obtain ⟨i, hi, hg, rfl, y, HI⟩ := hrel
  have HG := hid hg
  clear hg
  by_cases hlt : i < n
  ·have hil : i < d.length := by have := N.out; omega
   obtain ⟨ad, x, rfl, _, _, hx, hc1⟩ := (HH.out.ext y).el hil
   have hxc : (Z0e d)[i]? = some x.c := by rw [HCL.out, List.getElem?_map, hx]; rfl
   have HT : Hid ((Z0e d).take (i + 1) = (Z0e d).take i ++ [x.c]) := hid (by rw [List.take_add_one, hxc]; rfl)
   have HX := hid hxc
   have hin := hid ((HC.out x (List.mem_of_getElem? hx)).ext y)
   obtain ⟨⟨r, p⟩, As, cs⟩ := x
   obtain ⟨r0, r1⟩ := Z03 hc1
   clear hx hil hc1 hxc
   have hw2 : IntKind.i64.wrap ((i:Int) + 1) = (i : Int) + 1 := IntWalk.i64_in _ (by omega)
   cases hp : badK l ⟨r, p⟩ with
   | true =>
     have HP := hid hp
     clear hp
     go_wp2_with (go_at_call 132; refine Hid.out ?_)
     refine hid ?_
     refine (Z8j b1 s l r p As cs _ hin.out).mono ?_
     rintro e w' ⟨rfl, y2⟩
     rw [HP.out]
     go_wp2_with (fail)
     go_ret
     exact ⟨i, rfl, .inr ⟨i, rfl, by rw [HCL.out, List.length_map]; have := N.out; omega, HI.out, _, HX.out, HP.out⟩, Z0a y y2⟩
   | false =>
     have HP := hid hp
     clear hp
     go_wp2_with (go_at_call 132; refine Hid.out ?_)
     refine hid ?_
     refine (Z8j b1 s l r p As cs _ hin.out).mono ?_
     rintro e w' ⟨rfl, y2⟩
     rw [HP.out]
     go_wp2_with (fail)
     go_roundg (n - (i + 1))
     case measure => have := HG.out; omega
     case rel =>
      refine ⟨i + 1, by omega, rfl, by go_num, Z0a y y2, hid ?_⟩
      intro z hz
      rw [HT.out] at hz
      rcases List.mem_append.1 hz with hz | hz
      ·exact HI.out z hz
      ·simp at hz; rw [hz]; exact HP.out
  ·go_wp2_with (fail)
   go_ret
   refine ⟨-1, rfl, .inl ⟨rfl, ?_⟩, y⟩
   have h1 := HI.out
   rw [List.take_of_length_le (by rw [HCL.out, List.length_map]; have := N.out; omega)] at h1
   exact h1
theorem Y2q (b1 s : Nat) (l : List Ky) (A : Option Addr) (n c : Nat) (d : List ClS) (w : World) (hn : n = d.length) (h : RdCs w w.heap.size A d) (hb : n ≤ 140737488355328) (hc : ∀ x ∈ d, ClIn w b1 s l x) :
 Calls Tryz.prog 128 #[.slice A n c, .func (.func 132) #[] #[.pointer (some ⟨b1, 0, none⟩)]] w fun e w' => e = .returned (.bool ((Z0e d).any (badK l))) ∧ Below w.heap.size w w' := by
 have N := hid hn
 have HH := hid h
 have HC := hid hc
 generalize hr : (Z0e d).any (badK l) = r
 have HR := hid hr
 clear hr hn h hc
 go_enter Tryz.func128, Tryz.ntmps128
 go_wp2_with (go_at_call 182; refine Hid.out ?_)
 refine hid ?_
 refine (Y2p b1 s l A n c d w N.out HH.out hb HC.out).mono ?_
 rintro e w1 ⟨i, rfl, hi, y⟩
 have hd := Z7A hi
 rw [HR.out] at hd
 clear hi
 go_wp2_with (fail)
 go_ret
 exact ⟨by first | rfl | exact Z0f hd, y⟩
theorem Y07 (b1 b0 s : Nat) (l : List Ky) (A : Option Addr) (n c : Nat) (d : List ClS) (w : World) (hn : n = d.length) (h : RdCs w w.heap.size A d) (hb : n ≤ 140737488355328) (hc : ∀ x ∈ d, ClIn w b1 s l x)
 (h0 : w.heap[b0]? = some (.cells #[.slice A n c] 23 (0, 0))) :
 Calls Tryz.prog 127 #[.func (.func 132) #[] #[.pointer (some ⟨b1, 0, none⟩)], .pointer (some ⟨b0, 0, none⟩)] w fun e w' => e = .returned (.bool ((Z0e d).any (badK l))) ∧ Below w.heap.size w w' := by
 have N := hid hn
 have HH := hid h
 have HC := hid hc
 have c0 := Z2B h0
 generalize hr : (Z0e d).any (badK l) = r
 have HR := hid hr
 clear hr hn h hc h0
 go_enter Tryz.func127, Tryz.ntmps127
 go_wp2_with (go_at_call 128; refine Hid.out ?_)
 refine hid ?_
 refine (Y2q b1 s l A n c d w N.out HH.out hb HC.out).mono ?_
 rw [HR.out]
 rintro e w1 ⟨rfl, y⟩
 go_wp2_with (fail)
 go_ret
 exact ⟨rfl, y⟩
theorem Y2r (b1 s : Nat) (l : List Ky) (A : Option Addr) (n c : Nat) (d : List ClS) (w : World) (hn : n = d.length) (h : RdCs w w.heap.size A d) (hb : n ≤ 140737488355328) (hc : ∀ x ∈ d, ClIn w b1 s l x) :
 Calls Tryz.prog 182 #[.slice A n c, .func (.func 133) #[] #[.pointer (some ⟨b1, 0, none⟩)]] w fun e w' => ∃ i : Int, e = .returned (.int .i64 i) ∧ IdxOut (badP l) (Z0e d) i ∧ Below w.heap.size w w' := by
 have N := hid hn
 have HH := hid h
 have HC := hid hc
 have HCL : Hid (Z0e d = d.map (·.c)) := hid rfl
 clear hn h hc
 go_enter Tryz.func182, Tryz.ntmps182
 go_wp2_with (fail)
 go_loopg [8] n (fun g iv wr => ∃ i : Nat, i ≤ n ∧ g = n - i ∧ iv = .int .i64 i ∧ Below w.heap.size w wr ∧ Hid (∀ x ∈ (Z0e d).take i, badP l x = false))
 case atStart => exact ⟨0, by omega, rfl, rfl, Below.refl _ _, hid (by simp)⟩
 case round =>
  obtain ⟨i, hi, hg, rfl, y, HI⟩ := hrel
  have HG := hid hg
  clear hg
  by_cases hlt : i < n
  ·have hil : i < d.length := by have := N.out; omega
   obtain ⟨ad, x, rfl, _, _, hx, hc1⟩ := (HH.out.ext y).el hil
   have hxc : (Z0e d)[i]? = some x.c := by rw [HCL.out, List.getElem?_map, hx]; rfl
   have HT : Hid ((Z0e d).take (i + 1) = (Z0e d).take i ++ [x.c]) := hid (by rw [List.take_add_one, hxc]; rfl)
   have HX := hid hxc
   have hin := hid ((HC.out x (List.mem_of_getElem? hx)).ext y)
   obtain ⟨⟨r, p⟩, As, cs⟩ := x
   obtain ⟨r0, r1⟩ := Z03 hc1
   clear hx hil hc1 hxc
   have hw2 : IntKind.i64.wrap ((i:Int) + 1) = (i : Int) + 1 := IntWalk.i64_in _ (by omega)
   cases hp : badP l ⟨r, p⟩ with
   | true =>
     have HP := hid hp
     clear hp
     go_wp2_with (go_at_call 133; refine Hid.out ?_)
     refine hid ?_
     refine (Z8k b1 s l r p As cs _ hin.out).mono ?_
     rintro e w' ⟨rfl, y2⟩
     rw [HP.out]
     go_wp2_with (fail)
     go_ret
     exact ⟨i, rfl, .inr ⟨i, rfl, by rw [HCL.out, List.length_map]; have := N.out; omega, HI.out, _, HX.out, HP.out⟩, Z0a y y2⟩
   | false =>
     have HP := hid hp
     clear hp
     go_wp2_with (go_at_call 133; refine Hid.out ?_)
     refine hid ?_
     refine (Z8k b1 s l r p As cs _ hin.out).mono ?_
     rintro e w' ⟨rfl, y2⟩
     rw [HP.out]
     go_wp2_with (fail)
     go_roundg (n - (i + 1))
     case measure => have := HG.out; omega
     case rel =>
      refine ⟨i + 1, by omega, rfl, by go_num, Z0a y y2, hid ?_⟩
      intro z hz
      rw [HT.out] at hz
      rcases List.mem_append.1 hz with hz | hz
      ·exact HI.out z hz
      ·simp at hz; rw [hz]; exact HP.out
  ·go_wp2_with (fail)
   go_ret
   refine ⟨-1, rfl, .inl ⟨rfl, ?_⟩, y⟩
   have h1 := HI.out
   rw [List.take_of_length_le (by rw [HCL.out, List.length_map]; have := N.out; omega)] at h1
   exact h1
theorem Y2s (b1 s : Nat) (l : List Ky) (A : Option Addr) (n c : Nat) (d : List ClS) (w : World) (hn : n = d.length) (h : RdCs w w.heap.size A d) (hb : n ≤ 140737488355328) (hc : ∀ x ∈ d, ClIn w b1 s l x) :
 Calls Tryz.prog 128 #[.slice A n c, .func (.func 133) #[] #[.pointer (some ⟨b1, 0, none⟩)]] w fun e w' => e = .returned (.bool ((Z0e d).any (badP l))) ∧ Below w.heap.size w w' := by
 have N := hid hn
 have HH := hid h
 have HC := hid hc
 generalize hr : (Z0e d).any (badP l) = r
 have HR := hid hr
 clear hr hn h hc
 go_enter Tryz.func128, Tryz.ntmps128
 go_wp2_with (go_at_call 182; refine Hid.out ?_)
 refine hid ?_
 refine (Y2r b1 s l A n c d w N.out HH.out hb HC.out).mono ?_
 rintro e w1 ⟨i, rfl, hi, y⟩
 have hd := Z7A hi
 rw [HR.out] at hd
 clear hi
 go_wp2_with (fail)
 go_ret
 exact ⟨by first | rfl | exact Z0f hd, y⟩
theorem Y08 (b1 b0 s : Nat) (l : List Ky) (A : Option Addr) (n c : Nat) (d : List ClS) (w : World) (hn : n = d.length) (h : RdCs w w.heap.size A d) (hb : n ≤ 140737488355328) (hc : ∀ x ∈ d, ClIn w b1 s l x)
 (h0 : w.heap[b0]? = some (.cells #[.slice A n c] 23 (0, 0))) :
 Calls Tryz.prog 127 #[.func (.func 133) #[] #[.pointer (some ⟨b1, 0, none⟩)], .pointer (some ⟨b0, 0, none⟩)] w fun e w' => e = .returned (.bool ((Z0e d).any (badP l))) ∧ Below w.heap.size w w' := by
 have N := hid hn
 have HH := hid h
 have HC := hid hc
 have c0 := Z2B h0
 generalize hr : (Z0e d).any (badP l) = r
 have HR := hid hr
 clear hr hn h hc h0
 go_enter Tryz.func127, Tryz.ntmps127
 go_wp2_with (go_at_call 128; refine Hid.out ?_)
 refine hid ?_
 refine (Y2s b1 s l A n c d w N.out HH.out hb HC.out).mono ?_
 rw [HR.out]
 rintro e w1 ⟨rfl, y⟩
 go_wp2_with (fail)
 go_ret
 exact ⟨rfl, y⟩
section
variable {l : List Ky} {a b : List At} {p q : List Ch}
theorem Z8l (f : Ch → Bool) (vp : okVs p) : okVs (p.filter f) := fun c hc => vp c (List.mem_filter.1 hc).1
theorem Z4b (f : Ch → Bool) (hp : mayP l p = 0) : mayP l (p.filter f) = 0 := by
 obtain ⟨p0, p1, p2, p3⟩ := Z0U hp
 refine Y5n (by have := List.length_filter_le f p; omega) (Z1d.2 ((Z1d.1 p1).filter Ch.key f)) (fun c hc => ?_) (fun c hc => ?_)
 ·exact List.all_eq_true.1 p2 c (List.mem_filter.1 hc).1
 ·exact List.all_eq_true.1 p3 c (List.mem_filter.1 hc).1
theorem Y09 (hl : l.length ≤ 64) (ha : mayS l a = 0) (hp : mayP l p = 0) : mayS l (Z04 p a) = 0 := by
 obtain ⟨_, a1, a2, a3⟩ := Z00 ha
 obtain ⟨_, p1, p2, p3⟩ := Z0U hp
 obtain ⟨d1, d2, _⟩ := Z1Z (Z1d.1 p1) (Z1c.1 a1)
 refine stayA hl d1 fun c hc => ?_
 have h1 := Z6b At.key d1 hc
 rw [d2] at h1
 cases hy : lk Ch.key p c.key with
 | none =>
   rw [hy] at h1
   have h1 : lk At.key a c.key = some c := h1
   have hm := Z6a At.key h1
   exact ⟨a2 c hm, a3 c hm⟩
 | some y =>
   have hm := Z6a Ch.key hy
   rw [hy] at h1
   simp only [Z2P] at h1
   by_cases hg : y.gone = true
   ·rw [if_pos hg] at h1; cases h1
   ·rw [if_neg hg] at h1
    simp only [Option.some.injEq] at h1
    have hok := List.all_eq_true.1 p2 y hm
    have hth := List.all_eq_true.1 p3 y hm
    have hg' : y.gone = false := by simpa using hg
    unfold okC at hok
    rw [if_neg hg] at hok
    unfold Z0T at hth
    rw [hg', Bool.false_or] at hth
    rw [← h1]
    exact ⟨hok, (Bool.and_eq_true_iff.1 hth).2⟩
end
set_option linter.unusedVariables false
set_option linter.unusedSimpArgs false
def tkN (o : Opd) : Nat := if o.k = 2 then 0 else o.n.toNat
def layC (o : Opd) (d : List Cl) : List Cl := if o.k = 2 then o.r.map (fun r => ⟨r, o.s⟩) else if o.k = 1 then d.take o.n.toNat else []
def Z3o (l : List Ky) : List Opd → List Cl → List Cl
 | [], d => d
 | o :: x, d => (layC o d).map (fun c => actC l c o.p) ++ Z3o l x (d.drop (tkN o))
theorem Y5p (l : List Ky) (r : List Int) (s : List At) (d : List Cl) : app l (r.map (fun r => Un.ins r s)) d = r.map (fun r => (⟨r, s⟩ : Cl)) ++ d := by
 induction r with
 | nil => rfl
 | cons a r ih => show _ :: app l _ d = _; rw [ih]; rfl
theorem Y33 (l : List Ky) (n : Nat) (d : List Cl) : app l (List.replicate n .del) d = d.drop n := by
 induction n generalizing d with
 | zero => rfl
 | succ n ih => rw [List.replicate_succ]; show app l _ (d.drop 1) = _; rw [ih, List.drop_drop, Nat.add_comm 1]
theorem Y34 (l : List Ky) (n : Nat) (p : List Ch) (d : List Cl) : app l (List.replicate n (.ret p)) d = (d.take n).map (fun c => actC l c p) ++ d.drop n := by
 induction n generalizing d with
 | zero => rfl
 | succ n ih =>
   rw [List.replicate_succ]
   show (d.take 1).map _ ++ app l _ (d.drop 1) = _
   rw [ih, List.drop_drop, Nat.add_comm 1, ← List.append_assoc, ← List.map_append]
   congr 2
   cases d with
   | nil => simp
   | cons c d => simp
theorem Y1a (r : List Int) (s : List At) : Z0k (r.map (fun r => Un.ins r s)) = 0 := by
 induction r with
 | nil => rfl
 | cons a r ih => rw [List.map_cons, Z1k, ih]
theorem Y1b (r : List Int) (s : List At) : Z0p (r.map (fun r => Un.ins r s)) = r.length := by
 induction r with
 | nil => rfl
 | cons a r ih => rw [List.map_cons, Z3a, ih]; rfl
theorem Z2Z (n : Nat) (p : List Ch) : Z0k (List.replicate n (.ret p)) = n := by
 induction n with
 | zero => rfl
 | succ n ih => rw [List.replicate_succ, Z0Q, ih]
theorem Z45 (n : Nat) (p : List Ch) : Z0p (List.replicate n (.ret p)) = n := by
 induction n with
 | zero => rfl
 | succ n ih => rw [List.replicate_succ, Z1O, ih]
theorem Z8m {o : Opd} (ho : isOp o) : Z0k (Z0h o) = tkN o := by
 unfold tkN
 rcases Z0x ho with hk | hk | hk
 ·obtain ⟨e, hr⟩ := Z13 ho hk
  rw [if_pos hk, e, Z2a, Y1a]
 ·obtain ⟨e, hr⟩ := Z14 ho hk
  rw [if_neg (by rw [hk]; decide), e, Z3L, Z2p]; rfl
 ·obtain ⟨e, hr⟩ := Z1K ho hk
  rw [if_neg (by rw [hk]; decide), e, Z1N, Z2Z]; rfl
theorem Z92 (l : List Ky) : ∀ (x : List Opd) (d : List Cl), (∀ o ∈ x, isOp o) → Z3o l x d = app l (Z0d x) d
 | [], d, _ => rfl
 | o :: x, d, h => by
   have ih := Z92 l x (d.drop (tkN o)) (fun a ha => h a (List.mem_cons_of_mem _ ha))
   have ho := h o (by simp)
   rw [Z1w, Z3N, Z3o, ih, Z8m ho]
   congr 1
   unfold layC tkN
   rcases Z0x ho with hk | hk | hk
   ·obtain ⟨e, hr⟩ := Z13 ho hk
    rw [if_pos hk, if_pos hk]
    have hp : o.p = [] := by rw [e]; rfl
    have hu : Z0h o = o.r.map (fun r => Un.ins r o.s) := by unfold Z0h; rw [if_pos hk]
    rw [hp, hu, Y5p, List.map_map]
    simp [Z2I, Function.comp_def]
   ·obtain ⟨e, hr⟩ := Z14 ho hk
    rw [if_neg (by rw [hk]; decide), if_neg (by rw [hk]; decide), if_neg (by rw [hk]; decide)]
    have hu : Z0h o = List.replicate o.n.toNat .del := by unfold Z0h; rw [if_neg (by rw [hk]; decide), if_neg (by rw [hk]; decide)]
    rw [hu, Y33]
    simp
   ·obtain ⟨e, hr⟩ := Z1K ho hk
    rw [if_neg (by rw [hk]; decide), if_pos hk, if_neg (by rw [hk]; decide)]
    have hu : Z0h o = List.replicate o.n.toNat (.ret o.p) := by unfold Z0h; rw [if_neg (by rw [hk]; decide), if_pos hk]
    rw [hu, Y34, List.take_take, Nat.min_self]
    simp
theorem Y35 {l : List Ky} {b : Bool} {id : Int} (h : Z1q l b id = true) (h' : Z1q l (!b) id = true) : False := by
 unfold Z1q at h h'
 cases hq : Z0N l id with
 | none => rw [hq] at h; cases h
 | some k => rw [hq] at h h'; cases b <;> cases hk : k.block <;> simp [hk] at h h'
theorem Z93 {l : List Ky} {c : Cl} {p : List Ch} (hl : l.length ≤ 64) (hc : okCl l c) (hp : mayP l p = 0) : okCl l (actC l c p) := by
 obtain ⟨h1, h2, h3⟩ := hc
 have hp2 : mayP l (Z1t l (c.r == 10) p) = 0 := Z4b _ hp
 refine ⟨h1, Y09 hl h2 hp2, ?_⟩
 obtain ⟨_, s1, s2, s3⟩ := Z00 h2
 obtain ⟨_, p1, p2, p3⟩ := Z0U hp2
 obtain ⟨a1, a2, _⟩ := Z1Z (Z1d.1 p1) (Z1c.1 s1)
 show Z1x l (!(c.r == 10)) (Z04 (Z1t l (c.r == 10) p) c.s) = []
 generalize (c.r == 10) = b at *
 unfold Z1x
 refine List.filter_eq_nil_iff.2 fun x hx hk => ?_
 have e := Z6b At.key a1 hx
 rw [a2] at e
 cases hq : lk Ch.key (Z1t l b p) x.key with
 | none =>
   rw [hq] at e
   have e : lk At.key c.s x.key = some x := e
   have hm : x ∈ Z1x l (!b) c.s := List.mem_filter.2 ⟨Z6a At.key e, hk⟩
   rw [h3] at hm; cases hm
 | some y =>
   have hy := Z6a Ch.key hq
   have hyk : y.key = x.key := Z77 Ch.key hq
   have := (List.mem_filter.1 hy).2
   simp only [hyk] at this
   exact Y35 this hk
theorem Z94 {l : List Ky} (hl : l.length ≤ 64) : ∀ (us : List Un) (d : List Cl), (∀ u ∈ us, vU l u) → (∀ c ∈ d, okCl l c) → ∀ c ∈ app l us d, okCl l c
 | [], d, _, hd => hd
 | .ins r s :: us, d, hu, hd => by
   intro c hc
   rcases List.mem_cons.1 hc with rfl | hc
   ·exact hu (.ins r s) (by simp)
   ·exact Z94 hl us d (fun u h => hu u (List.mem_cons_of_mem _ h)) hd c hc
 | .del :: us, d, hu, hd => Z94 hl us (d.drop 1) (fun u h => hu u (List.mem_cons_of_mem _ h)) (fun c hc => hd c (List.mem_of_mem_drop hc))
 | .ret p :: us, d, hu, hd => by
   intro c hc
   rcases List.mem_append.1 hc with hc | hc
   ·obtain ⟨x, hx, rfl⟩ := List.mem_map.1 hc
    exact Z93 hl (hd x (List.mem_of_mem_take hx)) (hu (.ret p) (by simp))
   ·exact Z94 hl us (d.drop 1) (fun u h => hu u (List.mem_cons_of_mem _ h)) (fun c hc => hd c (List.mem_of_mem_drop hc)) c hc
theorem Z3c {l : List Ky} {d : List Cl} : mayD l d = 0 ↔ d.length ≤ 536870912 ∧ (∀ c ∈ d, okCl l c) ∧ ∃ t c, d = t ++ [c] ∧ c.r = 10 := by
 constructor
 ·intro h
  unfold mayD at h
  split at h
  ·cases h
  rename_i h0
  split at h
  ·cases h
  rename_i h1
  split at h
  ·cases h
  rename_i h2
  split at h
  ·cases h
  rename_i h3
  split at h
  ·cases h
  rename_i h4
  refine ⟨by omega, fun c hc => ?_, ?_⟩
  ·have g1 := List.any_eq_false.1 (Bool.eq_false_iff.2 h1) c hc
   have g2 := List.any_eq_false.1 (Bool.eq_false_iff.2 h2) c hc
   have g4 := List.any_eq_false.1 (Bool.eq_false_iff.2 h4) c hc
   unfold badR at g1
   unfold badK at g2
   unfold badP at g4
   simp at g1 g2 g4
   exact ⟨g1.1, g2, g4⟩
  ·rcases List.eq_nil_or_concat d with h0 | ⟨t, c, h0⟩
   ·subst h0; simp at h3
   ·rw [List.concat_eq_append] at h0
    subst h0
    exact ⟨t, c, rfl, by simpa using h3⟩
 ·rintro ⟨h0, h1, t, c, rfl, h3⟩
  have g1 : (t ++ [c]).any (badR l) = false := List.any_eq_false.2 fun x hx => by
   obtain ⟨a, b, _⟩ := h1 x hx
   unfold badR
   rw [a, b]; decide
  have g2 : (t ++ [c]).any (badK l) = false := List.any_eq_false.2 fun x hx => by
   obtain ⟨a, b, _⟩ := h1 x hx
   unfold badK
   rw [b]; decide
  have g4 : (t ++ [c]).any (badP l) = false := List.any_eq_false.2 fun x hx => by
   obtain ⟨a, b, e⟩ := h1 x hx
   unfold badP
   rw [e]; simp
  unfold mayD
  rw [if_neg (by simp at h0 ⊢; omega), g1, g2, g4, if_neg (by decide), if_neg (by decide), if_neg (by simp [h3]), if_neg (by decide)]
theorem Z7C {n : Nat} : ∀ {us : List Un}, finU n n us = true → Z0k us = 0 → us = []
 | [], _, _ => rfl
 | .ins r s :: us, h, _ => by simp [finU] at h
 | .del :: us, _, h => by rw [Z07] at h; omega
 | .ret p :: us, _, h => by rw [Z0Q] at h; omega
theorem Z4v (l : List Ky) : ∀ (us : List Un) (t : List Cl) (c : Cl) (n a : Nat), Z0k us ≤ t.length + 1 → finU n a us = true → n = a + (t.length + 1) → ∃ t' c', app l us (t ++ [c]) = t' ++ [c'] ∧ c'.r = c.r
 | [], t, c, n, a, _, _, _ => ⟨t, c, rfl, rfl⟩
 | .ins r s :: us, t, c, n, a, h1, h2, h3 => by
   simp only [finU, Bool.and_eq_true] at h2
   obtain ⟨t', c', e, hr⟩ := Z4v l us t c n a (by rw [Z1k] at h1; exact h1) h2.2 h3
   exact ⟨⟨r, s⟩ :: t', c', by show _ :: app l us _ = _; rw [e]; rfl, hr⟩
 | .del :: us, t, c, n, a, h1, h2, h3 => by
   simp only [finU, Bool.and_eq_true, decide_eq_true_eq] at h2
   rw [Z07] at h1
   cases t with
   | nil => simp at h3; omega
   | cons x t =>
     obtain ⟨t', c', e, hr⟩ := Z4v l us t c n (a + 1) (by simp at h1; omega) h2.2 (by simp at h3; omega)
     exact ⟨t', c', e, hr⟩
 | .ret p :: us, t, c, n, a, h1, h2, h3 => by
   simp only [finU] at h2
   rw [Z0Q] at h1
   cases t with
   | nil =>
     have e0 : us = [] := Z7C (n := n) (by rw [show a + 1 = n by simp at h3; omega] at h2; exact h2) (by simp at h1; omega)
     subst e0
     exact ⟨[], actC l c p, rfl, rfl⟩
   | cons x t =>
     obtain ⟨t', c', e, hr⟩ := Z4v l us t c n (a + 1) (by simp at h1; omega) h2 (by simp at h3; omega)
     exact ⟨actC l x p :: t', c', by show [actC l x p] ++ app l us (t ++ [c]) = _; rw [e]; rfl, hr⟩
theorem Y36 {l : List Ky} {us : List Un} {d : List Cl} {most : Nat} (hl : l.length ≤ 64) (hd : mayD l d = 0) (hf : FitU l us d.length most) (hb : d.length + Z0p us ≤ 536870912 + Z0k us) : mayD l (app l us d) = 0 := by
 obtain ⟨h0, h1, t, c, rfl, h3⟩ := Z3c.1 hd
 obtain ⟨t', c', e, hr⟩ := Z4v l us t c (t ++ [c]).length 0 (by have := hf.t; simpa using this) hf.f (by simp)
 have hlen := Z2j l us (t ++ [c]) hf.t
 exact Z3c.2 ⟨by omega, Z94 hl us _ hf.v h1, t', c', e, hr.trans h3⟩
def tks : List Opd → Nat
 | [] => 0
 | o :: x => tkN o + tks x
def Z11 (l : List Ky) : List Opd → List Cl → List Cl
 | [], _ => []
 | o :: x, d => (layC o d).map (fun c => actC l c o.p) ++ Z11 l x (d.drop (tkN o))
theorem Z46 (a b : List Opd) : tks (a ++ b) = tks a + tks b := by
 induction a with
 | nil => simp [tks]
 | cons o a ih => show tkN o + tks (a ++ b) = _; rw [ih]; simp only [tks]; omega
theorem Z5p (l : List Ky) (a b : List Opd) : ∀ d, Z11 l (a ++ b) d = Z11 l a d ++ Z11 l b (d.drop (tks a)) := by
 induction a with
 | nil => intro d; simp [Z11, tks]
 | cons o a ih =>
   intro d
   show _ ++ Z11 l (a ++ b) (d.drop (tkN o)) = _
   rw [ih, List.drop_drop]
   simp only [Z11, tks, List.append_assoc]
theorem Z6h (l : List Ky) (x : List Opd) : ∀ d, Z3o l x d = Z11 l x d ++ d.drop (tks x) := by
 induction x with
 | nil => intro d; simp [Z3o, Z11, tks]
 | cons o x ih =>
   intro d
   show _ ++ Z3o l x (d.drop (tkN o)) = _
   rw [ih, List.drop_drop]
   simp only [Z11, tks, List.append_assoc]
theorem Z88 (l : List Ky) (a b : List Opd) (d : List Cl) : Z3o l (a ++ b) d = Z11 l a d ++ Z3o l b (d.drop (tks a)) := by
 rw [Z6h, Z6h, Z5p, Z46, List.drop_drop, List.append_assoc]
theorem Y2t {α : Type} {x : List α} {i : Nat} {o : α} (h : x[i]? = some o) : x.take (i + 1) = x.take i ++ [o] := by rw [List.take_add_one, h]; rfl
theorem Z5E {l : List Ky} {x : List Opd} {i : Nat} {o : Opd} {d : List Cl} (h : x[i]? = some o) : Z11 l (x.take (i + 1)) d = Z11 l (x.take i) d ++ (layC o (d.drop (tks (x.take i)))).map (fun c => actC l c o.p) := by
 rw [Y2t h, Z5p]; simp [Z11]
theorem Y40 {x : List Opd} {i : Nat} {o : Opd} (h : x[i]? = some o) : tks (x.take (i + 1)) = tks (x.take i) + tkN o := by
 rw [Y2t h, Z46]; rfl
theorem Y6g {x : List Opd} (i : Nat) : tks (x.take i) ≤ tks x := by
 conv => rhs; rw [← List.take_append_drop i x]
 rw [Z46]; omega
theorem Y2u {l : List Ky} {x : List Opd} {i : Nat} {o : Opd} {d : List Cl} (h : x[i]? = some o) : (Z11 l (x.take i) d).length + (layC o (d.drop (tks (x.take i)))).length ≤ (Z3o l x d).length := by
 have e : x = x.take (i + 1) ++ x.drop (i + 1) := (List.take_append_drop _ _).symm
 conv => rhs; rw [e]
 rw [Z88, Z5E h]
 simp
theorem Y2v {x : List Opd} (h : ∀ o ∈ x, isOp o) : tks x = Z0k (Z0d x) := by
 induction x with
 | nil => rfl
 | cons o x ih =>
   rw [Z1w, Z0y, Z8m (h o (by simp)), ← ih (fun a ha => h a (List.mem_cons_of_mem _ ha))]; rfl
open Go.RowKit
theorem OpS.enc_one (x : OpS) : ∀ u ∈ x.enc, u.oneCell' = true := by intro u hu; simp [OpS.enc] at hu; rcases hu with rfl | rfl | rfl | rfl | rfl <;> rfl
abbrev OwOs := @Ow OpS OpS.enc 5 50
theorem Tryz.infoOp : (Tryz.prog.info? 50).map (fun i => (i.zero, i.size, i.bytes)) = some (some (.agg #[.int .u8 0, .int .i64 0, .slice none 0 0, .slice none 0 0, .slice none 0 0]), 5, 88) := by kernel_rfl
theorem Tryz.slOp : Tryz.prog.underlying 44 = some (.slice 50) := by kernel_rfl
abbrev OwCs := @Ow ClS ClS.enc 2 38
theorem Tryz.infoCl : (Tryz.prog.info? 38).map (fun i => (i.zero, i.size, i.bytes)) = some (some (.agg #[.int .i32 0, .slice none 0 0]), 2, 32) := by kernel_rfl
theorem Tryz.slCl : Tryz.prog.underlying 23 = some (.slice 38) := by kernel_rfl
section
variable {ops : Array Oper} {rest : List Oper} {o : Oper} {a : Act} {Q : Exit → Act → World → Prop} {w : World} {base : Nat} {v : Value} {K : Act → World → Prop} {E : Prop}
theorem Z3y {l m : List OpS} (hgd : o.guard = none) (s x : Operand)
 (ho : o.op = .call { callee := .builtin .append, args := #[s, x], argTypes := #[44, 44] })
 (hsv : a.eval s = v) (hown : OwOs w base v l) (B : Nat) (A : Option Addr) (c n : Nat) (hx : a.eval x = .slice A n c) (hn : n = m.length) (hr : RdOs w B A m)
 (hb : l.length + m.length ≤ 1000000000000) (hbase : base ≤ w.heap.size)
 (h : ∀ v' w', OwOs w' base v' (l ++ m) → w.grownBy w' (wb v) → (v' = v ∧ w' = w ∨ wb v' = wb v ∨ wb v' = some w.heap.size) → wpList Tryz.prog ops Q rest (a.put o.dst v') w') : wpList Tryz.prog ops Q (o :: rest) a w := by
 obtain ⟨i0, hi0, hz0, hz1, hz2⟩ := info_parts Tryz.infoOp
 exact Z15 hgd s x _ ho i0 _ 88 Tryz.slOp hi0 hz0 hz1 hz2 rfl (by omega) OpS.enc_len OpS.enc_one hsv hown B A c n hx hn hr (by simp only [maxLen]; omega) (by omega) hbase h
theorem Z2k {l m : List OpS} (hgd : o.guard = none) (s x : Operand)
 (ho : o.op = .call { callee := .builtin .append, args := #[s, x], argTypes := #[44, 44] })
 (hsv : a.eval s = v) (hown : OwOs w base v l) (B : Nat) (A : Option Addr) (c n : Nat) (hx : a.eval x = .slice A n c) (hn : n = m.length) (hr : RdOs w B A m)
 (hb : l.length + m.length ≤ 1000000000000) (hbase : base ≤ w.heap.size)
 (h : ∀ v' w', OwOs w' base v' (l ++ m) → w.grownBy w' (wb v) → (v' = v ∧ w' = w ∨ wb v' = wb v ∨ wb v' = some w.heap.size) → K (a.put o.dst v') w') :
 if Region.wanted o (yielded ops a.tmps) = true then Oper.wp Tryz.prog o a w K Q else E := by
 have hw : Region.wanted o (yielded ops a.tmps) = true := by simp [Region.wanted, hgd]
 rw [if_pos hw]
 obtain ⟨i0, hi0, hz0, hz1, hz2⟩ := info_parts Tryz.infoOp
 exact Z6J s x _ ho i0 _ 88 Tryz.slOp hi0 hz0 hz1 hz2 rfl (by omega) OpS.enc_len OpS.enc_one hsv hown B A c n hx hn hr (by simp only [maxLen]; omega) (by omega) hbase h
theorem Z7D {l m : List Int} (hgd : o.guard = none) (s x : Operand)
 (ho : o.op = .call { callee := .builtin .append, args := #[s, x], argTypes := #[47, 47] })
 (hsv : a.eval s = v) (hown : Z3p w base v l) (B : Nat) (A : Option Addr) (c n : Nat) (hx : a.eval x = .slice A n c) (hn : n = m.length) (hr : Z1V w B A m)
 (hb : l.length + m.length ≤ 1000000000000) (hbase : base ≤ w.heap.size)
 (h : ∀ v' w', Z3p w' base v' (l ++ m) → w.grownBy w' (wb v) → (v' = v ∧ w' = w ∨ wb v' = wb v ∨ wb v' = some w.heap.size) → K (a.put o.dst v') w') :
 if Region.wanted o (yielded ops a.tmps) = true then Oper.wp Tryz.prog o a w K Q else E := by
 have hw : Region.wanted o (yielded ops a.tmps) = true := by simp [Region.wanted, hgd]
 rw [if_pos hw]
 obtain ⟨i0, hi0, hz0, hz1, hz2⟩ := info_parts Tryz.infoI32
 exact Z6J s x _ ho i0 _ 4 Tryz.slI32 hi0 hz0 hz1 hz2 rfl (by omega) Z08 Z6K hsv hown B A c n hx hn hr (by simp only [maxLen]; omega) (by omega) hbase h
theorem Z95 {l m : List ClS} (hgd : o.guard = none) (s x : Operand)
 (ho : o.op = .call { callee := .builtin .append, args := #[s, x], argTypes := #[23, 23] })
 (hsv : a.eval s = v) (hown : OwCs w base v l) (B : Nat) (A : Option Addr) (c n : Nat) (hx : a.eval x = .slice A n c) (hn : n = m.length) (hr : RdCs w B A m)
 (hb : l.length + m.length ≤ 2000000000000) (hbase : base ≤ w.heap.size)
 (h : ∀ v' w', OwCs w' base v' (l ++ m) → w.grownBy w' (wb v) → (v' = v ∧ w' = w ∨ wb v' = wb v ∨ wb v' = some w.heap.size) → wpList Tryz.prog ops Q rest (a.put o.dst v') w') : wpList Tryz.prog ops Q (o :: rest) a w := by
 obtain ⟨i0, hi0, hz0, hz1, hz2⟩ := info_parts Tryz.infoCl
 exact Z15 hgd s x _ ho i0 _ 32 Tryz.slCl hi0 hz0 hz1 hz2 rfl (by omega) ClS.enc_len ClS.enc_one hsv hown B A c n hx hn hr (by simp only [maxLen]; omega) (by omega) hbase h
end
def Y2w (r : List OpS) (w : World) (e : Ending) (w' : World) : Prop :=
 ∃ A c, e = .returned (.slice A r.length c) ∧ OwOs w' w.heap.size (.slice A r.length c) r ∧ Below w.heap.size w w'
def Y6h (r : List Int) (w : World) (e : Ending) (w' : World) : Prop :=
 ∃ A c, e = .returned (.slice A r.length c) ∧ Z3p w' w.heap.size (.slice A r.length c) r ∧ Below w.heap.size w w'
theorem Z6i (A : Option Addr) (n c : Nat) (l : List OpS) (w : World) (hn : n = l.length) (h : RdOs w w.heap.size A l) (hb : n ≤ 100000000) :
 Calls Tryz.prog 205 #[.slice A n c] w (Y2w l w) := by
 cases A with
 | none =>
   have hl : l = [] := by
    cases l with
    | nil => rfl
    | cons a l => obtain ⟨ad, e, _⟩ := h (by simp); cases e
   subst hl
   have hn0 : n = 0 := by simpa using hn
   subst hn0
   clear hn
   have hq := fun (w : World) => Lib.run_eql_slice_nil (P := Tryz.prog) w 44 50 none 0 c 0 0 Tryz.slOp
   go_enter Tryz.func205, Tryz.ntmps205
   go_wp2_with (fail)
   go_ret
   exact ⟨none, 0, rfl, Ow.nil _ _, Below.refl _ _⟩
 | some ad =>
   have N := hid hn
   clear hn
   have hq := fun (w : World) => Lib.run_eql_slice_nil (P := Tryz.prog) w 44 50 (some ad) n c 0 0 Tryz.slOp
   go_enter Tryz.func205, Tryz.ntmps205
   go_wp2_with (first
    | (at_builtin; refine Z3y (m := l) rfl (.tmp 5) (.tmp 6) rfl rfl (by exact Ow.empty _ w.heap.size _) _ _ _ _ rfl N.out (by exact h.ext (Z0b w _)) (by have := N.out; simp only [List.length_nil]; omega) (by simp) ?_; intro v' w' hown' hgr hv'))
   rw [List.nil_append] at hown'
   obtain ⟨A', c', rfl, _, _⟩ := hown'.form
   go_ret
   exact ⟨A', c', rfl, hown', (Z0b w _).grown hgr (by simp) (fun k hk => by cases hk)⟩
theorem Z3z (A : Option Addr) (n c : Nat) (l : List Int) (w : World) (hn : n = l.length) (h : Z1V w w.heap.size A l) (hb : n ≤ 100000000) :
 Calls Tryz.prog 155 #[.slice A n c] w (Y6h l w) := by
 cases A with
 | none =>
   have hl : l = [] := by
    cases l with
    | nil => rfl
    | cons a l => obtain ⟨ad, e, _⟩ := h (by simp); cases e
   subst hl
   have hn0 : n = 0 := by simpa using hn
   subst hn0
   clear hn
   have hq := fun (w : World) => Lib.run_eql_slice_nil (P := Tryz.prog) w 47 21 none 0 c 0 0 Tryz.slI32
   go_enter Tryz.func155, Tryz.ntmps155
   go_wp2_with (fail)
   go_ret
   exact ⟨none, 0, rfl, Ow.nil _ _, Below.refl _ _⟩
 | some ad =>
   have N := hid hn
   clear hn
   have hq := fun (w : World) => Lib.run_eql_slice_nil (P := Tryz.prog) w 47 21 (some ad) n c 0 0 Tryz.slI32
   go_enter Tryz.func155, Tryz.ntmps155
   go_wp2_with (first
    | (at_builtin; refine Z8U (m := l) rfl (.tmp 5) (.tmp 6) rfl rfl (by exact Ow.empty _ w.heap.size _) _ _ _ _ rfl N.out (by exact h.ext (Z0b w _)) (by have := N.out; simp only [List.length_nil]; omega) (by simp) ?_; intro v' w' hown' hgr hv'))
   rw [List.nil_append] at hown'
   obtain ⟨A', c', rfl, _, _⟩ := hown'.form
   go_ret
   exact ⟨A', c', rfl, hown', (Z0b w _).grown hgr (by simp) (fun k hk => by cases hk)⟩
def NewCs (r : List ClS) (w : World) (e : Ending) (w' : World) : Prop :=
 ∃ A c, e = .returned (.slice A r.length c) ∧ OwCs w' w.heap.size (.slice A r.length c) r ∧ Below w.heap.size w w'
theorem Z89 (A : Option Addr) (n c : Nat) (l : List ClS) (w : World) (hn : n = l.length) (h : RdCs w w.heap.size A l) (hb : n ≤ 100000000) :
 Calls Tryz.prog 142 #[.slice A n c] w (NewCs l w) := by
 cases A with
 | none =>
   have hl : l = [] := by
    cases l with
    | nil => rfl
    | cons a l => obtain ⟨ad, e, _⟩ := h (by simp); cases e
   subst hl
   have hn0 : n = 0 := by simpa using hn
   subst hn0
   clear hn
   have hq := fun (w : World) => Lib.run_eql_slice_nil (P := Tryz.prog) w 23 38 none 0 c 0 0 Tryz.slCl
   go_enter Tryz.func142, Tryz.ntmps142
   go_wp2_with (fail)
   go_ret
   exact ⟨none, 0, rfl, Ow.nil _ _, Below.refl _ _⟩
 | some ad =>
   have N := hid hn
   clear hn
   have hq := fun (w : World) => Lib.run_eql_slice_nil (P := Tryz.prog) w 23 38 (some ad) n c 0 0 Tryz.slCl
   go_enter Tryz.func142, Tryz.ntmps142
   go_wp2_with (first
    | (at_builtin; refine Z95 (m := l) rfl (.tmp 5) (.tmp 6) rfl rfl (by exact Ow.empty _ w.heap.size _) _ _ _ _ rfl N.out (by exact h.ext (Z0b w _)) (by have := N.out; simp only [List.length_nil]; omega) (by simp) ?_; intro v' w' hown' hgr hv'))
   rw [List.nil_append] at hown'
   obtain ⟨A', c', rfl, _, _⟩ := hown'.form
   go_ret
   exact ⟨A', c', rfl, hown', (Z0b w _).grown hgr (by simp) (fun k hk => by cases hk)⟩
open Go.RowKit
set_option linter.unusedVariables false
set_option linter.unusedSimpArgs false
theorem Z2K (n : Int) (h : -9223372036854775808 ≤ n ∧ n ≤ 9223372036854775807) : wrap64 n = n := by rw [← IntWalk.i64_left, IntWalk.i64_in _ h]
theorem Tryz.elCl : Tryz.prog.elem 23 = 38 := by kernel_rfl
theorem Tryz.szCl : (Tryz.prog.info? 38).map (·.size) = some 2 := by kernel_rfl
theorem Z9a (W : World) : (sizeOf 38).run Tryz.prog W = .ok 2 W := by
 cases h : Tryz.prog.info? 38 with
 | none => have := Tryz.szCl; rw [h] at this; cases this
 | some i => have := Tryz.szCl; rw [h] at this; simp at this; simp [sizeOf, typeInfo, h, this]
theorem RdCl.take {w : World} {B : Nat} {A : Option Addr} {l : List ClS} (h : RdCl w B A l) (k : Nat) : RdCl w B A (l.take k) := ⟨h.1.take k, fun x hx => h.2 x (List.mem_of_mem_take hx)⟩
theorem RdCl.from {w : World} {B k c : Nat} {A A' : Option Addr} {l : List ClS} (h : RdCl w B A l) (hA : advS A c k 2 = A') (hk : k ≤ l.length) (hc : l.length ≤ c) : RdCl w B A' (l.drop k) := ⟨hA ▸ h.1.advS hk hc, fun x hx => h.2 x (List.mem_of_mem_drop hx)⟩
theorem Y1c (l : List ClS) (k : Nat) : Z0e (l.take k) = (Z0e l).take k := by unfold Z0e; rw [List.map_take]
theorem Z47 (l : List ClS) (k : Nat) : Z0e (l.drop k) = (Z0e l).drop k := by unfold Z0e; rw [List.map_drop]
theorem Z0s (l : List ClS) : (Z0e l).length = l.length := by unfold Z0e; simp
theorem Z2b {l : List ClS} {i : Nat} {x : ClS} (h : l[i]? = some x) : (Z0e l)[i]? = some x.c := by unfold Z0e; rw [List.getElem?_map, h]; rfl
end Go.Proofs.YtfnkjcodcoehcaaGreatDoor
