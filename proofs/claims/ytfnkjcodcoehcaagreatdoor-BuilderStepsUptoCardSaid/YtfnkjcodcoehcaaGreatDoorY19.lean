/- Merged texts: LinesW, BuildL, OpKnown, Same06, Same15, Same15D. -/
import Derived.Test.YtfnkjcodcoehcaaGreatDoorY18
import Derived.Test.YtfnkjcodcoehcaaGreatDoorY16
import Derived.Test.YtfnkjcodcoehcaaGreatDoorY17
import Derived.Test.YtfnkjcodcoehcaaGreatDoorY10
import Derived.Test.YtfnkjcodcoehcaaGreatDoorY1
import Derived.Deep.RegionHeld3
import Derived.Test.YtfnkjcodcoehcaaGreatDoorY11
import Derived.Test.YtfnkjcodcoehcaaGreatDoorY2
import Derived.Test.YtfnkjcodcoehcaaGreatDoorY5
namespace Go.Proofs.YtfnkjcodcoehcaaGreatDoor
open Go.RowKit
set_option linter.unusedVariables false
set_option linter.unusedSimpArgs false

theorem lines_ok (P : Nat → List Ch) (hP : ∀ k, okVs (P k)) : ∀ (l : List Nat) (k f : Nat), ∀ u ∈ linesU P k f l, okUn u
  | [], _, _ => fun u hu => by cases hu
  | p :: t, k, f => fun u hu => by
    rw [linesU] at hu
    rcases List.mem_append.1 hu with hu | hu
    · rw [(List.mem_replicate.1 hu).2]; intro c hc; cases hc
    · rcases List.mem_cons.1 hu with rfl | hu
      · exact hP k
      · exact lines_ok P hP t _ _ u hu
theorem lines_sum : ∀ (l : List Nat), (∀ p ∈ l, p ≤ 2000000000000) → l.length ≤ 100000 → (([] : List Un).length : Int) + (l.map (fun p : Nat => (p : Int) + 1)).sum ≤ 4611686018427387904 := fun l h hl => by
  have key : ∀ l : List Nat, (∀ p ∈ l, p ≤ 2000000000000) → (l.map (fun p : Nat => (p : Int) + 1)).sum ≤ (l.length : Int) * 2000000000001 := by
    intro l
    induction l with
    | nil => intro _; exact Int.le_refl _
    | cons p t ih =>
      intro h
      have h1 := h p (by simp)
      have h2 := ih (fun q hq => h q (List.mem_cons_of_mem _ hq))
      rw [List.map_cons, List.sum_cons, List.length_cons]
      push_cast
      omega
  have := key l h
  have h3 : (l.length : Int) * 2000000000001 ≤ 100000 * 2000000000001 := by omega
  simp only [List.length_nil]
  omega
set_option maxRecDepth 100000 in
set_option maxHeartbeats 3200000 in
theorem linesL_any (b0 : Nat) (A : Option Addr) (n c : Nat) (l : List Nat) (P : Nat → List Ch) (w : World) (hn : n = l.length) (hr : RdInt w w.heap.size A (l.map (fun p : Nat => (p : Int)))) (hb : n ≤ 100000) (hl : ∀ p ∈ l, p ≤ 2000000000000) (hP : ∀ k, (P k).length ≤ 64) (hu : ∀ k, okVs (P k))
    (hcl : ∀ (k : Nat) (w' : World), k < n → Below w.heap.size w w' → Calls Tryz.prog 180 #[.int .i64 (k : Int), .pointer (some ⟨b0, 0, none⟩)] w' fun e w'' => ∃ A c, e = .returned (.slice A (P k).length c) ∧ RdCh w'' w''.heap.size A (P k) ∧ (∀ ad, A = some ad → 0 < (P k).length → ad.block < w.heap.size ∨ w'.heap.size ≤ ad.block) ∧ Below w'.heap.size w' w'') :
    Calls Tryz.prog 137 #[.slice A n c, .func (.func 180) #[] #[.pointer (some ⟨b0, 0, none⟩)]] w (NewOpC (mkU (linesU P 0 0 l)) w) := by
  have N := Lib.hid hn
  have HR := Lib.hid hr
  have HL := Lib.hid hl
  have HP := Lib.hid hP
  have HCL := Lib.hid hcl
  have HUU : Hid (∀ u ∈ linesU P 0 0 l, okUn u) := Lib.hid (lines_ok P hu l 0 0)
  have TD : Hid (Told (linesM P Mk.new 0 0 l) (linesU P 0 0 l)) := Lib.hid (by
    have h := lines_told P l Mk.new 0 0 [] Told.new (lines_sum l hl (by omega))
    rwa [List.nil_append] at h)
  have HB : Hid (∀ i, MkB (linesM P Mk.new 0 0 (l.take i)) (4 * n) 64) := Lib.hid (fun i => by
    have h := lines_bnd P hP (l.take i) Mk.new 0 0 0 (MkB.new 64)
    exact h.mono (by rw [List.length_take]; omega) (Nat.le_refl _))
  clear hn hr hl hP hcl hu
  go_enter Tryz.func137, Tryz.ntmps137
  go_wp2_with (go_at_call 74; refine Hid.out ?_)
  refine Lib.hid ?_
  refine (mkNew_any w).mono ?_
  rintro e w1 ⟨rfl, hm, y1⟩
  have HM := Lib.hid hm
  have Y1 := Lib.hid y1
  clear hm y1
  have hF : ∀ k, k = w.heap.size → w.heap.size ≤ k := fun k hk => by omega
  have HR1 : Hid (RdInt w1 w1.heap.size A (l.map (fun p : Nat => (p : Int))) ∧ OffF (fun k => k = w.heap.size) A (l.map (fun p : Nat => (p : Int))).length) := Lib.hid ⟨HR.out.ext Y1.out, HR.out.offF hF⟩
  go_wp2_with (fail)
  go_loopg [6, 12] n (fun g fv iv wr => ∃ (i : Nat) (F' : Nat → Prop), i ≤ n ∧ g = n - i ∧ iv = .int .i64 (i : Int) ∧ fv = .int .i64 (fromL (l.take i) : Int) ∧ Mkr wr F' w.heap.size (linesM P Mk.new 0 0 (l.take i)) ∧ Grow w1 (fun k => k = w.heap.size) wr F')
  case atStart => exact ⟨0, fun k => k = w.heap.size, by omega, rfl, rfl, rfl, HM.out, Grow.refl _ _⟩
  case round =>
    obtain ⟨i, F', hi, hg, rfl, rfl, hm, gr⟩ := hrel
    have HG := Lib.hid hg
    have HM := Lib.hid hm
    have GR := Lib.hid gr
    clear hg hm gr
    have MB := Lib.hid (HB.out i)
    by_cases hlt : i < n
    · have hlt' : (i : Int) < (n : Int) := by omega
      obtain ⟨q, hq⟩ : ∃ q, l[i]? = some q := ⟨_, List.getElem?_eq_getElem (by have := N.out; omega)⟩
      have htk : l.take (i + 1) = l.take i ++ [q] := by rw [List.take_add_one, hq]; rfl
      have hql := HL.out q (List.mem_of_getElem? hq)
      obtain ⟨ad, pv, hA, _, _, hp1, hc1⟩ := (HR1.out.1.grow GR.out HR1.out.2).el (i := i) (by rw [List.length_map]; have := N.out; omega)
      rw [List.getElem?_map, hq] at hp1
      obtain rfl : (q : Int) = pv := Option.some.inj hp1
      have r0 : wr.cell? (ad.add (i * 1)) = some (.int .i64 (q : Int)) := by have := hc1 0 _ rfl; rwa [add_zero'] at this
      rw [Nat.mul_one] at r0
      obtain ⟨f, hf⟩ : ∃ f, fromL (l.take i) = f := ⟨_, rfl⟩
      have hfb : f ≤ 2000000000001 := by
        rw [← hf]
        unfold fromL
        split
        · omega
        · rename_i z hz
          have := HL.out z (List.mem_of_mem_take (List.mem_of_getLast? hz))
          omega
      have hsub : IntKind.i64.wrap ((q : Int) - (f : Int)) = (q : Int) - (f : Int) := IntWalk.i64_in _ (by omega)
      have hadd : IntKind.i64.wrap ((q : Int) + 1) = (q : Int) + 1 := IntWalk.i64_in _ (by clear hsub; omega)
      have hw2 : IntKind.i64.wrap ((i : Int) + 1) = (i : Int) + 1 := IntWalk.i64_in _ (by clear hsub hadd; omega)
      have LS : Hid (linesM P Mk.new 0 0 (l.take (i + 1)) = mkRetain (mkRetain (linesM P Mk.new 0 0 (l.take i)) ((q : Int) - (f : Int)) []) 1 (P i)) := Lib.hid (by
        rw [htk, lines_snoc]
        have e1 : (l.take i).length = i := by rw [List.length_take]; have := N.out; omega
        rw [e1, Nat.zero_add]
        rw [← hf]
        rfl)
      have HF := Lib.hid hf
      have HTK := Lib.hid htk
      obtain ⟨m1, hm1⟩ : ∃ m, mkRetain (linesM P Mk.new 0 0 (l.take i)) ((q : Int) - (f : Int)) [] = m := ⟨_, rfl⟩
      have MB1 : Hid (MkB m1 (4 * n + 2) 64) := Lib.hid (by rw [← hm1]; exact MB.out.retain _ (Nat.zero_le _))
      have HM1 := Lib.hid hm1
      rw [hm1] at LS
      rw [hf]
      subst hA
      clear hp1 hc1 hq hf htk hm1
      go_wp2_with (go_at_call 75; refine Hid.out ?_)
      refine Lib.hid ?_
      refine (mkRetain_any w.heap.size none ((q : Int) - (f : Int)) 0 0 [] wr F' _ HM.out rfl Rd.nil (fun ad e => by cases e) (by simp) (by have := MB.out.len; clear hsub hadd hw2; omega) (fun o ho => by have := MB.out.gap.2 o ho; omega)).mono ?_
      rw [HM1.out]
      rintro e w2 ⟨rfl, F2, hm2, g2⟩
      have HMA := Lib.hid hm2
      have GA := Lib.hid (GR.out.trans g2)
      have Y2 : Hid (Below w.heap.size w w2) := Lib.hid (Y1.out.trans (GA.out.below (B := w.heap.size) hF Y1.out.size))
      have LW : Hid (∀ k, F2 k → w.heap.size ≤ k) := Lib.hid (GA.out.low (B := w.heap.size) hF Y1.out.size)
      clear hm2 g2
      go_wp2_with (go_at_call 180; refine Hid.out ?_)
      refine Lib.hid ?_
      refine (HCL.out i w2 hlt Y2.out).mono ?_
      rintro e w3 ⟨A9, c9, rfl, rp, ro, y3⟩
      have RP := Lib.hid rp
      have RO : Hid (OffF F2 A9 (P i).length) := Lib.hid (fun az ea hl2 hk => by
        have h1 := LW.out _ hk
        have h2 := HMA.out.lt _ hk
        rcases ro az ea hl2 with h3 | h3 <;> omega)
      have HMB := Lib.hid (HMA.out.below y3)
      have GB := Lib.hid (GA.out.trans (Grow.of y3))
      have PL := HP.out i
      clear rp ro y3
      go_wp2_with (go_at_call 75; refine Hid.out ?_)
      refine Lib.hid ?_
      refine (mkRetain_any w.heap.size A9 1 (P i).length c9 (P i) w3 F2 m1 HMB.out rfl RP.out RO.out (by omega) (by have := MB1.out.len; clear hsub hadd hw2; omega) (fun o ho => by have := MB1.out.gap.2 o ho; omega)).mono ?_
      rw [← LS.out]
      rintro e w4 ⟨rfl, F4, hm4, g4⟩
      have HMC := Lib.hid hm4
      have GC := Lib.hid (GB.out.trans g4)
      clear hm4 g4
      have hfn : fromL (l.take (i + 1)) = q + 1 := by rw [HTK.out]; unfold fromL; rw [List.getLast?_concat]
      go_wp2_with (fail)
      go_roundg (n - (i + 1))
      case measure => have h9 := HG.out; clear hsub hadd hw2; omega
      case rel => exact ⟨i + 1, F4, by omega, rfl, rfl, by rw [hfn]; rfl, HMC.out, GC.out⟩
    · have hlt' : ¬ ((i : Int) < (n : Int)) := by omega
      have e9 : l.take i = l := List.take_of_length_le (by have := N.out; omega)
      rw [e9] at HM MB
      have Y3 := Lib.hid (Y1.out.trans (GR.out.below (B := w.heap.size) hF Y1.out.size))
      go_wp2_with (go_at_call 77; refine Hid.out ?_)
      refine Lib.hid ?_
      refine (mkOps_any w.heap.size wr F' _ HM.out (by have := MB.out.len; omega) (fun o ho => by have := MB.out.gap.2 o ho; omega)).mono ?_
      intro e w4 hN
      have hN2 := NewOps.opC (hN.late Y3.out) TD.out HUU.out MB.out (by omega) (by omega)
      obtain ⟨A8, c8, x8, rfl, hx, ox, yx⟩ := hN2
      have HN : Hid (NewOpC (mkU (linesU P 0 0 l)) w (.returned (.slice A8 x8.length c8)) w4) := Lib.hid ⟨A8, c8, x8, rfl, hx, ox, yx⟩
      clear hN hx ox yx
      go_wp2_with (fail)
      go_ret
      exact HN.out
set_option maxRecDepth 100000 in
set_option maxHeartbeats 3200000 in
theorem linesS_any (b0 : Nat) (b1 : Nat) (b2 : Nat) (b3 : Nat) (A : Option Addr) (n c : Nat) (l : List Nat) (P : Nat → List Ch) (w : World) (hn : n = l.length) (hr : RdInt w w.heap.size A (l.map (fun p : Nat => (p : Int)))) (hb : n ≤ 100000) (hl : ∀ p ∈ l, p ≤ 2000000000000) (hP : ∀ k, (P k).length ≤ 64) (hu : ∀ k, okVs (P k))
    (hcl : ∀ (k : Nat) (w' : World), k < n → Below w.heap.size w w' → Calls Tryz.prog 145 #[.int .i64 (k : Int), .pointer (some ⟨b0, 0, none⟩), .pointer (some ⟨b1, 0, none⟩), .pointer (some ⟨b2, 0, none⟩), .pointer (some ⟨b3, 0, none⟩)] w' fun e w'' => ∃ A c, e = .returned (.slice A (P k).length c) ∧ RdCh w'' w''.heap.size A (P k) ∧ (∀ ad, A = some ad → 0 < (P k).length → ad.block < w.heap.size ∨ w'.heap.size ≤ ad.block) ∧ Below w'.heap.size w' w'') :
    Calls Tryz.prog 137 #[.slice A n c, .func (.func 145) #[] #[.pointer (some ⟨b0, 0, none⟩), .pointer (some ⟨b1, 0, none⟩), .pointer (some ⟨b2, 0, none⟩), .pointer (some ⟨b3, 0, none⟩)]] w (NewOpC (mkU (linesU P 0 0 l)) w) := by
  have N := Lib.hid hn
  have HR := Lib.hid hr
  have HL := Lib.hid hl
  have HP := Lib.hid hP
  have HCL := Lib.hid hcl
  have HUU : Hid (∀ u ∈ linesU P 0 0 l, okUn u) := Lib.hid (lines_ok P hu l 0 0)
  have TD : Hid (Told (linesM P Mk.new 0 0 l) (linesU P 0 0 l)) := Lib.hid (by
    have h := lines_told P l Mk.new 0 0 [] Told.new (lines_sum l hl (by omega))
    rwa [List.nil_append] at h)
  have HB : Hid (∀ i, MkB (linesM P Mk.new 0 0 (l.take i)) (4 * n) 64) := Lib.hid (fun i => by
    have h := lines_bnd P hP (l.take i) Mk.new 0 0 0 (MkB.new 64)
    exact h.mono (by rw [List.length_take]; omega) (Nat.le_refl _))
  clear hn hr hl hP hcl hu
  go_enter Tryz.func137, Tryz.ntmps137
  go_wp2_with (go_at_call 74; refine Hid.out ?_)
  refine Lib.hid ?_
  refine (mkNew_any w).mono ?_
  rintro e w1 ⟨rfl, hm, y1⟩
  have HM := Lib.hid hm
  have Y1 := Lib.hid y1
  clear hm y1
  have hF : ∀ k, k = w.heap.size → w.heap.size ≤ k := fun k hk => by omega
  have HR1 : Hid (RdInt w1 w1.heap.size A (l.map (fun p : Nat => (p : Int))) ∧ OffF (fun k => k = w.heap.size) A (l.map (fun p : Nat => (p : Int))).length) := Lib.hid ⟨HR.out.ext Y1.out, HR.out.offF hF⟩
  go_wp2_with (fail)
  go_loopg [6, 12] n (fun g fv iv wr => ∃ (i : Nat) (F' : Nat → Prop), i ≤ n ∧ g = n - i ∧ iv = .int .i64 (i : Int) ∧ fv = .int .i64 (fromL (l.take i) : Int) ∧ Mkr wr F' w.heap.size (linesM P Mk.new 0 0 (l.take i)) ∧ Grow w1 (fun k => k = w.heap.size) wr F')
  case atStart => exact ⟨0, fun k => k = w.heap.size, by omega, rfl, rfl, rfl, HM.out, Grow.refl _ _⟩
  case round =>
    obtain ⟨i, F', hi, hg, rfl, rfl, hm, gr⟩ := hrel
    have HG := Lib.hid hg
    have HM := Lib.hid hm
    have GR := Lib.hid gr
    clear hg hm gr
    have MB := Lib.hid (HB.out i)
    by_cases hlt : i < n
    · have hlt' : (i : Int) < (n : Int) := by omega
      obtain ⟨q, hq⟩ : ∃ q, l[i]? = some q := ⟨_, List.getElem?_eq_getElem (by have := N.out; omega)⟩
      have htk : l.take (i + 1) = l.take i ++ [q] := by rw [List.take_add_one, hq]; rfl
      have hql := HL.out q (List.mem_of_getElem? hq)
      obtain ⟨ad, pv, hA, _, _, hp1, hc1⟩ := (HR1.out.1.grow GR.out HR1.out.2).el (i := i) (by rw [List.length_map]; have := N.out; omega)
      rw [List.getElem?_map, hq] at hp1
      obtain rfl : (q : Int) = pv := Option.some.inj hp1
      have r0 : wr.cell? (ad.add (i * 1)) = some (.int .i64 (q : Int)) := by have := hc1 0 _ rfl; rwa [add_zero'] at this
      rw [Nat.mul_one] at r0
      obtain ⟨f, hf⟩ : ∃ f, fromL (l.take i) = f := ⟨_, rfl⟩
      have hfb : f ≤ 2000000000001 := by
        rw [← hf]
        unfold fromL
        split
        · omega
        · rename_i z hz
          have := HL.out z (List.mem_of_mem_take (List.mem_of_getLast? hz))
          omega
      have hsub : IntKind.i64.wrap ((q : Int) - (f : Int)) = (q : Int) - (f : Int) := IntWalk.i64_in _ (by omega)
      have hadd : IntKind.i64.wrap ((q : Int) + 1) = (q : Int) + 1 := IntWalk.i64_in _ (by clear hsub; omega)
      have hw2 : IntKind.i64.wrap ((i : Int) + 1) = (i : Int) + 1 := IntWalk.i64_in _ (by clear hsub hadd; omega)
      have LS : Hid (linesM P Mk.new 0 0 (l.take (i + 1)) = mkRetain (mkRetain (linesM P Mk.new 0 0 (l.take i)) ((q : Int) - (f : Int)) []) 1 (P i)) := Lib.hid (by
        rw [htk, lines_snoc]
        have e1 : (l.take i).length = i := by rw [List.length_take]; have := N.out; omega
        rw [e1, Nat.zero_add]
        rw [← hf]
        rfl)
      have HF := Lib.hid hf
      have HTK := Lib.hid htk
      obtain ⟨m1, hm1⟩ : ∃ m, mkRetain (linesM P Mk.new 0 0 (l.take i)) ((q : Int) - (f : Int)) [] = m := ⟨_, rfl⟩
      have MB1 : Hid (MkB m1 (4 * n + 2) 64) := Lib.hid (by rw [← hm1]; exact MB.out.retain _ (Nat.zero_le _))
      have HM1 := Lib.hid hm1
      rw [hm1] at LS
      rw [hf]
      subst hA
      clear hp1 hc1 hq hf htk hm1
      go_wp2_with (go_at_call 75; refine Hid.out ?_)
      refine Lib.hid ?_
      refine (mkRetain_any w.heap.size none ((q : Int) - (f : Int)) 0 0 [] wr F' _ HM.out rfl Rd.nil (fun ad e => by cases e) (by simp) (by have := MB.out.len; clear hsub hadd hw2; omega) (fun o ho => by have := MB.out.gap.2 o ho; omega)).mono ?_
      rw [HM1.out]
      rintro e w2 ⟨rfl, F2, hm2, g2⟩
      have HMA := Lib.hid hm2
      have GA := Lib.hid (GR.out.trans g2)
      have Y2 : Hid (Below w.heap.size w w2) := Lib.hid (Y1.out.trans (GA.out.below (B := w.heap.size) hF Y1.out.size))
      have LW : Hid (∀ k, F2 k → w.heap.size ≤ k) := Lib.hid (GA.out.low (B := w.heap.size) hF Y1.out.size)
      clear hm2 g2
      go_wp2_with (go_at_call 145; refine Hid.out ?_)
      refine Lib.hid ?_
      refine (HCL.out i w2 hlt Y2.out).mono ?_
      rintro e w3 ⟨A9, c9, rfl, rp, ro, y3⟩
      have RP := Lib.hid rp
      have RO : Hid (OffF F2 A9 (P i).length) := Lib.hid (fun az ea hl2 hk => by
        have h1 := LW.out _ hk
        have h2 := HMA.out.lt _ hk
        rcases ro az ea hl2 with h3 | h3 <;> omega)
      have HMB := Lib.hid (HMA.out.below y3)
      have GB := Lib.hid (GA.out.trans (Grow.of y3))
      have PL := HP.out i
      clear rp ro y3
      go_wp2_with (go_at_call 75; refine Hid.out ?_)
      refine Lib.hid ?_
      refine (mkRetain_any w.heap.size A9 1 (P i).length c9 (P i) w3 F2 m1 HMB.out rfl RP.out RO.out (by omega) (by have := MB1.out.len; clear hsub hadd hw2; omega) (fun o ho => by have := MB1.out.gap.2 o ho; omega)).mono ?_
      rw [← LS.out]
      rintro e w4 ⟨rfl, F4, hm4, g4⟩
      have HMC := Lib.hid hm4
      have GC := Lib.hid (GB.out.trans g4)
      clear hm4 g4
      have hfn : fromL (l.take (i + 1)) = q + 1 := by rw [HTK.out]; unfold fromL; rw [List.getLast?_concat]
      go_wp2_with (fail)
      go_roundg (n - (i + 1))
      case measure => have h9 := HG.out; clear hsub hadd hw2; omega
      case rel => exact ⟨i + 1, F4, by omega, rfl, rfl, by rw [hfn]; rfl, HMC.out, GC.out⟩
    · have hlt' : ¬ ((i : Int) < (n : Int)) := by omega
      have e9 : l.take i = l := List.take_of_length_le (by have := N.out; omega)
      rw [e9] at HM MB
      have Y3 := Lib.hid (Y1.out.trans (GR.out.below (B := w.heap.size) hF Y1.out.size))
      go_wp2_with (go_at_call 77; refine Hid.out ?_)
      refine Lib.hid ?_
      refine (mkOps_any w.heap.size wr F' _ HM.out (by have := MB.out.len; omega) (fun o ho => by have := MB.out.gap.2 o ho; omega)).mono ?_
      intro e w4 hN
      have hN2 := NewOps.opC (hN.late Y3.out) TD.out HUU.out MB.out (by omega) (by omega)
      obtain ⟨A8, c8, x8, rfl, hx, ox, yx⟩ := hN2
      have HN : Hid (NewOpC (mkU (linesU P 0 0 l)) w (.returned (.slice A8 x8.length c8)) w4) := Lib.hid ⟨A8, c8, x8, rfl, hx, ox, yx⟩
      clear hN hx ox yx
      go_wp2_with (fail)
      go_ret
      exact HN.out

structure CX where
  A : Option Addr
  c : Nat
  l : List Ch
def CX.enc (x : CX) : List Value := [.slice x.A x.l.length x.c]
def atX (L : List CX) (k : Nat) : List Ch := ((L[k]?).map (·.l)).getD []
def inX (L : List CX) (k : Nat) (A : Option Addr) : Prop := (A = none ∧ atX L k = []) ∨ ∃ z ∈ L, A = z.A ∧ atX L k = z.l
def NthOut (L : List CX) (k : Nat) (w : World) (e : Ending) (w' : World) : Prop := ∃ A' c', e = .returned (.slice A' (atX L k).length c') ∧ inX L k A' ∧ Below w.heap.size w w'
theorem nthC_any (A : Option Addr) (n c k : Nat) (L : List CX) (w : World) (hn : n = L.length) (h : Rd CX.enc 1 w w.heap.size A L) (hb : n ≤ 1000000) (hk : k ≤ 1000000) :
    Calls Tryz.prog 181 #[.slice A n c, .int .i64 (k : Int)] w (NthOut L k w) := by
  by_cases hlt : k < n
  · have hlt' : (k : Int) < (n : Int) := by omega
    obtain ⟨ad, z, rfl, _, _, hx, hc⟩ := h.el (i := k) (by omega)
    have r0 : w.cell? (ad.add (k * 1)) = some (.slice z.A z.l.length z.c) := by have := hc 0 _ rfl; rwa [add_zero'] at this
    rw [Nat.mul_one] at r0
    have ha : atX L k = z.l := by unfold atX; rw [hx]; rfl
    have HA := Lib.hid ha
    have HX := Lib.hid (List.mem_of_getElem? hx)
    have N := Lib.hid hn
    clear hx hc ha hn h
    go_enter Tryz.func181, Tryz.ntmps181
    go_wp2_with (fail)
    go_ret
    unfold NthOut
    refine ⟨z.A, z.c, ?_, .inr ⟨z, HX.out, rfl, HA.out⟩, Below.refl _ _⟩
    rw [HA.out]
    rfl
  · have hlt' : ¬ (k : Int) < (n : Int) := by omega
    have ha : atX L k = [] := by unfold atX; rw [List.getElem?_eq_none (by omega)]; rfl
    have HA := Lib.hid ha
    clear ha hn h
    go_enter Tryz.func181, Tryz.ntmps181
    go_wp2_with (fail)
    go_ret
    unfold NthOut
    refine ⟨none, 0, ?_, .inl ⟨rfl, HA.out⟩, Below.refl _ _⟩
    rw [HA.out]
    rfl
theorem linesC_any (b0 : Nat) (A : Option Addr) (n c k : Nat) (L : List CX) (w : World) (hx : w.heap[b0]? = some (.cells #[.slice A n c] 166 (0, 0))) (hn : n = L.length) (h : Rd CX.enc 1 w w.heap.size A L) (hb : n ≤ 1000000) (hk : k ≤ 1000000) :
    Calls Tryz.prog 180 #[.int .i64 (k : Int), .pointer (some ⟨b0, 0, none⟩)] w (NthOut L k w) := by
  have d0 := box_1 hx
  have H := Lib.hid h
  have N := Lib.hid hn
  clear hx h hn
  go_enter Tryz.func180, Tryz.ntmps180
  go_wp2_with (go_at_call 181; refine Hid.out ?_)
  refine Lib.hid ?_
  refine (nthC_any A n c k L w N.out H.out hb hk).mono ?_
  rintro e w2 ⟨A', c', rfl, hi, y⟩
  have HI := Lib.hid hi
  clear hi
  go_wp2_with (fail)
  go_ret
  unfold NthOut
  exact ⟨A', c', rfl, HI.out, y⟩
set_option maxHeartbeats 1600000 in
theorem lines_any (A A2 : Option Addr) (n c n2 c2 : Nat) (l : List Nat) (L : List CX) (w : World) (hn : n = l.length) (hr : RdInt w w.heap.size A (l.map (fun p : Nat => (p : Int)))) (hb : n ≤ 100000) (hl : ∀ p ∈ l, p ≤ 2000000000000)
    (hn2 : n2 = L.length) (h2 : Rd CX.enc 1 w w.heap.size A2 L) (hb2 : n2 ≤ 1000000) (hp : ∀ z ∈ L, RdCh w w.heap.size z.A z.l ∧ z.l.length ≤ 64 ∧ okVs z.l) :
    Calls Tryz.prog 126 #[.slice A n c, .slice A2 n2 c2] w (NewOpC (mkU (linesU (atX L) 0 0 l)) w) := by
  have y := ext_alloc w (.cells #[.slice A2 n2 c2] 166)
  have hbx := heap_alloc_new w (.cells #[.slice A2 n2 c2] 166)
  have at_all : ∀ k, (atX L k).length ≤ 64 ∧ okVs (atX L k) := fun k => by
    unfold atX
    cases e : L[k]? with
    | none => exact ⟨Nat.zero_le _, fun c hc => by cases hc⟩
    | some z => exact (hp z (List.mem_of_getElem? e)).2
  have AA := Lib.hid at_all
  have HBX := Lib.hid hbx
  have HR := Lib.hid (hr.ext y)
  have H2 := Lib.hid (h2.ext y)
  have HP := Lib.hid hp
  have Y := Lib.hid y
  have N := Lib.hid hn
  have N2 := Lib.hid hn2
  have HL := Lib.hid hl
  clear hbx hr h2 hp y at_all hn hn2 hl
  go_enter Tryz.func126, Tryz.ntmps126
  go_wp2_with (go_at_call 137; refine Hid.out ?_)
  refine Lib.hid ?_
  refine (linesL_any w.heap.size A n c l (atX L) _ N.out HR.out hb HL.out (fun k => (AA.out k).1) (fun k => (AA.out k).2) (fun k w' hk yk => ?_)).mono ?_
  · have hx := (yk.block _ (lt_of_some HBX.out)).trans HBX.out
    refine (linesC_any w.heap.size A2 n2 c2 k L w' hx N2.out (H2.out.ext yk) hb2 (by omega)).mono ?_
    rintro e w'' ⟨A', c', rfl, hi, y2⟩
    have yw := Y.out.trans (yk.mono Y.out.size)
    rcases hi with ⟨rfl, h0⟩ | ⟨z, hz, rfl, hz2⟩
    · exact ⟨none, c', rfl, by rw [h0]; exact Rd.nil, fun ad e => (by cases e), y2⟩
    · have hpz := (HP.out z hz).1
      refine ⟨z.A, c', rfl, by rw [hz2]; exact (hpz.ext yw).ext y2, fun ad e hl => ?_, y2⟩
      rw [hz2] at hl
      obtain ⟨ad', e', hb', _⟩ := hpz hl
      rw [e] at e'; injection e' with e'; subst e'
      exact .inl (by have := Y.out.size; omega)
  · intro e w4 hN
    obtain ⟨A8, c8, x8, rfl, hx, ox, yx⟩ := hN
    have HN : Hid (NewOpC (mkU (linesU (atX L) 0 0 l)) w (.returned (.slice A8 x8.length c8)) w4) := Lib.hid ⟨A8, c8, x8, rfl, hx, ox, Y.out.trans (yx.mono Y.out.size)⟩
    clear hx ox yx
    go_wp2_with (fail)
    go_ret
    exact HN.out

theorem rd_ops (u : World) (l : List OpS) (hs : Sub u u.heap.size l) {cs : Array Value} (hc : cs.toList = l.flatMap OpS.enc) {b : Nat} (hb : b = u.heap.size) :
    RdOp (u.alloc (.cells cs 50)) (u.alloc (.cells cs 50)).heap.size (some ⟨b, 0, none⟩) l :=
  ⟨Rd.new (enc := OpS.enc) (size := 5) OpS.enc_len u 50 l hc hb, hs.ext (ext_alloc u _)⟩
theorem ok_small (o : Opd) (h1 : o.s = []) (h2 : o.p = []) (h3 : o.r.length ≤ 10) : okOp o := by
  refine ⟨?_, ?_, by omega, by rw [h1]; simp, by rw [h2]; simp⟩
  · rw [h1]; intro c hc; cases hc
  · rw [h2]; intro c hc; cases hc

set_option maxRecDepth 100000 in
set_option maxHeartbeats 400000 in
theorem sameR6_any (A B : Option Addr) (n m c d : Nat) (l k : List Ch) (w : World) (hn : n = l.length) (hm : m = k.length) (h1 : RdCh w w.heap.size A l) (h2 : RdCh w w.heap.size B k) (hb : n ≤ 140737488355328) (hb2 : m ≤ 140737488355328) :
    Calls Tryz.prog 78 #[.slice A n c, .slice B m d] w (Quiet (.bool (decide (l = k))) w) := by
  have N := Lib.hid hn
  have M := Lib.hid hm
  generalize hR : decide (l = k) = R
  have HR := Lib.hid hR
  clear hn hR hm
  by_cases hnm : (n : Int) = m
  · have hnm' : n = m := by omega
    subst hnm'
    clear hnm
    go_enter Tryz.func78, Tryz.ntmps78
    go_wp2_with (fail)
    go_loopg [5] n (fun g iv wr => ∃ i : Nat, i ≤ n ∧ g = n - i ∧ iv = .int .i64 (i : Int) ∧ (∃ d, wr = w.drewN d) ∧ Hid (decide (l.drop i = k.drop i) = R))
    case atStart => exact ⟨0, by omega, rfl, rfl, ⟨0, rfl⟩, Lib.hid (by rw [List.drop_zero, List.drop_zero]; exact HR.out)⟩
    case round =>
      obtain ⟨i, hi, hg, rfl, ⟨q, rfl⟩, HI⟩ := hrel
      have HG := Lib.hid hg
      clear hg HR
      by_cases hlt : i < n
      · have hl1 : i < l.length := by have := N.out; omega
        have hl2 : i < k.length := by have := M.out; omega
        obtain ⟨ad, x, rfl, _, hd1, _, hc1⟩ := h1.el hl1
        obtain ⟨ad2, y, rfl, _, hd2, _, hc2⟩ := h2.el hl2
        have HI' : Hid (decide (x :: l.drop (i + 1) = y :: k.drop (i + 1)) = R) := Lib.hid (by rw [← HI.out, hd1, hd2])
        clear HI hd1 hd2
        obtain ⟨x1, x6, x2, x3, x4, x5⟩ := x
        obtain ⟨y1, y6, y2, y3, y4, y5⟩ := y
        obtain ⟨r0, r1, r2, r3, r4, r5⟩ := ch_cells hc1
        obtain ⟨s0, s1, s2, s3, s4, s5⟩ := ch_cells hc2
        by_cases hxy : (⟨x1, x6, ⟨x2, x3, x4, x5⟩⟩ : Ch) = ⟨y1, y6, ⟨y2, y3, y4, y5⟩⟩
        · have hq := beqCh_eq hxy
          have HXY := Lib.hid hxy
          clear hxy
          go_wp2_with (go_quiet (fail))
          go_roundg (n - (i + 1))
          case measure => have := HG.out; omega
          case rel => exact ⟨i + 1, by omega, rfl, by go_num, ⟨_, rfl⟩, Lib.hid (by rw [← HI'.out]; simp only [List.cons.injEq, HXY.out, true_and])⟩
        · have hq := beqCh_ne hxy
          have HXY := Lib.hid hxy
          clear hxy
          go_wp2_with (go_quiet (fail))
          go_ret
          exact ⟨ret_bool (by rw [← HI'.out]; exact (decide_eq_false fun e => HXY.out (List.cons.inj e).1).symm), _, World.drewN_drewN _ _ _⟩
      · go_wp2_with (fail)
        go_ret
        exact ⟨ret_bool (by rw [← HI.out, List.drop_eq_nil_of_le (by have := N.out; omega), List.drop_eq_nil_of_le (by have := M.out; omega)]; rfl), _, rfl⟩
  · have hne : ((n : Int) == m) = false := beq_eq_false_iff_ne.2 hnm
    go_enter Tryz.func78, Tryz.ntmps78
    go_wp2_with (fail)
    go_ret
    refine ⟨ret_bool ?_, 0, rfl⟩
    rw [← HR.out]
    refine (decide_eq_false fun e => ?_).symm
    have h3 := N.out
    have h4 := M.out
    rw [e] at h3
    omega

theorem abs_world {P F : World → Prop} {v : World} (h : F v) (k : ∀ v, F v → P v) : P v := k v h
set_option maxRecDepth 100000 in
set_option maxHeartbeats 3200000 in
theorem same15_any (A B : Option Addr) (n m c d : Nat) (l k : List OpS) (w : World) (hn : n = l.length) (hm : m = k.length) (h1 : RdOp w w.heap.size A l) (h2 : RdOp w w.heap.size B k) (hb : n ≤ 100000000) (hb2 : m ≤ 100000000)
    (hs1 : ∀ x ∈ l, x.o.r.length ≤ 100000000 ∧ x.o.s.length ≤ 100000000 ∧ x.o.p.length ≤ 100000000) (hs2 : ∀ x ∈ k, x.o.r.length ≤ 100000000 ∧ x.o.s.length ≤ 100000000 ∧ x.o.p.length ≤ 100000000) :
    Calls Tryz.prog 22 #[.slice A n c, .slice B m d] w fun e w' => e = .returned (.bool (decide (osOf l = osOf k))) ∧ Below w.heap.size w w' := by
  have N := Lib.hid hn
  have M := Lib.hid hm
  have H1 := Lib.hid h1
  have H2 := Lib.hid h2
  have S1 := Lib.hid hs1
  have S2 := Lib.hid hs2
  generalize hR : decide (osOf l = osOf k) = R
  have HR := Lib.hid hR
  clear hn hR hm h1 h2 hs1 hs2
  have HL : Hid (∀ x : List OpS, (osOf x).length = x.length) := Lib.hid (fun x => by unfold osOf; simp)
  by_cases hnm : (n : Int) = m
  · have hnm' : n = m := by omega
    subst hnm'
    clear hnm
    have hne : ((n : Int) != n) = false := by simp
    go_enter Tryz.func22, Tryz.ntmps22
    go_wp2_with (fail)
    go_loopg [5] n (fun g iv wr => ∃ i : Nat, i ≤ n ∧ g = n - i ∧ iv = .int .i64 (i : Int) ∧ Below w.heap.size w wr ∧ Hid (decide (osOf (l.drop i) = osOf (k.drop i)) = R))
    case atStart => exact ⟨0, by omega, rfl, rfl, Below.refl _ _, Lib.hid (by rw [List.drop_zero, List.drop_zero]; exact HR.out)⟩
    case round =>
      obtain ⟨i, hi, hg, rfl, y, HI⟩ := hrel
      have HG := Lib.hid hg
      clear hg HR
      by_cases hlt : i < n
      · have hl1 : i < l.length := by have := N.out; omega
        have hl2 : i < k.length := by have := M.out; omega
        obtain ⟨ad, x, rfl, had1, hd1, hx1, hc1⟩ := (H1.out.ext y).1.el hl1
        obtain ⟨ad2, x', rfl, had2, hd2, hx2, hc2⟩ := (H2.out.ext y).1.el hl2
        have hm1 := List.mem_of_getElem? hx1
        have hm2 := List.mem_of_getElem? hx2
        have p1 := Lib.hid (H1.out.2 x hm1)
        have p2 := Lib.hid (H2.out.2 x' hm2)
        have b1 := Lib.hid (S1.out x hm1)
        have b2 := Lib.hid (S2.out x' hm2)
        have HI' : Hid (decide (x.o :: osOf (l.drop (i + 1)) = x'.o :: osOf (k.drop (i + 1))) = R) := Lib.hid (by rw [← HI.out, hd1, hd2]; rfl)
        clear HI hd1 hd2 hx1 hx2 hm1 hm2
        obtain ⟨⟨k1, n1, r1, s1, q1⟩, Ar1, cr1, As1, cs1, Ap1, cp1⟩ := x
        obtain ⟨⟨k2, n2, r2, s2, q2'⟩, Ar2, cr2, As2, cs2, Ap2, cp2⟩ := x'
        obtain ⟨z0, z1, z2, z3, z4⟩ := op_cells hc1
        obtain ⟨u0, u1, u2, u3, u4⟩ := op_cells hc2
        have hlt' : (i : Int) < (n : Int) := by omega
        have v1 : wr.heap.size ≠ (ad.add (i * 5)).block := by rw [add_block]; omega
        have v2 : wr.heap.size ≠ (ad2.add (i * 5)).block := by rw [add_block]; omega
        have v3 : wr.heap.size + 1 ≠ (ad.add (i * 5)).block := by rw [add_block]; omega
        have v4 : wr.heap.size + 1 ≠ (ad2.add (i * 5)).block := by rw [add_block]; omega
        clear hc1 hc2 hl1 hl2 had2 had1
        obtain ⟨sz, hsz⟩ : ∃ z, wr.heap.size = z := ⟨_, rfl⟩
        go_wp2_with (fail)
        go_region_held3 (fun w' => w'.cell? (ad.add (i * 5)) = some (.int .u8 k1) ∧ w'.cell? { block := (ad.add (i * 5)).block, off := (ad.add (i * 5)).off + 1 } = some (.int .i64 n1) ∧ w'.cell? { block := (ad.add (i * 5)).block, off := (ad.add (i * 5)).off + 2 } = some (.slice Ar1 r1.length cr1) ∧ w'.cell? { block := (ad.add (i * 5)).block, off := (ad.add (i * 5)).off + 3 } = some (.slice As1 s1.length cs1) ∧ w'.cell? { block := (ad.add (i * 5)).block, off := (ad.add (i * 5)).off + 4 } = some (.slice Ap1 q1.length cp1) ∧ w'.cell? (ad2.add (i * 5)) = some (.int .u8 k2) ∧ w'.cell? { block := (ad2.add (i * 5)).block, off := (ad2.add (i * 5)).off + 1 } = some (.int .i64 n2) ∧ w'.cell? { block := (ad2.add (i * 5)).block, off := (ad2.add (i * 5)).off + 2 } = some (.slice Ar2 r2.length cr2) ∧ w'.cell? { block := (ad2.add (i * 5)).block, off := (ad2.add (i * 5)).off + 3 } = some (.slice As2 s2.length cs2) ∧ w'.cell? { block := (ad2.add (i * 5)).block, off := (ad2.add (i * 5)).off + 4 } = some (.slice Ap2 q2'.length cp2))
          (go_keep) (fail)
        · have ya := ext_alloc wr (.cells #[.int .u8 k1, .int .i64 n1, .slice Ar1 r1.length cr1, .slice As1 s1.length cs1, .slice Ap1 q1.length cp1] 50)
          have yb := ext_alloc (wr.alloc (.cells #[.int .u8 k1, .int .i64 n1, .slice Ar1 r1.length cr1, .slice As1 s1.length cs1, .slice Ap1 q1.length cp1] 50)) (.cells #[.int .u8 k2, .int .i64 n2, .slice Ar2 r2.length cr2, .slice As2 s2.length cs2, .slice Ap2 q2'.length cp2] 50)
          have ga := (yb.block wr.heap.size (by simp)).trans (heap_alloc_new wr (.cells #[.int .u8 k1, .int .i64 n1, .slice Ar1 r1.length cr1, .slice As1 s1.length cs1, .slice Ap1 q1.length cp1] 50))
          have gb := heap_alloc_new (wr.alloc (.cells #[.int .u8 k1, .int .i64 n1, .slice Ar1 r1.length cr1, .slice As1 s1.length cs1, .slice Ap1 q1.length cp1] 50)) (.cells #[.int .u8 k2, .int .i64 n2, .slice Ar2 r2.length cr2, .slice As2 s2.length cs2, .slice Ap2 q2'.length cp2] 50)
          rw [World.size_alloc] at gb
          rw [hsz] at ga gb
          refine abs_world (F := fun v => Below w.heap.size w v ∧ v.heap[sz]? = some (.cells #[.int .u8 k1, .int .i64 n1, .slice Ar1 r1.length cr1, .slice As1 s1.length cs1, .slice Ap1 q1.length cp1] 50 (0, 0)) ∧ v.heap[sz + 1]? = some (.cells #[.int .u8 k2, .int .i64 n2, .slice Ar2 r2.length cr2, .slice As2 s2.length cs2, .slice Ap2 q2'.length cp2] 50 (0, 0))) ⟨(ext_trans y (ext_trans ya yb)).drew, ga, gb⟩ ?_
          clear ya yb ga gb hsz v1 v2 v3 v4
          obtain ⟨sz1, hs1⟩ : ∃ z, sz + 1 = z := ⟨_, rfl⟩
          rw [hs1]
          clear hs1
          intro v
          rintro ⟨yv, g6, g7⟩
          obtain ⟨c0, c1, c2, c3, c4⟩ := box_at g6
          obtain ⟨e0, e1, e2, e3, e4⟩ := box_at g7
          have YV := Lib.hid yv
          clear g6 g7
          by_cases hk : k1 = k2
          · subst hk
            have hkk : (k1 != k1) = false := by simp
            by_cases hn : n1 = n2
            · subst hn
              have hnn : (n1 != n1) = false := by simp
              go_wp2_with (go_at_call 59; refine Hid.out ?_)
              refine Lib.hid ?_
              refine (refSame_any Ar1 Ar2 r1.length r2.length cr1 cr2 r1 r2 v rfl rfl (p1.out.1.ext yv) (p2.out.1.ext yv) (by have := b1.out.1; omega) (by have := b2.out.1; omega)).mono ?_
              by_cases hr : r1 = r2
              · subst hr
                rw [decide_eq_true rfl]
                rintro e v2 ⟨rfl, q2, rfl⟩
                go_wp2_with (go_at_call 39; refine Hid.out ?_)
                refine Lib.hid ?_
                refine (sameA_any As1 As2 s1.length s2.length cs1 cs2 s1 s2 _ rfl rfl ((p1.out.2.1.ext yv).drewN _) ((p2.out.2.1.ext yv).drewN _) (by have := b1.out.2.1; omega) (by have := b2.out.2.1; omega)).mono ?_
                by_cases hs : s1 = s2
                · subst hs
                  rw [decide_eq_true rfl]
                  rintro e v3 ⟨rfl, q3, rfl⟩
                  go_wp2_with (go_at_call 78; refine Hid.out ?_)
                  refine Lib.hid ?_
                  refine (sameR6_any Ap1 Ap2 q1.length q2'.length cp1 cp2 q1 q2' _ rfl rfl ((p1.out.2.2.ext yv).drewN _) ((p2.out.2.2.ext yv).drewN _) (by have := b1.out.2.2; omega) (by have := b2.out.2.2; omega)).mono ?_
                  by_cases hp : q1 = q2'
                  · subst hp
                    rw [decide_eq_true rfl]
                    rintro e v4 ⟨rfl, q4, rfl⟩
                    have hw2 : IntKind.i64.wrap ((i:Int) + 1) = (i : Int) + 1 := IntWalk.i64_in _ (by omega)
                    go_wp2_with (fail)
                    go_roundg (n - (i + 1))
                    case measure => have := HG.out; omega
                    case rel => exact ⟨i + 1, by omega, rfl, by go_num, below_drewN YV.out _, Lib.hid (by rw [← HI'.out]; simp only [List.cons.injEq, true_and])⟩
                  · rw [decide_eq_false hp]
                    rintro e v4 ⟨rfl, q4, rfl⟩
                    have HP := Lib.hid hp
                    clear hp
                    go_wp2_with (fail)
                    go_ret
                    exact ⟨ret_bool (by rw [← HI'.out]; exact (decide_eq_false fun e => HP.out (Opd.mk.inj (List.cons.inj e).1).2.2.2.2).symm), below_drewN YV.out _⟩
                · rw [decide_eq_false hs]
                  rintro e v3 ⟨rfl, q3, rfl⟩
                  have HP := Lib.hid hs
                  clear hs
                  go_wp2_with (fail)
                  go_ret
                  exact ⟨ret_bool (by rw [← HI'.out]; exact (decide_eq_false fun e => HP.out (Opd.mk.inj (List.cons.inj e).1).2.2.2.1).symm), below_drewN YV.out _⟩
              · rw [decide_eq_false hr]
                rintro e v2 ⟨rfl, q2, rfl⟩
                have HP := Lib.hid hr
                clear hr
                go_wp2_with (fail)
                go_ret
                exact ⟨ret_bool (by rw [← HI'.out]; exact (decide_eq_false fun e => HP.out (Opd.mk.inj (List.cons.inj e).1).2.2.1).symm), below_drewN YV.out _⟩
            · have hnn : (n1 != n2) = true := by simp [hn]
              have HP := Lib.hid hn
              clear hn
              go_wp2_with (fail)
              go_ret
              exact ⟨ret_bool (by rw [← HI'.out]; exact (decide_eq_false fun e => HP.out (Opd.mk.inj (List.cons.inj e).1).2.1).symm), YV.out⟩
          · have hkk : (k1 != k2) = true := by simp [hk]
            have HP := Lib.hid hk
            clear hk
            go_wp2_with (fail)
            go_ret
            exact ⟨ret_bool (by rw [← HI'.out]; exact (decide_eq_false fun e => HP.out (Opd.mk.inj (List.cons.inj e).1).1).symm), YV.out⟩
        · have ya := ext_alloc wr (.cells #[.int .u8 k2, .int .i64 n2, .slice Ar2 r2.length cr2, .slice As2 s2.length cs2, .slice Ap2 q2'.length cp2] 50)
          have yb := ext_alloc (wr.alloc (.cells #[.int .u8 k2, .int .i64 n2, .slice Ar2 r2.length cr2, .slice As2 s2.length cs2, .slice Ap2 q2'.length cp2] 50)) (.cells #[.int .u8 k1, .int .i64 n1, .slice Ar1 r1.length cr1, .slice As1 s1.length cs1, .slice Ap1 q1.length cp1] 50)
          have ga := (yb.block wr.heap.size (by simp)).trans (heap_alloc_new wr (.cells #[.int .u8 k2, .int .i64 n2, .slice Ar2 r2.length cr2, .slice As2 s2.length cs2, .slice Ap2 q2'.length cp2] 50))
          have gb := heap_alloc_new (wr.alloc (.cells #[.int .u8 k2, .int .i64 n2, .slice Ar2 r2.length cr2, .slice As2 s2.length cs2, .slice Ap2 q2'.length cp2] 50)) (.cells #[.int .u8 k1, .int .i64 n1, .slice Ar1 r1.length cr1, .slice As1 s1.length cs1, .slice Ap1 q1.length cp1] 50)
          rw [World.size_alloc] at gb
          rw [hsz] at ga gb
          refine abs_world (F := fun v => Below w.heap.size w v ∧ v.heap[sz + 1]? = some (.cells #[.int .u8 k1, .int .i64 n1, .slice Ar1 r1.length cr1, .slice As1 s1.length cs1, .slice Ap1 q1.length cp1] 50 (0, 0)) ∧ v.heap[sz]? = some (.cells #[.int .u8 k2, .int .i64 n2, .slice Ar2 r2.length cr2, .slice As2 s2.length cs2, .slice Ap2 q2'.length cp2] 50 (0, 0))) ⟨(ext_trans y (ext_trans ya yb)).drew, gb, ga⟩ ?_
          clear ya yb ga gb hsz v1 v2 v3 v4
          obtain ⟨sz1, hs1⟩ : ∃ z, sz + 1 = z := ⟨_, rfl⟩
          rw [hs1]
          clear hs1
          intro v
          rintro ⟨yv, g6, g7⟩
          obtain ⟨c0, c1, c2, c3, c4⟩ := box_at g6
          obtain ⟨e0, e1, e2, e3, e4⟩ := box_at g7
          have YV := Lib.hid yv
          clear g6 g7
          by_cases hk : k1 = k2
          · subst hk
            have hkk : (k1 != k1) = false := by simp
            by_cases hn : n1 = n2
            · subst hn
              have hnn : (n1 != n1) = false := by simp
              go_wp2_with (go_at_call 59; refine Hid.out ?_)
              refine Lib.hid ?_
              refine (refSame_any Ar1 Ar2 r1.length r2.length cr1 cr2 r1 r2 v rfl rfl (p1.out.1.ext yv) (p2.out.1.ext yv) (by have := b1.out.1; omega) (by have := b2.out.1; omega)).mono ?_
              by_cases hr : r1 = r2
              · subst hr
                rw [decide_eq_true rfl]
                rintro e v2 ⟨rfl, q2, rfl⟩
                go_wp2_with (go_at_call 39; refine Hid.out ?_)
                refine Lib.hid ?_
                refine (sameA_any As1 As2 s1.length s2.length cs1 cs2 s1 s2 _ rfl rfl ((p1.out.2.1.ext yv).drewN _) ((p2.out.2.1.ext yv).drewN _) (by have := b1.out.2.1; omega) (by have := b2.out.2.1; omega)).mono ?_
                by_cases hs : s1 = s2
                · subst hs
                  rw [decide_eq_true rfl]
                  rintro e v3 ⟨rfl, q3, rfl⟩
                  go_wp2_with (go_at_call 78; refine Hid.out ?_)
                  refine Lib.hid ?_
                  refine (sameR6_any Ap1 Ap2 q1.length q2'.length cp1 cp2 q1 q2' _ rfl rfl ((p1.out.2.2.ext yv).drewN _) ((p2.out.2.2.ext yv).drewN _) (by have := b1.out.2.2; omega) (by have := b2.out.2.2; omega)).mono ?_
                  by_cases hp : q1 = q2'
                  · subst hp
                    rw [decide_eq_true rfl]
                    rintro e v4 ⟨rfl, q4, rfl⟩
                    have hw2 : IntKind.i64.wrap ((i:Int) + 1) = (i : Int) + 1 := IntWalk.i64_in _ (by omega)
                    go_wp2_with (fail)
                    go_roundg (n - (i + 1))
                    case measure => have := HG.out; omega
                    case rel => exact ⟨i + 1, by omega, rfl, by go_num, below_drewN YV.out _, Lib.hid (by rw [← HI'.out]; simp only [List.cons.injEq, true_and])⟩
                  · rw [decide_eq_false hp]
                    rintro e v4 ⟨rfl, q4, rfl⟩
                    have HP := Lib.hid hp
                    clear hp
                    go_wp2_with (fail)
                    go_ret
                    exact ⟨ret_bool (by rw [← HI'.out]; exact (decide_eq_false fun e => HP.out (Opd.mk.inj (List.cons.inj e).1).2.2.2.2).symm), below_drewN YV.out _⟩
                · rw [decide_eq_false hs]
                  rintro e v3 ⟨rfl, q3, rfl⟩
                  have HP := Lib.hid hs
                  clear hs
                  go_wp2_with (fail)
                  go_ret
                  exact ⟨ret_bool (by rw [← HI'.out]; exact (decide_eq_false fun e => HP.out (Opd.mk.inj (List.cons.inj e).1).2.2.2.1).symm), below_drewN YV.out _⟩
              · rw [decide_eq_false hr]
                rintro e v2 ⟨rfl, q2, rfl⟩
                have HP := Lib.hid hr
                clear hr
                go_wp2_with (fail)
                go_ret
                exact ⟨ret_bool (by rw [← HI'.out]; exact (decide_eq_false fun e => HP.out (Opd.mk.inj (List.cons.inj e).1).2.2.1).symm), below_drewN YV.out _⟩
            · have hnn : (n1 != n2) = true := by simp [hn]
              have HP := Lib.hid hn
              clear hn
              go_wp2_with (fail)
              go_ret
              exact ⟨ret_bool (by rw [← HI'.out]; exact (decide_eq_false fun e => HP.out (Opd.mk.inj (List.cons.inj e).1).2.1).symm), YV.out⟩
          · have hkk : (k1 != k2) = true := by simp [hk]
            have HP := Lib.hid hk
            clear hk
            go_wp2_with (fail)
            go_ret
            exact ⟨ret_bool (by rw [← HI'.out]; exact (decide_eq_false fun e => HP.out (Opd.mk.inj (List.cons.inj e).1).1).symm), YV.out⟩
      · have hlt' : ¬ (i : Int) < (n : Int) := by omega
        go_wp2_with (fail)
        go_ret
        exact ⟨ret_bool (by rw [← HI.out, List.drop_eq_nil_of_le (by have := N.out; omega), List.drop_eq_nil_of_le (by have := M.out; omega)]; rfl), y⟩
  · have hne : ((n : Int) != m) = true := by simp [hnm]
    go_enter Tryz.func22, Tryz.ntmps22
    go_wp2_with (fail)
    go_ret
    refine ⟨ret_bool ?_, Below.refl _ _⟩
    rw [← HR.out]
    refine (decide_eq_false fun e => ?_).symm
    have h3 := N.out
    have h4 := M.out
    have h5 := congrArg List.length e
    rw [HL.out, HL.out] at h5
    omega
theorem same15D {w : World} {A B : Option Addr} {n c n2 c2 : Nat} {x z : List OpS} (h1 : OpsAt w A n x) (h2 : OpsAt w B n2 z) {b : Bool} (hb : decide (osOf x = osOf z) = b) :
    Calls Tryz.prog 22 #[.slice A n c, .slice B n2 c2] w fun e w' => e = .returned (.bool b) ∧ Below w.heap.size w w' := by
  have h := same15_any A B n n2 c c2 x z w h1.len h2.len h1.rd h2.rd (by have := h1.b; omega) (by have := h2.b; omega) (fun o ho => by obtain ⟨_, _, a, b, c⟩ := h1.ok o ho; omega) (fun o ho => by obtain ⟨_, _, a, b, c⟩ := h2.ok o ho; omega)
  rw [hb] at h
  exact h
end Go.Proofs.YtfnkjcodcoehcaaGreatDoor
