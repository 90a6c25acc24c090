/- Merged texts: LinesW. -/
import Derived.Test.YtbdkbfoplpociaaGreatDoorLinesLawB
import Derived.Test.YtbdkbfoplpociaaGreatDoorB3
import Derived.Test.YtbdkbfoplpociaaGreatDoorK28
import Derived.Test.YtbdkbfoplpociaaGreatDoorK29
import Derived.Test.YtbdkbfoplpociaaGreatDoorK31
namespace Go.Proofs.YtbdkbfoplpociaaGreatDoor
open Go.RowKit
set_option linter.unusedVariables false
set_option linter.unusedSimpArgs false

theorem lines_ok (P : Nat → List Ch) (hP : ∀ k, okVs (P k)) : ∀ (l : List Nat) (k f : Nat), ∀ u ∈ linesU P k f l, okUn u
  | [], _, _ => fun u hu => by cases hu
  | p :: t, k, f => fun u hu => by
    rw [linesU] at hu
    rcases List.mem_append.1 hu with hu | hu
    · rw [(List.mem_replicate.1 hu).2]; intro c hc; cases hc
    · rcases List.mem_cons.1 hu with rfl | hu
      · exact hP k
      · exact lines_ok P hP t _ _ u hu
theorem lines_sum : ∀ (l : List Nat), (∀ p ∈ l, p ≤ 2000000000000) → l.length ≤ 100000 → (([] : List Un).length : Int) + (l.map (fun p : Nat => (p : Int) + 1)).sum ≤ 4611686018427387904 := fun l h hl => by
  have key : ∀ l : List Nat, (∀ p ∈ l, p ≤ 2000000000000) → (l.map (fun p : Nat => (p : Int) + 1)).sum ≤ (l.length : Int) * 2000000000001 := by
    intro l
    induction l with
    | nil => intro _; exact Int.le_refl _
    | cons p t ih =>
      intro h
      have h1 := h p (by simp)
      have h2 := ih (fun q hq => h q (List.mem_cons_of_mem _ hq))
      rw [List.map_cons, List.sum_cons, List.length_cons]
      push_cast
      omega
  have := key l h
  have h3 : (l.length : Int) * 2000000000001 ≤ 100000 * 2000000000001 := by omega
  simp only [List.length_nil]
  omega
set_option maxRecDepth 100000 in
set_option maxHeartbeats 3200000 in
theorem linesL_any (b0 : Nat) (A : Option Addr) (n c : Nat) (l : List Nat) (P : Nat → List Ch) (w : World) (hn : n = l.length) (hr : RdInt w w.heap.size A (l.map (fun p : Nat => (p : Int)))) (hb : n ≤ 100000) (hl : ∀ p ∈ l, p ≤ 2000000000000) (hP : ∀ k, (P k).length ≤ 64) (hu : ∀ k, okVs (P k))
    (hcl : ∀ (k : Nat) (w' : World), k < n → Below w.heap.size w w' → Calls Tryz.prog 208 #[.int .i64 (k : Int), .pointer (some ⟨b0, 0, none⟩)] w' fun e w'' => ∃ A c, e = .returned (.slice A (P k).length c) ∧ RdCh w'' w''.heap.size A (P k) ∧ (∀ ad, A = some ad → 0 < (P k).length → ad.block < w.heap.size ∨ w'.heap.size ≤ ad.block) ∧ Below w'.heap.size w' w'') :
    Calls Tryz.prog 161 #[.slice A n c, .func (.func 208) #[] #[.pointer (some ⟨b0, 0, none⟩)]] w (NewOpC (mkU (linesU P 0 0 l)) w) := by
  have N := Lib.hid hn
  have HR := Lib.hid hr
  have HL := Lib.hid hl
  have HP := Lib.hid hP
  have HCL := Lib.hid hcl
  have HUU : Hid (∀ u ∈ linesU P 0 0 l, okUn u) := Lib.hid (lines_ok P hu l 0 0)
  have TD : Hid (Told (linesM P Mk.new 0 0 l) (linesU P 0 0 l)) := Lib.hid (by
    have h := lines_told P l Mk.new 0 0 [] Told.new (lines_sum l hl (by omega))
    rwa [List.nil_append] at h)
  have HB : Hid (∀ i, MkB (linesM P Mk.new 0 0 (l.take i)) (4 * n) 64) := Lib.hid (fun i => by
    have h := lines_bnd P hP (l.take i) Mk.new 0 0 0 (MkB.new 64)
    exact h.mono (by rw [List.length_take]; omega) (Nat.le_refl _))
  clear hn hr hl hP hcl hu
  go_enter Tryz.func161, Tryz.ntmps161
  go_wp2_with (go_at_call 96; refine Hid.out ?_)
  refine Lib.hid ?_
  refine (mkNew_any w).mono ?_
  rintro e w1 ⟨rfl, hm, y1⟩
  have HM := Lib.hid hm
  have Y1 := Lib.hid y1
  clear hm y1
  have hF : ∀ k, k = w.heap.size → w.heap.size ≤ k := fun k hk => by omega
  have HR1 : Hid (RdInt w1 w1.heap.size A (l.map (fun p : Nat => (p : Int))) ∧ OffF (fun k => k = w.heap.size) A (l.map (fun p : Nat => (p : Int))).length) := Lib.hid ⟨HR.out.ext Y1.out, HR.out.offF hF⟩
  go_wp2_with (fail)
  go_loopg [6, 12] n (fun g fv iv wr => ∃ (i : Nat) (F' : Nat → Prop), i ≤ n ∧ g = n - i ∧ iv = .int .i64 (i : Int) ∧ fv = .int .i64 (fromL (l.take i) : Int) ∧ Mkr wr F' w.heap.size (linesM P Mk.new 0 0 (l.take i)) ∧ Grow w1 (fun k => k = w.heap.size) wr F')
  case atStart => exact ⟨0, fun k => k = w.heap.size, by omega, rfl, rfl, rfl, HM.out, Grow.refl _ _⟩
  case round =>
    obtain ⟨i, F', hi, hg, rfl, rfl, hm, gr⟩ := hrel
    have HG := Lib.hid hg
    have HM := Lib.hid hm
    have GR := Lib.hid gr
    clear hg hm gr
    have MB := Lib.hid (HB.out i)
    by_cases hlt : i < n
    · have hlt' : (i : Int) < (n : Int) := by omega
      obtain ⟨q, hq⟩ : ∃ q, l[i]? = some q := ⟨_, List.getElem?_eq_getElem (by have := N.out; omega)⟩
      have htk : l.take (i + 1) = l.take i ++ [q] := by rw [List.take_add_one, hq]; rfl
      have hql := HL.out q (List.mem_of_getElem? hq)
      obtain ⟨ad, pv, hA, _, _, hp1, hc1⟩ := (HR1.out.1.grow GR.out HR1.out.2).el (i := i) (by rw [List.length_map]; have := N.out; omega)
      rw [List.getElem?_map, hq] at hp1
      obtain rfl : (q : Int) = pv := Option.some.inj hp1
      have r0 : wr.cell? (ad.add (i * 1)) = some (.int .i64 (q : Int)) := by have := hc1 0 _ rfl; rwa [add_zero'] at this
      rw [Nat.mul_one] at r0
      obtain ⟨f, hf⟩ : ∃ f, fromL (l.take i) = f := ⟨_, rfl⟩
      have hfb : f ≤ 2000000000001 := by
        rw [← hf]
        unfold fromL
        split
        · omega
        · rename_i z hz
          have := HL.out z (List.mem_of_mem_take (List.mem_of_getLast? hz))
          omega
      have hsub : IntKind.i64.wrap ((q : Int) - (f : Int)) = (q : Int) - (f : Int) := IntWalk.i64_in _ (by omega)
      have hadd : IntKind.i64.wrap ((q : Int) + 1) = (q : Int) + 1 := IntWalk.i64_in _ (by clear hsub; omega)
      have hw2 : IntKind.i64.wrap ((i : Int) + 1) = (i : Int) + 1 := IntWalk.i64_in _ (by clear hsub hadd; omega)
      have LS : Hid (linesM P Mk.new 0 0 (l.take (i + 1)) = mkRetain (mkRetain (linesM P Mk.new 0 0 (l.take i)) ((q : Int) - (f : Int)) []) 1 (P i)) := Lib.hid (by
        rw [htk, lines_snoc]
        have e1 : (l.take i).length = i := by rw [List.length_take]; have := N.out; omega
        rw [e1, Nat.zero_add]
        rw [← hf]
        rfl)
      have HF := Lib.hid hf
      have HTK := Lib.hid htk
      obtain ⟨m1, hm1⟩ : ∃ m, mkRetain (linesM P Mk.new 0 0 (l.take i)) ((q : Int) - (f : Int)) [] = m := ⟨_, rfl⟩
      have MB1 : Hid (MkB m1 (4 * n + 2) 64) := Lib.hid (by rw [← hm1]; exact MB.out.retain _ (Nat.zero_le _))
      have HM1 := Lib.hid hm1
      rw [hm1] at LS
      rw [hf]
      subst hA
      clear hp1 hc1 hq hf htk hm1
      go_wp2_with (go_at_call 121; refine Hid.out ?_)
      refine Lib.hid ?_
      refine (mkRetain_any w.heap.size none ((q : Int) - (f : Int)) 0 0 [] wr F' _ HM.out rfl Rd.nil (fun ad e => by cases e) (by simp) (by have := MB.out.len; clear hsub hadd hw2; omega) (fun o ho => by have := MB.out.gap.2 o ho; omega)).mono ?_
      rw [HM1.out]
      rintro e w2 ⟨rfl, F2, hm2, g2⟩
      have HMA := Lib.hid hm2
      have GA := Lib.hid (GR.out.trans g2)
      have Y2 : Hid (Below w.heap.size w w2) := Lib.hid (Y1.out.trans (GA.out.below (B := w.heap.size) hF Y1.out.size))
      have LW : Hid (∀ k, F2 k → w.heap.size ≤ k) := Lib.hid (GA.out.low (B := w.heap.size) hF Y1.out.size)
      clear hm2 g2
      go_wp2_with (go_at_call 208; refine Hid.out ?_)
      refine Lib.hid ?_
      refine (HCL.out i w2 hlt Y2.out).mono ?_
      rintro e w3 ⟨A9, c9, rfl, rp, ro, y3⟩
      have RP := Lib.hid rp
      have RO : Hid (OffF F2 A9 (P i).length) := Lib.hid (fun az ea hl2 hk => by
        have h1 := LW.out _ hk
        have h2 := HMA.out.lt _ hk
        rcases ro az ea hl2 with h3 | h3 <;> omega)
      have HMB := Lib.hid (HMA.out.below y3)
      have GB := Lib.hid (GA.out.trans (Grow.of y3))
      have PL := HP.out i
      clear rp ro y3
      go_wp2_with (go_at_call 121; refine Hid.out ?_)
      refine Lib.hid ?_
      refine (mkRetain_any w.heap.size A9 1 (P i).length c9 (P i) w3 F2 m1 HMB.out rfl RP.out RO.out (by omega) (by have := MB1.out.len; clear hsub hadd hw2; omega) (fun o ho => by have := MB1.out.gap.2 o ho; omega)).mono ?_
      rw [← LS.out]
      rintro e w4 ⟨rfl, F4, hm4, g4⟩
      have HMC := Lib.hid hm4
      have GC := Lib.hid (GB.out.trans g4)
      clear hm4 g4
      have hfn : fromL (l.take (i + 1)) = q + 1 := by rw [HTK.out]; unfold fromL; rw [List.getLast?_concat]
      go_wp2_with (fail)
      go_roundg (n - (i + 1))
      case measure => have h9 := HG.out; clear hsub hadd hw2; omega
      case rel => exact ⟨i + 1, F4, by omega, rfl, rfl, by rw [hfn]; rfl, HMC.out, GC.out⟩
    · have hlt' : ¬ ((i : Int) < (n : Int)) := by omega
      have e9 : l.take i = l := List.take_of_length_le (by have := N.out; omega)
      rw [e9] at HM MB
      have Y3 := Lib.hid (Y1.out.trans (GR.out.below (B := w.heap.size) hF Y1.out.size))
      go_wp2_with (go_at_call 103; refine Hid.out ?_)
      refine Lib.hid ?_
      refine (mkOps_any w.heap.size wr F' _ HM.out (by have := MB.out.len; omega) (fun o ho => by have := MB.out.gap.2 o ho; omega)).mono ?_
      intro e w4 hN
      have hN2 := NewOps.opC (hN.late Y3.out) TD.out HUU.out MB.out (by omega) (by omega)
      obtain ⟨A8, c8, x8, rfl, hx, ox, yx⟩ := hN2
      have HN : Hid (NewOpC (mkU (linesU P 0 0 l)) w (.returned (.slice A8 x8.length c8)) w4) := Lib.hid ⟨A8, c8, x8, rfl, hx, ox, yx⟩
      clear hN hx ox yx
      go_wp2_with (fail)
      go_ret
      exact HN.out
set_option maxRecDepth 100000 in
set_option maxHeartbeats 3200000 in
theorem linesP_any (b0 : Nat) (A : Option Addr) (n c : Nat) (l : List Nat) (P : Nat → List Ch) (w : World) (hn : n = l.length) (hr : RdInt w w.heap.size A (l.map (fun p : Nat => (p : Int)))) (hb : n ≤ 100000) (hl : ∀ p ∈ l, p ≤ 2000000000000) (hP : ∀ k, (P k).length ≤ 64) (hu : ∀ k, okVs (P k))
    (hcl : ∀ (k : Nat) (w' : World), k < n → Below w.heap.size w w' → Calls Tryz.prog 162 #[.int .i64 (k : Int), .pointer (some ⟨b0, 0, none⟩)] w' fun e w'' => ∃ A c, e = .returned (.slice A (P k).length c) ∧ RdCh w'' w''.heap.size A (P k) ∧ (∀ ad, A = some ad → 0 < (P k).length → ad.block < w.heap.size ∨ w'.heap.size ≤ ad.block) ∧ Below w'.heap.size w' w'') :
    Calls Tryz.prog 161 #[.slice A n c, .func (.func 162) #[] #[.pointer (some ⟨b0, 0, none⟩)]] w (NewOpC (mkU (linesU P 0 0 l)) w) := by
  have N := Lib.hid hn
  have HR := Lib.hid hr
  have HL := Lib.hid hl
  have HP := Lib.hid hP
  have HCL := Lib.hid hcl
  have HUU : Hid (∀ u ∈ linesU P 0 0 l, okUn u) := Lib.hid (lines_ok P hu l 0 0)
  have TD : Hid (Told (linesM P Mk.new 0 0 l) (linesU P 0 0 l)) := Lib.hid (by
    have h := lines_told P l Mk.new 0 0 [] Told.new (lines_sum l hl (by omega))
    rwa [List.nil_append] at h)
  have HB : Hid (∀ i, MkB (linesM P Mk.new 0 0 (l.take i)) (4 * n) 64) := Lib.hid (fun i => by
    have h := lines_bnd P hP (l.take i) Mk.new 0 0 0 (MkB.new 64)
    exact h.mono (by rw [List.length_take]; omega) (Nat.le_refl _))
  clear hn hr hl hP hcl hu
  go_enter Tryz.func161, Tryz.ntmps161
  go_wp2_with (go_at_call 96; refine Hid.out ?_)
  refine Lib.hid ?_
  refine (mkNew_any w).mono ?_
  rintro e w1 ⟨rfl, hm, y1⟩
  have HM := Lib.hid hm
  have Y1 := Lib.hid y1
  clear hm y1
  have hF : ∀ k, k = w.heap.size → w.heap.size ≤ k := fun k hk => by omega
  have HR1 : Hid (RdInt w1 w1.heap.size A (l.map (fun p : Nat => (p : Int))) ∧ OffF (fun k => k = w.heap.size) A (l.map (fun p : Nat => (p : Int))).length) := Lib.hid ⟨HR.out.ext Y1.out, HR.out.offF hF⟩
  go_wp2_with (fail)
  go_loopg [6, 12] n (fun g fv iv wr => ∃ (i : Nat) (F' : Nat → Prop), i ≤ n ∧ g = n - i ∧ iv = .int .i64 (i : Int) ∧ fv = .int .i64 (fromL (l.take i) : Int) ∧ Mkr wr F' w.heap.size (linesM P Mk.new 0 0 (l.take i)) ∧ Grow w1 (fun k => k = w.heap.size) wr F')
  case atStart => exact ⟨0, fun k => k = w.heap.size, by omega, rfl, rfl, rfl, HM.out, Grow.refl _ _⟩
  case round =>
    obtain ⟨i, F', hi, hg, rfl, rfl, hm, gr⟩ := hrel
    have HG := Lib.hid hg
    have HM := Lib.hid hm
    have GR := Lib.hid gr
    clear hg hm gr
    have MB := Lib.hid (HB.out i)
    by_cases hlt : i < n
    · have hlt' : (i : Int) < (n : Int) := by omega
      obtain ⟨q, hq⟩ : ∃ q, l[i]? = some q := ⟨_, List.getElem?_eq_getElem (by have := N.out; omega)⟩
      have htk : l.take (i + 1) = l.take i ++ [q] := by rw [List.take_add_one, hq]; rfl
      have hql := HL.out q (List.mem_of_getElem? hq)
      obtain ⟨ad, pv, hA, _, _, hp1, hc1⟩ := (HR1.out.1.grow GR.out HR1.out.2).el (i := i) (by rw [List.length_map]; have := N.out; omega)
      rw [List.getElem?_map, hq] at hp1
      obtain rfl : (q : Int) = pv := Option.some.inj hp1
      have r0 : wr.cell? (ad.add (i * 1)) = some (.int .i64 (q : Int)) := by have := hc1 0 _ rfl; rwa [add_zero'] at this
      rw [Nat.mul_one] at r0
      obtain ⟨f, hf⟩ : ∃ f, fromL (l.take i) = f := ⟨_, rfl⟩
      have hfb : f ≤ 2000000000001 := by
        rw [← hf]
        unfold fromL
        split
        · omega
        · rename_i z hz
          have := HL.out z (List.mem_of_mem_take (List.mem_of_getLast? hz))
          omega
      have hsub : IntKind.i64.wrap ((q : Int) - (f : Int)) = (q : Int) - (f : Int) := IntWalk.i64_in _ (by omega)
      have hadd : IntKind.i64.wrap ((q : Int) + 1) = (q : Int) + 1 := IntWalk.i64_in _ (by clear hsub; omega)
      have hw2 : IntKind.i64.wrap ((i : Int) + 1) = (i : Int) + 1 := IntWalk.i64_in _ (by clear hsub hadd; omega)
      have LS : Hid (linesM P Mk.new 0 0 (l.take (i + 1)) = mkRetain (mkRetain (linesM P Mk.new 0 0 (l.take i)) ((q : Int) - (f : Int)) []) 1 (P i)) := Lib.hid (by
        rw [htk, lines_snoc]
        have e1 : (l.take i).length = i := by rw [List.length_take]; have := N.out; omega
        rw [e1, Nat.zero_add]
        rw [← hf]
        rfl)
      have HF := Lib.hid hf
      have HTK := Lib.hid htk
      obtain ⟨m1, hm1⟩ : ∃ m, mkRetain (linesM P Mk.new 0 0 (l.take i)) ((q : Int) - (f : Int)) [] = m := ⟨_, rfl⟩
      have MB1 : Hid (MkB m1 (4 * n + 2) 64) := Lib.hid (by rw [← hm1]; exact MB.out.retain _ (Nat.zero_le _))
      have HM1 := Lib.hid hm1
      rw [hm1] at LS
      rw [hf]
      subst hA
      clear hp1 hc1 hq hf htk hm1
      go_wp2_with (go_at_call 121; refine Hid.out ?_)
      refine Lib.hid ?_
      refine (mkRetain_any w.heap.size none ((q : Int) - (f : Int)) 0 0 [] wr F' _ HM.out rfl Rd.nil (fun ad e => by cases e) (by simp) (by have := MB.out.len; clear hsub hadd hw2; omega) (fun o ho => by have := MB.out.gap.2 o ho; omega)).mono ?_
      rw [HM1.out]
      rintro e w2 ⟨rfl, F2, hm2, g2⟩
      have HMA := Lib.hid hm2
      have GA := Lib.hid (GR.out.trans g2)
      have Y2 : Hid (Below w.heap.size w w2) := Lib.hid (Y1.out.trans (GA.out.below (B := w.heap.size) hF Y1.out.size))
      have LW : Hid (∀ k, F2 k → w.heap.size ≤ k) := Lib.hid (GA.out.low (B := w.heap.size) hF Y1.out.size)
      clear hm2 g2
      go_wp2_with (go_at_call 162; refine Hid.out ?_)
      refine Lib.hid ?_
      refine (HCL.out i w2 hlt Y2.out).mono ?_
      rintro e w3 ⟨A9, c9, rfl, rp, ro, y3⟩
      have RP := Lib.hid rp
      have RO : Hid (OffF F2 A9 (P i).length) := Lib.hid (fun az ea hl2 hk => by
        have h1 := LW.out _ hk
        have h2 := HMA.out.lt _ hk
        rcases ro az ea hl2 with h3 | h3 <;> omega)
      have HMB := Lib.hid (HMA.out.below y3)
      have GB := Lib.hid (GA.out.trans (Grow.of y3))
      have PL := HP.out i
      clear rp ro y3
      go_wp2_with (go_at_call 121; refine Hid.out ?_)
      refine Lib.hid ?_
      refine (mkRetain_any w.heap.size A9 1 (P i).length c9 (P i) w3 F2 m1 HMB.out rfl RP.out RO.out (by omega) (by have := MB1.out.len; clear hsub hadd hw2; omega) (fun o ho => by have := MB1.out.gap.2 o ho; omega)).mono ?_
      rw [← LS.out]
      rintro e w4 ⟨rfl, F4, hm4, g4⟩
      have HMC := Lib.hid hm4
      have GC := Lib.hid (GB.out.trans g4)
      clear hm4 g4
      have hfn : fromL (l.take (i + 1)) = q + 1 := by rw [HTK.out]; unfold fromL; rw [List.getLast?_concat]
      go_wp2_with (fail)
      go_roundg (n - (i + 1))
      case measure => have h9 := HG.out; clear hsub hadd hw2; omega
      case rel => exact ⟨i + 1, F4, by omega, rfl, rfl, by rw [hfn]; rfl, HMC.out, GC.out⟩
    · have hlt' : ¬ ((i : Int) < (n : Int)) := by omega
      have e9 : l.take i = l := List.take_of_length_le (by have := N.out; omega)
      rw [e9] at HM MB
      have Y3 := Lib.hid (Y1.out.trans (GR.out.below (B := w.heap.size) hF Y1.out.size))
      go_wp2_with (go_at_call 103; refine Hid.out ?_)
      refine Lib.hid ?_
      refine (mkOps_any w.heap.size wr F' _ HM.out (by have := MB.out.len; omega) (fun o ho => by have := MB.out.gap.2 o ho; omega)).mono ?_
      intro e w4 hN
      have hN2 := NewOps.opC (hN.late Y3.out) TD.out HUU.out MB.out (by omega) (by omega)
      obtain ⟨A8, c8, x8, rfl, hx, ox, yx⟩ := hN2
      have HN : Hid (NewOpC (mkU (linesU P 0 0 l)) w (.returned (.slice A8 x8.length c8)) w4) := Lib.hid ⟨A8, c8, x8, rfl, hx, ox, yx⟩
      clear hN hx ox yx
      go_wp2_with (fail)
      go_ret
      exact HN.out
set_option maxRecDepth 100000 in
set_option maxHeartbeats 3200000 in
theorem linesS_any (b0 : Nat) (b1 : Nat) (b2 : Nat) (b3 : Nat) (A : Option Addr) (n c : Nat) (l : List Nat) (P : Nat → List Ch) (w : World) (hn : n = l.length) (hr : RdInt w w.heap.size A (l.map (fun p : Nat => (p : Int)))) (hb : n ≤ 100000) (hl : ∀ p ∈ l, p ≤ 2000000000000) (hP : ∀ k, (P k).length ≤ 64) (hu : ∀ k, okVs (P k))
    (hcl : ∀ (k : Nat) (w' : World), k < n → Below w.heap.size w w' → Calls Tryz.prog 164 #[.int .i64 (k : Int), .pointer (some ⟨b0, 0, none⟩), .pointer (some ⟨b1, 0, none⟩), .pointer (some ⟨b2, 0, none⟩), .pointer (some ⟨b3, 0, none⟩)] w' fun e w'' => ∃ A c, e = .returned (.slice A (P k).length c) ∧ RdCh w'' w''.heap.size A (P k) ∧ (∀ ad, A = some ad → 0 < (P k).length → ad.block < w.heap.size ∨ w'.heap.size ≤ ad.block) ∧ Below w'.heap.size w' w'') :
    Calls Tryz.prog 161 #[.slice A n c, .func (.func 164) #[] #[.pointer (some ⟨b0, 0, none⟩), .pointer (some ⟨b1, 0, none⟩), .pointer (some ⟨b2, 0, none⟩), .pointer (some ⟨b3, 0, none⟩)]] w (NewOpC (mkU (linesU P 0 0 l)) w) := by
  have N := Lib.hid hn
  have HR := Lib.hid hr
  have HL := Lib.hid hl
  have HP := Lib.hid hP
  have HCL := Lib.hid hcl
  have HUU : Hid (∀ u ∈ linesU P 0 0 l, okUn u) := Lib.hid (lines_ok P hu l 0 0)
  have TD : Hid (Told (linesM P Mk.new 0 0 l) (linesU P 0 0 l)) := Lib.hid (by
    have h := lines_told P l Mk.new 0 0 [] Told.new (lines_sum l hl (by omega))
    rwa [List.nil_append] at h)
  have HB : Hid (∀ i, MkB (linesM P Mk.new 0 0 (l.take i)) (4 * n) 64) := Lib.hid (fun i => by
    have h := lines_bnd P hP (l.take i) Mk.new 0 0 0 (MkB.new 64)
    exact h.mono (by rw [List.length_take]; omega) (Nat.le_refl _))
  clear hn hr hl hP hcl hu
  go_enter Tryz.func161, Tryz.ntmps161
  go_wp2_with (go_at_call 96; refine Hid.out ?_)
  refine Lib.hid ?_
  refine (mkNew_any w).mono ?_
  rintro e w1 ⟨rfl, hm, y1⟩
  have HM := Lib.hid hm
  have Y1 := Lib.hid y1
  clear hm y1
  have hF : ∀ k, k = w.heap.size → w.heap.size ≤ k := fun k hk => by omega
  have HR1 : Hid (RdInt w1 w1.heap.size A (l.map (fun p : Nat => (p : Int))) ∧ OffF (fun k => k = w.heap.size) A (l.map (fun p : Nat => (p : Int))).length) := Lib.hid ⟨HR.out.ext Y1.out, HR.out.offF hF⟩
  go_wp2_with (fail)
  go_loopg [6, 12] n (fun g fv iv wr => ∃ (i : Nat) (F' : Nat → Prop), i ≤ n ∧ g = n - i ∧ iv = .int .i64 (i : Int) ∧ fv = .int .i64 (fromL (l.take i) : Int) ∧ Mkr wr F' w.heap.size (linesM P Mk.new 0 0 (l.take i)) ∧ Grow w1 (fun k => k = w.heap.size) wr F')
  case atStart => exact ⟨0, fun k => k = w.heap.size, by omega, rfl, rfl, rfl, HM.out, Grow.refl _ _⟩
  case round =>
    obtain ⟨i, F', hi, hg, rfl, rfl, hm, gr⟩ := hrel
    have HG := Lib.hid hg
    have HM := Lib.hid hm
    have GR := Lib.hid gr
    clear hg hm gr
    have MB := Lib.hid (HB.out i)
    by_cases hlt : i < n
    · have hlt' : (i : Int) < (n : Int) := by omega
      obtain ⟨q, hq⟩ : ∃ q, l[i]? = some q := ⟨_, List.getElem?_eq_getElem (by have := N.out; omega)⟩
      have htk : l.take (i + 1) = l.take i ++ [q] := by rw [List.take_add_one, hq]; rfl
      have hql := HL.out q (List.mem_of_getElem? hq)
      obtain ⟨ad, pv, hA, _, _, hp1, hc1⟩ := (HR1.out.1.grow GR.out HR1.out.2).el (i := i) (by rw [List.length_map]; have := N.out; omega)
      rw [List.getElem?_map, hq] at hp1
      obtain rfl : (q : Int) = pv := Option.some.inj hp1
      have r0 : wr.cell? (ad.add (i * 1)) = some (.int .i64 (q : Int)) := by have := hc1 0 _ rfl; rwa [add_zero'] at this
      rw [Nat.mul_one] at r0
      obtain ⟨f, hf⟩ : ∃ f, fromL (l.take i) = f := ⟨_, rfl⟩
      have hfb : f ≤ 2000000000001 := by
        rw [← hf]
        unfold fromL
        split
        · omega
        · rename_i z hz
          have := HL.out z (List.mem_of_mem_take (List.mem_of_getLast? hz))
          omega
      have hsub : IntKind.i64.wrap ((q : Int) - (f : Int)) = (q : Int) - (f : Int) := IntWalk.i64_in _ (by omega)
      have hadd : IntKind.i64.wrap ((q : Int) + 1) = (q : Int) + 1 := IntWalk.i64_in _ (by clear hsub; omega)
      have hw2 : IntKind.i64.wrap ((i : Int) + 1) = (i : Int) + 1 := IntWalk.i64_in _ (by clear hsub hadd; omega)
      have LS : Hid (linesM P Mk.new 0 0 (l.take (i + 1)) = mkRetain (mkRetain (linesM P Mk.new 0 0 (l.take i)) ((q : Int) - (f : Int)) []) 1 (P i)) := Lib.hid (by
        rw [htk, lines_snoc]
        have e1 : (l.take i).length = i := by rw [List.length_take]; have := N.out; omega
        rw [e1, Nat.zero_add]
        rw [← hf]
        rfl)
      have HF := Lib.hid hf
      have HTK := Lib.hid htk
      obtain ⟨m1, hm1⟩ : ∃ m, mkRetain (linesM P Mk.new 0 0 (l.take i)) ((q : Int) - (f : Int)) [] = m := ⟨_, rfl⟩
      have MB1 : Hid (MkB m1 (4 * n + 2) 64) := Lib.hid (by rw [← hm1]; exact MB.out.retain _ (Nat.zero_le _))
      have HM1 := Lib.hid hm1
      rw [hm1] at LS
      rw [hf]
      subst hA
      clear hp1 hc1 hq hf htk hm1
      go_wp2_with (go_at_call 121; refine Hid.out ?_)
      refine Lib.hid ?_
      refine (mkRetain_any w.heap.size none ((q : Int) - (f : Int)) 0 0 [] wr F' _ HM.out rfl Rd.nil (fun ad e => by cases e) (by simp) (by have := MB.out.len; clear hsub hadd hw2; omega) (fun o ho => by have := MB.out.gap.2 o ho; omega)).mono ?_
      rw [HM1.out]
      rintro e w2 ⟨rfl, F2, hm2, g2⟩
      have HMA := Lib.hid hm2
      have GA := Lib.hid (GR.out.trans g2)
      have Y2 : Hid (Below w.heap.size w w2) := Lib.hid (Y1.out.trans (GA.out.below (B := w.heap.size) hF Y1.out.size))
      have LW : Hid (∀ k, F2 k → w.heap.size ≤ k) := Lib.hid (GA.out.low (B := w.heap.size) hF Y1.out.size)
      clear hm2 g2
      go_wp2_with (go_at_call 164; refine Hid.out ?_)
      refine Lib.hid ?_
      refine (HCL.out i w2 hlt Y2.out).mono ?_
      rintro e w3 ⟨A9, c9, rfl, rp, ro, y3⟩
      have RP := Lib.hid rp
      have RO : Hid (OffF F2 A9 (P i).length) := Lib.hid (fun az ea hl2 hk => by
        have h1 := LW.out _ hk
        have h2 := HMA.out.lt _ hk
        rcases ro az ea hl2 with h3 | h3 <;> omega)
      have HMB := Lib.hid (HMA.out.below y3)
      have GB := Lib.hid (GA.out.trans (Grow.of y3))
      have PL := HP.out i
      clear rp ro y3
      go_wp2_with (go_at_call 121; refine Hid.out ?_)
      refine Lib.hid ?_
      refine (mkRetain_any w.heap.size A9 1 (P i).length c9 (P i) w3 F2 m1 HMB.out rfl RP.out RO.out (by omega) (by have := MB1.out.len; clear hsub hadd hw2; omega) (fun o ho => by have := MB1.out.gap.2 o ho; omega)).mono ?_
      rw [← LS.out]
      rintro e w4 ⟨rfl, F4, hm4, g4⟩
      have HMC := Lib.hid hm4
      have GC := Lib.hid (GB.out.trans g4)
      clear hm4 g4
      have hfn : fromL (l.take (i + 1)) = q + 1 := by rw [HTK.out]; unfold fromL; rw [List.getLast?_concat]
      go_wp2_with (fail)
      go_roundg (n - (i + 1))
      case measure => have h9 := HG.out; clear hsub hadd hw2; omega
      case rel => exact ⟨i + 1, F4, by omega, rfl, rfl, by rw [hfn]; rfl, HMC.out, GC.out⟩
    · have hlt' : ¬ ((i : Int) < (n : Int)) := by omega
      have e9 : l.take i = l := List.take_of_length_le (by have := N.out; omega)
      rw [e9] at HM MB
      have Y3 := Lib.hid (Y1.out.trans (GR.out.below (B := w.heap.size) hF Y1.out.size))
      go_wp2_with (go_at_call 103; refine Hid.out ?_)
      refine Lib.hid ?_
      refine (mkOps_any w.heap.size wr F' _ HM.out (by have := MB.out.len; omega) (fun o ho => by have := MB.out.gap.2 o ho; omega)).mono ?_
      intro e w4 hN
      have hN2 := NewOps.opC (hN.late Y3.out) TD.out HUU.out MB.out (by omega) (by omega)
      obtain ⟨A8, c8, x8, rfl, hx, ox, yx⟩ := hN2
      have HN : Hid (NewOpC (mkU (linesU P 0 0 l)) w (.returned (.slice A8 x8.length c8)) w4) := Lib.hid ⟨A8, c8, x8, rfl, hx, ox, yx⟩
      clear hN hx ox yx
      go_wp2_with (fail)
      go_ret
      exact HN.out
end Go.Proofs.YtbdkbfoplpociaaGreatDoor
