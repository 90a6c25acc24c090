/- Merged texts: BuildR, LinesLaw, LinesW, BuildL. -/
import Derived.Test.YtbdkbfoplpociaaGreatDoorK28
import Derived.Test.YtbdkbfoplpociaaGreatDoorK29
import Derived.Test.YtbdkbfoplpociaaGreatDoorK31
import Derived.Test.YtbdkbfoplpociaaGreatDoorB3
import Derived.Test.YtbdkbfoplpociaaGreatDoorK10
namespace Go.Proofs.YtbdkbfoplpociaaGreatDoor
open Go.RowKit
set_option linter.unusedVariables false
set_option linter.unusedSimpArgs false

set_option maxRecDepth 100000 in
set_option maxHeartbeats 1600000 in
theorem remove_any (i k : Nat) (i0 j0 : Int) (hi : i0 = (i : Int)) (hj : j0 = (i : Int) + (k : Int)) (hb : i + k ≤ 1000000000000) (w : World) :
    Calls Tryz.prog 74 #[.int .i64 i0, .int .i64 j0] w (NewOpC (mkU (goneU i k)) w) := by
  subst hi hj
  have hF : ∀ k, k = w.heap.size → w.heap.size ≤ k := fun k hk => by omega
  have hsub : IntKind.i64.wrap ((i : Int) + (k : Int) - (i : Int)) = (k : Int) := by rw [IntWalk.i64_in _ (by omega)]; omega
  have hsub' : wrap64 ((i : Int) + (k : Int) - (i : Int)) = (k : Int) := by rw [w64_in _ (by omega)]; omega
  obtain ⟨m1, hm1⟩ : ∃ m, mkRetain Mk.new (i : Int) [] = m := ⟨_, rfl⟩
  obtain ⟨m2, hm2⟩ : ∃ m, mkDelete m1 (k : Int) = m := ⟨_, rfl⟩
  have T1 : Told m1 (List.replicate i (.ret [])) := by
    have := Told.new.retain (i : Int) [] (by simp; omega)
    rw [hm1, Int.toNat_natCast, List.nil_append] at this; exact this
  have TD : Hid (Told m2 (goneU i k)) := Lib.hid (by
    have := T1.delete (k : Int) (by rw [List.length_replicate]; omega) (by rw [List.length_replicate]; omega)
    rw [hm2, Int.toNat_natCast] at this; exact this)
  have B1 : MkB m1 2 64 := by
    have := (MkB.new 64).retain (i : Int) (p := []) (by simp)
    rw [hm1] at this; exact this
  have B2 : Hid (MkB m2 2 64) := Lib.hid (by have := B1.delete (k : Int); rw [hm2] at this; exact this)
  have HM1 := Lib.hid hm1
  have HM2 := Lib.hid hm2
  clear hm1 hm2 T1 B1 hb
  go_enter Tryz.func74, Tryz.ntmps74
  go_wp2_with (go_at_call 96; refine Hid.out ?_)
  refine Lib.hid ?_
  refine (mkNew_any w).mono ?_
  rintro e w1 ⟨rfl, hm, y1⟩
  have HM := Lib.hid hm
  have Y1 := Lib.hid y1
  clear hm y1
  go_wp2_with (go_at_call 121; refine Hid.out ?_)
  refine Lib.hid ?_
  refine (mkRetain_any w.heap.size none (i : Int) 0 0 [] w1 (fun k => k = w.heap.size) Mk.new HM.out rfl Rd.nil (fun ad e => by cases e) (by simp) (by simp [Mk.new]) (fun o ho => by simp [Mk.new, mkGap] at ho)).mono ?_
  rw [HM1.out]
  rintro e w2 ⟨rfl, F2, hm2, g2⟩
  have y2 := Lib.hid (Y1.out.trans (g2.below (B := w.heap.size) hF Y1.out.size))
  have low2 := Lib.hid (g2.low (B := w.heap.size) hF Y1.out.size)
  have HMA := Lib.hid hm2
  clear hm2 g2
  go_wp2_with (go_at_call 124; refine Hid.out ?_)
  refine Lib.hid ?_
  refine (mkDelete_any w.heap.size (k : Int) w2 F2 m1 HMA.out).mono ?_
  rw [HM2.out]
  rintro e w3 ⟨rfl, F3, hm3, g3⟩
  have y3 := Lib.hid (y2.out.trans (g3.below (B := w.heap.size) low2.out y2.out.size))
  have HMB := Lib.hid hm3
  clear hm3 g3
  go_wp2_with (go_at_call 103; refine Hid.out ?_)
  refine Lib.hid ?_
  refine (mkOps_any w.heap.size w3 F3 m2 HMB.out (by have := B2.out.len; omega) (fun o ho => by have := B2.out.gap.2 o ho; omega)).mono ?_
  intro e w4 hN
  have hN2 := NewOps.opC (hN.late y3.out) TD.out (fun u hu => by
    unfold goneU at hu
    rcases List.mem_append.1 hu with hu | hu
    · rw [(List.mem_replicate.1 hu).2]; intro c hc; cases hc
    · rw [(List.mem_replicate.1 hu).2]; trivial) B2.out (by omega) (by omega)
  obtain ⟨A, c, x, rfl, hx, ox, yx⟩ := hN2
  have HN : Hid (NewOpC (mkU (goneU i k)) w (.returned (.slice A x.length c)) w4) := Lib.hid ⟨A, c, x, rfl, hx, ox, yx⟩
  clear hN hx ox yx
  go_wp2_with (fail)
  go_ret
  exact HN.out
end Go.Proofs.YtbdkbfoplpociaaGreatDoor
namespace Go.Proofs.YtbdkbfoplpociaaGreatDoor
set_option linter.unusedVariables false
set_option linter.unusedSimpArgs false

/-- behind the last place -/
def fromL (l : List Nat) : Nat := match l.getLast? with
  | none => 0
  | some q => q + 1
/-- what lines tells of places, one behind the other -/
def linesM (P : Nat → List Ch) : Mk → Nat → Nat → List Nat → Mk
  | m, _, _, [] => m
  | m, k, f, p :: t => linesM P (mkRetain (mkRetain m ((p : Int) - (f : Int)) []) 1 (P k)) (k + 1) (p + 1) t
def linesU (P : Nat → List Ch) : Nat → Nat → List Nat → List Un
  | _, _, [] => []
  | k, f, p :: t => List.replicate (p - f) (.ret []) ++ (.ret (P k) :: linesU P (k + 1) (p + 1) t)
theorem lines_told (P : Nat → List Ch) : ∀ (l : List Nat) (m : Mk) (k f : Nat) (us : List Un), Told m us → (us.length : Int) + (l.map (fun p : Nat => (p : Int) + 1)).sum ≤ 4611686018427387904 → Told (linesM P m k f l) (us ++ linesU P k f l)
  | [], m, k, f, us, h, _ => by rw [linesM, linesU, List.append_nil]; exact h
  | p :: t, m, k, f, us, h, hb => by
    rw [List.map_cons, List.sum_cons] at hb
    have hs : (0 : Int) ≤ (t.map (fun p : Nat => (p : Int) + 1)).sum := by
      clear hb
      induction t with
      | nil => exact Int.le_refl _
      | cons a t ih => rw [List.map_cons, List.sum_cons]; omega
    have h1 := h.retain ((p : Int) - (f : Int)) [] (by omega)
    have e1 : ((p : Int) - (f : Int)).toNat = p - f := by omega
    rw [e1] at h1
    have hl : (us ++ List.replicate (p - f) (.ret [] : Un)).length = us.length + (p - f) := by simp
    have h2 := h1.retain 1 (P k) (by rw [hl]; omega)
    have h3 := lines_told P t _ (k + 1) (p + 1) _ h2 (by
      have : ((us ++ List.replicate (p - f) (.ret [] : Un)) ++ List.replicate (1 : Int).toNat (.ret (P k) : Un)).length = us.length + (p - f) + 1 := by simp; omega
      rw [this]; omega)
    rw [linesM, linesU]
    have e : us ++ (List.replicate (p - f) (.ret []) ++ (.ret (P k) :: linesU P (k + 1) (p + 1) t)) = (us ++ List.replicate (p - f) (.ret []) ++ List.replicate (1 : Int).toNat (.ret (P k))) ++ linesU P (k + 1) (p + 1) t := by
      show _ = (us ++ List.replicate (p - f) (.ret []) ++ [.ret (P k)]) ++ _
      simp
    rw [e]; exact h3
theorem lines_bnd (P : Nat → List Ch) {S : Nat} (hP : ∀ k, (P k).length ≤ S) : ∀ (l : List Nat) (m : Mk) (k f K : Nat), MkB m K S → MkB (linesM P m k f l) (K + 4 * l.length) S
  | [], m, k, f, K, h => h
  | p :: t, m, k, f, K, h => by
    have h1 := (h.retain ((p : Int) - (f : Int)) (p := []) (Nat.zero_le _)).retain 1 (hP k)
    have h2 := lines_bnd P hP t _ (k + 1) (p + 1) _ h1
    rw [linesM]
    exact h2.mono (by simp; omega) (Nat.le_refl _)
theorem lines_snoc (P : Nat → List Ch) : ∀ (l : List Nat) (m : Mk) (k f p : Nat), linesM P m k f (l ++ [p]) = mkRetain (mkRetain (linesM P m k f l) ((p : Int) - ((match l.getLast? with | none => f | some q => q + 1 : Nat) : Int)) []) 1 (P (k + l.length))
  | [], m, k, f, p => rfl
  | q :: t, m, k, f, p => by
    have ih := lines_snoc P t (mkRetain (mkRetain m ((q : Int) - (f : Int)) []) 1 (P k)) (k + 1) (q + 1) p
    rw [List.cons_append, linesM, ih, linesM]
    have e1 : k + 1 + t.length = k + (q :: t).length := by simp; omega
    rw [e1]
    congr 2
    cases t with
    | nil => rfl
    | cons a t =>
      have : (q :: a :: t).getLast? = (a :: t).getLast? := by simp [List.getLast?_cons_cons]
      rw [this]
      cases h : (a :: t).getLast? with
      | none => simp at h
      | some z => rfl
end Go.Proofs.YtbdkbfoplpociaaGreatDoor
namespace Go.Proofs.YtbdkbfoplpociaaGreatDoor
open Go.RowKit
set_option linter.unusedVariables false
set_option linter.unusedSimpArgs false

theorem lines_ok (P : Nat → List Ch) (hP : ∀ k, okVs (P k)) : ∀ (l : List Nat) (k f : Nat), ∀ u ∈ linesU P k f l, okUn u
  | [], _, _ => fun u hu => by cases hu
  | p :: t, k, f => fun u hu => by
    rw [linesU] at hu
    rcases List.mem_append.1 hu with hu | hu
    · rw [(List.mem_replicate.1 hu).2]; intro c hc; cases hc
    · rcases List.mem_cons.1 hu with rfl | hu
      · exact hP k
      · exact lines_ok P hP t _ _ u hu
theorem lines_sum : ∀ (l : List Nat), (∀ p ∈ l, p ≤ 2000000000000) → l.length ≤ 100000 → (([] : List Un).length : Int) + (l.map (fun p : Nat => (p : Int) + 1)).sum ≤ 4611686018427387904 := fun l h hl => by
  have key : ∀ l : List Nat, (∀ p ∈ l, p ≤ 2000000000000) → (l.map (fun p : Nat => (p : Int) + 1)).sum ≤ (l.length : Int) * 2000000000001 := by
    intro l
    induction l with
    | nil => intro _; exact Int.le_refl _
    | cons p t ih =>
      intro h
      have h1 := h p (by simp)
      have h2 := ih (fun q hq => h q (List.mem_cons_of_mem _ hq))
      rw [List.map_cons, List.sum_cons, List.length_cons]
      push_cast
      omega
  have := key l h
  have h3 : (l.length : Int) * 2000000000001 ≤ 100000 * 2000000000001 := by omega
  simp only [List.length_nil]
  omega
set_option maxRecDepth 100000 in
set_option maxHeartbeats 3200000 in
theorem linesL_any (b0 : Nat) (A : Option Addr) (n c : Nat) (l : List Nat) (P : Nat → List Ch) (w : World) (hn : n = l.length) (hr : RdInt w w.heap.size A (l.map (fun p : Nat => (p : Int)))) (hb : n ≤ 100000) (hl : ∀ p ∈ l, p ≤ 2000000000000) (hP : ∀ k, (P k).length ≤ 64) (hu : ∀ k, okVs (P k))
    (hcl : ∀ (k : Nat) (w' : World), k < n → Below w.heap.size w w' → Calls Tryz.prog 208 #[.int .i64 (k : Int), .pointer (some ⟨b0, 0, none⟩)] w' fun e w'' => ∃ A c, e = .returned (.slice A (P k).length c) ∧ RdCh w'' w''.heap.size A (P k) ∧ (∀ ad, A = some ad → 0 < (P k).length → ad.block < w.heap.size ∨ w'.heap.size ≤ ad.block) ∧ Below w'.heap.size w' w'') :
    Calls Tryz.prog 161 #[.slice A n c, .func (.func 208) #[] #[.pointer (some ⟨b0, 0, none⟩)]] w (NewOpC (mkU (linesU P 0 0 l)) w) := by
  have N := Lib.hid hn
  have HR := Lib.hid hr
  have HL := Lib.hid hl
  have HP := Lib.hid hP
  have HCL := Lib.hid hcl
  have HUU : Hid (∀ u ∈ linesU P 0 0 l, okUn u) := Lib.hid (lines_ok P hu l 0 0)
  have TD : Hid (Told (linesM P Mk.new 0 0 l) (linesU P 0 0 l)) := Lib.hid (by
    have h := lines_told P l Mk.new 0 0 [] Told.new (lines_sum l hl (by omega))
    rwa [List.nil_append] at h)
  have HB : Hid (∀ i, MkB (linesM P Mk.new 0 0 (l.take i)) (4 * n) 64) := Lib.hid (fun i => by
    have h := lines_bnd P hP (l.take i) Mk.new 0 0 0 (MkB.new 64)
    exact h.mono (by rw [List.length_take]; omega) (Nat.le_refl _))
  clear hn hr hl hP hcl hu
  go_enter Tryz.func161, Tryz.ntmps161
  go_wp2_with (go_at_call 96; refine Hid.out ?_)
  refine Lib.hid ?_
  refine (mkNew_any w).mono ?_
  rintro e w1 ⟨rfl, hm, y1⟩
  have HM := Lib.hid hm
  have Y1 := Lib.hid y1
  clear hm y1
  have hF : ∀ k, k = w.heap.size → w.heap.size ≤ k := fun k hk => by omega
  have HR1 : Hid (RdInt w1 w1.heap.size A (l.map (fun p : Nat => (p : Int))) ∧ OffF (fun k => k = w.heap.size) A (l.map (fun p : Nat => (p : Int))).length) := Lib.hid ⟨HR.out.ext Y1.out, HR.out.offF hF⟩
  go_wp2_with (fail)
  go_loopg [6, 12] n (fun g fv iv wr => ∃ (i : Nat) (F' : Nat → Prop), i ≤ n ∧ g = n - i ∧ iv = .int .i64 (i : Int) ∧ fv = .int .i64 (fromL (l.take i) : Int) ∧ Mkr wr F' w.heap.size (linesM P Mk.new 0 0 (l.take i)) ∧ Grow w1 (fun k => k = w.heap.size) wr F')
  case atStart => exact ⟨0, fun k => k = w.heap.size, by omega, rfl, rfl, rfl, HM.out, Grow.refl _ _⟩
  case round =>
    obtain ⟨i, F', hi, hg, rfl, rfl, hm, gr⟩ := hrel
    have HG := Lib.hid hg
    have HM := Lib.hid hm
    have GR := Lib.hid gr
    clear hg hm gr
    have MB := Lib.hid (HB.out i)
    by_cases hlt : i < n
    · have hlt' : (i : Int) < (n : Int) := by omega
      obtain ⟨q, hq⟩ : ∃ q, l[i]? = some q := ⟨_, List.getElem?_eq_getElem (by have := N.out; omega)⟩
      have htk : l.take (i + 1) = l.take i ++ [q] := by rw [List.take_add_one, hq]; rfl
      have hql := HL.out q (List.mem_of_getElem? hq)
      obtain ⟨ad, pv, hA, _, _, hp1, hc1⟩ := (HR1.out.1.grow GR.out HR1.out.2).el (i := i) (by rw [List.length_map]; have := N.out; omega)
      rw [List.getElem?_map, hq] at hp1
      obtain rfl : (q : Int) = pv := Option.some.inj hp1
      have r0 : wr.cell? (ad.add (i * 1)) = some (.int .i64 (q : Int)) := by have := hc1 0 _ rfl; rwa [add_zero'] at this
      rw [Nat.mul_one] at r0
      obtain ⟨f, hf⟩ : ∃ f, fromL (l.take i) = f := ⟨_, rfl⟩
      have hfb : f ≤ 2000000000001 := by
        rw [← hf]
        unfold fromL
        split
        · omega
        · rename_i z hz
          have := HL.out z (List.mem_of_mem_take (List.mem_of_getLast? hz))
          omega
      have hsub : IntKind.i64.wrap ((q : Int) - (f : Int)) = (q : Int) - (f : Int) := IntWalk.i64_in _ (by omega)
      have hadd : IntKind.i64.wrap ((q : Int) + 1) = (q : Int) + 1 := IntWalk.i64_in _ (by clear hsub; omega)
      have hw2 : IntKind.i64.wrap ((i : Int) + 1) = (i : Int) + 1 := IntWalk.i64_in _ (by clear hsub hadd; omega)
      have LS : Hid (linesM P Mk.new 0 0 (l.take (i + 1)) = mkRetain (mkRetain (linesM P Mk.new 0 0 (l.take i)) ((q : Int) - (f : Int)) []) 1 (P i)) := Lib.hid (by
        rw [htk, lines_snoc]
        have e1 : (l.take i).length = i := by rw [List.length_take]; have := N.out; omega
        rw [e1, Nat.zero_add]
        rw [← hf]
        rfl)
      have HF := Lib.hid hf
      have HTK := Lib.hid htk
      obtain ⟨m1, hm1⟩ : ∃ m, mkRetain (linesM P Mk.new 0 0 (l.take i)) ((q : Int) - (f : Int)) [] = m := ⟨_, rfl⟩
      have MB1 : Hid (MkB m1 (4 * n + 2) 64) := Lib.hid (by rw [← hm1]; exact MB.out.retain _ (Nat.zero_le _))
      have HM1 := Lib.hid hm1
      rw [hm1] at LS
      rw [hf]
      subst hA
      clear hp1 hc1 hq hf htk hm1
      go_wp2_with (go_at_call 121; refine Hid.out ?_)
      refine Lib.hid ?_
      refine (mkRetain_any w.heap.size none ((q : Int) - (f : Int)) 0 0 [] wr F' _ HM.out rfl Rd.nil (fun ad e => by cases e) (by simp) (by have := MB.out.len; clear hsub hadd hw2; omega) (fun o ho => by have := MB.out.gap.2 o ho; omega)).mono ?_
      rw [HM1.out]
      rintro e w2 ⟨rfl, F2, hm2, g2⟩
      have HMA := Lib.hid hm2
      have GA := Lib.hid (GR.out.trans g2)
      have Y2 : Hid (Below w.heap.size w w2) := Lib.hid (Y1.out.trans (GA.out.below (B := w.heap.size) hF Y1.out.size))
      have LW : Hid (∀ k, F2 k → w.heap.size ≤ k) := Lib.hid (GA.out.low (B := w.heap.size) hF Y1.out.size)
      clear hm2 g2
      go_wp2_with (go_at_call 208; refine Hid.out ?_)
      refine Lib.hid ?_
      refine (HCL.out i w2 hlt Y2.out).mono ?_
      rintro e w3 ⟨A9, c9, rfl, rp, ro, y3⟩
      have RP := Lib.hid rp
      have RO : Hid (OffF F2 A9 (P i).length) := Lib.hid (fun az ea hl2 hk => by
        have h1 := LW.out _ hk
        have h2 := HMA.out.lt _ hk
        rcases ro az ea hl2 with h3 | h3 <;> omega)
      have HMB := Lib.hid (HMA.out.below y3)
      have GB := Lib.hid (GA.out.trans (Grow.of y3))
      have PL := HP.out i
      clear rp ro y3
      go_wp2_with (go_at_call 121; refine Hid.out ?_)
      refine Lib.hid ?_
      refine (mkRetain_any w.heap.size A9 1 (P i).length c9 (P i) w3 F2 m1 HMB.out rfl RP.out RO.out (by omega) (by have := MB1.out.len; clear hsub hadd hw2; omega) (fun o ho => by have := MB1.out.gap.2 o ho; omega)).mono ?_
      rw [← LS.out]
      rintro e w4 ⟨rfl, F4, hm4, g4⟩
      have HMC := Lib.hid hm4
      have GC := Lib.hid (GB.out.trans g4)
      clear hm4 g4
      have hfn : fromL (l.take (i + 1)) = q + 1 := by rw [HTK.out]; unfold fromL; rw [List.getLast?_concat]
      go_wp2_with (fail)
      go_roundg (n - (i + 1))
      case measure => have h9 := HG.out; clear hsub hadd hw2; omega
      case rel => exact ⟨i + 1, F4, by omega, rfl, rfl, by rw [hfn]; rfl, HMC.out, GC.out⟩
    · have hlt' : ¬ ((i : Int) < (n : Int)) := by omega
      have e9 : l.take i = l := List.take_of_length_le (by have := N.out; omega)
      rw [e9] at HM MB
      have Y3 := Lib.hid (Y1.out.trans (GR.out.below (B := w.heap.size) hF Y1.out.size))
      go_wp2_with (go_at_call 103; refine Hid.out ?_)
      refine Lib.hid ?_
      refine (mkOps_any w.heap.size wr F' _ HM.out (by have := MB.out.len; omega) (fun o ho => by have := MB.out.gap.2 o ho; omega)).mono ?_
      intro e w4 hN
      have hN2 := NewOps.opC (hN.late Y3.out) TD.out HUU.out MB.out (by omega) (by omega)
      obtain ⟨A8, c8, x8, rfl, hx, ox, yx⟩ := hN2
      have HN : Hid (NewOpC (mkU (linesU P 0 0 l)) w (.returned (.slice A8 x8.length c8)) w4) := Lib.hid ⟨A8, c8, x8, rfl, hx, ox, yx⟩
      clear hN hx ox yx
      go_wp2_with (fail)
      go_ret
      exact HN.out
set_option maxRecDepth 100000 in
set_option maxHeartbeats 3200000 in
theorem linesP_any (b0 : Nat) (A : Option Addr) (n c : Nat) (l : List Nat) (P : Nat → List Ch) (w : World) (hn : n = l.length) (hr : RdInt w w.heap.size A (l.map (fun p : Nat => (p : Int)))) (hb : n ≤ 100000) (hl : ∀ p ∈ l, p ≤ 2000000000000) (hP : ∀ k, (P k).length ≤ 64) (hu : ∀ k, okVs (P k))
    (hcl : ∀ (k : Nat) (w' : World), k < n → Below w.heap.size w w' → Calls Tryz.prog 162 #[.int .i64 (k : Int), .pointer (some ⟨b0, 0, none⟩)] w' fun e w'' => ∃ A c, e = .returned (.slice A (P k).length c) ∧ RdCh w'' w''.heap.size A (P k) ∧ (∀ ad, A = some ad → 0 < (P k).length → ad.block < w.heap.size ∨ w'.heap.size ≤ ad.block) ∧ Below w'.heap.size w' w'') :
    Calls Tryz.prog 161 #[.slice A n c, .func (.func 162) #[] #[.pointer (some ⟨b0, 0, none⟩)]] w (NewOpC (mkU (linesU P 0 0 l)) w) := by
  have N := Lib.hid hn
  have HR := Lib.hid hr
  have HL := Lib.hid hl
  have HP := Lib.hid hP
  have HCL := Lib.hid hcl
  have HUU : Hid (∀ u ∈ linesU P 0 0 l, okUn u) := Lib.hid (lines_ok P hu l 0 0)
  have TD : Hid (Told (linesM P Mk.new 0 0 l) (linesU P 0 0 l)) := Lib.hid (by
    have h := lines_told P l Mk.new 0 0 [] Told.new (lines_sum l hl (by omega))
    rwa [List.nil_append] at h)
  have HB : Hid (∀ i, MkB (linesM P Mk.new 0 0 (l.take i)) (4 * n) 64) := Lib.hid (fun i => by
    have h := lines_bnd P hP (l.take i) Mk.new 0 0 0 (MkB.new 64)
    exact h.mono (by rw [List.length_take]; omega) (Nat.le_refl _))
  clear hn hr hl hP hcl hu
  go_enter Tryz.func161, Tryz.ntmps161
  go_wp2_with (go_at_call 96; refine Hid.out ?_)
  refine Lib.hid ?_
  refine (mkNew_any w).mono ?_
  rintro e w1 ⟨rfl, hm, y1⟩
  have HM := Lib.hid hm
  have Y1 := Lib.hid y1
  clear hm y1
  have hF : ∀ k, k = w.heap.size → w.heap.size ≤ k := fun k hk => by omega
  have HR1 : Hid (RdInt w1 w1.heap.size A (l.map (fun p : Nat => (p : Int))) ∧ OffF (fun k => k = w.heap.size) A (l.map (fun p : Nat => (p : Int))).length) := Lib.hid ⟨HR.out.ext Y1.out, HR.out.offF hF⟩
  go_wp2_with (fail)
  go_loopg [6, 12] n (fun g fv iv wr => ∃ (i : Nat) (F' : Nat → Prop), i ≤ n ∧ g = n - i ∧ iv = .int .i64 (i : Int) ∧ fv = .int .i64 (fromL (l.take i) : Int) ∧ Mkr wr F' w.heap.size (linesM P Mk.new 0 0 (l.take i)) ∧ Grow w1 (fun k => k = w.heap.size) wr F')
  case atStart => exact ⟨0, fun k => k = w.heap.size, by omega, rfl, rfl, rfl, HM.out, Grow.refl _ _⟩
  case round =>
    obtain ⟨i, F', hi, hg, rfl, rfl, hm, gr⟩ := hrel
    have HG := Lib.hid hg
    have HM := Lib.hid hm
    have GR := Lib.hid gr
    clear hg hm gr
    have MB := Lib.hid (HB.out i)
    by_cases hlt : i < n
    · have hlt' : (i : Int) < (n : Int) := by omega
      obtain ⟨q, hq⟩ : ∃ q, l[i]? = some q := ⟨_, List.getElem?_eq_getElem (by have := N.out; omega)⟩
      have htk : l.take (i + 1) = l.take i ++ [q] := by rw [List.take_add_one, hq]; rfl
      have hql := HL.out q (List.mem_of_getElem? hq)
      obtain ⟨ad, pv, hA, _, _, hp1, hc1⟩ := (HR1.out.1.grow GR.out HR1.out.2).el (i := i) (by rw [List.length_map]; have := N.out; omega)
      rw [List.getElem?_map, hq] at hp1
      obtain rfl : (q : Int) = pv := Option.some.inj hp1
      have r0 : wr.cell? (ad.add (i * 1)) = some (.int .i64 (q : Int)) := by have := hc1 0 _ rfl; rwa [add_zero'] at this
      rw [Nat.mul_one] at r0
      obtain ⟨f, hf⟩ : ∃ f, fromL (l.take i) = f := ⟨_, rfl⟩
      have hfb : f ≤ 2000000000001 := by
        rw [← hf]
        unfold fromL
        split
        · omega
        · rename_i z hz
          have := HL.out z (List.mem_of_mem_take (List.mem_of_getLast? hz))
          omega
      have hsub : IntKind.i64.wrap ((q : Int) - (f : Int)) = (q : Int) - (f : Int) := IntWalk.i64_in _ (by omega)
      have hadd : IntKind.i64.wrap ((q : Int) + 1) = (q : Int) + 1 := IntWalk.i64_in _ (by clear hsub; omega)
      have hw2 : IntKind.i64.wrap ((i : Int) + 1) = (i : Int) + 1 := IntWalk.i64_in _ (by clear hsub hadd; omega)
      have LS : Hid (linesM P Mk.new 0 0 (l.take (i + 1)) = mkRetain (mkRetain (linesM P Mk.new 0 0 (l.take i)) ((q : Int) - (f : Int)) []) 1 (P i)) := Lib.hid (by
        rw [htk, lines_snoc]
        have e1 : (l.take i).length = i := by rw [List.length_take]; have := N.out; omega
        rw [e1, Nat.zero_add]
        rw [← hf]
        rfl)
      have HF := Lib.hid hf
      have HTK := Lib.hid htk
      obtain ⟨m1, hm1⟩ : ∃ m, mkRetain (linesM P Mk.new 0 0 (l.take i)) ((q : Int) - (f : Int)) [] = m := ⟨_, rfl⟩
      have MB1 : Hid (MkB m1 (4 * n + 2) 64) := Lib.hid (by rw [← hm1]; exact MB.out.retain _ (Nat.zero_le _))
      have HM1 := Lib.hid hm1
      rw [hm1] at LS
      rw [hf]
      subst hA
      clear hp1 hc1 hq hf htk hm1
      go_wp2_with (go_at_call 121; refine Hid.out ?_)
      refine Lib.hid ?_
      refine (mkRetain_any w.heap.size none ((q : Int) - (f : Int)) 0 0 [] wr F' _ HM.out rfl Rd.nil (fun ad e => by cases e) (by simp) (by have := MB.out.len; clear hsub hadd hw2; omega) (fun o ho => by have := MB.out.gap.2 o ho; omega)).mono ?_
      rw [HM1.out]
      rintro e w2 ⟨rfl, F2, hm2, g2⟩
      have HMA := Lib.hid hm2
      have GA := Lib.hid (GR.out.trans g2)
      have Y2 : Hid (Below w.heap.size w w2) := Lib.hid (Y1.out.trans (GA.out.below (B := w.heap.size) hF Y1.out.size))
      have LW : Hid (∀ k, F2 k → w.heap.size ≤ k) := Lib.hid (GA.out.low (B := w.heap.size) hF Y1.out.size)
      clear hm2 g2
      go_wp2_with (go_at_call 162; refine Hid.out ?_)
      refine Lib.hid ?_
      refine (HCL.out i w2 hlt Y2.out).mono ?_
      rintro e w3 ⟨A9, c9, rfl, rp, ro, y3⟩
      have RP := Lib.hid rp
      have RO : Hid (OffF F2 A9 (P i).length) := Lib.hid (fun az ea hl2 hk => by
        have h1 := LW.out _ hk
        have h2 := HMA.out.lt _ hk
        rcases ro az ea hl2 with h3 | h3 <;> omega)
      have HMB := Lib.hid (HMA.out.below y3)
      have GB := Lib.hid (GA.out.trans (Grow.of y3))
      have PL := HP.out i
      clear rp ro y3
      go_wp2_with (go_at_call 121; refine Hid.out ?_)
      refine Lib.hid ?_
      refine (mkRetain_any w.heap.size A9 1 (P i).length c9 (P i) w3 F2 m1 HMB.out rfl RP.out RO.out (by omega) (by have := MB1.out.len; clear hsub hadd hw2; omega) (fun o ho => by have := MB1.out.gap.2 o ho; omega)).mono ?_
      rw [← LS.out]
      rintro e w4 ⟨rfl, F4, hm4, g4⟩
      have HMC := Lib.hid hm4
      have GC := Lib.hid (GB.out.trans g4)
      clear hm4 g4
      have hfn : fromL (l.take (i + 1)) = q + 1 := by rw [HTK.out]; unfold fromL; rw [List.getLast?_concat]
      go_wp2_with (fail)
      go_roundg (n - (i + 1))
      case measure => have h9 := HG.out; clear hsub hadd hw2; omega
      case rel => exact ⟨i + 1, F4, by omega, rfl, rfl, by rw [hfn]; rfl, HMC.out, GC.out⟩
    · have hlt' : ¬ ((i : Int) < (n : Int)) := by omega
      have e9 : l.take i = l := List.take_of_length_le (by have := N.out; omega)
      rw [e9] at HM MB
      have Y3 := Lib.hid (Y1.out.trans (GR.out.below (B := w.heap.size) hF Y1.out.size))
      go_wp2_with (go_at_call 103; refine Hid.out ?_)
      refine Lib.hid ?_
      refine (mkOps_any w.heap.size wr F' _ HM.out (by have := MB.out.len; omega) (fun o ho => by have := MB.out.gap.2 o ho; omega)).mono ?_
      intro e w4 hN
      have hN2 := NewOps.opC (hN.late Y3.out) TD.out HUU.out MB.out (by omega) (by omega)
      obtain ⟨A8, c8, x8, rfl, hx, ox, yx⟩ := hN2
      have HN : Hid (NewOpC (mkU (linesU P 0 0 l)) w (.returned (.slice A8 x8.length c8)) w4) := Lib.hid ⟨A8, c8, x8, rfl, hx, ox, yx⟩
      clear hN hx ox yx
      go_wp2_with (fail)
      go_ret
      exact HN.out
end Go.Proofs.YtbdkbfoplpociaaGreatDoor
namespace Go.Proofs.YtbdkbfoplpociaaGreatDoor
open Go.RowKit
set_option linter.unusedVariables false
set_option linter.unusedSimpArgs false

/-- a slice of changes in a slice of slices -/
structure CX where
  A : Option Addr
  c : Nat
  l : List Ch
def CX.enc (x : CX) : List Value := [.slice x.A x.l.length x.c]
/-- the k-th of some lists; none, if there is none -/
def atX (L : List CX) (k : Nat) : List Ch := ((L[k]?).map (·.l)).getD []
/-- where it lies -/
def inX (L : List CX) (k : Nat) (A : Option Addr) : Prop := (A = none ∧ atX L k = []) ∨ ∃ z ∈ L, A = z.A ∧ atX L k = z.l
/-- what nth answers -/
def NthOut (L : List CX) (k : Nat) (w : World) (e : Ending) (w' : World) : Prop := ∃ A' c', e = .returned (.slice A' (atX L k).length c') ∧ inX L k A' ∧ Below w.heap.size w w'
theorem nthC_any (A : Option Addr) (n c k : Nat) (L : List CX) (w : World) (hn : n = L.length) (h : Rd CX.enc 1 w w.heap.size A L) (hb : n ≤ 1000000) (hk : k ≤ 1000000) :
    Calls Tryz.prog 209 #[.slice A n c, .int .i64 (k : Int)] w (NthOut L k w) := by
  by_cases hlt : k < n
  · have hlt' : (k : Int) < (n : Int) := by omega
    obtain ⟨ad, z, rfl, _, _, hx, hc⟩ := h.el (i := k) (by omega)
    have r0 : w.cell? (ad.add (k * 1)) = some (.slice z.A z.l.length z.c) := by have := hc 0 _ rfl; rwa [add_zero'] at this
    rw [Nat.mul_one] at r0
    have ha : atX L k = z.l := by unfold atX; rw [hx]; rfl
    have HA := Lib.hid ha
    have HX := Lib.hid (List.mem_of_getElem? hx)
    have N := Lib.hid hn
    clear hx hc ha hn h
    go_enter Tryz.func209, Tryz.ntmps209
    go_wp2_with (fail)
    go_ret
    unfold NthOut
    refine ⟨z.A, z.c, ?_, .inr ⟨z, HX.out, rfl, HA.out⟩, Below.refl _ _⟩
    rw [HA.out]
    rfl
  · have hlt' : ¬ (k : Int) < (n : Int) := by omega
    have ha : atX L k = [] := by unfold atX; rw [List.getElem?_eq_none (by omega)]; rfl
    have HA := Lib.hid ha
    clear ha hn h
    go_enter Tryz.func209, Tryz.ntmps209
    go_wp2_with (fail)
    go_ret
    unfold NthOut
    refine ⟨none, 0, ?_, .inl ⟨rfl, HA.out⟩, Below.refl _ _⟩
    rw [HA.out]
    rfl
theorem linesC_any (b0 : Nat) (A : Option Addr) (n c k : Nat) (L : List CX) (w : World) (hx : w.heap[b0]? = some (.cells #[.slice A n c] 186 (0, 0))) (hn : n = L.length) (h : Rd CX.enc 1 w w.heap.size A L) (hb : n ≤ 1000000) (hk : k ≤ 1000000) :
    Calls Tryz.prog 208 #[.int .i64 (k : Int), .pointer (some ⟨b0, 0, none⟩)] w (NthOut L k w) := by
  have d0 := box_1 hx
  have H := Lib.hid h
  have N := Lib.hid hn
  clear hx h hn
  go_enter Tryz.func208, Tryz.ntmps208
  go_wp2_with (go_at_call 209; refine Hid.out ?_)
  refine Lib.hid ?_
  refine (nthC_any A n c k L w N.out H.out hb hk).mono ?_
  rintro e w2 ⟨A', c', rfl, hi, y⟩
  have HI := Lib.hid hi
  clear hi
  go_wp2_with (fail)
  go_ret
  unfold NthOut
  exact ⟨A', c', rfl, HI.out, y⟩
set_option maxHeartbeats 1600000 in
theorem lines_any (A A2 : Option Addr) (n c n2 c2 : Nat) (l : List Nat) (L : List CX) (w : World) (hn : n = l.length) (hr : RdInt w w.heap.size A (l.map (fun p : Nat => (p : Int)))) (hb : n ≤ 100000) (hl : ∀ p ∈ l, p ≤ 2000000000000)
    (hn2 : n2 = L.length) (h2 : Rd CX.enc 1 w w.heap.size A2 L) (hb2 : n2 ≤ 1000000) (hp : ∀ z ∈ L, RdCh w w.heap.size z.A z.l ∧ z.l.length ≤ 64 ∧ okVs z.l) :
    Calls Tryz.prog 152 #[.slice A n c, .slice A2 n2 c2] w (NewOpC (mkU (linesU (atX L) 0 0 l)) w) := by
  have y := ext_alloc w (.cells #[.slice A2 n2 c2] 186)
  have hbx := heap_alloc_new w (.cells #[.slice A2 n2 c2] 186)
  have at_all : ∀ k, (atX L k).length ≤ 64 ∧ okVs (atX L k) := fun k => by
    unfold atX
    cases e : L[k]? with
    | none => exact ⟨Nat.zero_le _, fun c hc => by cases hc⟩
    | some z => exact (hp z (List.mem_of_getElem? e)).2
  have AA := Lib.hid at_all
  have HBX := Lib.hid hbx
  have HR := Lib.hid (hr.ext y)
  have H2 := Lib.hid (h2.ext y)
  have HP := Lib.hid hp
  have Y := Lib.hid y
  have N := Lib.hid hn
  have N2 := Lib.hid hn2
  have HL := Lib.hid hl
  clear hbx hr h2 hp y at_all hn hn2 hl
  go_enter Tryz.func152, Tryz.ntmps152
  go_wp2_with (go_at_call 161; refine Hid.out ?_)
  refine Lib.hid ?_
  refine (linesL_any w.heap.size A n c l (atX L) _ N.out HR.out hb HL.out (fun k => (AA.out k).1) (fun k => (AA.out k).2) (fun k w' hk yk => ?_)).mono ?_
  · have hx := (yk.block _ (lt_of_some HBX.out)).trans HBX.out
    refine (linesC_any w.heap.size A2 n2 c2 k L w' hx N2.out (H2.out.ext yk) hb2 (by omega)).mono ?_
    rintro e w'' ⟨A', c', rfl, hi, y2⟩
    have yw := Y.out.trans (yk.mono Y.out.size)
    rcases hi with ⟨rfl, h0⟩ | ⟨z, hz, rfl, hz2⟩
    · exact ⟨none, c', rfl, by rw [h0]; exact Rd.nil, fun ad e => (by cases e), y2⟩
    · have hpz := (HP.out z hz).1
      refine ⟨z.A, c', rfl, by rw [hz2]; exact (hpz.ext yw).ext y2, fun ad e hl => ?_, y2⟩
      rw [hz2] at hl
      obtain ⟨ad', e', hb', _⟩ := hpz hl
      rw [e] at e'; injection e' with e'; subst e'
      exact .inl (by have := Y.out.size; omega)
  · intro e w4 hN
    obtain ⟨A8, c8, x8, rfl, hx, ox, yx⟩ := hN
    have HN : Hid (NewOpC (mkU (linesU (atX L) 0 0 l)) w (.returned (.slice A8 x8.length c8)) w4) := Lib.hid ⟨A8, c8, x8, rfl, hx, ox, Y.out.trans (yx.mono Y.out.size)⟩
    clear hx ox yx
    go_wp2_with (fail)
    go_ret
    exact HN.out
end Go.Proofs.YtbdkbfoplpociaaGreatDoor
