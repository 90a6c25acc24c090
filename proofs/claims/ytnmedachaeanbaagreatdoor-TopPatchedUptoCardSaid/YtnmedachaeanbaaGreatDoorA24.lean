/- Merged texts. -/
import Derived.Test.YtnmedachaeanbaaGreatDoorA21
namespace Go.Proofs.YtnmedachaeanbaaGreatDoor
set_option maxRecDepth 100000
set_option maxHeartbeats 3200000
open Go.RowKit
open Go.Lib (hid)
set_option linter.unusedVariables false
set_option linter.unusedSimpArgs false
theorem Z6p (b1 : Nat) (pr : Ch → Bool) (A : Option Addr) (n c : Nat) (l : List Ch) (w : World) (hn : n = l.length) (h : RdCh w w.heap.size A l) (hb : n ≤ 140737488355328)
 (hcl : ∀ (x1 x2 x3 x4 : Int) (x6 : Bool) (x5 : ByteArray) (w' : World), Below w.heap.size w w' → Calls Tryz.prog 222 #[.agg #[.int .i64 x1, .bool x6, .int .u8 x2, .int .i64 x3, .int .u64 x4, .string x5], .pointer (some ⟨b1, 0, none⟩)] w' fun e w'' => e = .returned (.bool (pr ⟨x1, x6, ⟨x2, x3, x4, x5⟩⟩)) ∧ Below w'.heap.size w' w'') :
 Calls Tryz.prog 229 #[.slice A n c, .func (.func 222) #[] #[.pointer (some ⟨b1, 0, none⟩)]] w fun e w' => ∃ i : Int, e = .returned (.int .i64 i) ∧ IdxOut pr l i ∧ Below w.heap.size w w' := by
 have N := hid hn
 have HCL := hid hcl
 clear hn hcl
 go_enter Tryz.func229, Tryz.ntmps229
 go_wp2_with (fail)
 go_loopg [8] n (fun g iv wr => ∃ i : Nat, i ≤ n ∧ g = n - i ∧ iv = .int .i64 i ∧ Below w.heap.size w wr ∧ Hid (∀ x ∈ l.take i, pr x = false))
 case atStart => exact ⟨0, by omega, rfl, rfl, Below.refl _ _, hid (by simp)⟩
 case round =>
  obtain ⟨i, hi, hg, rfl, hbw, HI⟩ := hrel
  have HG := hid hg
  clear hg
  by_cases hlt : i < n
  ·have hil : i < l.length := by have := N.out; omega
   obtain ⟨ad, x, rfl, _, _, hx, hc1⟩ := (h.below hbw (Nat.le_refl _)).el hil
   have HT : Hid (l.take (i + 1) = l.take i ++ [x]) := hid (by rw [List.take_add_one, hx]; rfl)
   have HX := hid hx
   clear hx hil
   obtain ⟨x1, x6, x2, x3, x4, x5⟩ := x
   obtain ⟨r0, r1, r2, r3, r4, r5⟩ := Z0w hc1
   clear hc1
   by_cases hp : pr ⟨x1, x6, ⟨x2, x3, x4, x5⟩⟩ = true
   ·go_wp2_with (go_at_call 222; refine (HCL.out _ _ _ _ _ _ _ hbw).mono ?_; rintro e w' ⟨rfl, hb'⟩)
    go_ret
    exact ⟨i, rfl, .inr ⟨i, rfl, by have := N.out; omega, HI.out, _, HX.out, hp⟩, hbw.trans (hb'.mono hbw.size)⟩
   ·have hp' : pr ⟨x1, x6, ⟨x2, x3, x4, x5⟩⟩ = false := by simpa using hp
    clear hp
    go_wp2_with (go_at_call 222; refine (HCL.out _ _ _ _ _ _ _ hbw).mono ?_; rintro e w' ⟨rfl, hb'⟩)
    have hbw' := hbw.trans (hb'.mono hbw.size)
    go_roundg (n - (i + 1))
    case measure => have := HG.out; omega
    case rel =>
     refine ⟨i + 1, by omega, rfl, by go_num, hbw', hid ?_⟩
     intro y hy
     rw [HT.out] at hy
     rcases List.mem_append.1 hy with hy | hy
     ·exact HI.out y hy
     ·simp at hy; rw [hy]; exact hp'
  ·go_wp2_with (fail)
   go_ret
   refine ⟨-1, rfl, .inl ⟨rfl, ?_⟩, hbw⟩
   have h1 := HI.out
   rw [List.take_of_length_le (by have := N.out; omega)] at h1
   exact h1
theorem Z7M (b1 : Nat) (pr : Ch → Bool) (A : Option Addr) (n c : Nat) (l : List Ch) (w : World) (hn : n = l.length) (h : RdCh w w.heap.size A l) (hb : n ≤ 140737488355328)
 (hcl : ∀ (x1 x2 x3 x4 : Int) (x6 : Bool) (x5 : ByteArray) (w' : World), Below w.heap.size w w' → Calls Tryz.prog 220 #[.agg #[.int .i64 x1, .bool x6, .int .u8 x2, .int .i64 x3, .int .u64 x4, .string x5], .pointer (some ⟨b1, 0, none⟩)] w' fun e w'' => e = .returned (.bool (pr ⟨x1, x6, ⟨x2, x3, x4, x5⟩⟩)) ∧ Below w'.heap.size w' w'') :
 Calls Tryz.prog 229 #[.slice A n c, .func (.func 220) #[] #[.pointer (some ⟨b1, 0, none⟩)]] w fun e w' => ∃ i : Int, e = .returned (.int .i64 i) ∧ IdxOut pr l i ∧ Below w.heap.size w w' := by
 have N := hid hn
 have HCL := hid hcl
 clear hn hcl
 go_enter Tryz.func229, Tryz.ntmps229
 go_wp2_with (fail)
 go_loopg [8] n (fun g iv wr => ∃ i : Nat, i ≤ n ∧ g = n - i ∧ iv = .int .i64 i ∧ Below w.heap.size w wr ∧ Hid (∀ x ∈ l.take i, pr x = false))
 case atStart => exact ⟨0, by omega, rfl, rfl, Below.refl _ _, hid (by simp)⟩
 case round =>
  obtain ⟨i, hi, hg, rfl, hbw, HI⟩ := hrel
  have HG := hid hg
  clear hg
  by_cases hlt : i < n
  ·have hil : i < l.length := by have := N.out; omega
   obtain ⟨ad, x, rfl, _, _, hx, hc1⟩ := (h.below hbw (Nat.le_refl _)).el hil
   have HT : Hid (l.take (i + 1) = l.take i ++ [x]) := hid (by rw [List.take_add_one, hx]; rfl)
   have HX := hid hx
   clear hx hil
   obtain ⟨x1, x6, x2, x3, x4, x5⟩ := x
   obtain ⟨r0, r1, r2, r3, r4, r5⟩ := Z0w hc1
   clear hc1
   by_cases hp : pr ⟨x1, x6, ⟨x2, x3, x4, x5⟩⟩ = true
   ·go_wp2_with (go_at_call 220; refine (HCL.out _ _ _ _ _ _ _ hbw).mono ?_; rintro e w' ⟨rfl, hb'⟩)
    go_ret
    exact ⟨i, rfl, .inr ⟨i, rfl, by have := N.out; omega, HI.out, _, HX.out, hp⟩, hbw.trans (hb'.mono hbw.size)⟩
   ·have hp' : pr ⟨x1, x6, ⟨x2, x3, x4, x5⟩⟩ = false := by simpa using hp
    clear hp
    go_wp2_with (go_at_call 220; refine (HCL.out _ _ _ _ _ _ _ hbw).mono ?_; rintro e w' ⟨rfl, hb'⟩)
    have hbw' := hbw.trans (hb'.mono hbw.size)
    go_roundg (n - (i + 1))
    case measure => have := HG.out; omega
    case rel =>
     refine ⟨i + 1, by omega, rfl, by go_num, hbw', hid ?_⟩
     intro y hy
     rw [HT.out] at hy
     rcases List.mem_append.1 hy with hy | hy
     ·exact HI.out y hy
     ·simp at hy; rw [hy]; exact hp'
  ·go_wp2_with (fail)
   go_ret
   refine ⟨-1, rfl, .inl ⟨rfl, ?_⟩, hbw⟩
   have h1 := HI.out
   rw [List.take_of_length_le (by have := N.out; omega)] at h1
   exact h1
theorem Z6E (b1 : Nat) (pr : Ch → Bool) (A : Option Addr) (n c base : Nat) (l : List Ch) (w : World) (hown : OwCh w base (.slice A n c) l) (hbase : base ≤ w.heap.size) (hb : n ≤ 100000000) (hn : n = l.length)
 (hcl : ∀ (x1 x2 x3 x4 : Int) (x6 : Bool) (x5 : ByteArray) (w' : World), Below base w w' → Calls Tryz.prog 220 #[.agg #[.int .i64 x1, .bool x6, .int .u8 x2, .int .i64 x3, .int .u64 x4, .string x5], .pointer (some ⟨b1, 0, none⟩)] w' fun e w'' => e = .returned (.bool (pr ⟨x1, x6, ⟨x2, x3, x4, x5⟩⟩)) ∧ Below w'.heap.size w' w'') :
 Calls Tryz.prog 144 #[.slice A n c, .func (.func 220) #[] #[.pointer (some ⟨b1, 0, none⟩)]] w fun e w' =>
  ∃ A' c', e = .returned (.slice A' (l.filter (fun x => !pr x)).length c') ∧ OwCh w' base (.slice A' (l.filter (fun x => !pr x)).length c') (l.filter (fun x => !pr x)) ∧ Below base w w' := by
 have N := hid hn
 have HCL := hid hcl
 have hcap := hown.cap
 have hlc : n ≤ c := by rw [hn]; exact hcap.1
 have hcm : c ≤ 2 ^ 63 - 1 := hcap.2
 clear hn hcl hcap
 generalize hR : l.filter (fun x => !pr x) = R
 have HR := hid hR
 clear hR
 go_enter Tryz.func144, Tryz.ntmps144
 go_wp2_with (go_at_call 229; refine Hid.out ?_)
 refine hid ?_
 refine (Z7M b1 pr A n c l w N.out (hown.rd Ch.enc_len) (by omega) (fun x1 x2 x3 x4 x6 x5 w' hb' => HCL.out x1 x2 x3 x4 x6 x5 w' (hb'.mono hbase))).mono ?_
 rintro e w1 ⟨ix, rfl, hix, hb1⟩
 have hbw1 : Below base w w1 := hb1.mono hbase
 have hown1 := hown.below hb1 (Nat.le_refl _)
 have hbase1 : base ≤ w1.heap.size := Nat.le_trans hbase hb1.size
 clear hown hb1
 rcases hix with ⟨rfl, hall⟩ | ⟨i0, rfl, hi0, hpre, x0, hx0, hpx0⟩
 ·have hRl : R = l := by
   rw [← HR.out]
   exact List.filter_eq_self.2 (fun x hx => by simp [hall x hx])
  have HRL := hid hRl
  clear hRl hall
  go_wp2_with (fail)
  go_ret
  refine ⟨A, c, ?_, ?_, hbw1⟩
  ·rw [HRL.out, ← N.out]; rfl
  ·rw [HRL.out, ← N.out]; exact hown1
 ·have hne : ((i0 : Int) == -1) = false := beq_eq_false_iff_ne.2 (by omega)
  have hi0n : i0 < n := by rw [N.out]; exact hi0
  have hst : Hid (l.take i0 = (l.take (i0 + 1)).filter (fun x => !pr x)) := hid (by
   rw [List.take_add_one, hx0, List.filter_append, List.filter_eq_self.2 (fun x hx => by simp [hpre x hx])]
   simp [hpx0])
  clear hpre hx0 hpx0 hi0
  go_wp2_with (fail)
  go_loopg [5, 6] (n - (i0 + 1)) (fun g iv jv wr => ∃ (i j : Nat) (m : List Ch), i < j ∧ j ≤ n ∧ g = n - j ∧ iv = .int .i64 i ∧ jv = .int .i64 j ∧ OwCh wr base (.slice A n c) m ∧ base ≤ wr.heap.size ∧ Below base w wr ∧
   Hid (m.length = n ∧ m.drop j = l.drop j ∧ m.take i = (l.take j).filter (fun x => !pr x)))
  case atStart => exact ⟨i0, i0 + 1, l, by omega, by omega, rfl, rfl, by go_num, hown1, hbase1, hbw1, hid ⟨N.out.symm, rfl, hst.out⟩⟩
  case round =>
   clear hown1 hbase1 hbw1 hst hne hi0n
   obtain ⟨i, j, m, hij, hj, hg, rfl, rfl, hown, hbs, hbw, HI⟩ := hrel
   have HG := hid hg
   clear hg
   by_cases hlt : j < n
   ·have hjm : j < m.length := by have := HI.out.1; omega
    obtain ⟨ad, x, rfl, _, hdm, hx, hc1⟩ := (hown.rd Ch.enc_len).el hjm
    have HX : Hid (l.take (j + 1) = l.take j ++ [x] ∧ m.drop (j + 1) = l.drop (j + 1)) := hid (by
     obtain ⟨h1, h2, h3⟩ := HI.out
     have h4 : l[j]? = some x := by
      have := congrArg (fun t => t[0]?) h2
      simp only [List.getElem?_drop, Nat.add_zero] at this
      rw [← this, hx]
     refine ⟨by rw [List.take_add_one, h4]; rfl, ?_⟩
     have := congrArg (fun t => t.drop 1) h2
     simpa [List.drop_drop] using this)
    clear hdm hx hjm
    obtain ⟨x1, x6, x2, x3, x4, x5⟩ := x
    obtain ⟨r0, r1, r2, r3, r4, r5⟩ := Z0w hc1
    clear hc1
    have hbx0 := heap_alloc_new wr (.cells #[.int .i64 x1, .bool x6, .int .u8 x2, .int .i64 x3, .int .u64 x4, .string x5] 75)
    have hbwA := hbw.alloc hbs (.cells #[.int .i64 x1, .bool x6, .int .u8 x2, .int .i64 x3, .int .u64 x4, .string x5] 75)
    have hownA := hown.alloc (.cells #[.int .i64 x1, .bool x6, .int .u8 x2, .int .i64 x3, .int .u64 x4, .string x5] 75)
    have hsz := Z1R wr (.cells #[.int .i64 x1, .bool x6, .int .u8 x2, .int .i64 x3, .int .u64 x4, .string x5] 75)
    have hwbA : ∀ k, wb (.slice (some ad) n c) = some k → k < wr.heap.size := fun k hk => (hown.wb_lt k hk).2
    by_cases hp : pr ⟨x1, x6, ⟨x2, x3, x4, x5⟩⟩ = true
    ·have HBX0 := hid hbx0
     have HWB := hid hwbA
     have HSZ := hid hsz
     clear hbx0 hwbA hsz
     go_wp2_with (go_at_call 220; refine (HCL.out _ _ _ _ _ _ _ hbwA).mono ?_; rintro e w2 ⟨rfl, hb2⟩)
     have hbw2 : Below base w w2 := hbwA.trans (hb2.mono (by rw [← HSZ.out]; omega))
     have hown2 := hownA.below hb2 (Nat.le_refl _)
     have hbs2 : base ≤ w2.heap.size := by have := hb2.size; rw [← HSZ.out] at this; omega
     go_roundg (n - (j + 1))
     case measure => have := HG.out; omega
     case rel =>
      obtain ⟨h1, h2, h3⟩ := HI.out
      obtain ⟨h4, h5⟩ := HX.out
      exact ⟨i, j + 1, m, by omega, by omega, rfl, rfl, by go_num, hown2, hbs2, hbw2, hid ⟨h1, h5, by rw [h4, List.filter_append, h3]; simp [hp]⟩⟩
    ·have hp' : pr ⟨x1, x6, ⟨x2, x3, x4, x5⟩⟩ = false := by simpa using hp
     clear hp
     have HBX0 := hid hbx0
     have HWB := hid hwbA
     have HSZ := hid hsz
     clear hbx0 hwbA hsz
     go_wp2_with (go_at_call 220; refine Hid.out ?_)
     refine hid ?_
     refine (HCL.out _ _ _ _ _ _ _ hbwA).mono ?_
     rintro e w2 ⟨rfl, hb2⟩
     have hbw2 : Below base w w2 := hbwA.trans (hb2.mono (by rw [← HSZ.out]; omega))
     have hown2 := hownA.below hb2 (Nat.le_refl _)
     have hbs2 : base ≤ w2.heap.size := by have := hb2.size; rw [← HSZ.out] at this; omega
     have hbx2 := (hb2.block wr.heap.size (by rw [← HSZ.out]; omega)).trans HBX0.out
     obtain ⟨b0, b1, b2, b3, b4, b5⟩ := Z5G hbx2
     have him : i < m.length := by have := HI.out.1; omega
     have hin : i < n := by omega
     clear hbx2
     obtain ⟨i1, hi1, hz1, hz2, hz3⟩ := info_parts Tryz.infoCh
     have I1 := hid hi1
     have Z2 := hid hz2
     clear hi1 hz1 hz2 hz3 hownA hbwA
     go_wp2_with (refine Z2D rfl 75 (.tmp 33) (.tmp 32) rfl rfl i1 I1.out Z2.out Ch.enc_len Ch.enc_one hown2 him ⟨x1, x6, ⟨x2, x3, x4, x5⟩⟩ (cs := #[.int .i64 x1, .bool x6, .int .u8 x2, .int .i64 x3, .int .u64 x4, .string x5]) rfl (p := ad.add (i * 6)) rfl rfl rfl ?_; intro w3 hown3 hg3)
     have hbw3 : Below base w w3 := hbw2.grown hg3 hbs2 (fun k hk => (hown2.wb_lt k hk).1)
     have hbs3 : base ≤ w3.heap.size := Nat.le_trans hbs2 hg3.size
     go_roundg (n - (j + 1))
     case measure => have := HG.out; omega
     case rel =>
      obtain ⟨h1, h2, h3⟩ := HI.out
      obtain ⟨h4, h5⟩ := HX.out
      refine ⟨i + 1, j + 1, m.set i ⟨x1, x6, ⟨x2, x3, x4, x5⟩⟩, by omega, by omega, rfl, by go_num, by go_num, hown3, hbs3, hbw3, hid ⟨by rw [List.length_set]; exact h1, by rw [List.drop_set_of_lt (by omega)]; exact h5, ?_⟩⟩
      rw [h4, List.filter_append, List.take_add_one, List.getElem?_set_self him, List.take_set_of_le (Nat.le_refl i), h3]
      simp [hp']
   ·have hjn : j = n := by omega
    have hm0 := HI.out
    obtain ⟨i1, hi1, hz1, hz2, hz3⟩ := info_parts Tryz.infoCh
    have I1 := hid hi1
    have Z1 := hid hz1
    have hmR : m.take i = R := by
     obtain ⟨h1, h2, h3⟩ := hm0
     rw [h3, ← HR.out, List.take_of_length_le (by have := N.out; omega)]
    have him : i ≤ m.length := by have := hm0.1; omega
    have hiR : i = R.length := by rw [← hmR, List.length_take, Nat.min_eq_left him]
    have HIR := hid hiR
    have HMR := hid hmR
    have HML : Hid (m.length = n) := hid hm0.1
    clear hi1 hz1 hz2 hz3 hmR hiR hm0 hjn
    rcases Nat.lt_or_ge i c with hci | hci
    ·have hne : ¬ c = i := by omega
     go_wp2_with (refine Z02 (i := i) (X := A.map (fun x => x.add (i * 6))) rfl (.tmp 38) _ rfl rfl Tryz.slCh i1 _ I1.out Z1.out rfl (by intro u hu; exact Ch.enc_one ⟨0, false, V.zero⟩ u hu) Ch.enc_len hown him (by exact .inr rfl) (by rw [HML.out]) rfl ?_; intro w3 hown3 hg3)
     have hbw3 : Below base w w3 := hbw.grown hg3 hbs (fun k hk => (hown.wb_lt k hk).1)
     rw [HMR.out] at hown3
     have hri := HIR.out
     subst hri
     go_ret
     exact ⟨A, c, rfl, hown3, hbw3⟩
    ·go_wp2_with (refine Z02 (i := i) (X := A) rfl (.tmp 38) _ rfl rfl Tryz.slCh i1 _ I1.out Z1.out rfl (by intro u hu; exact Ch.enc_one ⟨0, false, V.zero⟩ u hu) Ch.enc_len hown him (by have := HML.out; left; omega) (by rw [HML.out]) rfl ?_; intro w3 hown3 hg3)
     have hbw3 : Below base w w3 := hbw.grown hg3 hbs (fun k hk => (hown.wb_lt k hk).1)
     rw [HMR.out] at hown3
     have hri := HIR.out
     subst hri
     go_ret
     exact ⟨A, c, rfl, hown3, hbw3⟩
theorem IdxOut.any {α : Type} {pr : α → Bool} {l : List α} {i : Int} (h : IdxOut pr l i) : decide (0 ≤ i) = l.any pr := by
 rcases h with ⟨rfl, h⟩ | ⟨j, rfl, hj, _, x, hx, hp⟩
 ·have : l.any pr = false := List.any_eq_false.2 (fun x hx => by simp [h x hx])
  rw [this]; rfl
 ·have : l.any pr = true := List.any_eq_true.2 ⟨x, List.mem_of_getElem? hx, hp⟩
  rw [this]
  simp
theorem Z5k (b1 : Nat) (pr : Ch → Bool) (A : Option Addr) (n c : Nat) (l : List Ch) (w : World) (hn : n = l.length) (h : RdCh w w.heap.size A l) (hb : n ≤ 140737488355328)
 (hcl : ∀ (x1 x2 x3 x4 : Int) (x6 : Bool) (x5 : ByteArray) (w' : World), Below w.heap.size w w' → Calls Tryz.prog 222 #[.agg #[.int .i64 x1, .bool x6, .int .u8 x2, .int .i64 x3, .int .u64 x4, .string x5], .pointer (some ⟨b1, 0, none⟩)] w' fun e w'' => e = .returned (.bool (pr ⟨x1, x6, ⟨x2, x3, x4, x5⟩⟩)) ∧ Below w'.heap.size w' w'') :
 Calls Tryz.prog 221 #[.slice A n c, .func (.func 222) #[] #[.pointer (some ⟨b1, 0, none⟩)]] w fun e w' => e = .returned (.bool (l.any pr)) ∧ Below w.heap.size w w' := by
 have N := hid hn
 have HCL := hid hcl
 clear hn hcl
 generalize hr : l.any pr = r
 have HR := hid hr
 clear hr
 go_enter Tryz.func221, Tryz.ntmps221
 go_wp2_with (go_at_call 229; refine Hid.out ?_)
 refine hid ?_
 refine (Z6p b1 pr A n c l w N.out h hb HCL.out).mono ?_
 rintro e w1 ⟨i, rfl, hi, hb1⟩
 have hd := hi.any
 rw [HR.out] at hd
 clear hi
 go_wp2_with (fail)
 go_ret
 exact ⟨by first | rfl | exact Z0g hd, hb1⟩
theorem Y3h (b : Nat) (ck k a n f : Int) (g : Bool) (s : ByteArray) (w : World) (hc : w.cell? ⟨b, 0, none⟩ = some (.int .i64 ck)) (hbl : b < w.heap.size) :
 Calls Tryz.prog 222 #[.agg #[.int .i64 k, .bool g, .int .u8 a, .int .i64 n, .int .u64 f, .string s], .pointer (some ⟨b, 0, none⟩)] w fun e w' => e = .returned (.bool (k == ck)) ∧ Below w.heap.size w w' := by
 have hne : ¬ b = w.heap.size := by omega
 go_enter Tryz.func222, Tryz.ntmps222
 go_wp2_with (go_quiet (fail))
 go_ret
 exact ⟨rfl, by first | exact Z0c w _ | exact Z0L (Z0c w _) _ | exact Z0a (Z0p w _) (Z0c _ _)⟩
theorem Y6o (b : Nat) (A2 : Option Addr) (n2 c2 : Nat) (q : List Ch) (k a n f : Int) (g : Bool) (s : ByteArray) (w : World) (hn : n2 = q.length) (hbq : n2 ≤ 140737488355328) (hc : w.cell? ⟨b, 0, none⟩ = some (.slice A2 n2 c2)) (hbl : b < w.heap.size) (h : RdCh w w.heap.size A2 q) :
 Calls Tryz.prog 220 #[.agg #[.int .i64 k, .bool g, .int .u8 a, .int .i64 n, .int .u64 f, .string s], .pointer (some ⟨b, 0, none⟩)] w fun e w' => e = .returned (.bool (Z6h q k)) ∧ Below w.heap.size w w' := by
 have hne : ¬ b = w.heap.size := by omega
 have N := hid hn
 clear hn
 go_enter Tryz.func220, Tryz.ntmps220
 go_wp2_with (go_at_call 221; refine Hid.out ?_)
 refine hid ?_
 have hbx := heap_alloc_new w (.cells #[.int .i64 k, .bool g, .int .u8 a, .int .i64 n, .int .u64 f, .string s] 75)
 have hsz := Z1R w (.cells #[.int .i64 k, .bool g, .int .u8 a, .int .i64 n, .int .u64 f, .string s] 75)
 refine (Z5k w.heap.size (fun d => d.key == k) A2 n2 c2 q _ N.out (h.ext (Z0c w _)) hbq ?_).mono ?_
 ·intro x1 x2 x3 x4 x6 x5 w' hb'
  have hbx' := (hb'.block w.heap.size (by omega)).trans hbx
  exact Y3h w.heap.size k x1 x2 x3 x4 x6 x5 w' (Z5G hbx').1 (Z40 hbx')
 ·rintro e w1 ⟨rfl, hb1⟩
  go_wp2_with (fail)
  go_ret
  exact ⟨rfl, Z0a (Z0c w _) hb1⟩
theorem Y41 (A1 A2 : Option Addr) (n1 n2 c1 c2 : Nat) (p q : List Ch) (w : World) (hn1 : n1 = p.length) (hn2 : n2 = q.length) (h1 : RdCh w w.heap.size A1 p) (h2 : RdCh w w.heap.size A2 q) (hb1 : n1 ≤ 100000000) (hb2 : n2 ≤ 100000000) :
 Calls Tryz.prog 134 #[.slice A1 n1 c1, .slice A2 n2 c2] w (Y2p (Z3v p q) w) := by
 have N1 := hid hn1
 have N2 := hid hn2
 clear hn1 hn2
 go_enter Tryz.func134, Tryz.ntmps134
 go_wp2_with (go_at_call 145; refine Hid.out ?_)
 refine hid ?_
 have hbx := heap_alloc_new w (.cells #[.slice A2 n2 c2] 24)
 have y := Z0c w (.cells #[.slice A2 n2 c2] 24)
 have hsz := Z1R w (.cells #[.slice A2 n2 c2] 24)
 refine (Z3T A1 n1 c1 p _ N1.out (h1.ext y) hb1).mono ?_
 rintro e w1 ⟨A, c, rfl, ho, hb⟩
 have N3 : Hid (n1 = p.length) := N1
 rw [← N1.out] at ho ⊢
 have hbx1 := (hb.block w.heap.size (by omega)).trans hbx
 have hbw := Z0a y hb
 have r2 := h2.ext hbw
 have HBX := hid hbx1
 have hszb : w.heap.size < w1.heap.size := Z40 hbx1
 have HB := hid hb
 have hsz1 : (w.alloc (.cells #[.slice A2 n2 c2] 24)).heap.size ≤ w1.heap.size := hb.size
 have HSZ := hid hsz
 have HSZ1 := hid hsz1
 clear hbx hbx1 hb y hsz hsz1
 go_wp2_with (go_at_call 144; refine Hid.out ?_)
 refine hid ?_
 refine (Z6E w.heap.size (fun x => Z6h q x.key) A n1 c _ p w1 ho HSZ1.out hb1 N1.out ?_).mono ?_
 ·intro x1 x2 x3 x4 x6 x5 w' hb'
  have hbx' := (hb'.block w.heap.size (by rw [← HSZ.out]; omega)).trans HBX.out
  have hc : w'.cell? ⟨w.heap.size, 0, none⟩ = some (.slice A2 n2 c2) := cell_of_one hbx'
  have hr : RdCh w' w'.heap.size A2 q := by
   have h3 : Below w.heap.size w w' := hbw.trans (hb'.mono (by rw [← HSZ.out]; omega))
   exact h2.ext h3
  exact Y6o w.heap.size A2 n2 c2 q x1 x2 x3 x4 x6 x5 w' N2.out (by omega) hc (Z40 hbx') hr
 ·rintro e w2 ⟨A', c', rfl, ho2, hb2⟩
  have hbase : w.heap.size ≤ (w.alloc (.cells #[.slice A2 n2 c2] 24)).heap.size := by rw [← HSZ.out]; omega
  have ho3 := ho2.base_le hbase
  have hbw2 := hbw.trans (hb2.mono hbase)
  have e : p.filter (fun x => !Z6h q x.key) = Z3v p q := rfl
  rw [e] at ho3 ⊢
  generalize Z3v p q = R at *
  go_wp2_with (fail)
  go_ret
  exact ⟨A', c', rfl, ho3, hbw2⟩
theorem Z6q (A : Option Addr) (n c : Nat) (x : List OpS) (w : World) (hn : n = x.length) (h : RdOp w w.heap.size A x) (hz : szN x ≤ 2000000) (hz2 : ∀ o ∈ x, o.o.s.length ≤ 1000000 ∧ o.o.p.length ≤ 1000000) :
 Calls Tryz.prog 26 #[.slice A n c] w (NewOps (Z1u (ofM (osOf x))) w) := by
 have N := hid hn
 have HR := hid h.1
 have HP := hid h.2
 have SZ : Hid (∀ o ∈ x, o.o.r.length ≤ 2000000 ∧ o.o.s.length ≤ 1000000 ∧ o.o.p.length ≤ 1000000) := hid (fun o ho => by
  have h1 := Y6d ho
  have h2 := hz2 o ho
  omega)
 have NB : Hid (n ≤ 2000000) := hid (by
  have h1 := Y6c x
  omega)
 have HB : Hid (∀ i, MkB (ofM (osOf (x.take i))) 4000000 1000000) := hid (fun i => by
  have h1 := Y0n (S := 1000000) (x.take i) (fun o ho => ⟨(SZ.out o (List.mem_of_mem_take ho)).2.1, (SZ.out o (List.mem_of_mem_take ho)).2.2⟩)
  have h2 := Y4N x i
  exact h1.mono (by omega) (Nat.le_refl _))
 clear hz2
 clear hn h hz
 go_enter Tryz.func26, Tryz.ntmps26
 go_wp2_with (fail)
 go_step3
 go_wp2_with (go_at_call 62; refine Hid.out ?_)
 refine hid ?_
 refine (Z8p w).mono ?_
 rintro e w1 ⟨rfl, hm, y1⟩
 have HM := hid hm
 have Y1 := hid y1
 clear hm y1
 have hF : ∀ k, k = w.heap.size → w.heap.size ≤ k := fun k hk => by omega
 have HR1 : Hid (Rd OpS.enc 5 w1 w1.heap.size A x ∧ OffF (fun k => k = w.heap.size) A x.length ∧ ∀ o ∈ x, (Z3i w1 w1.heap.size o.Ar o.o.r ∧ OffF (fun k => k = w.heap.size) o.Ar o.o.r.length) ∧ (RdAt w1 w1.heap.size o.As o.o.s ∧ OffF (fun k => k = w.heap.size) o.As o.o.s.length) ∧ (RdCh w1 w1.heap.size o.Ap o.o.p ∧ OffF (fun k => k = w.heap.size) o.Ap o.o.p.length)) :=
  hid ⟨HR.out.ext Y1.out, HR.out.offF hF, fun o ho => ⟨⟨(HP.out o ho).1.ext Y1.out, (HP.out o ho).1.offF hF⟩, ⟨(HP.out o ho).2.1.ext Y1.out, (HP.out o ho).2.1.offF hF⟩, ⟨(HP.out o ho).2.2.ext Y1.out, (HP.out o ho).2.2.offF hF⟩⟩⟩
 go_wp2_with (fail)
 go_step3
 go_wp2_with (fail)
 go_loopg [9] n (fun g iv wr => ∃ (i : Nat) (F' : Nat → Prop), i ≤ n ∧ g = n - i ∧ iv = .int .i64 (i : Int) ∧ Mkr wr F' w.heap.size (ofM (osOf (x.take i))) ∧ Grow w1 (fun k => k = w.heap.size) wr F')
 case atStart => exact ⟨0, fun k => k = w.heap.size, by omega, rfl, rfl, HM.out, Grow.refl _ _⟩
 case round =>
  obtain ⟨i, F', hi, hg, rfl, hm, gr⟩ := hrel
  have HG := hid hg
  have HM := hid hm
  clear hg hm
  by_cases hlt : i < n
  ·have hl1 : i < x.length := by have := N.out; omega
   have hlt' : (i : Int) < (n : Int) := by omega
   obtain ⟨ad, o, rfl, had, _, hx1, hc1⟩ := (HR1.out.1.grow gr HR1.out.2.1).el hl1
   have hom := List.mem_of_getElem? hx1
   have HT : Hid (ofM (osOf (x.take (i + 1))) = tellO (ofM (osOf (x.take i))) o.o) := hid (by
    have e : osOf (x.take (i + 1)) = osOf (x.take i) ++ [o.o] := by unfold osOf; rw [List.take_add_one, hx1]; simp
    rw [e, Y4M])
   obtain ⟨⟨p1, f1⟩, ⟨p2, f2⟩, ⟨p3, f3⟩⟩ := HR1.out.2.2 o hom
   have PR := hid (p1.grow gr f1)
   have PS := hid (p2.grow gr f2)
   have PP := hid (p3.grow gr f3)
   have FP := hid (f3.grow p3 gr)
   have SO := hid (SZ.out o hom)
   have MB := hid (HB.out i)
   obtain ⟨⟨k, nn, r, s, q⟩, Ar, cr, As, cs, Ap, cp⟩ := o
   obtain ⟨z0, z1, z2, z3, z4⟩ := Z0x hc1
   have yb := Z0c wr (.cells #[.int .u8 k, .int .i64 nn, .slice Ar r.length cr, .slice As s.length cs, .slice Ap q.length cp] 36)
   have hbx := heap_alloc_new wr (.cells #[.int .u8 k, .int .i64 nn, .slice Ar r.length cr, .slice As s.length cs, .slice Ap q.length cp] 36)
   obtain ⟨q0, q1, q2, q3, q4⟩ := Z0V hbx
   have Y := hid yb
   have hw2 : IntKind.i64.wrap ((i:Int) + 1) = (i : Int) + 1 := IntWalk.i64_in _ (by have := NB.out; omega)
   clear hx1 hom hl1 hc1 had yb hbx p1 f1 p2 f2 p3 f3
   by_cases hk : k = 1
   ·subst hk
    have HT2 : Hid (ofM (osOf (x.take (i + 1))) = Z0s (ofM (osOf (x.take i))) nn q) := hid HT.out
    go_wp2_with (go_at_call 65; refine Hid.out ?_)
    refine hid ?_
    refine (Z12 w.heap.size Ap nn q.length cp q _ F' (ofM (osOf (x.take i))) (HM.out.below Y.out) rfl (PP.out.ext Y.out) FP.out (by have := SO.out.2.2; omega) (by have := MB.out.len; omega) (fun o ho => by have := (MB.out.gap.2 o ho).2.2; omega)).mono ?_
    rintro e w3 ⟨rfl, F3, hm3, g3⟩
    have gg := gr.trans ((Grow.of Y.out).trans g3)
    rw [← HT2.out] at hm3
    have HM3 := hid hm3
    clear hm3
    go_wp2_with (fail)
    go_roundg (n - (i + 1))
    case measure => have := HG.out; omega
    case rel => exact ⟨i + 1, F3, by omega, rfl, by go_num, HM3.out, gg⟩
   by_cases hk2 : k = 2
   ·have hk := hk2
    clear hk2
    have hk1 : ¬ (2 : Int) = 1 := by decide
    subst hk
    have HT2 : Hid (ofM (osOf (x.take (i + 1))) = Z0F (ofM (osOf (x.take i))) r s) := hid HT.out
    go_wp2_with (go_at_call 64; refine Hid.out ?_)
    refine hid ?_
    refine (Z3t w.heap.size Ar As r.length cr s.length cs r s _ F' (ofM (osOf (x.take i))) (HM.out.below Y.out) rfl rfl (PR.out.ext Y.out) (PS.out.ext Y.out) (by have := SO.out.1; omega) (by have := SO.out.2.1; omega) (by have := MB.out.len; omega) (fun o ho => by obtain ⟨h1, h2, h3⟩ := MB.out.prt o (List.mem_append_right _ ho); exact ⟨by omega, by omega⟩)).mono ?_
    rintro e w3 ⟨rfl, F3, hm3, g3⟩
    have gg := gr.trans ((Grow.of Y.out).trans g3)
    rw [← HT2.out] at hm3
    have HM3 := hid hm3
    clear hm3
    go_wp2_with (fail)
    go_roundg (n - (i + 1))
    case measure => have := HG.out; omega
    case rel => exact ⟨i + 1, F3, by omega, rfl, by go_num, HM3.out, gg⟩
   ·have HT2 : Hid (ofM (osOf (x.take (i + 1))) = Z1G (ofM (osOf (x.take i))) nn) := hid (HT.out.trans (by unfold tellO; rw [if_neg hk, if_neg hk2]))
    have hk' : (k == 1) = false := beq_eq_false_iff_ne.2 hk
    have hk2' : (k == 2) = false := beq_eq_false_iff_ne.2 hk2
    go_wp2_with (go_at_call 63; refine Hid.out ?_)
    refine hid ?_
    refine (Z47 w.heap.size nn _ F' (ofM (osOf (x.take i))) (HM.out.below Y.out)).mono ?_
    rintro e w3 ⟨rfl, F3, hm3, g3⟩
    have gg := gr.trans ((Grow.of Y.out).trans g3)
    rw [← HT2.out] at hm3
    have HM3 := hid hm3
    clear hm3
    go_wp2_with (fail)
    go_roundg (n - (i + 1))
    case measure => have := HG.out; omega
    case rel => exact ⟨i + 1, F3, by omega, rfl, by go_num, HM3.out, gg⟩
  ·have hin : i = n := by omega
   subst hin
   have hlt' : ¬ (i : Int) < (i : Int) := by omega
   have hm := HM.out
   rw [List.take_of_length_le (by rw [← N.out]; exact Nat.le_refl _)] at hm
   have HMF : Hid (Mkr wr F' w.heap.size (ofM (osOf x))) := hid hm
   have BF := hid (HB.out i)
   have EX : Hid (x.take i = x) := hid (List.take_of_length_le (by rw [← N.out]; exact Nat.le_refl _))
   rw [EX.out] at BF
   have y34 := hid (Y1.out.trans (gr.below (B := w.heap.size) hF Y1.out.size))
   clear hm gr
   go_wp2_with (go_at_call 68; refine Hid.out ?_)
   refine hid ?_
   refine (Z8t _ wr F' (ofM (osOf x)) HMF.out (by have := BF.out.len; omega) (fun o ho => by obtain ⟨h1, h2, h3⟩ := BF.out.gap.2 o ho; exact ⟨by omega, by omega, by omega⟩)).mono ?_
   intro e w5 hN
   have hN2 := hN.late y34.out
   obtain ⟨A2, c2, l2, rfl, hM⟩ := hN2
   go_wp2_with (fail)
   go_ret
   exact ⟨A2, c2, l2, rfl, hM⟩
def mayC (l : List Ky) (x y : List OpS) : Int := if mayO l x = 0 ∨ mayO l y = 3 then mayO l y else mayO l x
theorem Y7e {x : List Opd} (h : ∀ o ∈ x, isOp o) (hb : (Z0e x).length ≤ 4000000000) : Z1u (ofM x) = mkU (Z0e x) := by
 have ht := Z8x x Told.new h (by simpa using hb)
 rw [List.nil_append] at ht
 exact Y0q ht
end Go.Proofs.YtnmedachaeanbaaGreatDoor
