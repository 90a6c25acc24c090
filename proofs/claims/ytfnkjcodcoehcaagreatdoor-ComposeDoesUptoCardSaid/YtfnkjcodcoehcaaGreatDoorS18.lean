/- Merged texts: DelPart, Part, CellNew, ApplyCell, EachW, RangeGrow. -/
import Derived.Test.YtfnkjcodcoehcaaGreatDoorS15
import Derived.Test.YtfnkjcodcoehcaaGreatDoorS12
import Derived.Test.YtfnkjcodcoehcaaGreatDoorS14
import Derived.Test.YtfnkjcodcoehcaaGreatDoorS13
import Derived.Test.YtfnkjcodcoehcaaGreatDoorS10
import Derived.Test.YtfnkjcodcoehcaaGreatDoorS16
import Derived.Test.YtfnkjcodcoehcaaGreatDoorS17
import Derived.Deep.RegionHeld3
import Derived.Laws.Rows
import Derived.RangeFuncBox
import Derived.RangeFuncCalls
import Derived.RangeFuncLeaves
import Derived.Shelf.Abstract
import Derived.OwnWalkIn
import Derived.TacticsInMore
import Derived.LoopNIn
import Derived.LoopIn
import Derived.Sort.LoopGhostIn
import Derived.Sort.QuietIn
import Derived.BigRegionIn
namespace Go.Proofs.YtfnkjcodcoehcaaGreatDoor
open Go.RowKit
set_option linter.unusedVariables false
set_option linter.unusedSimpArgs false

set_option maxRecDepth 100000 in
set_option maxHeartbeats 400000 in
theorem indexPart_any (b1 b2 : Nat) (pr : Ch → Bool) (A : Option Addr) (n c : Nat) (l : List Ch) (w : World) (hn : n = l.length) (h : RdCh w w.heap.size A l) (hb : n ≤ 140737488355328)
    (hcl : ∀ (x1 x2 x3 x4 : Int) (x6 : Bool) (x5 : ByteArray) (w' : World), Below w.heap.size w w' → Calls Tryz.prog 169 #[.agg #[.int .i64 x1, .bool x6, .int .u8 x2, .int .i64 x3, .int .u64 x4, .string x5], .pointer (some ⟨b1, 0, none⟩), .pointer (some ⟨b2, 0, none⟩)] w' fun e w'' => e = .returned (.bool (pr ⟨x1, x6, ⟨x2, x3, x4, x5⟩⟩)) ∧ Below w'.heap.size w' w'') :
    Calls Tryz.prog 211 #[.slice A n c, .func (.func 169) #[] #[.pointer (some ⟨b1, 0, none⟩), .pointer (some ⟨b2, 0, none⟩)]] w fun e w' => ∃ i : Int, e = .returned (.int .i64 i) ∧ IdxOut pr l i ∧ Below w.heap.size w w' := by
  have N := Lib.hid hn
  have HCL := Lib.hid hcl
  clear hn hcl
  go_enter Tryz.func211, Tryz.ntmps211
  go_wp2_with (fail)
  go_loopg [8] n (fun g iv wr => ∃ i : Nat, i ≤ n ∧ g = n - i ∧ iv = .int .i64 i ∧ Below w.heap.size w wr ∧ Hid (∀ x ∈ l.take i, pr x = false))
  case atStart => exact ⟨0, by omega, rfl, rfl, Below.refl _ _, Lib.hid (by simp)⟩
  case round =>
    obtain ⟨i, hi, hg, rfl, hbw, HI⟩ := hrel
    have HG := Lib.hid hg
    clear hg
    by_cases hlt : i < n
    · have hil : i < l.length := by have := N.out; omega
      obtain ⟨ad, x, rfl, _, _, hx, hc1⟩ := (h.below hbw (Nat.le_refl _)).el hil
      have HT : Hid (l.take (i + 1) = l.take i ++ [x]) := Lib.hid (by rw [List.take_add_one, hx]; rfl)
      have HX := Lib.hid hx
      clear hx hil
      obtain ⟨x1, x6, x2, x3, x4, x5⟩ := x
      obtain ⟨r0, r1, r2, r3, r4, r5⟩ := ch_cells hc1
      clear hc1
      by_cases hp : pr ⟨x1, x6, ⟨x2, x3, x4, x5⟩⟩ = true
      · go_wp2_with (go_at_call 169; refine (HCL.out _ _ _ _ _ _ _ hbw).mono ?_; rintro e w' ⟨rfl, hb'⟩)
        go_ret
        exact ⟨i, rfl, .inr ⟨i, rfl, by have := N.out; omega, HI.out, _, HX.out, hp⟩, hbw.trans (hb'.mono hbw.size)⟩
      · have hp' : pr ⟨x1, x6, ⟨x2, x3, x4, x5⟩⟩ = false := by simpa using hp
        clear hp
        go_wp2_with (go_at_call 169; refine (HCL.out _ _ _ _ _ _ _ hbw).mono ?_; rintro e w' ⟨rfl, hb'⟩)
        have hbw' := hbw.trans (hb'.mono hbw.size)
        go_roundg (n - (i + 1))
        case measure => have := HG.out; omega
        case rel =>
          refine ⟨i + 1, by omega, rfl, by go_num, hbw', Lib.hid ?_⟩
          intro y hy
          rw [HT.out] at hy
          rcases List.mem_append.1 hy with hy | hy
          · exact HI.out y hy
          · simp at hy; rw [hy]; exact hp'
    · go_wp2_with (fail)
      go_ret
      refine ⟨-1, rfl, .inl ⟨rfl, ?_⟩, hbw⟩
      have h1 := HI.out
      rw [List.take_of_length_le (by have := N.out; omega)] at h1
      exact h1

set_option maxRecDepth 100000 in
set_option maxHeartbeats 1000000 in
theorem deletePart_any (b1 b2 : Nat) (pr : Ch → Bool) (A : Option Addr) (n c base : Nat) (l : List Ch) (w : World) (hown : OwCh w base (.slice A n c) l) (hbase : base ≤ w.heap.size) (hb : n ≤ 100000000) (hn : n = l.length)
    (hcl : ∀ (x1 x2 x3 x4 : Int) (x6 : Bool) (x5 : ByteArray) (w' : World), Below base w w' → Calls Tryz.prog 169 #[.agg #[.int .i64 x1, .bool x6, .int .u8 x2, .int .i64 x3, .int .u64 x4, .string x5], .pointer (some ⟨b1, 0, none⟩), .pointer (some ⟨b2, 0, none⟩)] w' fun e w'' => e = .returned (.bool (pr ⟨x1, x6, ⟨x2, x3, x4, x5⟩⟩)) ∧ Below w'.heap.size w' w'') :
    Calls Tryz.prog 167 #[.slice A n c, .func (.func 169) #[] #[.pointer (some ⟨b1, 0, none⟩), .pointer (some ⟨b2, 0, none⟩)]] w fun e w' =>
      ∃ A' c', e = .returned (.slice A' (l.filter (fun x => !pr x)).length c') ∧ OwCh w' base (.slice A' (l.filter (fun x => !pr x)).length c') (l.filter (fun x => !pr x)) ∧ Below base w w' := by
  have N := Lib.hid hn
  have HCL := Lib.hid hcl
  have hcap := hown.cap
  have hlc : n ≤ c := by rw [hn]; exact hcap.1
  have hcm : c ≤ 2 ^ 63 - 1 := hcap.2
  clear hn hcl hcap
  generalize hR : l.filter (fun x => !pr x) = R
  have HR := Lib.hid hR
  clear hR
  go_enter Tryz.func167, Tryz.ntmps167
  go_wp2_with (go_at_call 211; refine Hid.out ?_)
  refine Lib.hid ?_
  refine (indexPart_any b1 b2 pr A n c l w N.out (hown.rd Ch.enc_len) (by omega) (fun x1 x2 x3 x4 x6 x5 w' hb' => HCL.out x1 x2 x3 x4 x6 x5 w' (hb'.mono hbase))).mono ?_
  rintro e w1 ⟨ix, rfl, hix, hb1⟩
  have hbw1 : Below base w w1 := hb1.mono hbase
  have hown1 := hown.below hb1 (Nat.le_refl _)
  have hbase1 : base ≤ w1.heap.size := Nat.le_trans hbase hb1.size
  clear hown hb1
  rcases hix with ⟨rfl, hall⟩ | ⟨i0, rfl, hi0, hpre, x0, hx0, hpx0⟩
  · have hRl : R = l := by
      rw [← HR.out]
      exact List.filter_eq_self.2 (fun x hx => by simp [hall x hx])
    have HRL := Lib.hid hRl
    clear hRl hall
    go_wp2_with (fail)
    go_ret
    refine ⟨A, c, ?_, ?_, hbw1⟩
    · rw [HRL.out, ← N.out]; rfl
    · rw [HRL.out, ← N.out]; exact hown1
  · have hne : ((i0 : Int) == -1) = false := beq_eq_false_iff_ne.2 (by omega)
    have hi0n : i0 < n := by rw [N.out]; exact hi0
    have hst : Hid (l.take i0 = (l.take (i0 + 1)).filter (fun x => !pr x)) := Lib.hid (by
      rw [List.take_add_one, hx0, List.filter_append, List.filter_eq_self.2 (fun x hx => by simp [hpre x hx])]
      simp [hpx0])
    clear hpre hx0 hpx0 hi0
    go_wp2_with (fail)
    go_loopg [5, 6] (n - (i0 + 1)) (fun g iv jv wr => ∃ (i j : Nat) (m : List Ch), i < j ∧ j ≤ n ∧ g = n - j ∧ iv = .int .i64 i ∧ jv = .int .i64 j ∧ OwCh wr base (.slice A n c) m ∧ base ≤ wr.heap.size ∧ Below base w wr ∧
      Hid (m.length = n ∧ m.drop j = l.drop j ∧ m.take i = (l.take j).filter (fun x => !pr x)))
    case atStart => exact ⟨i0, i0 + 1, l, by omega, by omega, rfl, rfl, by go_num, hown1, hbase1, hbw1, Lib.hid ⟨N.out.symm, rfl, hst.out⟩⟩
    case round =>
      clear hown1 hbase1 hbw1 hst hne hi0n
      obtain ⟨i, j, m, hij, hj, hg, rfl, rfl, hown, hbs, hbw, HI⟩ := hrel
      have HG := Lib.hid hg
      clear hg
      by_cases hlt : j < n
      · have hjm : j < m.length := by have := HI.out.1; omega
        obtain ⟨ad, x, rfl, _, hdm, hx, hc1⟩ := (hown.rd Ch.enc_len).el hjm
        have HX : Hid (l.take (j + 1) = l.take j ++ [x] ∧ m.drop (j + 1) = l.drop (j + 1)) := Lib.hid (by
          obtain ⟨h1, h2, h3⟩ := HI.out
          have h4 : l[j]? = some x := by
            have := congrArg (fun t => t[0]?) h2
            simp only [List.getElem?_drop, Nat.add_zero] at this
            rw [← this, hx]
          refine ⟨by rw [List.take_add_one, h4]; rfl, ?_⟩
          have := congrArg (fun t => t.drop 1) h2
          simpa [List.drop_drop] using this)
        clear hdm hx hjm
        obtain ⟨x1, x6, x2, x3, x4, x5⟩ := x
        obtain ⟨r0, r1, r2, r3, r4, r5⟩ := ch_cells hc1
        clear hc1
        have hbx0 := heap_alloc_new wr (.cells #[.int .i64 x1, .bool x6, .int .u8 x2, .int .i64 x3, .int .u64 x4, .string x5] 77)
        have hbwA := hbw.alloc hbs (.cells #[.int .i64 x1, .bool x6, .int .u8 x2, .int .i64 x3, .int .u64 x4, .string x5] 77)
        have hownA := hown.alloc (.cells #[.int .i64 x1, .bool x6, .int .u8 x2, .int .i64 x3, .int .u64 x4, .string x5] 77)
        have hsz := size_alloc' wr (.cells #[.int .i64 x1, .bool x6, .int .u8 x2, .int .i64 x3, .int .u64 x4, .string x5] 77)
        have hwbA : ∀ k, wb (.slice (some ad) n c) = some k → k < wr.heap.size := fun k hk => (hown.wb_lt k hk).2
        by_cases hp : pr ⟨x1, x6, ⟨x2, x3, x4, x5⟩⟩ = true
        · have HBX0 := Lib.hid hbx0
          have HWB := Lib.hid hwbA
          have HSZ := Lib.hid hsz
          clear hbx0 hwbA hsz
          go_wp2_with (go_at_call 169; refine (HCL.out _ _ _ _ _ _ _ hbwA).mono ?_; rintro e w2 ⟨rfl, hb2⟩)
          have hbw2 : Below base w w2 := hbwA.trans (hb2.mono (by rw [← HSZ.out]; omega))
          have hown2 := hownA.below hb2 (Nat.le_refl _)
          have hbs2 : base ≤ w2.heap.size := by have := hb2.size; rw [← HSZ.out] at this; omega
          go_roundg (n - (j + 1))
          case measure => have := HG.out; omega
          case rel =>
            obtain ⟨h1, h2, h3⟩ := HI.out
            obtain ⟨h4, h5⟩ := HX.out
            exact ⟨i, j + 1, m, by omega, by omega, rfl, rfl, by go_num, hown2, hbs2, hbw2, Lib.hid ⟨h1, h5, by rw [h4, List.filter_append, h3]; simp [hp]⟩⟩
        · have hp' : pr ⟨x1, x6, ⟨x2, x3, x4, x5⟩⟩ = false := by simpa using hp
          clear hp
          have HBX0 := Lib.hid hbx0
          have HWB := Lib.hid hwbA
          have HSZ := Lib.hid hsz
          clear hbx0 hwbA hsz
          go_wp2_with (go_at_call 169; refine Hid.out ?_)
          refine Lib.hid ?_
          refine (HCL.out _ _ _ _ _ _ _ hbwA).mono ?_
          rintro e w2 ⟨rfl, hb2⟩
          have hbw2 : Below base w w2 := hbwA.trans (hb2.mono (by rw [← HSZ.out]; omega))
          have hown2 := hownA.below hb2 (Nat.le_refl _)
          have hbs2 : base ≤ w2.heap.size := by have := hb2.size; rw [← HSZ.out] at this; omega
          have hbx2 := (hb2.block wr.heap.size (by rw [← HSZ.out]; omega)).trans HBX0.out
          obtain ⟨b0, b1, b2, b3, b4, b5⟩ := box_ch hbx2
          have him : i < m.length := by have := HI.out.1; omega
          have hin : i < n := by omega
          clear hbx2
          obtain ⟨i1, hi1, hz1, hz2, hz3⟩ := info_parts Tryz.infoCh
          have I1 := Lib.hid hi1
          have Z2 := Lib.hid hz2
          clear hi1 hz1 hz2 hz3 hownA hbwA
          go_wp2_with (refine wpList_set_own rfl 77 (.tmp 33) (.tmp 32) rfl rfl i1 I1.out Z2.out Ch.enc_len Ch.enc_one hown2 him ⟨x1, x6, ⟨x2, x3, x4, x5⟩⟩ (cs := #[.int .i64 x1, .bool x6, .int .u8 x2, .int .i64 x3, .int .u64 x4, .string x5]) rfl (p := ad.add (i * 6)) rfl rfl rfl ?_; intro w3 hown3 hg3)
          have hbw3 : Below base w w3 := hbw2.grown hg3 hbs2 (fun k hk => (hown2.wb_lt k hk).1)
          have hbs3 : base ≤ w3.heap.size := Nat.le_trans hbs2 hg3.size
          go_roundg (n - (j + 1))
          case measure => have := HG.out; omega
          case rel =>
            obtain ⟨h1, h2, h3⟩ := HI.out
            obtain ⟨h4, h5⟩ := HX.out
            refine ⟨i + 1, j + 1, m.set i ⟨x1, x6, ⟨x2, x3, x4, x5⟩⟩, by omega, by omega, rfl, by go_num, by go_num, hown3, hbs3, hbw3, Lib.hid ⟨by rw [List.length_set]; exact h1, by rw [List.drop_set_of_lt (by omega)]; exact h5, ?_⟩⟩
            rw [h4, List.filter_append, List.take_add_one, List.getElem?_set_self him, List.take_set_of_le (Nat.le_refl i), h3]
            simp [hp']
      · have hjn : j = n := by omega
        have hm0 := HI.out
        obtain ⟨i1, hi1, hz1, hz2, hz3⟩ := info_parts Tryz.infoCh
        have I1 := Lib.hid hi1
        have Z1 := Lib.hid hz1
        have hmR : m.take i = R := by
          obtain ⟨h1, h2, h3⟩ := hm0
          rw [h3, ← HR.out, List.take_of_length_le (by have := N.out; omega)]
        have him : i ≤ m.length := by have := hm0.1; omega
        have hiR : i = R.length := by rw [← hmR, List.length_take, Nat.min_eq_left him]
        have HIR := Lib.hid hiR
        have HMR := Lib.hid hmR
        have HML : Hid (m.length = n) := Lib.hid hm0.1
        clear hi1 hz1 hz2 hz3 hmR hiR hm0 hjn
        rcases Nat.lt_or_ge i c with hci | hci
        · have hne : ¬ c = i := by omega
          go_wp2_with (refine wpList_clear_own (i := i) (X := A.map (fun x => x.add (i * 6))) rfl (.tmp 38) _ rfl rfl Tryz.slCh i1 _ I1.out Z1.out rfl (by intro u hu; exact Ch.enc_one ⟨0, false, V.zero⟩ u hu) Ch.enc_len hown him (by exact .inr rfl) (by rw [HML.out]) rfl ?_; intro w3 hown3 hg3)
          have hbw3 : Below base w w3 := hbw.grown hg3 hbs (fun k hk => (hown.wb_lt k hk).1)
          rw [HMR.out] at hown3
          have hri := HIR.out
          subst hri
          go_ret
          exact ⟨A, c, rfl, hown3, hbw3⟩
        · go_wp2_with (refine wpList_clear_own (i := i) (X := A) rfl (.tmp 38) _ rfl rfl Tryz.slCh i1 _ I1.out Z1.out rfl (by intro u hu; exact Ch.enc_one ⟨0, false, V.zero⟩ u hu) Ch.enc_len hown him (by have := HML.out; left; omega) (by rw [HML.out]) rfl ?_; intro w3 hown3 hg3)
          have hbw3 : Below base w w3 := hbw.grown hg3 hbs (fun k hk => (hown.wb_lt k hk).1)
          rw [HMR.out] at hown3
          have hri := HIR.out
          subst hri
          go_ret
          exact ⟨A, c, rfl, hown3, hbw3⟩
end Go.Proofs.YtfnkjcodcoehcaaGreatDoor
namespace Go.Proofs.YtfnkjcodcoehcaaGreatDoor
open Go.RowKit
set_option linter.unusedVariables false
set_option linter.unusedSimpArgs false


set_option maxHeartbeats 1600000 in
theorem partCl_any (s b1 b2 : Nat) (l : List Ky) (b : Bool) (x1 x2 x3 x4 : Int) (x6 : Bool) (x5 : ByteArray) (w : World) (hS : Sch w s l)
    (h1 : w.heap[b1]? = some (.cells #[.pointer (some ⟨s, 0, none⟩)] 26 (0, 0))) (h2 : w.heap[b2]? = some (.cells #[.bool b] 4 (0, 0))) :
    Calls Tryz.prog 169 #[.agg #[.int .i64 x1, .bool x6, .int .u8 x2, .int .i64 x3, .int .u64 x4, .string x5], .pointer (some ⟨b1, 0, none⟩), .pointer (some ⟨b2, 0, none⟩)] w fun e w' => e = .returned (.bool (!keepK l b x1)) ∧ Below w.heap.size w w' := by
  have y0 := ext_alloc w (.cells #[.int .i64 x1, .bool x6, .int .u8 x2, .int .i64 x3, .int .u64 x4, .string x5] 77)
  have c1 := box_1 ((y0.block b1 (lt_of_some h1)).trans h1)
  have g2 := (y0.block b2 (lt_of_some h2)).trans h2
  have HS := Lib.hid (hS.ext y0)
  have G2 := Lib.hid g2
  clear g2 hS
  go_enter Tryz.func169, Tryz.ntmps169
  go_wp2_with (go_at_call 62; refine Hid.out ?_)
  refine Lib.hid ?_
  generalize hw0 : w.alloc _ = w0 at *
  clear hw0
  refine (findS_any s l x1 w0 HS.out).mono ?_
  rintro e w1 ⟨i, c, kd, d, g, q, ok, rfl, hk, hb, y1⟩
  have y2 := ext_alloc w1 (.cells #[.int .i64 i, .bool c, .int .u8 kd, .bool d, .bool g, .int .i64 q] 97)
  have g3 := (y1.block b2 (lt_of_some G2.out)).trans G2.out
  have c2 := box_1 ((y2.block b2 (lt_of_some g3)).trans g3)
  have yy := ext_trans y0 (ext_trans y1 y2)
  have HB := Lib.hid hb
  have HK := Lib.hid hk
  clear g3 hk hb
  cases ok with
  | false =>
    have HE : Hid (keepK l b x1 = false) := Lib.hid (by
      have h := HB.out
      unfold keepK
      cases hq : findK l x1 with
      | none => rfl
      | some k => rw [hq] at h; cases h)
    go_wp2_with (fail)
    go_ret
    exact ⟨ret_bool (by rw [HE.out]; rfl), yy⟩
  | true =>
    have HE : Hid (keepK l b x1 = (c == b)) := Lib.hid (by
      have h := HB.out
      have h2 := HK.out
      unfold keepK
      cases hq : findK l x1 with
      | none => rw [hq] at h; cases h
      | some k => rw [hq] at h2; simp at h2; subst h2; rfl)
    go_wp2_with (fail)
    go_ret
    exact ⟨ret_bool (by rw [HE.out] <;> (cases c <;> cases b <;> rfl)), yy⟩

set_option maxRecDepth 100000 in
set_option maxHeartbeats 1600000 in
theorem part_any (s : Nat) (l : List Ky) (b : Bool) (A : Option Addr) (n c : Nat) (p : List Ch) (w : World) (hn : n = p.length) (h : RdCh w w.heap.size A p) (hb : n ≤ 100000000) (hS : Sch w s l) :
    Calls Tryz.prog 94 #[.pointer (some ⟨s, 0, none⟩), .slice A n c, .bool b] w (NewCh (partP l b p) w) := by
  have N := Lib.hid hn
  have ya := ext_alloc w (.cells #[.pointer (some ⟨s, 0, none⟩)] 26)
  have yb := ext_alloc (w.alloc (.cells #[.pointer (some ⟨s, 0, none⟩)] 26)) (.cells #[.bool b] 4)
  have g1 := heap_alloc_new w (.cells #[.pointer (some ⟨s, 0, none⟩)] 26)
  have g2 := heap_alloc_new (w.alloc (.cells #[.pointer (some ⟨s, 0, none⟩)] 26)) (.cells #[.bool b] 4)
  have G1 := Lib.hid ((yb.block w.heap.size (by simp)).trans g1)
  rw [World.size_alloc] at g2
  have G2 := Lib.hid g2
  have y := ext_trans ya yb
  have hh := h.ext y
  have HS := Lib.hid (hS.ext y)
  clear hn g1 g2 ya yb h hS
  go_enter Tryz.func94, Tryz.ntmps94
  go_wp2_with (go_at_call 168; refine Hid.out ?_)
  refine Lib.hid ?_
  refine (cloneCh_any A n c p _ N.out hh hb).mono ?_
  rintro e w1 ⟨A', c', rfl, hown, y1⟩
  have HOW := Lib.hid hown
  have hsz2 : ((w.alloc (.cells #[.pointer (some ⟨s, 0, none⟩)] 26)).alloc (.cells #[.bool b] 4)).heap.size = w.heap.size + 2 := by simp
  have G1' := Lib.hid ((y1.block w.heap.size (by rw [hsz2]; omega)).trans G1.out)
  have G2' := Lib.hid ((y1.block (w.heap.size + 1) (by rw [hsz2]; omega)).trans G2.out)
  have hb1 : w.heap.size + 2 ≤ w1.heap.size := by have := y1.size; omega
  have HSZ := Lib.hid hsz2
  clear hown hsz2
  go_wp2_with (go_at_call 167; refine Hid.out ?_)
  refine Lib.hid ?_
  refine (deletePart_any w.heap.size (w.heap.size + 1) (fun c => !keepK l b c.key) A' p.length c' _ p w1 HOW.out (by rw [HSZ.out]; exact hb1) (by have := N.out; omega) rfl ?cl).mono ?_
  case cl =>
    intro x1 x2 x3 x4 x6 x5 w' hb'
    refine partCl_any s _ _ l b x1 x2 x3 x4 x6 x5 w' (HS.out.ext (y1.trans hb')) ?_ ?_
    · exact (hb'.block _ (by rw [HSZ.out]; omega)).trans G1'.out
    · exact (hb'.block _ (by rw [HSZ.out]; omega)).trans G2'.out
  rintro e w2 ⟨A2, c2, rfl, hown2, y2⟩
  have yy : Below w.heap.size w w2 := ext_trans y (y1.trans y2)
  have hf : p.filter (fun x => !!keepK l b x.key) = partP l b p := by simp [partP]
  rw [hf] at hown2 ⊢
  have HO2 := Lib.hid (hown2.base_le (B := w.heap.size) (by rw [HSZ.out]; omega))
  clear hown2 hf
  go_wp2_with (fail)
  go_ret
  exact ⟨A2, c2, rfl, HO2.out, yy⟩

set_option maxRecDepth 100000 in
set_option maxHeartbeats 1600000 in
theorem partR6_any (A B : Option Addr) (n c n2 c2 : Nat) (l : List Ky) (b : Bool) (p : List Ch) (w : World) (hn : n = l.length) (h : RdKy w w.heap.size A l) (hb : n ≤ 140737488355328) (hn2 : n2 = p.length) (h2 : RdCh w w.heap.size B p) (hb2 : n2 ≤ 100000000) :
    Calls Tryz.prog 96 #[.slice A n c, .slice B n2 c2, .bool b] w (NewCh (partP l b p) w) := by
  have N := Lib.hid hn
  have N2 := Lib.hid hn2
  generalize hR : partP l b p = R
  have HR := Lib.hid hR
  clear hn hn2 hR
  go_enter Tryz.func96, Tryz.ntmps96
  go_wp2_with (fail)
  go_loopg [7, 8] n2 (fun g ov kv wr => ∃ (m : Nat) (o : List Ch), m ≤ n2 ∧ g = n2 - m ∧ kv = .int .i64 m ∧ OwCh wr w.heap.size ov o ∧ o.length ≤ m ∧
    Below w.heap.size w wr ∧ Hid (o ++ partP l b (p.drop m) = R))
  case atStart => exact ⟨0, [], by omega, rfl, rfl, Ow.nil _ _, by simp, Below.refl _ _, Lib.hid (by rw [← HR.out]; simp)⟩
  case round =>
    obtain ⟨m, o, hm, hg, rfl, hown, hol, hbw, HI⟩ := hrel
    have HG := Lib.hid hg
    clear hg HR
    by_cases hlt : m < n2
    · have hkp : m < p.length := by have := N2.out; omega
      obtain ⟨ad, x, rfl, had, hd1, hx1, hc0⟩ := (h2.below hbw (Nat.le_refl _)).el hkp
      obtain ⟨x1, g, x2, x3, x4, x5⟩ := x
      have HI' : Hid (o ++ ((if keepK l b x1 = true then [⟨x1, g, x2, x3, x4, x5⟩] else []) ++ partP l b (p.drop (m + 1))) = R) := Lib.hid (by
        rw [← HI.out, hd1]
        unfold partP
        rw [List.filter_cons]
        by_cases hk : keepK l b x1 = true <;> simp [hk])
      obtain ⟨r0, -⟩ := ch_cells hc0
      have HC0 := Lib.hid hc0
      clear HI hd1 hx1 hc0
      have hw2 : IntKind.i64.wrap ((m:Int) + 1) = (m : Int) + 1 := IntWalk.i64_in _ (by omega)
      go_wp2_with (go_at_call 151; refine Hid.out ?_)
      refine Lib.hid ?_
      refine (findR_any A n c l x1 wr N.out ((h.below hbw (Nat.le_refl _)).more hbw.size) hb).mono ?_
      rintro e w1 ⟨k1, k2, k3, k4, k5, k6, ok, rfl, hk, hb, y1⟩
      have y2 := ext_alloc w1 (.cells #[.int .i64 k1, .bool k2, .int .u8 k3, .bool k4, .bool k5, .int .i64 k6] 97)
      have hown1 := (hown.below y1 (Nat.le_refl _)).alloc (.cells #[.int .i64 k1, .bool k2, .int .u8 k3, .bool k4, .bool k5, .int .i64 k6] 97)
      have yy := ext_trans hbw (ext_trans y1 y2)
      have hc1 := HC0.out.keep (w' := w1.alloc (.cells #[.int .i64 k1, .bool k2, .int .u8 k3, .bool k4, .bool k5, .int .i64 k6] 97)) (fun q hq => (ext_trans y1 y2).cell (by rw [hq, add_block]; exact Nat.lt_of_lt_of_le had hbw.size))
      obtain ⟨r0, r1, r2, r3, r4, r5⟩ := ch_cells hc1
      have HB := Lib.hid hb
      have HK := Lib.hid hk
      have HYY := Lib.hid yy
      clear hk hb hc1 hown
      have skip : keepK l b x1 = false → Hid (o ++ partP l b (p.drop (m + 1)) = R) := fun hk => Lib.hid (by rw [← HI'.out, if_neg (by rw [hk]; simp), List.nil_append])
      cases ok with
      | false =>
        have HE : Hid (o ++ partP l b (p.drop (m + 1)) = R) := skip (by
          have h := HB.out
          unfold keepK
          cases hq : findK l x1 with
          | none => rfl
          | some k => rw [hq] at h; cases h)
        clear skip
        go_wp2_with (fail)
        go_roundg (n2 - (m + 1))
        case measure => have := HG.out; omega
        case rel => exact ⟨m + 1, o, by omega, rfl, by go_num, hown1, by omega, yy, HE⟩
      | true =>
        have hke : keepK l b x1 = (k2 == b) := by
          have h := HB.out
          have h2 := HK.out
          unfold keepK
          cases hq : findK l x1 with
          | none => rw [hq] at h; cases h
          | some k => rw [hq] at h2; simp at h2; subst h2; rfl
        by_cases hkb : k2 = b
        · subst hkb
          have HE : Hid (o ++ ([⟨x1, g, x2, x3, x4, x5⟩] ++ partP l k2 (p.drop (m + 1))) = R) := Lib.hid (by rw [← HI'.out, if_pos (by rw [hke]; simp)])
          clear skip hke
          go_wp2_with (first
            | (at_builtin; refine app_ch (m := [⟨x1, g, x2, x3, x4, x5⟩]) rfl (.tmp 34) (.tmp 39) rfl rfl (by first | exact (hown1.drewN _).alloc _ | exact hown1.alloc _) _ _ 1 1 rfl rfl (by first | exact rd_one (enc := Ch.enc) _ _ _ rfl | exact rd_one_at (enc := Ch.enc) _ _ _ rfl (size_alloc' _ _)) (by simp only [List.length_singleton]; omega) (Nat.le_trans HYY.out.size (le_alloc _ _)) ?_; intro v' w' hown' hgr hv'))
          obtain ⟨s1, s2, s3⟩ := app_step (nq := 0) hown1 yy (Nat.le_refl _) hgr hv'
          go_roundg (n2 - (m + 1))
          case measure => have := HG.out; omega
          case rel => exact ⟨m + 1, _, by omega, rfl, by go_num, hown', by simp; omega, s1, Lib.hid (by rw [← HE.out, List.append_assoc])⟩
        · have HE : Hid (o ++ partP l b (p.drop (m + 1)) = R) := skip (by rw [hke]; simp [hkb])
          have hkq : (k2 == b) = false := by simp [hkb]
          clear skip hke
          go_wp2_with (fail)
          go_roundg (n2 - (m + 1))
          case measure => have := HG.out; omega
          case rel => exact ⟨m + 1, o, by omega, rfl, by go_num, hown1, by omega, yy, HE⟩
    · have e : o = R := by rw [← HI.out, List.drop_eq_nil_of_le (by have := N2.out; omega)]; simp [partP]
      have HE := Lib.hid e
      clear e
      go_wp2_with (fail)
      rw [HE.out] at hown
      obtain ⟨A', c', rfl, _, _⟩ := hown.form
      go_ret
      exact ⟨A', c', rfl, hown, hbw⟩
end Go.Proofs.YtfnkjcodcoehcaaGreatDoor
namespace Go.Proofs.YtfnkjcodcoehcaaGreatDoor
open Go.RowKit
set_option linter.unusedVariables false
set_option linter.unusedSimpArgs false

/-- a cell's set is the call's own, and lies in another block than the row v -/
def PartC (w : World) (B : Nat) (v : Value) (x : ClS) : Prop :=
  OwAt w B (.slice x.As x.c.s.length x.cs) x.c.s ∧ ∀ k, wb (.slice x.As x.c.s.length x.cs) = some k → wb v ≠ some k
theorem PartC.below {w w' : World} {B : Nat} {v : Value} {x : ClS} (h : PartC w B v x) (y : Below w.heap.size w w') : PartC w' B v x := ⟨h.1.below y (Nat.le_refl _), h.2⟩
theorem PartC.base_le {w : World} {B B' : Nat} {v : Value} {x : ClS} (h : PartC w B v x) (hb : B' ≤ B) : PartC w B' v x := ⟨h.1.base_le hb, h.2⟩
/-- across an append to the row -/
theorem PartC.app {w w' : World} {B : Nat} {v v' : Value} {x : ClS} (h : PartC w B v x) (hg : w.grownBy w' (wb v)) (hv : v' = v ∧ w' = w ∨ wb v' = wb v ∨ wb v' = some w.heap.size) : PartC w' B v' x := by
  refine ⟨h.1.keep fun k hk => hg.block k (h.1.wb_lt k hk).2 (fun e => h.2 k hk e.symm), fun k hk => ?_⟩
  have hlt := (h.1.wb_lt k hk).2
  rcases hv with ⟨rfl, _⟩ | hv | hv
  · exact h.2 k hk
  · rw [hv]; exact h.2 k hk
  · rw [hv]; intro e; injection e with e; omega
/-- across a write into the row -/
theorem PartC.set {w : World} {B g n c j : Nat} {u : Value} {x : ClS} (h : PartC w B (.slice (some ⟨g, 0, none⟩) n (c + 1)) x) : PartC (w.setCell ⟨g, j, none⟩ u) B (.slice (some ⟨g, 0, none⟩) n (c + 1)) x :=
  ⟨h.1.setCell (p := ⟨g, j, none⟩) (fun e => h.2 g e rfl) u, h.2⟩
/-- cells of the call's own, down to their sets -/
def NewCls (o : List Cl) (w : World) (e : Ending) (w' : World) : Prop :=
  ∃ A c l, e = .returned (.slice A l.length c) ∧ clsOf l = o ∧ OwCs w' w.heap.size (.slice A l.length c) l ∧ (∀ x ∈ l, PartC w' w.heap.size (.slice A l.length c) x) ∧ Below w.heap.size w w'

end Go.Proofs.YtfnkjcodcoehcaaGreatDoor
namespace Go.Proofs.YtfnkjcodcoehcaaGreatDoor
open Go.RowKit
set_option linter.unusedVariables false
set_option linter.unusedSimpArgs false

theorem Tryz.unCl : Tryz.prog.underlying 38 = some (.struct (Tryz.prog.fieldsOf 38)) := by kernel_rfl
set_option maxRecDepth 100000 in
set_option maxHeartbeats 3200000 in
theorem cell_any (s : Nat) (l : List Ky) (r : Int) (As Ap : Option Addr) (n cs np cp : Nat) (set : List At) (p : List Ch) (w : World) (hS : Sch w s l) (hn : n = set.length) (hp : np = p.length) (h1 : RdAt w w.heap.size As set) (h2 : RdCh w w.heap.size Ap p)
    (b1 : n ≤ 100000000) (b2 : np ≤ 100000000) (g1 : n ≤ cs) (g2 : cs ≤ maxLen) :
    Calls Tryz.prog 37 #[.pointer (some ⟨s, 0, none⟩), .agg #[.int .i32 r, .slice As n cs], .slice Ap np cp] w
      fun e w' => ∃ A c, e = .returned (.agg #[.int .i32 r, .slice A (actC l ⟨r, set⟩ p).s.length c]) ∧ OwAt w' w.heap.size (.slice A (actC l ⟨r, set⟩ p).s.length c) (actC l ⟨r, set⟩ p).s ∧ Below w.heap.size w w' := by
  have ya := ext_alloc w (.cells #[.int .i32 r, .slice As n cs] 38)
  have yb := ext_alloc (w.alloc (.cells #[.int .i32 r, .slice As n cs] 38)) (.cells #[.int .i32 0, .slice none 0 0] 38)
  have g1' := heap_alloc_new w (.cells #[.int .i32 r, .slice As n cs] 38)
  have g2' := heap_alloc_new (w.alloc (.cells #[.int .i32 r, .slice As n cs] 38)) (.cells #[.int .i32 0, .slice none 0 0] 38)
  have G1 := (yb.block w.heap.size (by simp)).trans g1'
  rw [World.size_alloc] at g2'
  have y := ext_trans ya yb
  have N := Lib.hid hn
  have P := Lib.hid hp
  have HR : Hid (∃ X, (actC l ⟨r, set⟩ p).s = X ∧ applyP (partP l (r == 10) p) set = X) := Lib.hid ⟨_, rfl, rfl⟩
  obtain ⟨X, hX1, hX2⟩ := HR.out
  rw [hX1]
  have HX := Lib.hid hX2
  clear ya yb g1' hX1 hX2 HR hn hp
  have hbp : (partP l (r == 10) p).length ≤ np := by rw [P.out]; exact List.length_filter_le _ _
  have BND : Hid (np ≤ 100000000) := Lib.hid b2
  go_enter Tryz.func37, Tryz.ntmps37
  go_wp2_with (fail)
  obtain ⟨sz, hsz⟩ : ∃ z, w.heap.size = z := ⟨_, rfl⟩
  have HSZ := Lib.hid hsz
  generalize ((w.alloc (.cells #[.int .i32 r, .slice As n cs] 38)).alloc (.cells #[.int .i32 0, .slice none 0 0] 38)) = v at *
  have Y := Lib.hid y
  have HG1 := Lib.hid G1
  have HG2 := Lib.hid g2'
  obtain ⟨a0, a1⟩ := box_cl G1
  obtain ⟨e0, e1⟩ := box_cl g2'
  have hlt1 := lt_of_some G1
  have hlt2 := lt_of_some g2'
  rw [hsz] at a0 a1 e0 e1 hlt1 hlt2 ⊢
  have SF : Hid (∀ u, Below v.heap.size v u → (u.cell? ⟨sz, 0, none⟩ = some (.int .i32 r) ∧ u.cell? ⟨sz, 1, none⟩ = some (.slice As n cs)) ∧ (u.cell? ⟨sz + 1, 0, none⟩ = some (.int .i32 0) ∧ u.cell? ⟨sz + 1, 1, none⟩ = some (.slice none 0 0)) ∧ u.heap[sz + 1]? = some (.cells #[.int .i32 0, .slice none 0 0] 38 (0, 0))) := Lib.hid (fun u hu => by
    have q1 := (hu.block _ (by rw [← HSZ.out] at hlt1; exact hlt1)).trans HG1.out
    have q2 := (hu.block _ (by rw [← HSZ.out] at hlt2; exact hlt2)).trans HG2.out
    rw [HSZ.out] at q1 q2
    exact ⟨box_cl q1, box_cl q2, q2⟩)
  have hf0 : v.frozen? ⟨sz + 1, 0, none⟩ = false := box_thaw (SF.out v (Below.refl _ _)).2.2 0
  clear G1 g2' hlt1 hlt2 y hsz
  go_region_law (first
    | (refine step_fn rfl 94 [.tmp 11, .tmp 12, .tmp 15] #[26, 48, 4] rfl Tryz.f94 (by kernel_rfl) (by kernel_rfl) (by kernel_rfl) [.pointer (some ⟨s, 0, none⟩), .slice Ap np cp, .bool (r == 10)] (by rfl) (part_any s l (r == 10) Ap np cp p v.drew P.out (h2.ext (up_drew Y.out)) b2 (hS.ext (up_drew Y.out))) ?_
       rintro e w3 ⟨A3, k3, rfl, o3, y3⟩
       refine ⟨_, rfl, ?_⟩
       have O3 := Lib.hid o3
       have Y3 : Hid (Below v.heap.size v w3) := Lib.hid ((up_drew (Below.refl _ _)).trans y3)
       obtain ⟨⟨c0, c1⟩, ⟨c2, c3⟩, c4⟩ := SF.out w3 Y3.out
       clear o3 y3)
    | (refine step_fn rfl 93 [.tmp 10, .tmp 16] #[36, 48] rfl Tryz.f93 (by kernel_rfl) (by kernel_rfl) (by kernel_rfl) [.slice As n cs, .slice A3 (partP l (r == 10) p).length k3] (by rfl) (apply_any As A3 n (partP l (r == 10) p).length cs k3 set (partP l (r == 10) p) w3 N.out rfl (h1.ext (ext_trans Y.out Y3.out)) (O3.out.rd Ch.enc_len) b1 (by have := BND.out; omega) g1 g2) ?_
       rw [HX.out]
       rintro e w4 ⟨A4, k4, rfl, o4, y4⟩
       refine ⟨_, rfl, ?_⟩
       have O4 := Lib.hid o4
       have Y4 : Hid (Below v.heap.size v w4) := Lib.hid (ext_trans Y3.out y4)
       obtain ⟨⟨d0, d1⟩, ⟨d2, d3⟩, d4⟩ := SF.out w4 Y4.out
       have hf4 : w4.frozen? ⟨sz + 1, 0, none⟩ = false := box_thaw d4 0
       have hf5 : w4.frozen? ⟨sz + 1, 1, none⟩ = false := box_thaw d4 1
       clear o4 y4))
  all_goals
    go_wp2_with (fail)
    have q1 : ((w4.setCell ⟨sz + 1, 0, none⟩ (.int .i32 r)).setCell ⟨sz + 1, 1, none⟩ (.slice A4 X.length k4)).heap[sz + 1]? = some (.cells #[.int .i32 r, .slice A4 X.length k4] 38 (0, 0)) := by
      have h1 := heap_setCell_self (j := 0) d4 (.int .i32 r)
      have h2 := heap_setCell_self (j := 1) h1 (.slice A4 X.length k4)
      simpa using h2
    refine bodyPost_ret (results_cell_row (P := Tryz.prog) rfl _ _ (sz + 1) 38 #[.int .i32 r, .slice A4 X.length k4] (0, 0) _ rfl q1 Tryz.unCl rfl Tryz.szCl) rfl ?_
    have ha := (O4.out.base_le (B := w.heap.size) (by have := Y3.out.size; have := Y.out.size; omega))
    have hne : ∀ k, wb (.slice A4 X.length k4) = some k → k ≠ sz + 1 := fun k hk => by
      have := (O4.out.wb_lt k hk).1
      have := lt_of_some c4
      omega
    refine ⟨A4, k4, rfl, (ha.setCell (p := ⟨sz + 1, 0, none⟩) (fun e => hne _ e rfl) _).setCell (p := ⟨sz + 1, 1, none⟩) (fun e => hne _ e rfl) _, ?_⟩
    exact ((ext_trans Y.out Y4.out).setCell (p := ⟨sz + 1, 0, none⟩) (by have := HSZ.out; simp only; omega) _).setCell (p := ⟨sz + 1, 1, none⟩) (by have := HSZ.out; simp only; omega) _
end Go.Proofs.YtfnkjcodcoehcaaGreatDoor
namespace Go.Proofs.YtfnkjcodcoehcaaGreatDoor
open Go.RowKit Go.Shelf
set_option linter.unusedVariables false
set_option linter.unusedSimpArgs false
attribute [local go_sem] Oper.semAt_some

/-- what a round is handed of a cell -/
structure ClGive (w0 W : World) (G : Nat → Prop) (Bd : Nat) (z : ClS) : Prop where
  ow : OwAt W w0.heap.size (.slice z.As z.c.s.length z.cs) z.c.s
  off : ∀ k, wb (.slice z.As z.c.s.length z.cs) = some k → ¬ G k ∧ k ≠ Bd
/-- the iterator's boxes, and what is left of the cells -/
structure EachSt (w0 wr : World) (Bs Bd Bx sc : Nat) (Ax : Option Addr) (nx cx : Nat) (r : List ClS) : Prop where
  y : Below w0.heap.size w0 wr
  s : wr.heap[Bs]? = some (.cells #[.pointer (some ⟨sc, 0, none⟩)] 26 (0, 0))
  x : wr.heap[Bx]? = some (.cells #[.slice Ax nx cx] 44 (0, 0))
  d : ∃ A n c, wr.heap[Bd]? = some (.cells #[.slice A n c] 23 (0, 0)) ∧ n = r.length ∧ n ≤ c ∧ RdCl w0 w0.heap.size A r
theorem EachSt.grow {w0 wr w2 : World} {Bs Bd Bx sc nx cx : Nat} {Ax : Option Addr} {r : List ClS} {G G' : Nat → Prop} (h : EachSt w0 wr Bs Bd Bx sc Ax nx cx r) (g : Grow wr G w2 G') (hG : ∀ k, G k → k ≠ Bd ∧ k ≠ Bs ∧ k ≠ Bx ∧ w0.heap.size ≤ k) : EachSt w0 w2 Bs Bd Bx sc Ax nx cx r := by
  have hy := h.y
  refine ⟨hy.trans (g.below (fun k hk => (hG k hk).2.2.2) hy.size), ?_, ?_, ?_⟩
  · exact (g.block Bs (lt_of_some h.s) (fun e => (hG _ e).2.1 rfl)).trans h.s
  · exact (g.block Bx (lt_of_some h.x) (fun e => (hG _ e).2.2.1 rfl)).trans h.x
  · obtain ⟨A, n, c, h1, h2⟩ := h.d
    exact ⟨A, n, c, (g.block Bd (lt_of_some h1) (fun e => (hG _ e).1 rfl)).trans h1, h2⟩
theorem EachSt.ext {w0 wr w2 : World} {Bs Bd Bx sc nx cx : Nat} {Ax : Option Addr} {r : List ClS} (h : EachSt w0 wr Bs Bd Bx sc Ax nx cx r) (y : Below wr.heap.size wr w2) : EachSt w0 w2 Bs Bd Bx sc Ax nx cx r :=
  h.grow (G := fun _ => False) (G' := fun _ => False) ⟨y.os, y.tape, y.output, y.size, fun j hj _ => y.block j hj, fun _ h => h.elim⟩ (fun _ h => h.elim)
end Go.Proofs.YtfnkjcodcoehcaaGreatDoor
namespace Go.Proofs.YtfnkjcodcoehcaaGreatDoor
open Go.RowKit Go.Shelf
set_option linter.unusedVariables false
set_option linter.unusedSimpArgs false

/-- the footprint with the loop's two blocks -/
def Un2 (G : Nat → Prop) (B : Nat) (k : Nat) : Prop := G k ∨ k = B ∨ k = B + 1
end Go.Proofs.YtfnkjcodcoehcaaGreatDoor
